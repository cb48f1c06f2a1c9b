/- Contracts of the program's Merge and Common: they answer mergeV and commonV. -/
import Derived.Test.YtebhophblgpjeaaSeqM4
namespace Go.Proofs.Ytebhophblgpjeaa.Seq
open Go.RowKit Go.Proofs.YtebhophblgpjeaaW.PrintWords Go.Proofs.YtebhophblgpjeaaW.PrintLast Go.Proofs.YtebhophblgpjeaaW.PrintMore
set_option linter.unusedVariables false
set_option linter.unusedSimpArgs false

theorem mergeV_long (l0 l1 l2 : List ByteArray) (h : ¬ (l0.length ≤ 2000 ∧ l1.length ≤ 2000 ∧ l2.length ≤ 2000)) : mergeV l0 l1 l2 = ([], false) := by
  have h1 : mergeO l0 l1 l2 = none := by
    unfold mergeO isShort
    rw [if_neg]
    simp only [Bool.and_eq_true, decide_eq_true_eq, not_and]
    intro h1 h2
    exact h ⟨h1.1, h1.2, h2⟩
  unfold mergeV
  rw [h1]

theorem merge_long (A0 : Option Addr) (c0 : Nat) (l0 : List ByteArray) (A1 : Option Addr) (c1 : Nat) (l1 : List ByteArray) (A2 : Option Addr) (c2 : Nat) (l2 : List ByteArray) (w : World)
    (hs : ¬ (l0.length ≤ 2000 ∧ l1.length ≤ 2000 ∧ l2.length ≤ 2000)) :
    Calls Try.prog 11 #[.slice A0 l0.length c0, .slice A1 l1.length c1, .slice A2 l2.length c2] w fun e w' => ∃ v0_ : Value, e = .returned (.tuple #[v0_, .bool (mergeV l0 l1 l2).2]) ∧ Kd.R Kd.string 9 w' w.heap.size (fun _ => True) v0_ (mergeV l0 l1 l2).1 ∧ Below w.heap.size w w' := by
  have HCELL : Aside0 (∀ i, i < 3 → (w.alloc (.cells #[.slice A0 l0.length c0, .slice A1 l1.length c1, .slice A2 l2.length c2] 22)).cell? ⟨w.heap.size, i, none⟩ = some (.slice (sl3 A0 A1 A2 i) (sl3 l0.length l1.length l2.length i) (sl3 c0 c1 c2 i))) := ⟨by
    intro i hi
    rw [blk_cell (heap_alloc_new _ _)]
    rcases i with _ | _ | _ | i
    · rfl
    · rfl
    · rfl
    · omega⟩
  have HN : Aside0 (¬ ∀ i, i < 3 → sl3 l0.length l1.length l2.length i ≤ 2000) := ⟨fun h => hs ⟨h 0 (by omega), h 1 (by omega), h 2 (by omega)⟩⟩
  have HV := Aside0.mk (mergeV_long l0 l1 l2 hs)
  clear hs
  go_enter Try.func11, Try.ntmps11
  go_wp2_with fail
  ((with_reducible refine (short_no w.heap.size 3 _ _ _ _ (by omega) HCELL.out HN.out).mono ?_); rintro e w' ⟨rfl, rfl⟩)
  go_wp2
  go_ret2
  exact ⟨_, by rw [HV.out]; rfl, by rw [HV.out]; exact Kd.R_nil _ _ _ _ _, below_alloc (Below.refl _ _) _⟩

def sequence_Merge.f (k : Nat) (l0 l1 l2 : List ByteArray) : Option (List ByteArray × Bool) := if k = 0 then none else some (mergeV l0 l1 l2)
theorem sequence_Merge.mono : ∀ a0 a1 a2 k, LeO (sequence_Merge.f k a0 a1 a2) (sequence_Merge.f (k + 1) a0 a1 a2) := by
  intro a0 a1 a2 k r h
  unfold sequence_Merge.f at *
  split at h
  · cases h
  · simpa using h
theorem sequence_Merge.calls (k : Nat) (A0 : Option Addr) (c0 : Nat) (l0 : List ByteArray) (A1 : Option Addr) (c1 : Nat) (l1 : List ByteArray) (A2 : Option Addr) (c2 : Nat) (l2 : List ByteArray) (r1 : List ByteArray) (r2 : Bool) (w : World) (hr0 : Kd.C Kd.string w A0 l0.length l0) (hc0 : l0.length ≤ c0) (hr1 : Kd.C Kd.string w A1 l1.length l1) (hc1 : l1.length ≤ c1) (hr2 : Kd.C Kd.string w A2 l2.length l2) (hc2 : l2.length ≤ c2) (h : sequence_Merge.f k l0 l1 l2 = some (r1, r2)) :
    Calls Try.prog 11 #[.slice A0 l0.length c0, .slice A1 l1.length c1, .slice A2 l2.length c2] w fun e w' => ∃ v0_ : Value, e = .returned (.tuple #[v0_, .bool r2]) ∧ Kd.R Kd.string 9 w' w.heap.size (fun _ => True) v0_ r1 ∧ Below w.heap.size w w' := by
  unfold sequence_Merge.f at h
  split at h
  · cases h
  · have e : mergeV l0 l1 l2 = (r1, r2) := by simpa using h
    have e1 : r1 = (mergeV l0 l1 l2).1 := by rw [e]
    have e2 : r2 = (mergeV l0 l1 l2).2 := by rw [e]
    subst e1
    subst e2
    by_cases hs : l0.length ≤ 2000 ∧ l1.length ≤ 2000 ∧ l2.length ≤ 2000
    · exact merge_short A0 c0 l0 A1 c1 l1 A2 c2 l2 w hr0 hr1 hr2 hc0 hc1 hc2 hs.1 hs.2.1 hs.2.2
    · exact merge_long A0 c0 l0 A1 c1 l1 A2 c2 l2 w hs
def sequence_Common.f (k : Nat) (l0 l1 : List ByteArray) : Option (List ByteArray) := if k = 0 then none else some (commonV l0 l1)
theorem sequence_Common.mono : ∀ a0 a1 k, LeO (sequence_Common.f k a0 a1) (sequence_Common.f (k + 1) a0 a1) := by
  intro a0 a1 k r h
  unfold sequence_Common.f at *
  split at h
  · cases h
  · simpa using h
theorem sequence_Common.calls (k : Nat) (A0 : Option Addr) (c0 : Nat) (l0 : List ByteArray) (A1 : Option Addr) (c1 : Nat) (l1 : List ByteArray) (r : List ByteArray) (w : World) (hr0 : Kd.C Kd.string w A0 l0.length l0) (hc0 : l0.length ≤ c0) (hr1 : Kd.C Kd.string w A1 l1.length l1) (hc1 : l1.length ≤ c1) (h : sequence_Common.f k l0 l1 = some r) :
    Calls Try.prog 14 #[.slice A0 l0.length c0, .slice A1 l1.length c1] w fun e w' => ∃ v0_ : Value, e = .returned (v0_) ∧ Kd.R Kd.string 9 w' w.heap.size (fun _ => True) v0_ r ∧ Below w.heap.size w w' := by
  unfold sequence_Common.f at h
  split at h
  · cases h
  · have e : r = commonV l0 l1 := by simpa using h.symm
    subst e
    exact common_calls A0 c0 l0 A1 c1 l1 w hr0 hr1
end Go.Proofs.Ytebhophblgpjeaa.Seq
