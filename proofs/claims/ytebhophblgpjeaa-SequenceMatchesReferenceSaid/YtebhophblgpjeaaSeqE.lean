/- The contract of the reference's matching, in the form that its callers use. -/
import Derived.Test.YtebhophblgpjeaaSeqD
namespace Go.Proofs.Ytebhophblgpjeaa.Seq
open Go.RowKit Go.Proofs.YtebhophblgpjeaaW.PrintWords Go.Proofs.YtebhophblgpjeaaW.PrintLast Go.Proofs.YtebhophblgpjeaaW.PrintMore
set_option linter.unusedVariables false
set_option linter.unusedSimpArgs false
def planisphereref25_matching.f (k : Nat) (l0 l1 : List ByteArray) : Option (List Int) := if k = 0 ∨ ¬ (l0.length ≤ 2000 ∧ l1.length ≤ 2000) then none else some (matV l0 l1)
theorem planisphereref25_matching.mono : ∀ a0 a1 k, LeO (planisphereref25_matching.f k a0 a1) (planisphereref25_matching.f (k + 1) a0 a1) := by
  intro a0 a1 k r h
  unfold planisphereref25_matching.f at *
  split at h
  · cases h
  · rename_i hk
    rw [if_neg (by omega)]
    exact h
theorem planisphereref25_matching.calls (k : Nat) (A0 : Option Addr) (c0 : Nat) (l0 : List ByteArray) (A1 : Option Addr) (c1 : Nat) (l1 : List ByteArray) (r : List Int) (w : World) (hr0 : Kd.C Kd.string w A0 l0.length l0) (hc0 : l0.length ≤ c0) (hr1 : Kd.C Kd.string w A1 l1.length l1) (hc1 : l1.length ≤ c1) (h : planisphereref25_matching.f k l0 l1 = some r) :
    Calls Try.prog 27 #[.slice A0 l0.length c0, .slice A1 l1.length c1] w fun e w' => ∃ v0_ : Value, e = .returned (v0_) ∧ Kd.R (Kd.int .i64) 3 w' w.heap.size (fun _ => True) v0_ r ∧ Below w.heap.size w w' := by
  unfold planisphereref25_matching.f at h
  split at h
  · cases h
  · rename_i hk
    have e : r = matV l0 l1 := by simpa using h.symm
    subst e
    exact refMatching_calls A0 c0 l0 A1 c1 l1 w hr0 hr1 (by omega) (by omega)
end Go.Proofs.Ytebhophblgpjeaa.Seq
