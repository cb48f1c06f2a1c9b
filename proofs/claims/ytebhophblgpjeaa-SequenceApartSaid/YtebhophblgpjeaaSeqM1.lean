/- Contracts of short, of the closure at, and of matching: the pairs that it answers. -/
import Derived.Test.YtebhophblgpjeaaSeqA
import Derived.Test.YtebhophblgpjeaaSeqB
import Derived.Test.YtebhophblgpjeaaSeqS
import Derived.Laws.MakeOwn
import Derived.StillTailTactics
namespace Go.Proofs.Ytebhophblgpjeaa.Seq
open Go.RowKit Go.Proofs.YtebhophblgpjeaaW.PrintWords Go.Proofs.YtebhophblgpjeaaW.PrintLast Go.Proofs.YtebhophblgpjeaaW.PrintMore
attribute [local go_sem] max2_int min2_int max_two min_two max_three min_three max_four min_four
set_option linter.unusedVariables false
set_option linter.unusedSimpArgs false

theorem short1_calls (A : Option Addr) (n c : Nat) (w : World) :
    Calls Try.prog 29 #[.slice A n c] w fun e w' => e = .returned (.bool (decide ((n : Int) > 2000))) ∧ w = w' := by
  go_enter Try.func29, Try.ntmps29
  go_wp2
  go_ret
  exact ⟨rfl, rfl⟩

def AnyLong (n : Nat) (L : Nat → Nat) (w : World) (e : Ending) (w' : World) : Prop :=
  ∃ r : Int, e = .returned (.int .i64 r) ∧ (0 ≤ r ↔ ∃ i, i < n ∧ 2000 < L i) ∧ w = w'

theorem indexFunc_calls (b : Nat) (n : Nat) (A : Nat → Option Addr) (L C : Nat → Nat) (w : World) (hn : n ≤ 3)
    (hcell : ∀ i, i < n → w.cell? ⟨b, i, none⟩ = some (.slice (A i) (L i) (C i))) :
    Calls Try.prog 33 #[.slice (some ⟨b, 0, none⟩) n n, .func (.func 29) #[] #[]] w (AnyLong n L w) := by
  have HC := Aside0.mk hcell
  clear hcell
  go_enter Try.func33, Try.ntmps33
  go_wp2
  go_loop [8] (fun i => ∃ k : Nat, k ≤ n ∧ i = .int .i64 k ∧ ∀ j, j < k → ¬ 2000 < L j) (fun i => n - (intOf i).toNat)
  case atStart => exact ⟨0, Nat.zero_le _, rfl, fun j hj => by omega⟩
  case round =>
    obtain ⟨k, hk, rfl, hno⟩ := hrel
    have HN := Aside0.mk hno
    clear hno
    by_cases hlt : k < n
    · have hc := HC.out k hlt
      by_cases hl : (L k : Int) > 2000
      · have hl' : decide ((L k : Int) > 2000) = true := by simpa using hl
        go_wp2_with (go_at_call 29; refine (short1_calls _ _ _ _).mono ?_; rintro e w' ⟨rfl, rfl⟩)
        go_ret
        exact ⟨k, rfl, ⟨fun _ => ⟨k, hlt, by omega⟩, fun _ => by omega⟩, rfl⟩
      · have hl' : decide ((L k : Int) > 2000) = false := by simpa using hl
        go_wp2_with (go_at_call 29; refine (short1_calls _ _ _ _).mono ?_; rintro e w' ⟨rfl, rfl⟩)
        go_round
        case rel => exact ⟨k + 1, by omega, by go_num, fun j hj => by
          rcases Nat.lt_or_ge j k with h | h
          · exact HN.out j h
          · obtain rfl : j = k := by omega
            omega⟩
        case measure => simp [intOf]; omega
    · go_wp2
      go_ret
      exact ⟨-1, rfl, ⟨fun h => by omega, fun ⟨i, hi, hl⟩ => absurd hl (HN.out i (by omega))⟩, rfl⟩

theorem containsFunc_calls (b : Nat) (n : Nat) (A : Nat → Option Addr) (L C : Nat → Nat) (w : World) (hn : n ≤ 3)
    (hcell : ∀ i, i < n → w.cell? ⟨b, i, none⟩ = some (.slice (A i) (L i) (C i))) (B : Bool) (hB : B = true ↔ ∃ i, i < n ∧ 2000 < L i) :
    Calls Try.prog 28 #[.slice (some ⟨b, 0, none⟩) n n, .func (.func 29) #[] #[]] w fun e w' => e = .returned (.bool B) ∧ w = w' := by
  have HC := Aside0.mk hcell
  clear hcell
  have HB := Aside0.mk hB
  clear hB
  go_enter Try.func28, Try.ntmps28
  go_wp2_with (go_at_call 33; refine (indexFunc_calls b n A L C _ hn HC.out).mono ?_; rintro e w' ⟨r, rfl, hr, rfl⟩; have HR := Aside0.mk hr; clear hr)
  go_ret
  refine ⟨?_, rfl⟩
  have : decide (r ≥ 0) = B := by
    rw [Bool.eq_iff_iff, decide_eq_true_iff, HB.out, ← HR.out]
  rw [← this]; rfl

theorem short_calls (b : Nat) (n : Nat) (A : Nat → Option Addr) (L C : Nat → Nat) (w : World) (hn : n ≤ 3)
    (hcell : ∀ i, i < n → w.cell? ⟨b, i, none⟩ = some (.slice (A i) (L i) (C i))) (B : Bool) (hB : B = true ↔ ∀ i, i < n → L i ≤ 2000) :
    Calls Try.prog 22 #[.slice (some ⟨b, 0, none⟩) n n] w fun e w' => e = .returned (.bool B) ∧ w = w' := by
  have HC := Aside0.mk hcell
  clear hcell
  have HB : (!B) = true ↔ ∃ i, i < n ∧ 2000 < L i := by
    rw [Bool.not_eq_true', ← Bool.not_eq_true, hB]
    constructor
    · intro h
      apply Classical.byContradiction
      intro h2
      exact h (fun i hi => by
        apply Classical.byContradiction
        intro h3
        exact h2 ⟨i, hi, by omega⟩)
    · rintro ⟨i, hi, hl⟩ h
      have := h i hi
      omega
  clear hB
  have HB' := Aside0.mk HB
  clear HB
  go_enter Try.func22, Try.ntmps22
  go_wp2_with (go_at_call 28; refine (containsFunc_calls b n A L C _ hn HC.out (!B) HB'.out).mono ?_; rintro e w' ⟨rfl, rfl⟩)
  go_ret
  exact ⟨by simp, rfl⟩

theorem at_calls (gA gW g N cN W : Nat) (x y : Int) (w : World) (h0 : 0 ≤ x) (h1 : 0 ≤ y) (hN : N ≤ 10000000) (hW : W ≤ 3000) (hx : x ≤ 3000) (hy : y ≤ 3000)
    (hi : x.toNat * W + y.toNat < N)
    (hA : w.cell? ⟨gA, 0, none⟩ = some (.slice (some ⟨g, 0, none⟩) N cN)) (hWc : w.cell? ⟨gW, 0, none⟩ = some (.int .i64 (W : Int))) :
    Calls Try.prog 30 #[.int .i64 x, .int .i64 y, .pointer (some ⟨gA, 0, none⟩), .pointer (some ⟨gW, 0, none⟩)] w
      fun e w' => e = .returned (.pointer (some ⟨g, x.toNat * W + y.toNat, none⟩)) ∧ w = w' := by
  obtain ⟨i, rfl⟩ := Int.eq_ofNat_of_zero_le h0
  obtain ⟨k, rfl⟩ := Int.eq_ofNat_of_zero_le h1
  simp only [Int.toNat_natCast] at *
  have hm : i * W ≤ 3000 * 3000 := Nat.mul_le_mul (by omega) hW
  obtain ⟨m, hm'⟩ : ∃ m, m = i * W := ⟨_, rfl⟩
  have e1 : ((i : Int) * (W : Int)) = (m : Int) := by rw [hm']; simp
  rw [← hm'] at hi hm
  rw [← hm']
  have E1 := Aside0.mk hm'
  clear hm'
  go_enter Try.func30, Try.ntmps30
  go_wp2
  go_ret
  exact ⟨rfl, rfl⟩

def mtV (a b : List ByteArray) : List (Int × Int) := (mt a b).map fun p => ((p.1 : Int), (p.2 : Int))
abbrev kdPair : Kd (Int × Int) := Kd.pair (Kd.int .i64) (Kd.int .i64)

def zerosM (n : Nat) : Array Value := madeCells #[.int .i32 0] n
theorem zerosM_size (n : Nat) : (zerosM n).size = n := size_madeCells _ _
theorem zerosM_get (n i : Nat) (h : i < n) : (zerosM n)[i]? = some (.int .i32 0) := by
  unfold zerosM madeCells
  simp [h, Nat.mod_one]

theorem info21 : (Try.prog.info? 21).map (fun i => (i.zero, i.size, i.bytes)) = some (some (.int .i32 0), 1, 4) := by kernel_rfl

theorem run_mk (N : Nat) (hN : N ≤ 10000000) (W : World) :
    (Instr.makeSlice 58 (.int .i64 (N : Int)) (.int .i64 (N : Int))).run Try.prog W = .ok (.slice (some ⟨W.heap.size, 0, none⟩) N N) (W.alloc (.cells (zerosM N) 21)) := by
  obtain ⟨i0, hi, hzz⟩ := Option.map_eq_some_iff.1 info21
  simp only [Prod.mk.injEq] at hzz
  obtain ⟨hz0, hz1, hz2⟩ := hzz
  have := run_make (P := Try.prog) W 58 21 i0 (.int .i32 0) Try.underlying58 hi hz0 .i64 .i64 (N : Int) (N : Int) (by omega) (by omega) (by rw [hz2]; omega) (by omega)
  simp only [Int.toNat_natCast, hz1, Nat.mul_one] at this
  exact this

/-- The memory of the matching: the width, the lengths, the slice that leads to them. -/
structure MS (w : World) (l0 l1 : List ByteArray) (D : Nat → Nat → Prop) (wr : World) : Prop where
  below : Below w.heap.size w wr
  size : w.heap.size + 3 ≤ wr.heap.size
  hW : wr.heap[w.heap.size]? = some (.cells #[.int .i64 ((l1.length : Int) + 1)] 3 (0, 0))
  hA : wr.heap[w.heap.size + 1 + 1]? = some (.cells #[.slice (some ⟨w.heap.size + 1, 0, none⟩) ((l0.length + 1) * (l1.length + 1)) ((l0.length + 1) * (l1.length + 1))] 58 (0, 0))
  hM : ∃ arr : Array Value, wr.heap[w.heap.size + 1]? = some (.cells arr 21 (0, 0)) ∧ arr.size = (l0.length + 1) * (l1.length + 1) ∧
    ∀ i k, i ≤ l0.length → k ≤ l1.length → D i k → arr[i * (l1.length + 1) + k]? = some (.int .i32 (lcs (l0.drop i) (l1.drop k) : Nat))

theorem off_lt {i k a b : Nat} (hi : i ≤ a) (hk : k ≤ b) : i * (b + 1) + k < (a + 1) * (b + 1) := by
  have h1 : i * (b + 1) ≤ a * (b + 1) := Nat.mul_le_mul_right _ hi
  rw [Nat.succ_mul]
  omega
theorem off_ne {i k i' k' b : Nat} (hk : k ≤ b) (hk' : k' ≤ b) (h : i ≠ i' ∨ k ≠ k') : i * (b + 1) + k ≠ i' * (b + 1) + k' := by
  intro e
  have h1 : (i * (b + 1) + k) / (b + 1) = i := by
    rw [Nat.mul_comm, Nat.mul_add_div (by omega)]
    rw [Nat.div_eq_of_lt (by omega)]; omega
  have h2 : (i' * (b + 1) + k') / (b + 1) = i' := by
    rw [Nat.mul_comm, Nat.mul_add_div (by omega)]
    rw [Nat.div_eq_of_lt (by omega)]; omega
  have h3 : i = i' := by rw [← h1, ← h2, e]
  subst h3
  omega

section
variable {w wr : World} {l0 l1 : List ByteArray} {D : Nat → Nat → Prop}
theorem MS.cW (h : MS w l0 l1 D wr) : wr.cell? ⟨w.heap.size, 0, none⟩ = some (.int .i64 ((l1.length : Int) + 1)) := (blk_cell h.hW 0).trans rfl
theorem MS.cA (h : MS w l0 l1 D wr) : wr.cell? ⟨w.heap.size + 1 + 1, 0, none⟩ = some (.slice (some ⟨w.heap.size + 1, 0, none⟩) ((l0.length + 1) * (l1.length + 1)) ((l0.length + 1) * (l1.length + 1))) := (blk_cell h.hA 0).trans rfl
theorem MS.cM (h : MS w l0 l1 D wr) (i k : Nat) (hi : i ≤ l0.length) (hk : k ≤ l1.length) (hd : D i k) : wr.cell? ⟨w.heap.size + 1, i * (l1.length + 1) + k, none⟩ = some (.int .i32 (lcs (l0.drop i) (l1.drop k) : Nat)) := by
  obtain ⟨arr, h1, h2, h3⟩ := h.hM
  exact (blk_cell h1 _).trans (h3 i k hi hk hd)
theorem MS.cM' (h : MS w l0 l1 D wr) (i k : Nat) (hi : i ≤ l0.length) (hk : k ≤ l1.length) : ∃ v, wr.cell? ⟨w.heap.size + 1, i * (l1.length + 1) + k, none⟩ = some v := by
  obtain ⟨arr, h1, h2, h3⟩ := h.hM
  have := off_lt hi hk
  rw [← h2] at this
  exact ⟨arr[i * (l1.length + 1) + k], (blk_cell h1 _).trans (by simp [this])⟩
theorem MS.fM (h : MS w l0 l1 D wr) (j : Nat) : wr.frozen? ⟨w.heap.size + 1, j, none⟩ = false := by
  obtain ⟨arr, h1, h2, h3⟩ := h.hM
  exact blk_frozen h1 j
theorem MS.mono {D' : Nat → Nat → Prop} (h : MS w l0 l1 D wr) (hD : ∀ i k, i ≤ l0.length → k ≤ l1.length → D' i k → D i k) : MS w l0 l1 D' wr := by
  obtain ⟨arr, h1, h2, h3⟩ := h.hM
  exact ⟨h.below, h.size, h.hW, h.hA, arr, h1, h2, fun i k hi hk hd => h3 i k hi hk (hD i k hi hk hd)⟩
theorem MS.drewN (h : MS w l0 l1 D wr) (n : Nat) : MS w l0 l1 D (wr.drewN n) := ⟨pw_below_drewN h.below n, h.size, h.hW, h.hA, h.hM⟩
theorem MS.set (h : MS w l0 l1 D wr) (i k : Nat) (hi : i ≤ l0.length) (hk : k ≤ l1.length) :
    MS w l0 l1 (fun i' k' => D i' k' ∨ (i' = i ∧ k' = k)) (wr.setCell ⟨w.heap.size + 1, i * (l1.length + 1) + k, none⟩ (.int .i32 (lcs (l0.drop i) (l1.drop k) : Nat))) := by
  obtain ⟨arr, h1, h2, h3⟩ := h.hM
  refine ⟨h.below.setCell (by simp) _, by simpa [World.setCell] using h.size, (blk_far h.hW (by simp) _), (blk_far h.hA (by simp) _), _, blk_set h1 _ _, by simpa using h2, ?_⟩
  intro i' k' hi' hk' hd
  have hlt := off_lt hi hk
  by_cases he : i' = i ∧ k' = k
  · obtain ⟨rfl, rfl⟩ := he
    rw [← h2] at hlt
    simp [hlt]
  · have hne : i * (l1.length + 1) + k ≠ i' * (l1.length + 1) + k' := off_ne hk hk' (by omega)
    rw [Array.getElem?_setIfInBounds_ne hne]
    exact h3 i' k' hi' hk' (hd.resolve_right he)
end

theorem at_MS {w wr : World} {l0 l1 : List ByteArray} {D : Nat → Nat → Prop} (h : MS w l0 l1 D wr) (s0 : l0.length ≤ 2000) (s1 : l1.length ≤ 2000) (x y : Int) (i k o : Nat) (hx : x = (i : Int)) (hy : y = (k : Int)) (hi : i ≤ l0.length) (hk : k ≤ l1.length) (ho : Aside0 (o = i * (l1.length + 1) + k)) :
    Calls Try.prog 30 #[.int .i64 x, .int .i64 y, .pointer (some ⟨w.heap.size + 1 + 1, 0, none⟩), .pointer (some ⟨w.heap.size, 0, none⟩)] wr
      fun e w' => e = .returned (.pointer (some ⟨w.heap.size + 1, o, none⟩)) ∧ wr = w' := by
  subst hx
  subst hy
  have hlt := off_lt hi hk
  have hN1 : (l0.length + 1) * (l1.length + 1) ≤ 2001 * 2001 := Nat.mul_le_mul (by omega) (by omega)
  refine (at_calls _ _ _ _ _ (l1.length + 1) (i : Int) (k : Int) wr (by omega) (by omega) (by omega) (by omega) (by omega) (by omega) (by simpa using hlt) h.cA h.cW).mono ?_
  rintro e w' ⟨rfl, rfl⟩
  refine ⟨?_, rfl⟩
  rw [ho.out]
  simp

theorem rdOf_nat (l : List ByteArray) (i : Nat) (hi : i < l.length) : rdOf ByteArray.empty l (i : Int) = l[i] := by
  simp [rdOf, hi]

theorem str_eq (a b : ByteArray) : (a.toList = b.toList) ↔ a = b := by
  rw [ByteArray.toList_eq, ByteArray.toList_eq]
  constructor
  · intro h
    cases a
    cases b
    simp only [ByteArray.mk.injEq]
    exact Array.toList_inj.mp h
  · intro h; rw [h]

theorem lcs_at (l0 l1 : List ByteArray) (i k : Nat) (hi : i < l0.length) (hk : k < l1.length) :
    lcs (l0.drop i) (l1.drop k) = if (rdOf ByteArray.empty l0 (i : Int)).toList = (rdOf ByteArray.empty l1 (k : Int)).toList then lcs (l0.drop (i + 1)) (l1.drop (k + 1)) + 1 else max (lcs (l0.drop (i + 1)) (l1.drop k)) (lcs (l0.drop i) (l1.drop (k + 1))) := by
  rw [rdOf_nat l0 i hi, rdOf_nat l1 k hk, List.drop_eq_getElem_cons hi, List.drop_eq_getElem_cons hk, lcs_cons]
  have e : (l0[i].toList = l1[k].toList) ↔ l0[i] = l1[k] := str_eq _ _
  by_cases h : l0[i] = l1[k]
  · rw [if_pos h, if_pos (e.2 h)]
  · rw [if_neg h, if_neg (fun h2 => h (e.1 h2))]

theorem mt_at (l0 l1 : List ByteArray) (n i k : Nat) (hi : i < l0.length) (hk : k < l1.length) :
    mtFrom (n + 1) (l0.drop i) (l1.drop k) i k = if (rdOf ByteArray.empty l0 (i : Int)).toList = (rdOf ByteArray.empty l1 (k : Int)).toList then (i, k) :: mtFrom n (l0.drop (i + 1)) (l1.drop (k + 1)) (i + 1) (k + 1) else if lcs (l0.drop (i + 1)) (l1.drop k) = lcs (l0.drop i) (l1.drop k) then mtFrom n (l0.drop (i + 1)) (l1.drop k) (i + 1) k else mtFrom n (l0.drop i) (l1.drop (k + 1)) i (k + 1) := by
  have h1 := List.drop_eq_getElem_cons hi
  have h2 := List.drop_eq_getElem_cons hk
  rw [rdOf_nat l0 i hi, rdOf_nat l1 k hk, h1, h2]
  simp only [mtFrom, str_eq]
theorem info44 : (Try.prog.info? 44).map (fun i => (i.zero, i.size, i.bytes)) = some (some (.agg #[.int .i64 0, .int .i64 0]), 2, 16) := by kernel_rfl
theorem MS.later {w wr w1 : World} {l0 l1 : List ByteArray} {D : Nat → Nat → Prop} (h : MS w l0 l1 D wr) (hb : Below (w.heap.size + 3) wr w1) : MS w l0 l1 D w1 := by
  refine ⟨h.below.trans (hb.mono (by omega)), Nat.le_trans h.size hb.size, (hb.block _ (by omega)).trans h.hW, (hb.block _ (by omega)).trans h.hA, ?_⟩
  obtain ⟨arr, h1, h2, h3⟩ := h.hM
  exact ⟨arr, (hb.block _ (by omega)).trans h1, h2, h3⟩

set_option maxRecDepth 100000 in
set_option maxHeartbeats 2000000 in
theorem matching_calls (A0 : Option Addr) (c0 : Nat) (l0 : List ByteArray) (A1 : Option Addr) (c1 : Nat) (l1 : List ByteArray) (w : World) (hr0 : Kd.C Kd.string w A0 l0.length l0) (hr1 : Kd.C Kd.string w A1 l1.length l1) (s0 : l0.length ≤ 2000) (s1 : l1.length ≤ 2000) :
    Calls Try.prog 23 #[.slice A0 l0.length c0, .slice A1 l1.length c1] w fun e w' => ∃ v : Value, e = .returned v ∧ Kd.R kdPair 44 w' w.heap.size (fun _ => True) v (mtV l0 l1) ∧ Below w.heap.size w w' := by
  have HR0 := Aside0.mk hr0
  have HR1 := Aside0.mk hr1
  clear hr0 hr1
  obtain ⟨N, hN⟩ : ∃ N, N = (l0.length + 1) * (l1.length + 1) := ⟨_, rfl⟩
  have hN1 : N ≤ 2001 * 2001 := by rw [hN]; exact Nat.mul_le_mul (by omega) (by omega)
  have e1 : ((l0.length : Int) + 1) * ((l1.length : Int) + 1) = (N : Int) := by rw [hN]; simp
  have HN := Aside0.mk hN
  clear hN
  have hmk := run_mk N (by omega)
  go_enter Try.func23, Try.ntmps23
  go_wp2
  clear hmk e1
  go_loopw [8] (fun i wr => ∃ m : Nat, m ≤ l0.length ∧ i = .int .i64 ((m : Int) - 1) ∧ Aside0 (MS w l0 l1 (fun i' k' => m ≤ i' ∨ k' = l1.length) wr)) (fun i _ => (intOf i + 1).toNat)
  case atStart =>
    refine ⟨l0.length, by omega, by go_num, ⟨?_⟩⟩
    obtain rfl := HN.out
    refine ⟨?_, ?_, ?_, ?_, zerosM ((l0.length + 1) * (l1.length + 1)), ?_, zerosM_size _, ?_⟩
    · repeat (first | exact Below.refl _ _ | apply below_alloc)
    · simp
    · exact (Below.heap_alloc _ _ _ (by simp; omega)).trans ((Below.heap_alloc _ _ _ (by simp)).trans (heap_alloc_new _ _))
    · have := heap_alloc_new (World.alloc (World.alloc w (Obj.cells #[Value.int IntKind.i64 (↑l1.length + 1)] 3)) (Obj.cells (zerosM ((l0.length + 1) * (l1.length + 1))) 21)) (Obj.cells #[Value.slice (some ⟨w.heap.size + 1, 0, none⟩) ((l0.length + 1) * (l1.length + 1)) ((l0.length + 1) * (l1.length + 1))] 58)
      simpa using this
    · refine (Below.heap_alloc _ _ _ (by simp)).trans ?_
      have := heap_alloc_new (World.alloc w (Obj.cells #[Value.int IntKind.i64 (↑l1.length + 1)] 3)) (Obj.cells (zerosM ((l0.length + 1) * (l1.length + 1))) 21)
      simpa using this
    · intro i k hi hk hd
      rw [zerosM_get _ _ (off_lt hi hk)]
      have hlcs : lcs (l0.drop i) (l1.drop k) = 0 := by
        rcases hd with hd | hd
        · rw [List.drop_of_length_le hd, lcs_nil]
        · rw [hd, List.drop_of_length_le (Nat.le_refl _), lcs_nil']
      rw [hlcs]; rfl
  case round =>
    obtain ⟨m, hm, rfl, HM⟩ := hrel
    cases m with
    | zero =>
      rw [show (((0 : Nat) : Int) - 1) = (-1 : Int) by omega]
      have HM0 : Aside0 (MS w l0 l1 (fun _ _ => True) wr) := ⟨HM.out.mono (fun i' k' hi' hk' hd => .inl (Nat.zero_le _))⟩
      clear HM hm
      go_wp2
      obtain ⟨wo, rfl⟩ : ∃ wo : World, wo = wr := ⟨_, rfl⟩
      go_loopw [10, 11, 12] (fun v i k wr => ∃ (a b n : Nat) (acc : List (Int × Int)), a ≤ l0.length ∧ b ≤ l1.length ∧ i = .int .i64 a ∧ k = .int .i64 b ∧ Aside0 (acc.length ≤ a) ∧ Aside0 ((l0.length - a) + (l1.length - b) ≤ n) ∧ Aside0 (acc ++ (mtFrom n (l0.drop a) (l1.drop b) a b).map (fun p => ((p.1 : Int), (p.2 : Int))) = mtV l0 l1) ∧ Aside0 (Kd.R kdPair 44 wr (w.heap.size + 3) (fun _ => True) v acc) ∧ Aside0 (MS w l0 l1 (fun _ _ => True) wr)) (fun _ i k _ => (l0.length - (intOf i).toNat) + (l1.length - (intOf k).toNat))
      case atStart =>
        exact ⟨0, 0, _, [], by omega, by omega, rfl, rfl, ⟨Nat.le_refl _⟩, ⟨Nat.le_refl _⟩, ⟨rfl⟩, ⟨Kd.R_nil _ _ _ _ _⟩, HM0⟩
      case round =>
        obtain ⟨a, b, n, acc, ha, hb, rfl, rfl, HLEN, HN2, HACC, HO, HMM⟩ := hrel
        by_cases hlt : a < l0.length ∧ b < l1.length
        · obtain ⟨hla, hlb⟩ := hlt
          have hM := HMM.out
          have hbel := hM.below
          obtain ⟨n, rfl⟩ : ∃ n', n = n' + 1 := ⟨n - 1, by have := HN2.out; omega⟩
          have hacc := HACC.out
          obtain ⟨ad0, e0, hx0⟩ := Kd.at_string (Kd.C_below HR0.out hbel) (a : Int) (by omega) (by omega)
          obtain ⟨ad1, e1, hx1⟩ := Kd.at_string (Kd.C_below HR1.out hbel) (b : Int) (by omega) (by omega)
          cases e0
          cases e1
          simp only [Int.toNat_natCast] at hx0 hx1
          have hstep := mt_at l0 l1 n a b hla hlb
          rw [hstep] at hacc
          have HB := Aside0.mk hbel
          by_cases hs : (rdOf ByteArray.empty l0 (a : Int)).toList = (rdOf ByteArray.empty l1 (b : Int)).toList
          · rw [if_pos hs] at hacc
            have HA := Aside0.mk hacc
            have hsb := beq_iff_eq.mpr hs
            clear hacc hs hM hstep hbel HACC
            have HL : Aside0 ((acc.length + 1) * 16 ≤ 140737488355328) := ⟨by have := HLEN.out; omega⟩
            go_wp2
            go_quiet (fail)
            go_wp2_with ((with_reducible refine gate_builtin (b := .append) (xs := #[.tmp 102, .tmp 106]) rfl ?_); at_builtin; refine Kd.R_append kdPair (w0 := wr) (w.heap.size + 3) rfl (.tmp 102) (.tmp 106) 41 44 (.agg #[.int .i64 0, .int .i64 0]) 16 rfl Try.underlying41 info44 rfl (by decide) (by omega) u10 acc ((a : Int), (b : Int)) [.int .i64 a, .int .i64 b] (fun _ => True) (fun _ => False) rfl rfl ?aP (fun _ hk => hk.elim) ?aF ?aO ?aB ?aS ?aL ?_; (case aP => exact ⟨[_], [_], rfl, rfl, rfl⟩); (case aF => exact fun _ _ => trivial); (case aO => exact HO.out); (case aB => exact (pw_below_drewN (Below.refl _ _) _)); (case aS => exact HMM.out.size); (case aL => exact HL.out); intro v1 w1 ho hb hg hat; have HO1 := Aside0.mk ho; have HB1 := Aside0.mk hb; clear ho hb hg hat)
            go_roundw
            case rel =>
              refine ⟨a + 1, b + 1, n, acc ++ [((a : Int), (b : Int))], by omega, by omega, by go_num, by go_num, ⟨?_⟩, ⟨by have := HN2.out; omega⟩, ⟨?_⟩, HO1, ⟨HMM.out.later HB1.out⟩⟩
              · have := HLEN.out
                simp; omega
              · have := HA.out
                simpa using this
            case measure => simp [intOf]; omega
          · rw [if_neg hs] at hacc
            have hsb := beq_eq_false_iff_ne.mpr hs
            obtain ⟨oE, hE⟩ : ∃ o, o = a * (l1.length + 1) + b := ⟨_, rfl⟩
            obtain ⟨oR, hR⟩ : ∃ o, o = (a + 1) * (l1.length + 1) + b := ⟨_, rfl⟩
            have cR := hM.cM (a + 1) b (by omega) (by omega) trivial
            have cE := hM.cM a b (by omega) (by omega) trivial
            rw [← hR] at cR
            rw [← hE] at cE
            generalize lcs (l0.drop (a + 1)) (l1.drop b) = nR at *
            generalize lcs (l0.drop a) (l1.drop b) = nE at *
            have HE := Aside0.mk hE
            have HR := Aside0.mk hR
            have wi : IntKind.i64.wrap ((a : Int) + 1) = (a : Int) + 1 := by rw [IntKind.wrap_i64]; omega
            have hw : ∀ x y : Int, x = y → Aside0 (x = y) := fun _ _ h => ⟨h⟩
            by_cases hq : nR = nE
            · rw [if_pos hq] at hacc
              have HA := Aside0.mk hacc
              have hqb : ((nR : Int) == (nE : Int)) = true := beq_iff_eq.mpr (by omega)
              have hqb2 : (nR == nE) = true := beq_iff_eq.mpr hq
              clear hacc hs hM hstep hbel HACC hE hR hq hw
              go_wp2
              go_quiet (fail)
              go_wp2_with fail
              have MW : MS w l0 l1 (fun _ _ => True) (wr.drewN nq) := HMM.out.drewN nq
              have HOW : Aside0 (Kd.R kdPair 44 (wr.drewN nq) (w.heap.size + 3) (fun _ => True) u10 acc) := ⟨Kd.R_drewN HO.out nq⟩
              have cR' : (wr.drewN nq).cell? ⟨w.heap.size + 1, oR, none⟩ = some (.int .i32 nR) := cR
              have cE' : (wr.drewN nq).cell? ⟨w.heap.size + 1, oE, none⟩ = some (.int .i32 nE) := cE
              clear cR cE HMM HO
              generalize wr.drewN nq = w2 at *
              have HMM := Aside0.mk MW
              clear MW
              go_quiet (first | (go_at_call 30; exact Calls.quiet_of_same ((at_MS (HMM.out.drewN _) s0 s1 _ _ (a + 1) b oR (by omega) rfl (by omega) (by omega) HR).mono fun e w' h => ⟨h.1, h.2.symm⟩)) | (go_at_call 30; exact Calls.quiet_of_same ((at_MS (HMM.out.drewN _) s0 s1 _ _ a b oE rfl rfl (by omega) (by omega) HE).mono fun e w' h => ⟨h.1, h.2.symm⟩)))
              clear wi
              go_wp2
              go_roundw
              case rel => exact ⟨a + 1, b, n, acc, by omega, by omega, by go_num, rfl, ⟨by have := HLEN.out; omega⟩, ⟨by have := HN2.out; omega⟩, HA, ⟨Kd.R_drewN HOW.out _⟩, ⟨HMM.out.drewN _⟩⟩
              case measure => simp [intOf]; omega
            · rw [if_neg hq] at hacc
              have HA := Aside0.mk hacc
              have hqb : ((nR : Int) == (nE : Int)) = false := beq_eq_false_iff_ne.mpr (by omega)
              have hqb2 : (nR == nE) = false := beq_eq_false_iff_ne.mpr hq
              clear hacc hs hM hstep hbel HACC hE hR hq hw
              go_wp2
              go_quiet (fail)
              go_wp2_with fail
              have MW : MS w l0 l1 (fun _ _ => True) (wr.drewN nq) := HMM.out.drewN nq
              have HOW : Aside0 (Kd.R kdPair 44 (wr.drewN nq) (w.heap.size + 3) (fun _ => True) u10 acc) := ⟨Kd.R_drewN HO.out nq⟩
              have cR' : (wr.drewN nq).cell? ⟨w.heap.size + 1, oR, none⟩ = some (.int .i32 nR) := cR
              have cE' : (wr.drewN nq).cell? ⟨w.heap.size + 1, oE, none⟩ = some (.int .i32 nE) := cE
              clear cR cE HMM HO
              generalize wr.drewN nq = w2 at *
              have HMM := Aside0.mk MW
              clear MW
              go_quiet (first | (go_at_call 30; exact Calls.quiet_of_same ((at_MS (HMM.out.drewN _) s0 s1 _ _ (a + 1) b oR (by omega) rfl (by omega) (by omega) HR).mono fun e w' h => ⟨h.1, h.2.symm⟩)) | (go_at_call 30; exact Calls.quiet_of_same ((at_MS (HMM.out.drewN _) s0 s1 _ _ a b oE rfl rfl (by omega) (by omega) HE).mono fun e w' h => ⟨h.1, h.2.symm⟩)))
              clear wi
              go_wp2
              go_roundw
              case rel => exact ⟨a, b + 1, n, acc, by omega, by omega, rfl, by go_num, ⟨by have := HLEN.out; omega⟩, ⟨by have := HN2.out; omega⟩, HA, ⟨Kd.R_drewN HOW.out _⟩, ⟨HMM.out.drewN _⟩⟩
              case measure => simp [intOf]; omega
        · have HACC2 : Aside0 (acc = mtV l0 l1) := ⟨by
            have h := HACC.out
            by_cases h1 : a < l0.length
            · rw [List.drop_of_length_le (show l1.length ≤ b by omega), mtFrom_nil] at h
              simpa using h
            · rw [List.drop_of_length_le (show l0.length ≤ a by omega), mtFrom_nil'] at h
              simpa using h⟩
          obtain rfl := HACC2.out
          clear HACC HACC2 HN2 HLEN
          have hfin : ∃ v : Value, u10 = v ∧ Kd.R kdPair 44 wr w.heap.size (fun _ => True) v (mtV l0 l1) ∧ Below w.heap.size w wr := ⟨_, rfl, Kd.R_lower HO.out (by omega), HMM.out.below⟩
          have HF := Aside0.mk hfin
          clear hfin
          by_cases h1 : a < l0.length
          · have h2 : ¬ b < l1.length := by omega
            have h1b : decide ((a : Int) < (l0.length : Int)) = true := by simpa using h1
            have h2b : decide ((b : Int) < (l1.length : Int)) = false := by simpa using h2
            clear hlt
            go_wp2
            go_ret
            obtain ⟨v, e, h⟩ := HF.out
            exact ⟨v, by rw [← e]; rfl, h⟩
          · have h1b : decide ((a : Int) < (l0.length : Int)) = false := by simpa using h1
            clear hlt
            go_wp2
            go_ret
            obtain ⟨v, e, h⟩ := HF.out
            exact ⟨v, by rw [← e]; rfl, h⟩
    | succ i =>
      rw [show (((i + 1 : Nat) : Int) - 1) = (i : Int) by omega]
      have hi : i < l0.length := by omega
      go_wp2
      go_loopw [9] (fun k wr' => ∃ m : Nat, m ≤ l1.length ∧ k = .int .i64 ((m : Int) - 1) ∧ Aside0 (MS w l0 l1 (fun i' k' => i + 1 ≤ i' ∨ k' = l1.length ∨ (i' = i ∧ m ≤ k')) wr')) (fun k _ => (intOf k + 1).toNat)
      case atStart =>
        exact ⟨l1.length, by omega, by go_num, ⟨HM.out.mono (fun i' k' hi' hk' hd => by omega)⟩⟩
      case round =>
        obtain ⟨m, hm', rfl, HM2⟩ := hrel
        cases m with
        | zero =>
          rw [show (((0 : Nat) : Int) - 1) = (-1 : Int) by omega]
          go_wp2
          go_roundw
          case rel => exact ⟨i, by omega, by go_num, ⟨HM2.out.mono (fun i' k' hi' hk' hd => by omega)⟩⟩
          case measure => simp [intOf]
        | succ k =>
          rw [show (((k + 1 : Nat) : Int) - 1) = (k : Int) by omega]
          have hk : k < l1.length := by omega
          have hM := HM2.out
          have hb := hM.below
          obtain ⟨ad0, e0, hx0⟩ := Kd.at_string (Kd.C_below HR0.out hb) (i : Int) (by omega) (by omega)
          obtain ⟨ad1, e1, hx1⟩ := Kd.at_string (Kd.C_below HR1.out hb) (k : Int) (by omega) (by omega)
          cases e0
          cases e1
          simp only [Int.toNat_natCast] at hx0 hx1
          obtain ⟨oE, hE⟩ : ∃ o, o = i * (l1.length + 1) + k := ⟨_, rfl⟩
          obtain ⟨oR, hR⟩ : ∃ o, o = (i + 1) * (l1.length + 1) + k := ⟨_, rfl⟩
          obtain ⟨oD, hD⟩ : ∃ o, o = (i + 1) * (l1.length + 1) + (k + 1) := ⟨_, rfl⟩
          obtain ⟨oK, hK⟩ : ∃ o, o = i * (l1.length + 1) + (k + 1) := ⟨_, rfl⟩
          have cD := hM.cM (i + 1) (k + 1) (by omega) (by omega) (by omega)
          have cR := hM.cM (i + 1) k (by omega) (by omega) (by omega)
          have cK := hM.cM i (k + 1) (by omega) (by omega) (by omega)
          obtain ⟨vE, cE⟩ := hM.cM' i k (by omega) (by omega)
          have fE := hM.fM oE
          have bD := (lcs_le (l0.drop (i + 1)) (l1.drop (k + 1))).1
          have bR := (lcs_le (l0.drop (i + 1)) (l1.drop k)).1
          have bK := (lcs_le (l0.drop i) (l1.drop (k + 1))).1
          have hset := fun n => (hM.drewN n).set i k (by omega) (by omega)
          have hL := lcs_at l0 l1 i k hi hk
          rw [List.length_drop] at bD bR bK
          rw [← hE] at cE hset
          rw [← hR] at cR
          rw [← hD] at cD
          rw [← hK] at cK
          generalize lcs (l0.drop (i + 1)) (l1.drop (k + 1)) = nD at *
          generalize lcs (l0.drop (i + 1)) (l1.drop k) = nR at *
          generalize lcs (l0.drop i) (l1.drop (k + 1)) = nK at *
          generalize lcs (l0.drop i) (l1.drop k) = nE at *
          have HE := Aside0.mk hE
          have HR := Aside0.mk hR
          have HD := Aside0.mk hD
          have HK := Aside0.mk hK
          have HSET := Aside0.mk hset
          have HB := Aside0.mk hb
          have HM3 := Aside0.mk hM
          clear hE hR hD hK hset hb hM
          by_cases hs : (rdOf ByteArray.empty l0 (i : Int)).toList = (rdOf ByteArray.empty l1 (k : Int)).toList
          · rw [if_pos hs] at hL
            have hsb := beq_iff_eq.mpr hs
            have HL := Aside0.mk hL
            clear hL hs
            have g0 : 0 ≤ (nD : Int) + 1 := by omega
            have g1 : (nD : Int) + 1 ≤ 2001 := by omega
            go_wp2
            go_quiet (fail)
            go_wp2_with fail
            ((with_reducible refine (at_MS (HM3.out.drewN _) s0 s1 _ _ i k oE ?_ ?_ (by omega) (by omega) HE).mono ?_))
            · rfl
            · rfl
            rintro e w' ⟨rfl, rfl⟩
            go_wp2_with fail
            ((with_reducible refine (at_MS (HM3.out.drewN _) s0 s1 _ _ (i + 1) (k + 1) oD ?_ ?_ (by omega) (by omega) HD).mono ?_))
            · omega
            · omega
            rintro e w' ⟨rfl, rfl⟩
            go_wp2
            go_roundw
            case rel =>
              refine ⟨k, by omega, by go_num, ⟨?_⟩⟩
              have h := (HSET.out nq).mono (D' := fun i' k' => i + 1 ≤ i' ∨ k' = l1.length ∨ i' = i ∧ k ≤ k') (fun i' k' hi' hk' hd => by omega)
              rw [HL.out] at h
              exact h
            case measure => simp [intOf]
          · rw [if_neg hs] at hL
            have hsb := beq_eq_false_iff_ne.mpr hs
            have HL := Aside0.mk hL
            clear hL hs
            go_wp2
            go_quiet (fail)
            go_wp2_with fail
            refine wp_region_still_tail 20 (by kernel_rfl) (by kernel_rfl) ?_
            simp only [List.take_succ_cons, List.take_zero, List.drop_succ_cons, List.drop_zero]
            have MW : MS w l0 l1 _ ({ wr.drewN nq with drawn := (wr.drewN nq).drawn + 1 } : World) := ((HM3.out.drewN nq).drewN 1)
            have hback : ({ wr.drewN nq with drawn := (wr.drewN nq).drawn + 1 } : World) = wr.drewN (nq + 1) := (World.drewN_drewN _ _ _)
            have cR' : ({ wr.drewN nq with drawn := (wr.drewN nq).drawn + 1 } : World).cell? ⟨w.heap.size + 1, oR, none⟩ = some (.int .i32 nR) := cR
            have cK' : ({ wr.drewN nq with drawn := (wr.drewN nq).drawn + 1 } : World).cell? ⟨w.heap.size + 1, oK, none⟩ = some (.int .i32 nK) := cK
            have cE' : ({ wr.drewN nq with drawn := (wr.drewN nq).drawn + 1 } : World).cell? ⟨w.heap.size + 1, oE, none⟩ = some vE := cE
            have fE' : ({ wr.drewN nq with drawn := (wr.drewN nq).drawn + 1 } : World).frozen? ⟨w.heap.size + 1, oE, none⟩ = false := fE
            clear cR cK cE fE cD
            generalize ({ wr.drewN nq with drawn := (wr.drewN nq).drawn + 1 } : World) = w2 at *
            have HBACK := Aside0.mk hback
            clear hback
            have MW := Aside0.mk MW
            have wi : IntKind.i64.wrap ((i : Int) + 1) = (i : Int) + 1 := by rw [IntKind.wrap_i64]; omega
            have wk : IntKind.i64.wrap ((k : Int) + 1) = (k : Int) + 1 := by rw [IntKind.wrap_i64]; omega
            iterate 3 still_step
            still_call ((at_MS MW.out s0 s1 _ _ i k oE rfl rfl (by omega) (by omega) HE).mono fun e w' h => ⟨h.1, h.2.symm⟩)
            iterate 4 still_step
            still_call ((at_MS MW.out s0 s1 _ _ (i + 1) k oR (by omega) rfl (by omega) (by omega) HR).mono fun e w' h => ⟨h.1, h.2.symm⟩)
            iterate 6 still_step
            still_call ((at_MS MW.out s0 s1 _ _ i (k + 1) oK rfl (by omega) (by omega) (by omega) HK).mono fun e w' h => ⟨h.1, h.2.symm⟩)
            iterate 4 still_step
            refine wpStill_nil ?_
            clear wi wk
            go_wp2
            go_roundw
            case rel =>
              refine ⟨k, by omega, by go_num, ⟨?_⟩⟩
              have h := (HSET.out (nq + 1)).mono (D' := fun i' k' => i + 1 ≤ i' ∨ k' = l1.length ∨ i' = i ∧ k ≤ k') (fun i' k' hi' hk' hd => by omega)
              rw [HL.out, ← HBACK.out] at h
              have hm : (if nR < nK then (nK : Int) else (nR : Int)) = ((max nR nK : Nat) : Int) := by split <;> omega
              rw [hm]
              exact h
            case measure => simp [intOf]

end Go.Proofs.Ytebhophblgpjeaa.Seq
