/- Contracts of the reference lengths and matching: rows of lengths, and for each place the place with which it is matched. -/
import Derived.Test.YtebhophblgpjeaaSeqM1
namespace Go.Proofs.Ytebhophblgpjeaa.Seq
open Go.RowKit Go.Proofs.YtebhophblgpjeaaW.PrintWords Go.Proofs.YtebhophblgpjeaaW.PrintLast Go.Proofs.YtebhophblgpjeaaW.PrintMore
attribute [local go_sem] max2_int min2_int max_two min_two max_three min_three max_four min_four
set_option linter.unusedVariables false
set_option linter.unusedSimpArgs false

def zerosI (n : Nat) : Array Value := madeCells #[.int .i64 0] n
theorem zerosI_size (n : Nat) : (zerosI n).size = n := size_madeCells _ _
theorem zerosI_get (n i : Nat) (h : i < n) : (zerosI n)[i]? = some (.int .i64 0) := by
  unfold zerosI madeCells
  simp [h, Nat.mod_one]
def nilRows (n : Nat) : Array Value := madeCells #[.slice none 0 0] n
theorem nilRows_size (n : Nat) : (nilRows n).size = n := size_madeCells _ _
theorem run_mkI (N : Nat) (hN : N ≤ 10000000) (W : World) (x : Int) (hx : x = (N : Int)) :
    (Instr.makeSlice 53 (.int .i64 x) (.int .i64 x)).run Try.prog W = .ok (.slice (some ⟨W.heap.size, 0, none⟩) N N) (W.alloc (.cells (zerosI N) 3)) := by
  subst hx
  obtain ⟨i0, hi, hzz⟩ := Option.map_eq_some_iff.1 info3
  simp only [Prod.mk.injEq] at hzz
  obtain ⟨hz0, hz1, hz2⟩ := hzz
  have := run_make (P := Try.prog) W 53 3 i0 (.int .i64 0) Try.underlying53 hi hz0 .i64 .i64 (N : Int) (N : Int) (by omega) (by omega) (by rw [hz2]; omega) (by omega)
  simp only [Int.toNat_natCast, hz1, Nat.mul_one] at this
  exact this
theorem run_mkR (N : Nat) (hN : N ≤ 10000000) (W : World) (x : Int) (hx : x = (N : Int)) :
    (Instr.makeSlice 61 (.int .i64 x) (.int .i64 x)).run Try.prog W = .ok (.slice (some ⟨W.heap.size, 0, none⟩) N N) (W.alloc (.cells (nilRows N) 53)) := by
  subst hx
  obtain ⟨i0, hi, hzz⟩ := Option.map_eq_some_iff.1 info53
  simp only [Prod.mk.injEq] at hzz
  obtain ⟨hz0, hz1, hz2⟩ := hzz
  have := run_make (P := Try.prog) W 61 53 i0 (.slice none 0 0) Try.underlying61 hi hz0 .i64 .i64 (N : Int) (N : Int) (by omega) (by omega) (by rw [hz2]; omega) (by omega)
  simp only [Int.toNat_natCast, hz1, Nat.mul_one] at this
  exact this

/-- The rows of lengths: R of them are made; D: which lengths are in their places. -/
structure LS (w : World) (l0 l1 : List ByteArray) (R : Nat) (D : Nat → Nat → Prop) (wr : World) : Prop where
  below : Below w.heap.size w wr
  size : w.heap.size + 1 + R ≤ wr.heap.size
  hR : R ≤ l0.length + 1
  hO : ∃ rows : Array Value, wr.heap[w.heap.size]? = some (.cells rows 53 (0, 0)) ∧ rows.size = l0.length + 1 ∧ ∀ i, i < R → rows[i]? = some (.slice (some ⟨w.heap.size + 1 + i, 0, none⟩) (l1.length + 1) (l1.length + 1))
  hM : ∀ i, i < R → ∃ arr : Array Value, wr.heap[w.heap.size + 1 + i]? = some (.cells arr 3 (0, 0)) ∧ arr.size = l1.length + 1 ∧ ∀ k, k ≤ l1.length → D i k → arr[k]? = some (.int .i64 (lcs (l0.drop i) (l1.drop k) : Nat))
section
variable {w wr : World} {l0 l1 : List ByteArray} {R : Nat} {D : Nat → Nat → Prop}
theorem LS.cO (h : LS w l0 l1 R D wr) (i : Nat) (hi : i < R) : wr.cell? ⟨w.heap.size, i, none⟩ = some (.slice (some ⟨w.heap.size + 1 + i, 0, none⟩) (l1.length + 1) (l1.length + 1)) := by
  obtain ⟨rows, h1, h2, h3⟩ := h.hO
  exact (blk_cell h1 i).trans (h3 i hi)
theorem LS.cO' (h : LS w l0 l1 R D wr) (i : Nat) (hi : i ≤ l0.length) : (∃ v, wr.cell? ⟨w.heap.size, i, none⟩ = some v) ∧ wr.frozen? ⟨w.heap.size, i, none⟩ = false := by
  obtain ⟨rows, h1, h2, h3⟩ := h.hO
  have hlt : i < rows.size := by omega
  exact ⟨⟨rows[i], (blk_cell h1 i).trans (by simp [hlt])⟩, blk_frozen h1 i⟩
theorem LS.cM (h : LS w l0 l1 R D wr) (i k : Nat) (hi : i < R) (hk : k ≤ l1.length) (hd : D i k) : wr.cell? ⟨w.heap.size + 1 + i, k, none⟩ = some (.int .i64 (lcs (l0.drop i) (l1.drop k) : Nat)) := by
  obtain ⟨arr, h1, h2, h3⟩ := h.hM i hi
  exact (blk_cell h1 k).trans (h3 k hk hd)
theorem LS.cM' (h : LS w l0 l1 R D wr) (i k : Nat) (hi : i < R) (hk : k ≤ l1.length) : (∃ v, wr.cell? ⟨w.heap.size + 1 + i, k, none⟩ = some v) ∧ wr.frozen? ⟨w.heap.size + 1 + i, k, none⟩ = false := by
  obtain ⟨arr, h1, h2, h3⟩ := h.hM i hi
  have hlt : k < arr.size := by omega
  exact ⟨⟨arr[k], (blk_cell h1 k).trans (by simp [hlt])⟩, blk_frozen h1 k⟩
theorem LS.mono {D' : Nat → Nat → Prop} (h : LS w l0 l1 R D wr) (hD : ∀ i k, i < R → k ≤ l1.length → D' i k → D i k) : LS w l0 l1 R D' wr :=
  ⟨h.below, h.size, h.hR, h.hO, fun i hi => by
    obtain ⟨arr, h1, h2, h3⟩ := h.hM i hi
    exact ⟨arr, h1, h2, fun k hk hd => h3 k hk (hD i k hi hk hd)⟩⟩
theorem LS.drewN (h : LS w l0 l1 R D wr) (n : Nat) : LS w l0 l1 R D (wr.drewN n) := ⟨pw_below_drewN h.below n, h.size, h.hR, h.hO, h.hM⟩
/-- A store into a row. -/
theorem LS.set (h : LS w l0 l1 R D wr) (i k : Nat) (hi : i < R) (hk : k ≤ l1.length) (v : Value) :
    LS w l0 l1 R (fun i' k' => (D i' k' ∧ ¬ (i' = i ∧ k' = k)) ∨ (i' = i ∧ k' = k ∧ v = .int .i64 (lcs (l0.drop i) (l1.drop k) : Nat))) (wr.setCell ⟨w.heap.size + 1 + i, k, none⟩ v) := by
  refine ⟨h.below.setCell (by dsimp only; omega) _, by simpa [World.setCell] using h.size, h.hR, ?_, fun i' hi' => ?_⟩
  · obtain ⟨rows, h1, h2, h3⟩ := h.hO
    exact ⟨rows, blk_far h1 (by dsimp only; omega) _, h2, h3⟩
  · obtain ⟨arr, h1, h2, h3⟩ := h.hM i' hi'
    by_cases he : i' = i
    · subst he
      refine ⟨_, blk_set h1 k v, by simpa using h2, fun k' hk' hd => ?_⟩
      rcases hd with ⟨hd, hne⟩ | ⟨_, rfl, rfl⟩
      · have : k ≠ k' := fun e => hne ⟨rfl, e.symm⟩
        rw [Array.getElem?_setIfInBounds_ne this]
        exact h3 k' hk' hd
      · have hlt : k' < arr.size := by omega
        simp [hlt]
    · refine ⟨arr, blk_far h1 (by dsimp only; omega) _, h2, fun k' hk' hd => h3 k' hk' ?_⟩
      rcases hd with ⟨hd, _⟩ | ⟨e, _⟩
      · exact hd
      · exact absurd e he
/-- A new row. -/
theorem LS.row (h : LS w l0 l1 R D wr) (hsz : wr.heap.size = w.heap.size + 1 + R) (hR : R ≤ l0.length) (hD : ∀ k, k ≤ l1.length → D R k → lcs (l0.drop R) (l1.drop k) = 0) :
    LS w l0 l1 (R + 1) D ((wr.alloc (.cells (zerosI (l1.length + 1)) 3)).setCell ⟨w.heap.size, R, none⟩ (.slice (some ⟨wr.heap.size, 0, none⟩) (l1.length + 1) (l1.length + 1))) := by
  have hal := Below.heap_alloc wr (.cells (zerosI (l1.length + 1)) 3)
  refine ⟨(h.below.alloc (by omega) _).setCell (Nat.le_refl _) _, by simp [World.setCell]; omega, by omega, ?_, fun i hi => ?_⟩
  · obtain ⟨rows, h1, h2, h3⟩ := h.hO
    refine ⟨_, blk_set ((hal _ (by omega)).trans h1) R _, by simpa using h2, fun i hi => ?_⟩
    by_cases he : i = R
    · subst he
      have hlt : i < rows.size := by omega
      rw [hsz]
      simp [hlt]
    · rw [Array.getElem?_setIfInBounds_ne (fun e => he e.symm)]
      exact h3 i (by omega)
  · by_cases he : i = R
    · subst he
      refine ⟨zerosI (l1.length + 1), blk_far ?_ (by dsimp only; omega) _, zerosI_size _, fun k hk hd => ?_⟩
      · rw [← hsz]; exact heap_alloc_new _ _
      · rw [zerosI_get _ _ (by omega), hD k hk hd]; rfl
    · obtain ⟨arr, h1, h2, h3⟩ := h.hM i (by omega)
      exact ⟨arr, blk_far ((hal _ (by omega)).trans h1) (by dsimp only; omega) _, h2, h3⟩
theorem LS.start (w : World) (l0 l1 : List ByteArray) (D : Nat → Nat → Prop) : LS w l0 l1 0 D (w.alloc (.cells (nilRows (l0.length + 1)) 53)) :=
  ⟨(Below.refl _ _).alloc (Nat.le_refl _) _, by simp, by omega, ⟨_, heap_alloc_new _ _, nilRows_size _, fun i hi => by omega⟩, fun i hi => by omega⟩
end

set_option maxRecDepth 100000 in
set_option maxHeartbeats 2000000 in
theorem lengths_calls (A0 : Option Addr) (c0 : Nat) (l0 : List ByteArray) (A1 : Option Addr) (c1 : Nat) (l1 : List ByteArray) (w : World) (hr0 : Kd.C Kd.string w A0 l0.length l0) (hr1 : Kd.C Kd.string w A1 l1.length l1) (s0 : l0.length ≤ 2000) (s1 : l1.length ≤ 2000) :
    Calls Try.prog 32 #[.slice A0 l0.length c0, .slice A1 l1.length c1] w fun e w' => e = .returned (.slice (some ⟨w.heap.size, 0, none⟩) (l0.length + 1) (l0.length + 1)) ∧ LS w l0 l1 (l0.length + 1) (fun _ _ => True) w' := by
  have HR0 := Aside0.mk hr0
  have HR1 := Aside0.mk hr1
  clear hr0 hr1
  have hmkR := fun W => run_mkR (l0.length + 1) (by omega) W ((l0.length : Int) + 1) (by omega)
  have hmkI := fun W => run_mkI (l1.length + 1) (by omega) W ((l1.length : Int) + 1) (by omega)
  go_enter Try.func32, Try.ntmps32
  go_wp2
  clear hmkR
  go_loopw [6] (fun i wr => ∃ m : Nat, m ≤ l0.length + 1 ∧ i = .int .i64 (m : Int) ∧ wr.heap.size = w.heap.size + 1 + m ∧ Aside0 (LS w l0 l1 m (fun i' k' => i' = l0.length ∨ k' = l1.length) wr)) (fun i _ => l0.length + 1 - (intOf i).toNat)
  case atStart => exact ⟨0, by omega, rfl, by simp, ⟨LS.start _ _ _ _⟩⟩
  case round =>
    obtain ⟨m, hm, rfl, hsz, HL⟩ := hrel
    have HSZ := Aside0.mk hsz
    clear hsz
    by_cases hlt : m < l0.length + 1
    · have hrow := HL.out.row HSZ.out (by omega) (fun k hk hd => by
        rcases hd with hd | hd
        · rw [hd, List.drop_of_length_le (Nat.le_refl _), lcs_nil]
        · rw [hd, List.drop_of_length_le (Nat.le_refl _), lcs_nil'])
      have HROW := Aside0.mk hrow
      have hle : (m : Int) ≤ (l0.length : Int) := by omega
      obtain ⟨⟨v, cO⟩, fO⟩ := HL.out.cO' m (by omega)
      have cO2 : ∀ ob, (wr.alloc ob).cell? ⟨w.heap.size, m, none⟩ = some v := fun ob => by
        have hb := Below.heap_alloc wr ob w.heap.size (by have := HSZ.out; omega)
        exact (World.cell?_of_block hb).trans cO
      have fO2 : ∀ ob, (wr.alloc ob).frozen? ⟨w.heap.size, m, none⟩ = false := fun ob => by
        have hb := Below.heap_alloc wr ob w.heap.size (by have := HSZ.out; omega)
        exact (World.frozen?_of_block hb).trans fO
      clear hrow cO fO
      go_wp2
      go_roundw
      case rel => exact ⟨m + 1, by omega, by go_num, by have := HSZ.out; simp [World.setCell]; omega, HROW⟩
      case measure => simp [intOf]; omega
    · obtain rfl : m = l0.length + 1 := by omega
      have hgt : ¬ (((l0.length + 1 : Nat) : Int) ≤ (l0.length : Int)) := by omega
      clear hmkI hlt
      have HL0 : Aside0 (LS w l0 l1 (l0.length + 1) (fun i' k' => l0.length ≤ i' ∨ k' = l1.length) wr) := ⟨HL.out.mono (fun i' k' hi' hk' hd => by omega)⟩
      clear HL HSZ hm
      go_wp2
      go_loopw [7] (fun i wr => ∃ m : Nat, m ≤ l0.length ∧ i = .int .i64 ((m : Int) - 1) ∧ Aside0 (LS w l0 l1 (l0.length + 1) (fun i' k' => m ≤ i' ∨ k' = l1.length) wr)) (fun i _ => (intOf i + 1).toNat)
      case atStart => exact ⟨l0.length, by omega, rfl, HL0⟩
      case round =>
        obtain ⟨m, hm, rfl, HM⟩ := hrel
        cases m with
        | zero =>
          rw [show (((0 : Nat) : Int) - 1) = (-1 : Int) by omega]
          have HF : Aside0 (LS w l0 l1 (l0.length + 1) (fun _ _ => True) wr) := ⟨HM.out.mono (fun i' k' hi' hk' hd => .inl (Nat.zero_le _))⟩
          clear HM hm
          go_wp2
          go_ret
          exact ⟨rfl, HF.out⟩
        | succ i =>
          rw [show (((i + 1 : Nat) : Int) - 1) = (i : Int) by omega]
          have hi : i < l0.length := by omega
          go_wp2
          go_loopw [8] (fun k wr' => ∃ m : Nat, m ≤ l1.length ∧ k = .int .i64 ((m : Int) - 1) ∧ Aside0 (LS w l0 l1 (l0.length + 1) (fun i' k' => i + 1 ≤ i' ∨ k' = l1.length ∨ (i' = i ∧ m ≤ k')) wr')) (fun k _ => (intOf k + 1).toNat)
          case atStart => exact ⟨l1.length, by omega, rfl, ⟨HM.out.mono (fun i' k' hi' hk' hd => by omega)⟩⟩
          case round =>
            obtain ⟨m, hm', rfl, HM2⟩ := hrel
            cases m with
            | zero =>
              rw [show (((0 : Nat) : Int) - 1) = (-1 : Int) by omega]
              go_wp2
              go_roundw
              case rel => exact ⟨i, by omega, rfl, ⟨HM2.out.mono (fun i' k' hi' hk' hd => by omega)⟩⟩
              case measure => simp [intOf]
            | succ k =>
              rw [show (((k + 1 : Nat) : Int) - 1) = (k : Int) by omega]
              have hk : k < l1.length := by omega
              have hM := HM2.out
              have cI := hM.cO i (by omega)
              have cI1 := hM.cO (i + 1) (by omega)
              have cR := hM.cM (i + 1) k (by omega) (by omega) (by omega)
              have cK := hM.cM i (k + 1) (by omega) (by omega) (by omega)
              have cD := hM.cM (i + 1) (k + 1) (by omega) (by omega) (by omega)
              obtain ⟨⟨vE, cE⟩, fE⟩ := hM.cM' i k (by omega) (by omega)
              have bD := (lcs_le (l0.drop (i + 1)) (l1.drop (k + 1))).1
              have hL := lcs_at l0 l1 i k hi hk
              rw [List.length_drop] at bD
              obtain ⟨gI, hgI⟩ : ∃ g, g = w.heap.size + 1 + i := ⟨_, rfl⟩
              obtain ⟨gJ, hgJ⟩ : ∃ g, g = w.heap.size + 1 + (i + 1) := ⟨_, rfl⟩
              have hset := fun (W : World) (h : LS w l0 l1 (l0.length + 1) (fun i' k' => i + 1 ≤ i' ∨ k' = l1.length ∨ (i' = i ∧ k + 1 ≤ k')) W) (v : Value) => h.set i k (by omega) (by omega) v
              have hset2 := fun (W : World) (h : LS w l0 l1 (l0.length + 1) (fun i' k' => i + 1 ≤ i' ∨ k' = l1.length ∨ (i' = i ∧ k + 1 ≤ k')) W) => (h.set i k (by omega) (by omega) (.int .i64 (lcs (l0.drop i) (l1.drop k) : Nat))).mono (D' := fun i' k' => i + 1 ≤ i' ∨ k' = l1.length ∨ (i' = i ∧ k ≤ k')) (fun i' k' hi' hk' hd => by
                by_cases he : i' = i ∧ k' = k
                · exact .inr ⟨he.1, he.2, rfl⟩
                · exact .inl ⟨by omega, he⟩)
              have hset3 := fun (W : World) (h : LS w l0 l1 (l0.length + 1) (fun i' k' => i + 1 ≤ i' ∨ k' = l1.length ∨ (i' = i ∧ k + 1 ≤ k')) W) (v : Value) => (h.set i k (by omega) (by omega) v).mono (D' := fun i' k' => i + 1 ≤ i' ∨ k' = l1.length ∨ (i' = i ∧ k + 1 ≤ k')) (fun i' k' hi' hk' hd => .inl ⟨hd, by omega⟩)
              clear hset
              have hall : ∀ (W : World) (h : LS w l0 l1 (l0.length + 1) (fun i' k' => i + 1 ≤ i' ∨ k' = l1.length ∨ (i' = i ∧ k + 1 ≤ k')) W), W.cell? ⟨w.heap.size, i, none⟩ = some (.slice (some ⟨w.heap.size + 1 + i, 0, none⟩) (l1.length + 1) (l1.length + 1)) ∧ W.cell? ⟨w.heap.size, i + 1, none⟩ = some (.slice (some ⟨w.heap.size + 1 + (i + 1), 0, none⟩) (l1.length + 1) (l1.length + 1)) ∧ W.cell? ⟨w.heap.size + 1 + (i + 1), k + 1, none⟩ = some (.int .i64 (lcs (l0.drop (i + 1)) (l1.drop (k + 1)) : Nat)) ∧ (∃ v, W.cell? ⟨w.heap.size + 1 + i, k, none⟩ = some v) ∧ W.frozen? ⟨w.heap.size + 1 + i, k, none⟩ = false := fun W h =>
                ⟨h.cO i (by omega), h.cO (i + 1) (by omega), h.cM (i + 1) (k + 1) (by omega) (by omega) (by omega), (h.cM' i k (by omega) (by omega)).1, (h.cM' i k (by omega) (by omega)).2⟩
              rw [← hgI] at cI cK cE fE hset2 hset3 hall
              rw [← hgJ] at cI1 cR cD hall
              generalize lcs (l0.drop (i + 1)) (l1.drop (k + 1)) = nD at *
              generalize lcs (l0.drop (i + 1)) (l1.drop k) = nR at *
              generalize lcs (l0.drop i) (l1.drop (k + 1)) = nK at *
              generalize lcs (l0.drop i) (l1.drop k) = nE at *
              have HALL := Aside0.mk hall
              have HS2 := Aside0.mk hset2
              have HS3 := Aside0.mk hset3
              have HLC := Aside0.mk hL
              have HG := Aside0.mk hgI
              have HG2 := Aside0.mk hgJ
              have HM3 := Aside0.mk hM
              clear hset2 hset3 hL hgI hgJ hM hall
              go_wp2_with fail
              refine wp_region_still_tail 23 (by kernel_rfl) (by kernel_rfl) ?_
              simp only [List.take_succ_cons, List.take_zero, List.drop_succ_cons, List.drop_zero]
              have MW : LS w l0 l1 _ _ ({ wr with drawn := wr.drawn + 1 } : World) := HM3.out.drewN 1
              have cI' : ({ wr with drawn := wr.drawn + 1 } : World).cell? ⟨w.heap.size, i, none⟩ = some (.slice (some ⟨gI, 0, none⟩) (l1.length + 1) (l1.length + 1)) := cI
              have cI1' : ({ wr with drawn := wr.drawn + 1 } : World).cell? ⟨w.heap.size, i + 1, none⟩ = some (.slice (some ⟨gJ, 0, none⟩) (l1.length + 1) (l1.length + 1)) := cI1
              have cR' : ({ wr with drawn := wr.drawn + 1 } : World).cell? ⟨gJ, k, none⟩ = some (.int .i64 nR) := cR
              have cK' : ({ wr with drawn := wr.drawn + 1 } : World).cell? ⟨gI, k + 1, none⟩ = some (.int .i64 nK) := cK
              have cE' : ({ wr with drawn := wr.drawn + 1 } : World).cell? ⟨gI, k, none⟩ = some vE := cE
              have fE' : ({ wr with drawn := wr.drawn + 1 } : World).frozen? ⟨gI, k, none⟩ = false := fE
              clear cI cI1 cR cK cE fE cD
              generalize ({ wr with drawn := wr.drawn + 1 } : World) = w2 at *
              have MW2 := Aside0.mk MW
              clear MW
              have wi : IntKind.i64.wrap ((i : Int) + 1) = (i : Int) + 1 := by rw [IntKind.wrap_i64]; omega
              have wk : IntKind.i64.wrap ((k : Int) + 1) = (k : Int) + 1 := by rw [IntKind.wrap_i64]; omega
              have ti : ((i : Int) + 1).toNat = i + 1 := by omega
              have tk : ((k : Int) + 1).toNat = k + 1 := by omega
              have p1 : 0 ≤ (i : Int) + 1 := by omega
              have p2 : 0 ≤ (k : Int) + 1 := by omega
              have q0 : (i : Int) < (l0.length : Int) + 1 := by omega
              have q1 : (i : Int) + 1 < (l0.length : Int) + 1 := by omega
              have q2 : (k : Int) < (l1.length : Int) + 1 := by omega
              have q3 : (k : Int) + 1 < (l1.length : Int) + 1 := by omega
              obtain ⟨mx, hmx⟩ : ∃ mx : Int, (if nR < nK then (nK : Int) else (nR : Int)) = mx := ⟨_, rfl⟩
              iterate 23 still_step
              refine wpStill_nil ?_
              have HMX := Aside0.mk hmx
              clear cI' cI1' cR' cK' hmx
              go_wp2_with fail
              by_cases hs : (rdOf ByteArray.empty l0 (i : Int)).toList = (rdOf ByteArray.empty l1 (k : Int)).toList
              · have hL := HLC.out
                rw [if_pos hs] at hL
                have hsb := beq_iff_eq.mpr hs
                have HL := Aside0.mk hL
                have M3 := HS3.out w2 MW2.out (.int .i64 mx)
                clear hL hs cE' fE'
                generalize w2.setCell ⟨gI, k, none⟩ (.int .i64 mx) = w3 at *
                obtain ⟨ad0, e0, hx0⟩ := Kd.at_string (Kd.C_below HR0.out M3.below) (i : Int) (by omega) (by omega)
                obtain ⟨ad1, e1, hx1⟩ := Kd.at_string (Kd.C_below HR1.out M3.below) (k : Int) (by omega) (by omega)
                cases e0
                cases e1
                simp only [Int.toNat_natCast] at hx0 hx1
                have MM3 := Aside0.mk M3
                clear M3 MW2
                go_quiet (fail)
                go_wp2_with fail
                refine wp_region_still_tail 16 (by kernel_rfl) (by kernel_rfl) ?_
                simp only [List.take_succ_cons, List.take_zero, List.drop_succ_cons, List.drop_zero]
                have MW : LS w l0 l1 _ _ ({ w3.drewN nq with drawn := (w3.drewN nq).drawn + 1 } : World) := (MM3.out.drewN nq).drewN 1
                clear hx0 hx1
                generalize ({ w3.drewN nq with drawn := (w3.drewN nq).drawn + 1 } : World) = w4 at *
                obtain ⟨cI, cI1, cD, ⟨vE2, cE⟩, fE⟩ := HALL.out w4 MW
                have MW4 := Aside0.mk MW
                clear MW
                have wn : IntKind.i64.wrap (1 + (nD : Int)) = 1 + (nD : Int) := by rw [IntKind.wrap_i64]; omega
                iterate 16 still_step
                refine wpStill_nil ?_
                clear wi wk wn
                go_wp2
                go_roundw
                case rel =>
                  refine ⟨k, by omega, rfl, ⟨?_⟩⟩
                  have h := HS2.out w4 MW4.out
                  rw [HL.out] at h
                  rw [show (1 + (nD : Int)) = ((nD + 1 : Nat) : Int) by omega]
                  exact h
                case measure => simp [intOf]
              · have hL := HLC.out
                rw [if_neg hs] at hL
                have hsb := beq_eq_false_iff_ne.mpr hs
                have M3 := HS2.out w2 MW2.out
                have hv : (nE : Int) = mx := by rw [← HMX.out, hL]; split <;> omega
                rw [hv] at M3
                clear hL hs cE' fE' hv
                generalize w2.setCell ⟨gI, k, none⟩ (.int .i64 mx) = w3 at *
                obtain ⟨ad0, e0, hx0⟩ := Kd.at_string (Kd.C_below HR0.out M3.below) (i : Int) (by omega) (by omega)
                obtain ⟨ad1, e1, hx1⟩ := Kd.at_string (Kd.C_below HR1.out M3.below) (k : Int) (by omega) (by omega)
                cases e0
                cases e1
                simp only [Int.toNat_natCast] at hx0 hx1
                have MM3 := Aside0.mk M3
                clear M3 MW2 wi wk
                go_quiet (fail)
                go_wp2
                go_roundw
                case rel => exact ⟨k, by omega, rfl, ⟨MM3.out.drewN _⟩⟩
                case measure => simp [intOf]

theorem mtFrom_inc {α : Type} [DecidableEq α] (n : Nat) : ∀ (a b : List α) (i k : Nat), (mtFrom n a b i k).Pairwise (fun p q => p.1 < q.1) := by
  induction n with
  | zero => intro a b i k; simp [mtFrom]
  | succ n ih =>
    intro a b i k
    cases a with
    | nil => simp [mtFrom]
    | cons x xs =>
      cases b with
      | nil => simp [mtFrom]
      | cons y ys =>
        simp only [mtFrom]
        split
        · rw [List.pairwise_cons]
          refine ⟨fun q hq => ?_, ih _ _ _ _⟩
          have := mtFrom_mem _ _ _ _ _ _ hq
          simp only
          omega
        · split
          · exact ih _ _ _ _
          · exact ih _ _ _ _
theorem mt_inj {a b : List ByteArray} {p q : Nat × Nat} (hp : p ∈ mt a b) (hq : q ∈ mt a b) (he : p.1 = q.1) : p = q := by
  obtain ⟨i, hi, rfl⟩ := List.getElem_of_mem hp
  obtain ⟨j, hj, rfl⟩ := List.getElem_of_mem hq
  have h' := List.pairwise_iff_getElem.1 (mtFrom_inc (a.length + b.length) a b 0 0)
  rcases Nat.lt_trichotomy i j with h1 | h1 | h1
  · have := h' i j hi hj h1; unfold mt at he; omega
  · subst h1; rfl
  · have := h' j i hj hi h1; unfold mt at he; omega
/-- With which place of the other list a place is matched, -1 if with none. -/
def matVal (m : List (Nat × Nat)) (i : Nat) : Int := match m.find? (fun q => q.1 == i) with | some q => (q.2 : Int) | none => -1
def matV (a b : List ByteArray) : List Int := (List.range a.length).map (matVal (mt a b))
theorem matVal_none {m : List (Nat × Nat)} {i : Nat} (h : ∀ p ∈ m, p.1 ≠ i) : matVal m i = -1 := by
  unfold matVal
  have : m.find? (fun q => q.1 == i) = none := by
    rw [List.find?_eq_none]
    intro p hp
    have := h p hp
    simpa using this
  rw [this]
theorem matVal_some {m : List (Nat × Nat)} {i b : Nat} (h : (i, b) ∈ m) (hu : ∀ p ∈ m, p.1 = i → p.2 = b) : matVal m i = (b : Int) := by
  unfold matVal
  cases hf : m.find? (fun q => q.1 == i) with
  | none =>
    rw [List.find?_eq_none] at hf
    exact absurd (hf _ h) (by simp)
  | some q =>
    have h1 := List.mem_of_find?_eq_some hf
    have h2 := List.find?_some hf
    simp only [beq_iff_eq] at h2
    simp only
    rw [hu q h1 h2]

theorem LS.far {w wr : World} {l0 l1 : List ByteArray} {R : Nat} {D : Nat → Nat → Prop} (h : LS w l0 l1 R D wr) (g j : Nat) (hg : w.heap.size + 1 + R ≤ g) (v : Value) : LS w l0 l1 R D (wr.setCell ⟨g, j, none⟩ v) := by
  refine ⟨h.below.setCell (by dsimp only; omega) _, by simpa [World.setCell] using h.size, h.hR, ?_, fun i hi => ?_⟩
  · obtain ⟨rows, h1, h2⟩ := h.hO
    exact ⟨rows, blk_far h1 (by dsimp only; omega) _, h2⟩
  · obtain ⟨arr, h1, h2⟩ := h.hM i hi
    exact ⟨arr, blk_far h1 (by dsimp only; omega) _, h2⟩
theorem LS.alloc {w wr : World} {l0 l1 : List ByteArray} {R : Nat} {D : Nat → Nat → Prop} (h : LS w l0 l1 R D wr) (ob : Obj) : LS w l0 l1 R D (wr.alloc ob) := by
  have hs := h.size
  have hal := Below.heap_alloc wr ob
  refine ⟨below_alloc h.below _, by simp; omega, h.hR, ?_, fun i hi => ?_⟩
  · obtain ⟨rows, h1, h2⟩ := h.hO
    exact ⟨rows, (hal _ (by omega)).trans h1, h2⟩
  · obtain ⟨arr, h1, h2⟩ := h.hM i hi
    exact ⟨arr, (hal _ (by omega)).trans h1, h2⟩

/-- The list that is written: the places ahead of a have their values. -/
structure XS (w : World) (l0 l1 : List ByteArray) (g a : Nat) (wr : World) : Prop where
  ls : LS w l0 l1 (l0.length + 1) (fun _ _ => True) wr
  lo : w.heap.size + 1 + (l0.length + 1) ≤ g
  hX : ∃ arr : Array Value, wr.heap[g]? = some (.cells arr 3 (0, 0)) ∧ arr.size = l0.length ∧ ∀ j, j < a → arr[j]? = some (.int .i64 (matVal (mt l0 l1) j))
section
variable {w wr : World} {l0 l1 : List ByteArray} {g a : Nat}
theorem XS.drewN (h : XS w l0 l1 g a wr) (n : Nat) : XS w l0 l1 g a (wr.drewN n) := ⟨h.ls.drewN n, h.lo, h.hX⟩
theorem XS.cX (h : XS w l0 l1 g a wr) (j : Nat) (hj : j < l0.length) : (∃ v, wr.cell? ⟨g, j, none⟩ = some v) ∧ wr.frozen? ⟨g, j, none⟩ = false := by
  obtain ⟨arr, h1, h2, h3⟩ := h.hX
  have hlt : j < arr.size := by omega
  exact ⟨⟨arr[j], (blk_cell h1 j).trans (by simp [hlt])⟩, blk_frozen h1 j⟩
theorem XS.set (h : XS w l0 l1 g a wr) (ha : a < l0.length) (v : Value) : XS w l0 l1 g a (wr.setCell ⟨g, a, none⟩ v) := by
  obtain ⟨arr, h1, h2, h3⟩ := h.hX
  refine ⟨h.ls.far g a h.lo v, h.lo, _, blk_set h1 a v, by simpa using h2, fun j hj => ?_⟩
  rw [Array.getElem?_setIfInBounds_ne (by omega)]
  exact h3 j hj
theorem XS.put (h : XS w l0 l1 g a wr) (ha : a < l0.length) : XS w l0 l1 g (a + 1) (wr.setCell ⟨g, a, none⟩ (.int .i64 (matVal (mt l0 l1) a))) := by
  obtain ⟨arr, h1, h2, h3⟩ := h.hX
  refine ⟨h.ls.far g a h.lo _, h.lo, _, blk_set h1 a _, by simpa using h2, fun j hj => ?_⟩
  by_cases he : j = a
  · subst he
    have hlt : j < arr.size := by omega
    simp [hlt]
  · rw [Array.getElem?_setIfInBounds_ne (by omega)]
    exact h3 j (by omega)
theorem XS.own (h : XS w l0 l1 g l0.length wr) (s0 : l0.length ≤ 2000) : Kd.R (Kd.int .i64) 3 wr w.heap.size (fun _ => True) (.slice (some ⟨g, 0, none⟩) l0.length l0.length) (matV l0 l1) := by
  obtain ⟨arr, h1, h2, h3⟩ := h.hX
  have hlo := h.lo
  have hlen : (matV l0 l1).length = l0.length := by simp [matV]
  refine ⟨fun _ _ => trivial, arr.toList, ⟨by rw [hlen]; simp [h2, Kd.int, Kd.scalar], .inr ⟨g, l0.length, arr, by rw [hlen], by omega, h1, by rw [hlen]; exact Nat.le_refl _, by unfold maxLen; omega, by rw [h2]; simp [Kd.int, Kd.scalar], ?_⟩⟩, ⟨by rw [hlen]; simp [h2, Kd.int, Kd.scalar], fun j p hj => ?_⟩⟩
  · rw [hlen]
    exact List.take_of_length_le (by simp [h2, Kd.int, Kd.scalar])
  · have hjl : j < l0.length := by rw [← hlen]; exact (List.getElem?_eq_some_iff.1 hj).1
    have hp : p = matVal (mt l0 l1) j := by
      have : (matV l0 l1)[j]? = some (matVal (mt l0 l1) j) := by simp [matV, hjl]
      rw [this] at hj
      exact (Option.some.inj hj).symm
    subst hp
    have hsz : (Kd.int .i64).sz = 1 := rfl
    rw [hsz, Nat.mul_one]
    have ha := h3 j hjl
    have hlt : j < arr.toList.length := by simp [h2]; exact hjl
    rw [List.drop_eq_getElem_cons hlt]
    show List.take 1 (arr.toList[j] :: _) = [_]
    simp only [List.take_succ_cons, List.take_zero, List.cons.injEq, and_true]
    have : arr[j]? = some arr.toList[j] := by simp [h2, hjl]
    rw [this] at ha
    exact Option.some.inj ha
end

set_option maxRecDepth 100000 in
set_option maxHeartbeats 2000000 in
theorem refMatching_calls (A0 : Option Addr) (c0 : Nat) (l0 : List ByteArray) (A1 : Option Addr) (c1 : Nat) (l1 : List ByteArray) (w : World) (hr0 : Kd.C Kd.string w A0 l0.length l0) (hr1 : Kd.C Kd.string w A1 l1.length l1) (s0 : l0.length ≤ 2000) (s1 : l1.length ≤ 2000) :
    Calls Try.prog 27 #[.slice A0 l0.length c0, .slice A1 l1.length c1] w fun e w' => ∃ v0_ : Value, e = .returned (v0_) ∧ Kd.R (Kd.int .i64) 3 w' w.heap.size (fun _ => True) v0_ (matV l0 l1) ∧ Below w.heap.size w w' := by
  have HR0 := Aside0.mk hr0
  have HR1 := Aside0.mk hr1
  clear hr0 hr1
  have hmkI := fun W => run_mkI l0.length (by omega) W (l0.length : Int) rfl
  go_enter Try.func27, Try.ntmps27
  go_wp2_with fail
  ((with_reducible refine (lengths_calls _ _ _ _ _ _ _ HR0.out HR1.out s0 s1).mono ?_); rintro e w1 ⟨rfl, hL1⟩)
  have HXS : Aside0 (XS w l0 l1 w1.heap.size 0 (w1.alloc (.cells (zerosI l0.length) 3))) := ⟨hL1.alloc _, hL1.size, _, heap_alloc_new _ _, zerosI_size _, fun j hj => by omega⟩
  clear hL1
  go_wp2
  clear hmkI
  generalize w1.heap.size = gX at *
  go_loopw [7, 8] (fun i k wr => ∃ (a b n : Nat) (acc : List (Nat × Nat)), a ≤ l0.length ∧ b ≤ l1.length ∧ i = .int .i64 (a : Int) ∧ k = .int .i64 (b : Int) ∧ Aside0 ((l0.length - a) + (l1.length - b) ≤ n) ∧ Aside0 (acc ++ mtFrom n (l0.drop a) (l1.drop b) a b = mt l0 l1 ∧ ∀ p ∈ acc, p.1 < a) ∧ Aside0 (XS w l0 l1 gX a wr)) (fun i k _ => (l0.length - (intOf i).toNat) + (l1.length - (intOf k).toNat))
  case atStart => exact ⟨0, 0, _, [], by omega, by omega, rfl, rfl, ⟨Nat.le_refl _⟩, ⟨rfl, fun p hp => by cases hp⟩, HXS⟩
  case round =>
    obtain ⟨a, b, n, acc, ha, hb, rfl, rfl, HN, HACC, HX⟩ := hrel
    by_cases hla : a < l0.length
    · have hX := HX.out
      obtain ⟨⟨v, cX⟩, fX⟩ := hX.cX a hla
      have hX1 := hX.set hla (.int .i64 (-1))
      have hnone : (∀ p ∈ mtFrom n (l0.drop a) (l1.drop b) a b, p.1 ≠ a) → matVal (mt l0 l1) a = -1 := fun h => matVal_none (fun p hp => by
        rw [← HACC.out.1] at hp
        rcases List.mem_append.1 hp with hp | hp
        · have := HACC.out.2 p hp; omega
        · exact h p hp)
      have HNO := Aside0.mk hnone
      have HXN : Aside0 (matVal (mt l0 l1) a = -1 → XS w l0 l1 gX (a + 1) (wr.setCell ⟨gX, a, none⟩ (.int .i64 (-1)))) := ⟨fun h => by have := hX.put hla; rwa [h] at this⟩
      clear hX hnone
      by_cases hlb : b < l1.length
      · obtain ⟨n, rfl⟩ : ∃ n', n = n' + 1 := ⟨n - 1, by have := HN.out; omega⟩
        have hstep := mt_at l0 l1 n a b hla hlb
        have hbne : ((b : Int) == (l1.length : Int)) = false := beq_eq_false_iff_ne.mpr (by omega)
        have hbne2 : (b == l1.length) = false := beq_eq_false_iff_ne.mpr (by omega)
        by_cases hs : (rdOf ByteArray.empty l0 (a : Int)).toList = (rdOf ByteArray.empty l1 (b : Int)).toList
        · rw [if_pos hs] at hstep
          have hsb := beq_iff_eq.mpr hs
          have hin : matVal (mt l0 l1) a = (b : Int) := by
            have hmem : (a, b) ∈ mt l0 l1 := by rw [← HACC.out.1, hstep]; simp
            exact matVal_some hmem (fun p hp he => by
              have := mt_inj hp hmem he
              rw [this])
          have hX2 := fun nn => (hX1.drewN nn).put hla
          simp only [hin] at hX2
          have HX2 := Aside0.mk hX2
          have HST := Aside0.mk hstep
          obtain ⟨⟨v2, cX2⟩, fX2⟩ := hX1.cX a hla
          clear hs hstep hin hX2
          go_wp2_with fail
          generalize wr.setCell ⟨gX, a, none⟩ (.int .i64 (-1)) = w2 at *
          obtain ⟨ad0, e0, hx0⟩ := Kd.at_string (Kd.C_below HR0.out hX1.ls.below) (a : Int) (by omega) (by omega)
          obtain ⟨ad1, e1, hx1⟩ := Kd.at_string (Kd.C_below HR1.out hX1.ls.below) (b : Int) (by omega) (by omega)
          cases e0
          cases e1
          simp only [Int.toNat_natCast] at hx0 hx1
          clear hX1
          go_quiet (fail)
          go_wp2
          go_roundw
          case rel =>
            refine ⟨a + 1, b + 1, n, acc ++ [(a, b)], by omega, by omega, by go_num, by go_num, ⟨by have := HN.out; omega⟩, ⟨?_, ?_⟩, ⟨HX2.out nq⟩⟩
            · rw [← HACC.out.1, HST.out]; simp
            · intro p hp
              rcases List.mem_append.1 hp with hp | hp
              · have := HACC.out.2 p hp; omega
              · rw [List.mem_singleton.1 hp]; exact Nat.lt_succ_self _
          case measure => simp [intOf]; omega
        · rw [if_neg hs] at hstep
          have hsb := beq_eq_false_iff_ne.mpr hs
          have hLS := hX1.ls
          obtain ⟨gI, hgI⟩ : ∃ g, g = w.heap.size + 1 + a := ⟨_, rfl⟩
          obtain ⟨gJ, hgJ⟩ : ∃ g, g = w.heap.size + 1 + (a + 1) := ⟨_, rfl⟩
          have hall : ∀ (W : World) (h : LS w l0 l1 (l0.length + 1) (fun _ _ => True) W), W.cell? ⟨w.heap.size, a, none⟩ = some (.slice (some ⟨w.heap.size + 1 + a, 0, none⟩) (l1.length + 1) (l1.length + 1)) ∧ W.cell? ⟨w.heap.size, a + 1, none⟩ = some (.slice (some ⟨w.heap.size + 1 + (a + 1), 0, none⟩) (l1.length + 1) (l1.length + 1)) ∧ W.cell? ⟨w.heap.size + 1 + (a + 1), b, none⟩ = some (.int .i64 (lcs (l0.drop (a + 1)) (l1.drop b) : Nat)) ∧ W.cell? ⟨w.heap.size + 1 + a, b, none⟩ = some (.int .i64 (lcs (l0.drop a) (l1.drop b) : Nat)) := fun W h =>
            ⟨h.cO a (by omega), h.cO (a + 1) (by omega), h.cM (a + 1) b (by omega) (by omega) trivial, h.cM a b (by omega) (by omega) trivial⟩
          rw [← hgI, ← hgJ] at hall
          generalize lcs (l0.drop (a + 1)) (l1.drop b) = nR at *
          generalize lcs (l0.drop a) (l1.drop b) = nE at *
          have HALL := Aside0.mk hall
          have HG := Aside0.mk hgI
          have HG2 := Aside0.mk hgJ
          have HX1 := Aside0.mk hX1
          clear hs hall hgI hgJ hLS hX1
          go_wp2_with fail
          have hX1 := HX1.out
          clear HX1
          generalize wr.setCell ⟨gX, a, none⟩ (.int .i64 (-1)) = w2 at *
          obtain ⟨ad0, e0, hx0⟩ := Kd.at_string (Kd.C_below HR0.out hX1.ls.below) (a : Int) (by omega) (by omega)
          obtain ⟨ad1, e1, hx1⟩ := Kd.at_string (Kd.C_below HR1.out hX1.ls.below) (b : Int) (by omega) (by omega)
          cases e0
          cases e1
          simp only [Int.toNat_natCast] at hx0 hx1
          have HX1 := Aside0.mk hX1
          clear hX1
          by_cases hq : nR = nE
          all_goals
            first
            | rw [if_pos hq] at hstep
            | rw [if_neg hq] at hstep
            have HST := Aside0.mk hstep
            first
            | (have hqb : ((nR : Int) == (nE : Int)) = true := beq_iff_eq.mpr (by omega)
               have hqb2 : (nR == nE) = true := beq_iff_eq.mpr hq)
            | (have hqb : ((nR : Int) == (nE : Int)) = false := beq_eq_false_iff_ne.mpr (by omega)
               have hqb2 : (nR == nE) = false := beq_eq_false_iff_ne.mpr hq)
            clear hq hstep
            go_quiet (fail)
            go_wp2_with fail
            have hX3 := HX1.out.drewN nq
            have HXN2 : Aside0 (matVal (mt l0 l1) a = -1 → XS w l0 l1 gX (a + 1) (w2.drewN nq)) := ⟨fun h => (HXN.out h).drewN nq⟩
            clear hx0 hx1
            generalize w2.drewN nq = w3 at *
            obtain ⟨cI, cI1, cR, cE⟩ := HALL.out w3 hX3.ls
            have HX3 := Aside0.mk hX3
            clear hX3
            have wi : IntKind.i64.wrap ((a : Int) + 1) = (a : Int) + 1 := by rw [IntKind.wrap_i64]; omega
            have ti : ((a : Int) + 1).toNat = a + 1 := by omega
            have p1 : 0 ≤ (a : Int) + 1 := by omega
            have q0 : (a : Int) < (l0.length : Int) + 1 := by omega
            have q1 : (a : Int) + 1 < (l0.length : Int) + 1 := by omega
            have q2 : (b : Int) < (l1.length : Int) + 1 := by omega
            go_quiet (fail)
            clear wi
            go_wp2
            go_roundw
            case measure => simp [intOf]; omega
            case rel =>
              first
              | exact ⟨a + 1, b, n, acc, by omega, by omega, by go_num, rfl, ⟨by have := HN.out; omega⟩, ⟨by rw [← HACC.out.1, HST.out], fun p hp => by have := HACC.out.2 p hp; omega⟩, ⟨(HXN2.out (HNO.out (fun p hp => by rw [HST.out] at hp; have := mtFrom_mem _ _ _ _ _ _ hp; omega))).drewN _⟩⟩
              | exact ⟨a, b + 1, n, acc, by omega, by omega, rfl, by go_num, ⟨by have := HN.out; omega⟩, ⟨by rw [← HACC.out.1, HST.out], HACC.out.2⟩, ⟨HX3.out.drewN _⟩⟩
      · obtain rfl : b = l1.length := by omega
        have hXE := HXN.out (HNO.out (fun p hp => by
          rw [List.drop_of_length_le (Nat.le_refl _), mtFrom_nil] at hp
          cases hp))
        have HXE := Aside0.mk hXE
        clear hX1 hXE
        go_wp2
        go_roundw
        case rel =>
          refine ⟨a + 1, l1.length, n, acc, by omega, Nat.le_refl _, by go_num, rfl, ⟨by have := HN.out; omega⟩, ⟨?_, fun p hp => by have := HACC.out.2 p hp; omega⟩, HXE⟩
          rw [← HACC.out.1, List.drop_of_length_le (Nat.le_refl _), mtFrom_nil, mtFrom_nil]
        case measure => simp [intOf]; omega
    · obtain rfl : a = l0.length := by omega
      have hfin := HX.out.own s0
      have HF := Aside0.mk hfin
      have HB : Aside0 (Below w.heap.size w wr) := ⟨HX.out.ls.below⟩
      clear hfin hla
      go_wp2
      go_ret
      exact ⟨_, rfl, HF.out, HB.out⟩

end Go.Proofs.Ytebhophblgpjeaa.Seq
