/- What the memory of Merge holds from round to round. -/
import Derived.Test.YtebhophblgpjeaaSeqM2
namespace Go.Proofs.Ytebhophblgpjeaa.Seq
open Go.RowKit Go.Proofs.YtebhophblgpjeaaW.PrintWords Go.Proofs.YtebhophblgpjeaaW.PrintLast Go.Proofs.YtebhophblgpjeaaW.PrintMore
attribute [local go_sem] max2_int min2_int max_two min_two max_three min_three max_four min_four
set_option linter.unusedVariables false
set_option linter.unusedSimpArgs false

theorem C_take {w : World} {A : Option Addr} {n : Nat} {xs : List ByteArray} (h : Kd.C Kd.string w A n xs) (m : Nat) (hm : m ≤ n) : Kd.C Kd.string w A m (xs.take m) := by
  obtain ⟨h1, h2, h3⟩ := h
  refine ⟨by rw [List.length_take]; omega, by omega, fun hp => ?_⟩
  obtain ⟨ad, e, hc⟩ := h3 (by omega)
  refine ⟨ad, e, fun j p hj => hc j p ?_⟩
  rw [List.getElem?_take] at hj
  split at hj
  · exact hj
  · cases hj
theorem C_drop {w : World} {A : Option Addr} {n c : Nat} {xs : List ByteArray} (h : Kd.C Kd.string w A n xs) (hc : n ≤ c) (m : Nat) (hm : m ≤ n) : Kd.C Kd.string w (dropA A c m) (n - m) (xs.drop m) := by
  obtain ⟨h1, h2, h3⟩ := h
  refine ⟨by rw [List.length_drop]; omega, by omega, fun hp => ?_⟩
  obtain ⟨ad, e, hc3⟩ := h3 (by omega)
  subst e
  unfold dropA
  rw [if_neg (by omega)]
  refine ⟨ad.add m, rfl, fun j p hj => ?_⟩
  rw [List.getElem?_drop] at hj
  obtain ⟨cs, hl, hr, hcell⟩ := hc3 (m + j) p hj
  refine ⟨cs, hl, hr, fun i u hu => ?_⟩
  have := hcell i u hu
  rw [← this]
  congr 1
  show (ad.add m).add (j * 1 + i) = ad.add ((m + j) * 1 + i)
  rw [Nat.mul_one, Nat.mul_one]
  unfold Addr.add
  by_cases hm0 : m = 0
  · subst hm0; simp
  · by_cases hj0 : j + i = 0
    · obtain ⟨rfl, rfl⟩ : j = 0 ∧ i = 0 := by omega
      simp [hm0]
    · have h1 : m + j + i ≠ 0 := by omega
      rw [if_neg hm0, if_neg hj0, if_neg h1]
      simp only [Addr.mk.injEq, true_and, and_true]
      omega

theorem cut_any (g : Nat) (A : Option Addr) (L c : Nat) (n : Nat) (x : Int) (hx : x = (n : Int)) (w : World) (hn : n ≤ L) (hL : L ≤ c) (hL2 : L ≤ 2000)
    (hc : w.heap[g]? = some (.cells #[.slice A L c] 51 (0, 0))) :
    Calls Try.prog 25 #[.pointer (some ⟨g, 0, none⟩), .int .i64 x] w fun e w' => e = .returned (.slice A n n) ∧
      ∃ nq, w' = (w.drewN nq).setCell ⟨g, 0, none⟩ (.slice (dropA A c (min (n + 1) L)) (L - min (n + 1) L) (c - min (n + 1) L)) := by
  subst hx
  exact cut_calls g A L c n w hn hL hL2 ((blk_cell hc 0).trans rfl) (blk_frozen hc 0)

/-- The three rests and the place behind the last stable pair. -/
structure MB (w5 : World) (l0 l1 l2 : List ByteArray) (i j k : Nat) (wr : World) : Prop where
  below : Below w5.heap.size w5 wr
  size : w5.heap.size + 4 ≤ wr.heap.size
  hX : ∃ A c, wr.heap[w5.heap.size]? = some (.cells #[.slice A (l0.length - i) c] 51 (0, 0)) ∧ l0.length - i ≤ c ∧ Kd.C Kd.string w5 A (l0.length - i) (l0.drop i)
  hY : ∃ A c, wr.heap[w5.heap.size + 1]? = some (.cells #[.slice A (l1.length - j) c] 51 (0, 0)) ∧ l1.length - j ≤ c ∧ Kd.C Kd.string w5 A (l1.length - j) (l1.drop j)
  hZ : ∃ A c, wr.heap[w5.heap.size + 1 + 1]? = some (.cells #[.slice A (l2.length - k) c] 51 (0, 0)) ∧ l2.length - k ≤ c ∧ Kd.C Kd.string w5 A (l2.length - k) (l2.drop k)
  hF : wr.heap[w5.heap.size + 1 + 1 + 1]? = some (.cells #[.int .i64 ((i : Int) - 1), .int .i64 ((j : Int) - 1), .int .i64 ((k : Int) - 1)] 48 (0, 0))

/-- The places that are left are in order. -/
def StOK (la lb lc : Nat) : Nat → Nat → Nat → List (Nat × Nat × Nat) → Prop
  | _, _, _, [] => True
  | i, j, k, (b, o, t) :: rest => (i ≤ b ∧ b ≤ la) ∧ (j ≤ o ∧ o ≤ lb) ∧ (k ≤ t ∧ t ≤ lc) ∧ StOK la lb lc (b + 1) (o + 1) (t + 1) rest

abbrev kdTri : Kd (Int × Int × Int) := Kd.pair (Kd.int .i64) (Kd.pair (Kd.int .i64) (Kd.int .i64))
def triV (l : List (Nat × Nat × Nat)) : List (Int × Int × Int) := l.map fun p => ((p.1 : Int), (p.2.1 : Int), (p.2.2 : Int))
theorem triV_len (l : List (Nat × Nat × Nat)) : (triV l).length = l.length := by simp [triV]
theorem at_kdTri {w : World} {A : Option Addr} {n : Nat} {xs : List (Int × Int × Int)} (h : Kd.C kdTri w A n xs) (k : Nat) (hk : k < n) :
    ∃ ad, A = some ad ∧ w.cell? (ad.add (k * 3)) = some (.int .i64 (xs.getD k (0, 0, 0)).1) ∧ w.cell? ⟨(ad.add (k * 3)).block, (ad.add (k * 3)).off + 1, none⟩ = some (.int .i64 (xs.getD k (0, 0, 0)).2.1) ∧ w.cell? ⟨(ad.add (k * 3)).block, (ad.add (k * 3)).off + 2, none⟩ = some (.int .i64 (xs.getD k (0, 0, 0)).2.2) := by
  obtain ⟨ad, c, e, _, hK, hc0⟩ := Kd.C_get h ((0, 0, 0) : Int × Int × Int) (k : Int) (by omega) (by omega)
  have hc : ∀ j u, c[j]? = some u → w.cell? (ad.add (k * 3 + j)) = some u := hc0
  obtain ⟨c0, c12, rfl, h0, c1, c2, rfl, h1, h2⟩ := hK
  have h0' : c0 = [.int .i64 (xs.getD k (0, 0, 0)).1] := h0
  have h1' : c1 = [.int .i64 (xs.getD k (0, 0, 0)).2.1] := h1
  have h2' : c2 = [.int .i64 (xs.getD k (0, 0, 0)).2.2] := h2
  subst h0'
  subst h1'
  subst h2'
  refine ⟨ad, e, ?_, ?_, ?_⟩
  · have := hc 0 _ rfl
    simpa using this
  · have := hc 1 _ rfl
    rw [add_field ad (k * 3) 1 (by omega)] at this
    exact this
  · have := hc 2 _ rfl
    rw [add_field ad (k * 3) 2 (by omega)] at this
    exact this
theorem triV_getD (l : List (Nat × Nat × Nat)) (k : Nat) (hk : k < l.length) : (triV l).getD k (0, 0, 0) = (((l[k]).1 : Int), ((l[k]).2.1 : Int), ((l[k]).2.2 : Int)) := by
  simp [triV, hk]

theorem cutOf_len {α : Type} (l : List α) (i j : Nat) (h : j ≤ l.length) : (cutOf l i j).length = j - i := by
  unfold cutOf; rw [List.length_take, List.length_drop]; omega

/-- What merged answers, by the chunk. -/
theorem mergedW_chunk (b o t : List ByteArray) (v1 v2 : Value) : match chunk b o t with
    | none => mergedW b o t v1 v2 = (.slice none 0 0, false)
    | some part => (mergedW b o t v1 v2 = (v2, true) ∧ part = t) ∨ (mergedW b o t v1 v2 = (v1, true) ∧ part = o) := by
  unfold chunk mergedW
  by_cases h1 : o = b
  · simp [h1]
  · by_cases h2 : t = b
    · simp [h1, h2]
    · by_cases h3 : t = o
      · simp [h1, h2, h3]
      · simp [h1, h2, h3]

theorem R_from {α : Type} {d : Kd α} {e : Nat} {w : World} {base : Nat} {ok : Nat → Prop} {v : Value} {xs : List α} (h : Kd.R d e w base ok v xs) : Kd.R d e w base (fun k => base ≤ k) v xs :=
  Kd.R_mono (Kd.R_bound h) (fun k hk => hk.2.1)

theorem hp_cell {w : World} {g : Nat} {t : TypeId} {cs : Array Value} (h : w.heap[g]? = some (.cells cs t (0, 0))) (i : Nat) (v : Value) (hv : cs[i]? = some v) : w.cell? ⟨g, i, none⟩ = some v := (blk_cell h i).trans hv
theorem R_lt {α : Type} {d : Kd α} {e : Nat} {w : World} {base : Nat} {ok : Nat → Prop} {v : Value} {xs : List α} (h : Kd.R d e w base ok v xs) (k : Nat) (hk : v.ownBlock = some k) : base ≤ k ∧ k < w.heap.size :=
  have h2 := (Kd.R_bound h).1 k hk
  ⟨h2.2.1, h2.2.2.1⟩

/-- What a round's memory holds behind the three cuts. -/
structure PF (w5 : World) (gs : Nat) (X Y Z : Value) (F S : Array Value) (W : World) : Prop where
  below : Below w5.heap.size w5 W
  lo : w5.heap.size + 4 ≤ gs
  size : gs < W.heap.size
  hX : W.heap[w5.heap.size]? = some (.cells #[X] 51 (0, 0))
  hY : W.heap[w5.heap.size + 1]? = some (.cells #[Y] 51 (0, 0))
  hZ : W.heap[w5.heap.size + 1 + 1]? = some (.cells #[Z] 51 (0, 0))
  hF : W.heap[w5.heap.size + 1 + 1 + 1]? = some (.cells F 48 (0, 0))
  hS : W.heap[gs]? = some (.cells S 48 (0, 0))
section
variable {w5 W W1 : World} {gs : Nat} {X Y Z : Value} {F S : Array Value}
theorem PF.grown (h : PF w5 gs X Y Z F S W) {row : Option Nat} (hg : W.grownBy W1 row) (hr : ∀ k, row = some k → w5.heap.size + 4 ≤ k ∧ k ≠ gs) : PF w5 gs X Y Z F S W1 := by
  have hne : ∀ k, (k < w5.heap.size + 4 ∨ k = gs) → some k ≠ row := by
    intro k hk e
    have := hr k e.symm
    omega
  have hlo := h.lo
  have hsz := h.size
  exact ⟨h.below.grown hg h.below.size (fun k hk => by have := hr k hk; omega), h.lo, Nat.lt_of_lt_of_le h.size hg.size,
    (hg.block _ (by omega) (hne _ (by omega))).trans h.hX, (hg.block _ (by omega) (hne _ (by omega))).trans h.hY, (hg.block _ (by omega) (hne _ (by omega))).trans h.hZ,
    (hg.block _ (by omega) (hne _ (by omega))).trans h.hF, (hg.block _ (by omega) (hne _ (by omega))).trans h.hS⟩
theorem PF.alloc (h : PF w5 gs X Y Z F S W) (ob : Obj) : PF w5 gs X Y Z F S (W.alloc ob) := h.grown (World.grownBy_alloc W ob none) (fun k hk => by cases hk)
theorem PF.drewN (h : PF w5 gs X Y Z F S W) (n : Nat) : PF w5 gs X Y Z F S (W.drewN n) := ⟨pw_below_drewN h.below n, h.lo, h.size, h.hX, h.hY, h.hZ, h.hF, h.hS⟩
theorem PF.setX (h : PF w5 gs X Y Z F S W) (u : Value) : PF w5 gs u Y Z F S (W.setCell ⟨w5.heap.size, 0, none⟩ u) := by
  have hlo := h.lo
  exact ⟨h.below.setCell (Nat.le_refl _) _, h.lo, by simpa [World.setCell] using h.size, blk_set h.hX 0 u, blk_far h.hY (by dsimp only; omega) u, blk_far h.hZ (by dsimp only; omega) u, blk_far h.hF (by dsimp only; omega) u, blk_far h.hS (by dsimp only; omega) u⟩
theorem PF.setY (h : PF w5 gs X Y Z F S W) (u : Value) : PF w5 gs X u Z F S (W.setCell ⟨w5.heap.size + 1, 0, none⟩ u) := by
  have hlo := h.lo
  exact ⟨h.below.setCell (by dsimp only; omega) _, h.lo, by simpa [World.setCell] using h.size, blk_far h.hX (by dsimp only; omega) u, blk_set h.hY 0 u, blk_far h.hZ (by dsimp only; omega) u, blk_far h.hF (by dsimp only; omega) u, blk_far h.hS (by dsimp only; omega) u⟩
theorem PF.setZ (h : PF w5 gs X Y Z F S W) (u : Value) : PF w5 gs X Y u F S (W.setCell ⟨w5.heap.size + 1 + 1, 0, none⟩ u) := by
  have hlo := h.lo
  exact ⟨h.below.setCell (by dsimp only; omega) _, h.lo, by simpa [World.setCell] using h.size, blk_far h.hX (by dsimp only; omega) u, blk_far h.hY (by dsimp only; omega) u, blk_set h.hZ 0 u, blk_far h.hF (by dsimp only; omega) u, blk_far h.hS (by dsimp only; omega) u⟩
theorem PF.setF (h : PF w5 gs X Y Z F S W) (i : Nat) (u : Value) : PF w5 gs X Y Z (F.setIfInBounds i u) S (W.setCell ⟨w5.heap.size + 1 + 1 + 1, i, none⟩ u) := by
  have hlo := h.lo
  exact ⟨h.below.setCell (by dsimp only; omega) _, h.lo, by simpa [World.setCell] using h.size, blk_far h.hX (by dsimp only; omega) u, blk_far h.hY (by dsimp only; omega) u, blk_far h.hZ (by dsimp only; omega) u, blk_set h.hF i u, blk_far h.hS (by dsimp only; omega) u⟩
theorem PF.keep (h : PF w5 gs X Y Z F S W) : True := trivial
end

theorem PF.setF3 {w5 W : World} {gs : Nat} {X Y Z f0 f1 f2 : Value} {S : Array Value} (h : PF w5 gs X Y Z #[f0, f1, f2] S W) (b o t : Value) :
    PF w5 gs X Y Z #[b, o, t] S (((W.setCell ⟨w5.heap.size + 1 + 1 + 1, 0, none⟩ b).setCell ⟨w5.heap.size + 1 + 1 + 1, 1, none⟩ o).setCell ⟨w5.heap.size + 1 + 1 + 1, 2, none⟩ t) := by
  have := ((h.setF 0 b).setF 1 o).setF 2 t
  simpa using this
theorem R_far3 {w : World} {v : Value} {xs : List ByteArray} {B g : Nat} (h : Kd.R Kd.string 9 w B (fun _ => True) v xs) (hg : g < B) (b o t : Value) :
    Kd.R Kd.string 9 (((w.setCell ⟨g, 0, none⟩ b).setCell ⟨g, 1, none⟩ o).setCell ⟨g, 2, none⟩ t) B (fun _ => True) v xs := by
  refine Kd.R_mono (ok := fun kk => B ≤ kk) ?_ (fun _ _ => trivial)
  exact Kd.R_far (Kd.R_far (Kd.R_far (R_from h) (fun kk hk => by dsimp only; omega) _) (fun kk hk => by dsimp only; omega) _) (fun kk hk => by dsimp only; omega) _
theorem row_ne {u20 v6 : Value} {gs lo sz : Nat} (hat : v6.ownBlock = u20.ownBlock ∨ ∃ b, v6.ownBlock = some b ∧ sz ≤ b) (h20 : ∀ kk, u20.ownBlock = some kk → lo ≤ kk ∧ kk ≠ gs) (hsz : gs < sz) (kk : Nat) (hkk : v6.ownBlock = some kk) : kk ≠ gs := by
  rcases hat with h2 | ⟨b2, h2, h3⟩
  · exact (h20 kk (h2 ▸ hkk)).2
  · rw [h2] at hkk
    injection hkk with hkk
    omega

/-- A rest behind a cut. -/
theorem rest_next {w5 : World} {A : Option Addr} {c L i b : Nat} {l : List ByteArray} (hl : l.length = L) (hr : Kd.C Kd.string w5 A (L - i) (l.drop i)) (hc : L - i ≤ c) (hib : i ≤ b) (hb : b ≤ L) :
    L - i - min (b - i + 1) (L - i) = L - (b + 1) ∧ L - (b + 1) ≤ c - min (b - i + 1) (L - i) ∧ Kd.C Kd.string w5 (dropA A c (min (b - i + 1) (L - i))) (L - (b + 1)) (l.drop (b + 1)) := by
  have h1 : L - i - min (b - i + 1) (L - i) = L - (b + 1) := by omega
  have h := C_drop hr hc (min (b - i + 1) (L - i)) (by omega)
  rw [h1, List.drop_drop] at h
  refine ⟨h1, by omega, ?_⟩
  by_cases hlt : b < L
  · rw [show i + min (b - i + 1) (L - i) = b + 1 by omega] at h
    exact h
  · rw [List.drop_of_length_le (by omega)] at h
    rw [List.drop_of_length_le (by omega)]
    exact h
theorem MB.of_PF {w5 W : World} {gs : Nat} {l0 l1 l2 : List ByteArray} {b o t : Nat} {Ax Ay Az : Option Addr} {cx cy cz Lx Ly Lz : Nat} {S : Array Value}
    (h : PF w5 gs (.slice Ax Lx cx) (.slice Ay Ly cy) (.slice Az Lz cz) #[.int .i64 (b : Int), .int .i64 (o : Int), .int .i64 (t : Int)] S W)
    (hx : Lx = l0.length - (b + 1) ∧ l0.length - (b + 1) ≤ cx ∧ Kd.C Kd.string w5 Ax (l0.length - (b + 1)) (l0.drop (b + 1)))
    (hy : Ly = l1.length - (o + 1) ∧ l1.length - (o + 1) ≤ cy ∧ Kd.C Kd.string w5 Ay (l1.length - (o + 1)) (l1.drop (o + 1)))
    (hz : Lz = l2.length - (t + 1) ∧ l2.length - (t + 1) ≤ cz ∧ Kd.C Kd.string w5 Az (l2.length - (t + 1)) (l2.drop (t + 1))) : MB w5 l0 l1 l2 (b + 1) (o + 1) (t + 1) W := by
  obtain ⟨rfl, hx1, hx2⟩ := hx
  obtain ⟨rfl, hy1, hy2⟩ := hy
  obtain ⟨rfl, hz1, hz2⟩ := hz
  refine ⟨h.below, by have := h.lo; have := h.size; omega, ⟨_, _, h.hX, hx1, hx2⟩, ⟨_, _, h.hY, hy1, hy2⟩, ⟨_, _, h.hZ, hz1, hz2⟩, ?_⟩
  have := h.hF
  rw [show ((b + 1 : Nat) : Int) - 1 = (b : Int) by omega, show ((o + 1 : Nat) : Int) - 1 = (o : Int) by omega, show ((t + 1 : Nat) : Int) - 1 = (t : Int) by omega]
  exact this

theorem MB.start {w w5 : World} {A0 A1 A2 : Option Addr} {c0 c1 c2 : Nat} {l0 l1 l2 : List ByteArray} (h : Below w.heap.size w w5)
    (hr0 : Kd.C Kd.string w A0 l0.length l0) (hr1 : Kd.C Kd.string w A1 l1.length l1) (hr2 : Kd.C Kd.string w A2 l2.length l2) (hc0 : l0.length ≤ c0) (hc1 : l1.length ≤ c1) (hc2 : l2.length ≤ c2) :
    MB w5 l0 l1 l2 0 0 0 ((((w5.alloc (.cells #[.slice A0 l0.length c0] 51)).alloc (.cells #[.slice A1 l1.length c1] 51)).alloc (.cells #[.slice A2 l2.length c2] 51)).alloc (.cells #[.int .i64 (-1), .int .i64 (-1), .int .i64 (-1)] 48)) := by
  refine ⟨?_, by simp, ⟨A0, c0, ?_, by omega, by simpa using Kd.C_below hr0 h⟩, ⟨A1, c1, ?_, by omega, by simpa using Kd.C_below hr1 h⟩, ⟨A2, c2, ?_, by omega, by simpa using Kd.C_below hr2 h⟩, ?_⟩
  · exact below_alloc (below_alloc (below_alloc (below_alloc (Below.refl _ _) _) _) _) _
  · exact (Below.heap_alloc _ _ _ (by first | (simp; done) | (simp; omega))).trans ((Below.heap_alloc _ _ _ (by first | (simp; done) | (simp; omega))).trans ((Below.heap_alloc _ _ _ (by first | (simp; done) | (simp; omega))).trans (heap_alloc_new _ _)))
  · refine (Below.heap_alloc _ _ _ (by first | (simp; done) | (simp; omega))).trans ((Below.heap_alloc _ _ _ (by first | (simp; done) | (simp; omega))).trans ?_)
    have := heap_alloc_new (w5.alloc (.cells #[.slice A0 l0.length c0] 51)) (.cells #[.slice A1 l1.length c1] 51)
    simpa using this
  · refine (Below.heap_alloc _ _ _ (by simp)).trans ?_
    have := heap_alloc_new ((w5.alloc (.cells #[.slice A0 l0.length c0] 51)).alloc (.cells #[.slice A1 l1.length c1] 51)) (.cells #[.slice A2 l2.length c2] 51)
    simpa using this
  · have := heap_alloc_new (((w5.alloc (.cells #[.slice A0 l0.length c0] 51)).alloc (.cells #[.slice A1 l1.length c1] 51)).alloc (.cells #[.slice A2 l2.length c2] 51)) (.cells #[.int .i64 (-1), .int .i64 (-1), .int .i64 (-1)] 48)
    simpa using this

theorem mtFrom_pair {α : Type} [DecidableEq α] (n : Nat) : ∀ (a b : List α) (i k : Nat), (mtFrom n a b i k).Pairwise (fun p q => p.1 < q.1 ∧ p.2 < q.2) := by
  induction n with
  | zero => intro a b i k; simp [mtFrom]
  | succ n ih =>
    intro a b i k
    cases a with
    | nil => simp [mtFrom]
    | cons x xs =>
      cases b with
      | nil => simp [mtFrom]
      | cons y ys =>
        simp only [mtFrom]
        split
        · rw [List.pairwise_cons]
          refine ⟨fun q hq => ?_, ih _ _ _ _⟩
          have := mtFrom_mem _ _ _ _ _ _ hq
          simp only
          omega
        · split
          · exact ih _ _ _ _
          · exact ih _ _ _ _

theorem StOK_of (la lb lc : Nat) : ∀ (l : List (Nat × Nat × Nat)) (i j k : Nat), (∀ p ∈ l, i ≤ p.1 ∧ p.1 < la ∧ j ≤ p.2.1 ∧ p.2.1 < lb ∧ k ≤ p.2.2 ∧ p.2.2 < lc) → l.Pairwise (fun p q => p.1 < q.1 ∧ p.2.1 < q.2.1 ∧ p.2.2 < q.2.2) → i ≤ la → j ≤ lb → k ≤ lc → StOK la lb lc i j k (l ++ [(la, lb, lc)]) := by
  intro l
  induction l with
  | nil => intro i j k _ _ h1 h2 h3; exact ⟨⟨h1, Nat.le_refl _⟩, ⟨h2, Nat.le_refl _⟩, ⟨h3, Nat.le_refl _⟩, trivial⟩
  | cons p l ih =>
    intro i j k hm hp h1 h2 h3
    obtain ⟨b, o, t⟩ := p
    have h := hm (b, o, t) (by simp)
    simp only at h
    rw [List.pairwise_cons] at hp
    refine ⟨⟨h.1, by omega⟩, ⟨h.2.2.1, by omega⟩, ⟨h.2.2.2.2.1, by omega⟩, ih _ _ _ (fun q hq => ?_) hp.2 (by omega) (by omega) (by omega)⟩
    have h4 := hm q (by simp [hq])
    have h5 := hp.1 q hq
    simp only at h5
    omega
theorem stables_mem {m n : List (Nat × Nat)} {p : Nat × Nat × Nat} (h : p ∈ stables m n) : (p.1, p.2.1) ∈ m ∧ (p.1, p.2.2) ∈ n := by
  unfold stables at h
  rw [List.mem_filterMap] at h
  obtain ⟨q, hq, hf⟩ := h
  cases hfi : n.find? (fun r => r.1 == q.1) with
  | none => rw [hfi] at hf; simp at hf
  | some r =>
    rw [hfi] at hf
    simp only [Option.map_some, Option.some.injEq] at hf
    subst hf
    have h1 := List.mem_of_find?_eq_some hfi
    have h2 := List.find?_some hfi
    simp only [beq_iff_eq] at h2
    refine ⟨hq, ?_⟩
    rw [← h2]
    exact h1
theorem pairwise_of_mem {l : List (Nat × Nat)} (h : l.Pairwise (fun p q => p.1 < q.1 ∧ p.2 < q.2)) {p q : Nat × Nat} (hp : p ∈ l) (hq : q ∈ l) (hlt : p.1 < q.1) : p.2 < q.2 := by
  obtain ⟨i, hi, rfl⟩ := List.getElem_of_mem hp
  obtain ⟨j, hj, rfl⟩ := List.getElem_of_mem hq
  rw [List.pairwise_iff_getElem] at h
  rcases Nat.lt_trichotomy i j with h1 | h1 | h1
  · exact (h i j hi hj h1).2
  · subst h1; omega
  · have := (h j i hj hi h1).1; omega
theorem stables_pair {m n : List (Nat × Nat)} (hm : m.Pairwise (fun p q => p.1 < q.1 ∧ p.2 < q.2)) (hn : n.Pairwise (fun p q => p.1 < q.1 ∧ p.2 < q.2)) : (stables m n).Pairwise (fun p q => p.1 < q.1 ∧ p.2.1 < q.2.1 ∧ p.2.2 < q.2.2) := by
  have h1 : (stables m n).Pairwise (fun p q => p.1 < q.1 ∧ p.2.1 < q.2.1) := by
    unfold stables
    rw [List.pairwise_filterMap]
    refine hm.imp ?_
    intro p q hpq a ha b hb
    simp only [Option.map_eq_some_iff] at ha hb
    obtain ⟨x, _, rfl⟩ := ha
    obtain ⟨y, _, rfl⟩ := hb
    exact hpq
  refine List.Pairwise.imp_of_mem ?_ h1
  intro p q hp hq hpq
  exact ⟨hpq.1, hpq.2, pairwise_of_mem (p := (p.1, p.2.2)) (q := (q.1, q.2.2)) hn (stables_mem hp).2 (stables_mem hq).2 hpq.1⟩
theorem mt_mem' (l0 l1 : List ByteArray) (p : Nat × Nat) (h : p ∈ mt l0 l1) : p.1 < l0.length ∧ p.2 < l1.length := by
  have := mtFrom_mem _ _ _ _ _ _ h
  omega
theorem stables_ok (l0 l1 l2 : List ByteArray) : StOK l0.length l1.length l2.length 0 0 0 (stables (mt l0 l1) (mt l0 l2) ++ [(l0.length, l1.length, l2.length)]) := by
  refine StOK_of _ _ _ _ 0 0 0 (fun p hp => ?_) (stables_pair (mtFrom_pair _ _ _ _ _) (mtFrom_pair _ _ _ _ _)) (by omega) (by omega) (by omega)
  have h := stables_mem hp
  have h1 := mt_mem' _ _ _ h.1
  have h2 := mt_mem' _ _ _ h.2
  simp only at h1 h2
  omega

end Go.Proofs.Ytebhophblgpjeaa.Seq
