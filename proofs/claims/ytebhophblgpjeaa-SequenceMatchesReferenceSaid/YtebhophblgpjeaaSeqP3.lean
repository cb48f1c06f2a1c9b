/- The law SequenceMatchesReference, as lists: the program's Merge and Common answer what the reference answers. -/
import Derived.Test.YtebhophblgpjeaaSeqH3
import Derived.Test.YtebhophblgpjeaaSeqP0
import Derived.Test.YtebhophblgpjeaaSeqQ
namespace Go.Proofs.Ytebhophblgpjeaa.Seq
open Go.RowKit Go.Proofs.YtebhophblgpjeaaW.PrintWords Go.Proofs.YtebhophblgpjeaaW.PrintLast Go.Proofs.YtebhophblgpjeaaW.PrintMore
set_option linter.unusedVariables false
set_option linter.unusedSimpArgs false

theorem rd_matV (l0 l1 : List ByteArray) (i : Nat) (hi : i < l0.length) : rd (matV l0 l1) (i : Int) = matVal (mt l0 l1) i := by
  simp [rd, matV, hi]
theorem matV_len (l0 l1 : List ByteArray) : (matV l0 l1).length = l0.length := by simp [matV]
theorem matVal_cases (l0 l1 : List ByteArray) (i : Nat) : (matVal (mt l0 l1) i = -1 ∧ ∀ p ∈ mt l0 l1, p.1 ≠ i) ∨ ∃ o, (i, o) ∈ mt l0 l1 ∧ matVal (mt l0 l1) i = (o : Int) := by
  by_cases h : ∃ o, (i, o) ∈ mt l0 l1
  · obtain ⟨o, ho⟩ := h
    refine .inr ⟨o, ho, matVal_some ho (fun p hp he => ?_)⟩
    rw [mt_inj hp ho he]
  · have h2 : ∀ p ∈ mt l0 l1, p.1 ≠ i := fun p hp he => h ⟨p.2, by rw [← he]; exact hp⟩
    exact .inl ⟨matVal_none h2, h2⟩

theorem refCommon_l0 (l0 l1 : List ByteArray) (hl : l0.length ≤ 2000) (d : Nat) : ∀ (k i : Nat) (acc : List ByteArray), i ≤ l0.length → l0.length - i = d → d < k → acc.length ≤ i →
    planisphereref25_Common.l0 k l0 acc (matV l0 l1) (i : Int) = some (acc ++ ((List.range' i d).filter (fun j => decide (0 ≤ matVal (mt l0 l1) j))).map (fun (j : Nat) => rdOf ByteArray.empty l0 (j : Int))) := by
  induction d with
  | zero =>
    intro k i acc hi hd hk ha
    obtain ⟨k, rfl⟩ : ∃ m, k = m + 1 := ⟨k - 1, by omega⟩
    simp only [planisphereref25_Common.l0]
    rw [if_neg (by omega)]
    simp
  | succ d ih =>
    intro k i acc hi hd hk ha
    obtain ⟨k, rfl⟩ : ∃ m, k = m + 1 := ⟨k - 1, by omega⟩
    have hlt : i < l0.length := by omega
    simp only [planisphereref25_Common.l0]
    rw [if_pos (by omega), if_pos (by omega), if_pos (by rw [matV_len]; omega), rd_matV l0 l1 i hlt, wrap_nat hlt (by omega), List.range'_succ]
    by_cases h : 0 ≤ matVal (mt l0 l1) i
    · rw [if_pos (by omega), if_pos (by omega), ih k (i + 1) _ (by omega) (by omega) (by omega) (by rw [List.length_append]; simp; omega)]
      simp [List.filter_cons, h]
    · rw [if_neg (by omega), ih k (i + 1) _ (by omega) (by omega) (by omega) (by omega)]
      simp [List.filter_cons, h]
theorem filter_mt (l0 l1 : List ByteArray) : (List.range l0.length).filter (fun j => decide (0 ≤ matVal (mt l0 l1) j)) = (mt l0 l1).map (fun p => p.1) := by
  refine sorted_ext (fun x => x) _ _ ?_ ?_ ?_
  · exact List.Pairwise.filter _ List.pairwise_lt_range
  · rw [List.pairwise_map]
    exact (mt_inc l0 l1).imp (fun h => h.1)
  · intro x
    rw [List.mem_filter, List.mem_map, List.mem_range, decide_eq_true_eq]
    constructor
    · rintro ⟨_, h⟩
      rcases matVal_cases l0 l1 x with ⟨h1, _⟩ | ⟨o, ho, _⟩
      · omega
      · exact ⟨(x, o), ho, rfl⟩
    · rintro ⟨p, hp, rfl⟩
      refine ⟨(mt_get hp).1, ?_⟩
      rcases matVal_cases l0 l1 p.1 with ⟨_, h1⟩ | ⟨o, _, h1⟩
      · exact absurd rfl (h1 p hp)
      · omega
theorem short_f (l : List ByteArray) (h : l.length ≤ 2000) : planisphereref25_Short.f l = some true := by
  unfold planisphereref25_Short.f
  rw [decide_eq_true (by omega)]
theorem mat_f (l0 l1 : List ByteArray) (h0 : l0.length ≤ 2000) (h1 : l1.length ≤ 2000) (k : Nat) (hk : 0 < k) : planisphereref25_matching.f k l0 l1 = some (matV l0 l1) := by
  unfold planisphereref25_matching.f
  rw [if_neg (by omega)]
theorem refCommon_f (l0 l1 : List ByteArray) (h0 : l0.length ≤ 30) (h1 : l1.length ≤ 30) (k : Nat) (hk : 100 ≤ k) : planisphereref25_Common.f k l0 l1 = some (commonV l0 l1) := by
  unfold planisphereref25_Common.f
  rw [short_f l0 (by omega), Option.bind_some, if_pos (Eq.refl true), short_f l1 (by omega), Option.bind_some]
  obtain ⟨k, rfl⟩ : ∃ m, k = m + 1 := ⟨k - 1, by omega⟩
  simp only [planisphereref25_Common.j0, Bool.not_true, Bool.false_eq_true, if_false]
  rw [mat_f l0 l1 (by omega) (by omega) k (by omega), Option.bind_some]
  have := refCommon_l0 l0 l1 (by omega) l0.length k 0 [] (by omega) (by omega) (by omega) (by simp)
  rw [commonV_short l0 l1 (by omega) (by omega)]
  rw [← List.range_eq_range', filter_mt, List.map_map] at this
  simpa [pickV, Function.comp_def] using this

/-- The stable pairs from a place on. -/
def ST (l0 l1 l2 : List ByteArray) (a : Nat) : List (Nat × Nat × Nat) := (stables (mt l0 l1) (mt l0 l2)).filter (fun p => decide (a ≤ p.1))
theorem ST_sorted (l0 l1 l2 : List ByteArray) (a : Nat) : (ST l0 l1 l2 a).Pairwise (fun p q => p.1 < q.1) :=
  List.Pairwise.filter _ ((stables_pair (mt_inc l0 l1) (mt_inc l0 l2)).imp (fun h => h.1))
theorem mem_ST {l0 l1 l2 : List ByteArray} {a : Nat} {p : Nat × Nat × Nat} : p ∈ ST l0 l1 l2 a ↔ ((p.1, p.2.1) ∈ mt l0 l1 ∧ (p.1, p.2.2) ∈ mt l0 l2) ∧ a ≤ p.1 := by
  unfold ST
  rw [List.mem_filter, mem_stables (mt_inc l0 l2), decide_eq_true_eq]
theorem ST_none (l0 l1 l2 : List ByteArray) (a : Nat) (h : ∀ p ∈ ST l0 l1 l2 a, p.1 ≠ a) : ST l0 l1 l2 a = ST l0 l1 l2 (a + 1) := by
  refine sorted_ext (fun p => p.1) _ _ (ST_sorted _ _ _ _) (ST_sorted _ _ _ _) (fun p => ?_)
  constructor
  · intro hp
    have h1 := mem_ST.1 hp
    have h2 := h p hp
    exact mem_ST.2 ⟨h1.1, by omega⟩
  · intro hp
    have h1 := mem_ST.1 hp
    exact mem_ST.2 ⟨h1.1, by omega⟩
theorem ST_some (l0 l1 l2 : List ByteArray) (a o t : Nat) (ho : (a, o) ∈ mt l0 l1) (ht : (a, t) ∈ mt l0 l2) : ST l0 l1 l2 a = (a, o, t) :: ST l0 l1 l2 (a + 1) := by
  refine sorted_ext (fun p => p.1) _ _ (ST_sorted _ _ _ _) ?_ (fun p => ?_)
  · rw [List.pairwise_cons]
    refine ⟨fun q hq => ?_, ST_sorted _ _ _ _⟩
    have := (mem_ST.1 hq).2
    simp only
    omega
  · rw [List.mem_cons]
    constructor
    · intro hp
      have h1 := mem_ST.1 hp
      by_cases he : p.1 = a
      · left
        have e1 := mt_inj h1.1.1 ho he
        have e2 := mt_inj h1.1.2 ht he
        obtain ⟨x, y, z⟩ := p
        simp only [Prod.mk.injEq] at e1 e2 ⊢
        exact ⟨e1.1, e1.2, e2.2⟩
      · right
        exact mem_ST.2 ⟨h1.1, by omega⟩
    · rintro (rfl | hp)
      · exact mem_ST.2 ⟨⟨ho, ht⟩, Nat.le_refl _⟩
      · have h1 := mem_ST.1 hp
        exact mem_ST.2 ⟨h1.1, by omega⟩
theorem ST_end (l0 l1 l2 : List ByteArray) : ST l0 l1 l2 l0.length = [] := by
  rw [List.eq_nil_iff_forall_not_mem]
  intro p hp
  have h1 := mem_ST.1 hp
  have h2 := (mt_get h1.1.1).1
  simp only at h2
  omega
theorem ST_zero (l0 l1 l2 : List ByteArray) : ST l0 l1 l2 0 = stables (mt l0 l1) (mt l0 l2) := by
  unfold ST
  rw [List.filter_eq_self]
  intro p _
  simp

def resOf (r : Option (List ByteArray)) : List ByteArray × Bool := match r with | none => ([], false) | some l => (l, true)
theorem cut_eq (l : List ByteArray) (i j : Nat) : (l.take j).drop i = cutOf l i j := by unfold cutOf; rw [List.drop_take]

section
variable {l0 l1 l2 : List ByteArray}
theorem ref_app (h0 : l0.length ≤ 30) (k a : Nat) (rest : List (Nat × Nat × Nat)) (y : List ByteArray) (p q : Nat) (ha : a ≤ l0.length) (hy : y.length + 1 < 8796093022208) (hp : p ≤ 30) (hq : q ≤ 30)
    (hnext : planisphereref25_Merge.l0 k l0 l1 l2 (matV l0 l1) (matV l0 l2) (y ++ (l0[a]?).toList) ((a + 1 : Nat) : Int) ((p + 1 : Nat) : Int) ((q + 1 : Nat) : Int) ((a + 1 : Nat) : Int) = some (resOf (mergeGo l0 l1 l2 rest (a + 1) (p + 1) (q + 1) (y ++ (l0[a]?).toList)))) :
    (if (a : Int) < (l0.length : Int) then (if (0 : Int) ≤ (a : Int) then (if y.length < 8796093022208 then (planisphereref25_Merge.l0 k l0 l1 l2 (matV l0 l1) (matV l0 l2) (y ++ [rdOf ByteArray.empty l0 (a : Int)]) (wrap64 ((a : Int) + 1)) (wrap64 ((p : Int) + 1)) (wrap64 ((q : Int) + 1)) (wrap64 ((a : Int) + 1))) else (none)) else (none)) else (planisphereref25_Merge.l0 k l0 l1 l2 (matV l0 l1) (matV l0 l2) y (wrap64 ((a : Int) + 1)) (wrap64 ((p : Int) + 1)) (wrap64 ((q : Int) + 1)) (wrap64 ((a : Int) + 1)))) = some (resOf (mergeGo l0 l1 l2 rest (a + 1) (p + 1) (q + 1) (y ++ (l0[a]?).toList))) := by
  rw [wrap_nat (i := a) (n := 1000) (by omega) (by omega), wrap_nat (i := p) (n := 1000) (by omega) (by omega), wrap_nat (i := q) (n := 1000) (by omega) (by omega)]
  by_cases hlt : a < l0.length
  · rw [if_pos (by omega), if_pos (by omega), if_pos (by omega), rdOf_nat l0 a hlt]
    rw [List.getElem?_eq_getElem hlt] at hnext ⊢
    exact hnext
  · rw [if_neg (by omega)]
    rw [List.getElem?_eq_none (by omega)] at hnext ⊢
    simpa using hnext
theorem ref_j2 (h0 : l0.length ≤ 30) (h1 : l1.length ≤ 30) (h2 : l2.length ≤ 30) (k : Nat) (hk : 100 ≤ k) (i j kk a p q : Nat) (rest : List (Nat × Nat × Nat)) (out : List ByteArray) (ho : out.length ≤ a * 100) (ha : a ≤ l0.length)
    (hi : i ≤ a) (hj : j ≤ p) (hp : p ≤ l1.length) (hkk : kk ≤ q) (hq : q ≤ l2.length)
    (hnext : ∀ (k' : Nat) (out' : List ByteArray), k ≤ k' + 2 → out'.length ≤ (a + 1) * 100 → planisphereref25_Merge.l0 k' l0 l1 l2 (matV l0 l1) (matV l0 l2) out' ((a + 1 : Nat) : Int) ((p + 1 : Nat) : Int) ((q + 1 : Nat) : Int) ((a + 1 : Nat) : Int) = some (resOf (mergeGo l0 l1 l2 rest (a + 1) (p + 1) (q + 1) out'))) :
    planisphereref25_Merge.j2 k l0 l1 l2 (matV l0 l1) (matV l0 l2) out (i : Int) (j : Int) (kk : Int) (a : Int) (p : Int) (q : Int) = some (resOf (mergeGo l0 l1 l2 ((a, p, q) :: rest) i j kk out)) := by
  obtain ⟨k, rfl⟩ : ∃ m, k = m + 1 + 1 := ⟨k - 2, by omega⟩
  have c0 := cutOf_le l0 i a
  have c1 := cutOf_le l1 j p
  have c2 := cutOf_le l2 kk q
  have hone : ∀ x : Option ByteArray, x.toList.length ≤ 1 := fun x => by cases x <;> simp
  simp only [planisphereref25_Merge.j2]
  rw [if_pos (by omega), if_pos (by omega), if_pos (by omega), if_pos (by omega), if_pos (by omega), if_pos (by omega), if_pos (by omega), if_pos (by omega), if_pos (by omega)]
  simp only [Int.toNat_natCast, cut_eq]
  rw [same_f _ _ (by omega) (k + 1) (by omega), Option.bind_some]
  have hgo : mergeGo l0 l1 l2 ((a, p, q) :: rest) i j kk out = match chunk (cutOf l0 i a) (cutOf l1 j p) (cutOf l2 kk q) with | none => none | some part => mergeGo l0 l1 l2 rest (a + 1) (p + 1) (q + 1) (out ++ part ++ (l0[a]?).toList) := by simp only [mergeGo]; cases chunk (cutOf l0 i a) (cutOf l1 j p) (cutOf l2 kk q) <;> rfl
  rw [hgo]
  unfold chunk
  by_cases e1 : cutOf l0 i a = cutOf l1 j p
  · rw [if_pos (decide_eq_true e1), if_pos e1.symm, if_pos (by omega), Option.bind_some]
    refine ref_app h0 (k + 1) a rest (out ++ cutOf l2 kk q) p q ha (by rw [List.length_append]; omega) (by omega) (by omega) (hnext (k + 1) _ (by omega) ?_)
    have := hone (l0[a]?)
    rw [List.length_append, List.length_append]
    omega
  · rw [if_neg (by simp [e1]), if_neg (fun h => e1 h.symm), same_f _ _ (by omega) (k + 1) (by omega), Option.bind_some]
    have hj3 : planisphereref25_Merge.j3 (k + 1) l0 l1 l2 (matV l0 l1) (matV l0 l2) out (a : Int) (p : Int) (q : Int) (cutOf l1 j p) true = some (resOf (mergeGo l0 l1 l2 rest (a + 1) (p + 1) (q + 1) (out ++ cutOf l1 j p ++ (l0[a]?).toList))) := by
      simp only [planisphereref25_Merge.j3, if_true]
      rw [if_pos (by omega), Option.bind_some]
      refine ref_app h0 k a rest (out ++ cutOf l1 j p) p q ha (by rw [List.length_append]; omega) (by omega) (by omega) (hnext k _ (by omega) ?_)
      have := hone (l0[a]?)
      rw [List.length_append, List.length_append]
      omega
    by_cases e2 : cutOf l0 i a = cutOf l2 kk q
    · rw [if_pos (decide_eq_true e2), if_pos e2.symm]
      exact hj3
    · rw [if_neg (by simp [e2]), if_neg (fun h => e2 h.symm), same_f _ _ (by omega) (k + 1) (by omega), Option.bind_some]
      by_cases e3 : cutOf l1 j p = cutOf l2 kk q
      · rw [decide_eq_true e3, if_pos e3.symm]
        exact hj3
      · rw [decide_eq_false e3, if_neg (fun h => e3 h.symm)]
        simp only [planisphereref25_Merge.j3, Bool.false_eq_true, if_false]
        rfl
theorem ref_l0 (h0 : l0.length ≤ 30) (h1 : l1.length ≤ 30) (h2 : l2.length ≤ 30) (d : Nat) : ∀ (fuel a i j kk : Nat) (out : List ByteArray), a ≤ l0.length → l0.length - a = d → 4 * d + 200 ≤ fuel → out.length ≤ a * 100 → i ≤ a →
    StOK l0.length l1.length l2.length i j kk (ST l0 l1 l2 a ++ [(l0.length, l1.length, l2.length)]) →
    planisphereref25_Merge.l0 fuel l0 l1 l2 (matV l0 l1) (matV l0 l2) out (i : Int) (j : Int) (kk : Int) (a : Int) = some (resOf (mergeGo l0 l1 l2 (ST l0 l1 l2 a ++ [(l0.length, l1.length, l2.length)]) i j kk out)) := by
  induction d with
  | zero =>
    intro fuel a i j kk out ha hd hf ho hi hst
    obtain rfl : a = l0.length := by omega
    obtain ⟨k, rfl⟩ : ∃ m, fuel = m + 1 := ⟨fuel - 1, by omega⟩
    rw [ST_end] at hst ⊢
    simp only [List.nil_append, StOK] at hst
    simp only [planisphereref25_Merge.l0]
    rw [if_pos (by omega), if_neg (by omega)]
    refine ref_j2 h0 h1 h2 k (by omega) i j kk l0.length l1.length l2.length [] out ho (Nat.le_refl _) hi hst.2.1.1 (Nat.le_refl _) hst.2.2.1.1 (Nat.le_refl _) (fun k' out' hk' ho' => ?_)
    obtain ⟨k', rfl⟩ : ∃ m, k' = m + 1 := ⟨k' - 1, by omega⟩
    simp only [planisphereref25_Merge.l0]
    rw [if_neg (by omega)]
    rfl
  | succ d ih =>
    intro fuel a i j kk out ha hd hf ho hi hst
    obtain ⟨k, rfl⟩ : ∃ m, fuel = m + 1 := ⟨fuel - 1, by omega⟩
    have hlt : a < l0.length := by omega
    have hw := Aside0.mk (wrap_nat (i := a) (n := l0.length) hlt (by omega))
    have hskip : (∀ p ∈ ST l0 l1 l2 a, p.1 ≠ a) → planisphereref25_Merge.l0 k l0 l1 l2 (matV l0 l1) (matV l0 l2) out (i : Int) (j : Int) (kk : Int) (wrap64 ((a : Int) + 1)) = some (resOf (mergeGo l0 l1 l2 (ST l0 l1 l2 a ++ [(l0.length, l1.length, l2.length)]) i j kk out)) := by
      intro hno
      have e := ST_none l0 l1 l2 a hno
      rw [e] at hst ⊢
      rw [hw.out]
      exact ih k (a + 1) i j kk out (by omega) (by omega) (by omega) (by omega) (by omega) hst
    simp only [planisphereref25_Merge.l0]
    rw [if_pos (by omega), if_pos (by omega), if_pos (by omega), if_pos (by rw [matV_len]; omega), rd_matV l0 l1 a hlt]
    rcases matVal_cases l0 l1 a with ⟨hx, hn⟩ | ⟨o, hmo, hx⟩
    · rw [hx, if_pos (by omega)]
      exact hskip (fun p hp he => hn _ (mem_ST.1 hp).1.1 he)
    · rw [hx, if_neg (by omega), if_pos (by rw [matV_len]; omega), rd_matV l0 l2 a hlt]
      rcases matVal_cases l0 l2 a with ⟨hy, hn⟩ | ⟨t, hmt, hy⟩
      · rw [hy, if_pos (by omega)]
        exact hskip (fun p hp he => hn _ (mem_ST.1 hp).1.2 he)
      · rw [hy, if_neg (by omega)]
        have e := ST_some l0 l1 l2 a o t hmo hmt
        rw [e] at hst ⊢
        simp only [List.cons_append, StOK] at hst ⊢
        refine ref_j2 h0 h1 h2 k (by omega) i j kk a o t _ out ho ha hi hst.2.1.1 hst.2.1.2 hst.2.2.1.1 hst.2.2.1.2 (fun k' out' hk' ho' => ?_)
        exact ih k' (a + 1) (a + 1) (o + 1) (t + 1) out' (by omega) (by omega) (by omega) ho' (Nat.le_refl _) hst.2.2.2
theorem refMerge_f (h0 : l0.length ≤ 30) (h1 : l1.length ≤ 30) (h2 : l2.length ≤ 30) (k : Nat) (hk : 1000 ≤ k) : planisphereref25_Merge.f k l0 l1 l2 = some (mergeV l0 l1 l2) := by
  unfold planisphereref25_Merge.f
  rw [short_f l0 (by omega), Option.bind_some, if_pos (Eq.refl true), short_f l1 (by omega), Option.bind_some, if_pos (Eq.refl true), short_f l2 (by omega), Option.bind_some]
  obtain ⟨k, rfl⟩ : ∃ m, k = m + 1 := ⟨k - 1, by omega⟩
  simp only [planisphereref25_Merge.j0, Bool.not_true, Bool.false_eq_true, if_false]
  rw [mat_f l0 l1 (by omega) (by omega) k (by omega), Option.bind_some, mat_f l0 l2 (by omega) (by omega) k (by omega), Option.bind_some]
  have hok := stables_ok l0 l1 l2
  rw [← ST_zero] at hok
  have := ref_l0 h0 h1 h2 l0.length k 0 0 0 0 [] (by omega) (by omega) (by omega) (by simp) (by omega) hok
  rw [ST_zero] at this
  have e : mergeV l0 l1 l2 = resOf (mergeGo l0 l1 l2 (stables (mt l0 l1) (mt l0 l2) ++ [(l0.length, l1.length, l2.length)]) 0 0 0 []) := by
    unfold mergeV mergeO
    rw [isShort_of (show l0.length ≤ 2000 by omega), isShort_of (show l1.length ≤ 2000 by omega), isShort_of (show l2.length ≤ 2000 by omega)]
    simp only [Bool.and_self, if_true]
    cases mergeGo l0 l1 l2 (stables (mt l0 l1) (mt l0 l2) ++ [(l0.length, l1.length, l2.length)]) 0 0 0 [] <;> rfl
  rw [e]
  exact this
theorem matches_skip (k : Nat) (hk : 0 < k) : planispherelaw25_SequenceMatchesReference.j0 k l0 l1 l2 true true = some true := by
  obtain ⟨k, rfl⟩ : ∃ m, k = m + 1 := ⟨k - 1, by omega⟩
  simp only [planispherelaw25_SequenceMatchesReference.j0, if_true]
theorem matches_go (h0 : l0.length ≤ 30) (h1 : l1.length ≤ 30) (h2 : l2.length ≤ 30) (k : Nat) (hk : 2000 + (mergeV l0 l1 l2).1.length ≤ k) : planispherelaw25_SequenceMatchesReference.j0 k l0 l1 l2 true false = some true := by
  obtain ⟨k, rfl⟩ : ∃ m, k = m + 1 := ⟨k - 1, by omega⟩
  have hlen := mergeV_len l0 l1 l2
  have hc : (commonV l0 l1).length ≤ 30 := by
    rw [commonV_short l0 l1 (by omega) (by omega)]
    unfold pickV
    rw [List.length_map]
    have := mt_len l0 l1
    omega
  simp only [planispherelaw25_SequenceMatchesReference.j0, Bool.false_eq_true, if_false]
  rw [merge_f _ _ _ k (by omega), Option.bind_some, refMerge_f h0 h1 h2 k (by omega), Option.bind_some]
  simp only [if_true, beq_self_eq_true]
  rw [same_f _ _ (by omega) k (by omega), Option.bind_some, if_pos (by simp), common_f _ _ k (by omega), Option.bind_some, refCommon_f l0 l1 h0 h1 k (by omega), Option.bind_some, same_f _ _ (by omega) k (by omega), Option.bind_some]
  simp
end
theorem SequenceMatchesReference_pure (l0 l1 l2 : List ByteArray) (h0 : l0.length ≤ 9223372036854775807) (h1 : l1.length ≤ 9223372036854775807) (h2 : l2.length ≤ 9223372036854775807) : ∃ k, planispherelaw25_SequenceMatchesReference.f k l0 l1 l2 = some true := by
  obtain ⟨b0, hb0, hf0⟩ := few_f l0 h0
  obtain ⟨b1, hb1, hf1⟩ := few_f l1 h1
  obtain ⟨b2, hb2, hf2⟩ := few_f l2 h2
  obtain ⟨k, hk⟩ : ∃ k : Nat, 2000 + (mergeV l0 l1 l2).1.length ≤ k := ⟨_, Nat.le_refl _⟩
  refine ⟨k, ?_⟩
  unfold planispherelaw25_SequenceMatchesReference.f
  rw [head_f k (by omega), Option.bind_some, hf0 k (by omega), Option.bind_some]
  cases b0 with
  | false => exact matches_skip k (by omega)
  | true =>
    rw [if_pos (Eq.refl true), hf1 k (by omega), Option.bind_some]
    cases b1 with
    | false => exact matches_skip k (by omega)
    | true =>
      rw [if_pos (Eq.refl true), hf2 k (by omega), Option.bind_some]
      cases b2 with
      | false => exact matches_skip k (by omega)
      | true => exact matches_go (hb0 rfl) (hb1 rfl) (hb2 rfl) k hk
end Go.Proofs.Ytebhophblgpjeaa.Seq
