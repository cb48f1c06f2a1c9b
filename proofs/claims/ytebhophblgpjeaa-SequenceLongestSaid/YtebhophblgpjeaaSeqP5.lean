/- The law SequenceLongest, as lists: Common is a common subsequence, and none is longer. -/
import Derived.Test.YtebhophblgpjeaaSeqH5
import Derived.Test.YtebhophblgpjeaaSeqP0
import Derived.Test.YtebhophblgpjeaaSeqR
namespace Go.Proofs.Ytebhophblgpjeaa.Seq
open Go.RowKit Go.Proofs.YtebhophblgpjeaaW.PrintWords Go.Proofs.YtebhophblgpjeaaW.PrintLast Go.Proofs.YtebhophblgpjeaaW.PrintMore
set_option linter.unusedVariables false
set_option linter.unusedSimpArgs false
theorem within_l0 (l b : List ByteArray) (hl : l.length ≤ 9223372036854775807) (hb : b.length ≤ 9223372036854775807) (d : Nat) : ∀ (k p i : Nat), p ≤ l.length → i ≤ b.length → b.length - i = d → 2 * d + 2 ≤ k →
    planispherelaw25_within.l0 k l b (p : Int) (i : Int) = some (wi (l.drop p) (b.drop i)) := by
  induction d with
  | zero =>
    intro k p i hp hi hd hk
    obtain ⟨k, rfl⟩ : ∃ m, k = m + 1 + 1 := ⟨k - 2, by omega⟩
    simp only [planispherelaw25_within.l0]
    rw [if_neg (by omega)]
    simp only [planispherelaw25_within.j1]
    rw [if_neg (by simp), List.drop_of_length_le (show b.length ≤ i by omega)]
    by_cases h : p = l.length
    · rw [List.drop_of_length_le (by omega), h]
      simp [wi]
    · rw [List.drop_eq_getElem_cons (show p < l.length by omega)]
      simp only [wi, Option.some.injEq, beq_eq_false_iff_ne]
      omega
  | succ d ih =>
    intro k p i hp hi hd hk
    obtain ⟨k, rfl⟩ : ∃ m, k = m + 1 + 1 := ⟨k - 2, by omega⟩
    have hi' : i < b.length := by omega
    simp only [planispherelaw25_within.l0]
    rw [if_pos (by omega)]
    simp only [planispherelaw25_within.j1]
    by_cases h : p < l.length
    · rw [if_pos (by rw [decide_eq_true_eq]; omega), if_pos (by omega), if_pos (by omega), if_pos (by omega), if_pos (by omega), rdOf_nat b i hi', rdOf_nat l p h, wrap_nat h hl, wrap_nat hi' hb]
      rw [List.drop_eq_getElem_cons h, List.drop_eq_getElem_cons hi']
      simp only [wi]
      by_cases he : b[i] = l[p]
      · rw [if_pos ((str_eq _ _).2 he), if_pos he]
        exact ih k (p + 1) (i + 1) (by omega) (by omega) (by omega) (by omega)
      · rw [if_neg (fun h2 => he ((str_eq _ _).1 h2)), if_neg he]
        rw [← List.drop_eq_getElem_cons h]
        exact ih k p (i + 1) (by omega) (by omega) (by omega) (by omega)
    · rw [if_neg (by rw [decide_eq_true_eq]; omega), List.drop_of_length_le (show l.length ≤ p by omega)]
      have : p = l.length := by omega
      subst this
      simp [wi]
theorem within_f (l b : List ByteArray) (hl : l.length ≤ 9223372036854775807) (hb : b.length ≤ 9223372036854775807) (k : Nat) (hk : 2 * b.length + 2 ≤ k) : planispherelaw25_within.f k l b = some (wi l b) := by
  unfold planispherelaw25_within.f
  have := within_l0 l b hl hb b.length k 0 0 (by omega) (by omega) (by omega) hk
  simpa using this

theorem u64_nat (i : Nat) (h : i ≤ 100) : IntKind.u64.wrap (i : Int) = (i : Int) := by
  simp [IntKind.wrap, IntKind.signed, IntKind.bits]
  omega
theorem picked_l0 (l : List ByteArray) (a1 : Int) (hl : l.length ≤ 30) (d : Nat) : ∀ (k i : Nat) (acc : List ByteArray), i ≤ l.length → l.length - i = d → 2 * d + 2 ≤ k → acc.length ≤ i →
    ∃ r, planispherelaw25_picked.l0 k l a1 acc (i : Int) = some (acc ++ r) ∧ r.Sublist (l.drop i) := by
  induction d with
  | zero =>
    intro k i acc hi hd hk ha
    obtain ⟨k, rfl⟩ : ∃ m, k = m + 1 + 1 := ⟨k - 2, by omega⟩
    refine ⟨[], ?_, List.nil_sublist _⟩
    simp only [planispherelaw25_picked.l0]
    rw [if_neg (by omega)]
    simp only [planispherelaw25_picked.j1]
    rw [if_neg (by simp)]
    simp
  | succ d ih =>
    intro k i acc hi hd hk ha
    obtain ⟨k, rfl⟩ : ∃ m, k = m + 1 + 1 := ⟨k - 2, by omega⟩
    have hi' : i < l.length := by omega
    simp only [planispherelaw25_picked.l0]
    rw [if_pos (by omega)]
    simp only [planispherelaw25_picked.j1]
    rw [if_pos (by rw [decide_eq_true_eq]; omega), u64_nat i (by omega), if_pos (by omega), rdOf_nat l i hi', wrap_nat (n := l.length) hi' (by omega)]
    by_cases hbit : Go.bits .and .u32 (shr .u32 a1 (i : Int)) 1 = 1
    · rw [if_pos hbit, if_pos (by omega), if_pos (by omega), if_pos (by omega)]
      obtain ⟨r, h1, h2⟩ := ih k (i + 1) (acc ++ [l[i]]) (by omega) (by omega) (by omega) (by rw [List.length_append]; simp; omega)
      refine ⟨l[i] :: r, by rw [h1]; simp, ?_⟩
      rw [List.drop_eq_getElem_cons hi']
      exact h2.cons_cons _
    · rw [if_neg hbit]
      obtain ⟨r, h1, h2⟩ := ih k (i + 1) acc (by omega) (by omega) (by omega) (by omega)
      refine ⟨r, h1, ?_⟩
      rw [List.drop_eq_getElem_cons hi']
      exact h2.cons _
theorem picked_f (l : List ByteArray) (a1 : Int) (hl : l.length ≤ 30) (k : Nat) (hk : 100 ≤ k) : ∃ r, planispherelaw25_picked.f k l a1 = some r ∧ r.Sublist l := by
  unfold planispherelaw25_picked.f
  obtain ⟨r, h1, h2⟩ := picked_l0 l a1 hl l.length k 0 [] (by omega) (by omega) (by omega) (by simp)
  exact ⟨r, by simpa using h1, by simpa using h2⟩

theorem longest_skip (l0 l1 : List ByteArray) (a : Int) (k : Nat) (hk : 0 < k) : planispherelaw25_SequenceLongest.j0 k l0 l1 a true true = some true := by
  obtain ⟨k, rfl⟩ : ∃ m, k = m + 1 := ⟨k - 1, by omega⟩
  simp only [planispherelaw25_SequenceLongest.j0, if_true]
theorem longest_j1 (l0 l1 : List ByteArray) (h0 : l0.length ≤ 30) (h1 : l1.length ≤ 30) (k : Nat) (hk : 200 ≤ k) : planispherelaw25_SequenceLongest.j1 k l0 l1 true (commonV l0 l1) false = some true := by
  obtain ⟨k, rfl⟩ : ∃ m, k = m + 1 := ⟨k - 1, by omega⟩
  simp only [planispherelaw25_SequenceLongest.j1, Bool.false_eq_true, if_false, if_true, common_f _ _ k (by omega), Option.bind_some]
  have hlen : ((commonV l1 l0).length : Int) = ((commonV l0 l1).length : Int) := by
    rw [commonV_len l1 l0 (by omega) (by omega), commonV_len l0 l1 (by omega) (by omega), lcs_comm]
  rw [if_pos hlen, commonV_self l0 (by omega), same_f l0 l0 (by omega) k (by omega)]
  simp
theorem longest_go (l0 l1 : List ByteArray) (a : Int) (h0 : l0.length ≤ 30) (h1 : l1.length ≤ 30) (k : Nat) (hk : 300 ≤ k) : planispherelaw25_SequenceLongest.j0 k l0 l1 a true false = some true := by
  obtain ⟨k, rfl⟩ : ∃ m, k = m + 1 := ⟨k - 1, by omega⟩
  obtain ⟨r, hr, hrs⟩ := picked_f l0 a h0 k (by omega)
  have hcl : (commonV l0 l1).length ≤ 30 := by
    have := (commonV_left l0 l1 (by omega) (by omega)).length_le
    omega
  have hrl : r.length ≤ 30 := by have := hrs.length_le; omega
  simp only [planispherelaw25_SequenceLongest.j0, Bool.false_eq_true, if_false, common_f _ _ k (by omega), Option.bind_some]
  rw [hr, Option.bind_some, within_f _ _ (by omega) (by omega) k (by omega), Option.bind_some, if_pos ((wi_iff _ _).2 (commonV_left l0 l1 (by omega) (by omega))),
    within_f _ _ (by omega) (by omega) k (by omega), Option.bind_some, if_pos ((wi_iff _ _).2 (commonV_right l0 l1 (by omega) (by omega))),
    within_f _ _ (by omega) (by omega) k (by omega), Option.bind_some]
  by_cases hw : wi r l1 = true
  · rw [if_pos hw]
    have hm := lcs_max l0 l1 r hrs ((wi_iff _ _).1 hw)
    have hc := commonV_len l0 l1 (by omega) (by omega)
    rw [decide_eq_false (by omega)]
    exact longest_j1 l0 l1 h0 h1 k (by omega)
  · rw [if_neg hw]
    exact longest_j1 l0 l1 h0 h1 k (by omega)
theorem SequenceLongest_pure (l0 l1 : List ByteArray) (a2 : Int) (h0 : l0.length ≤ 9223372036854775807) (h1 : l1.length ≤ 9223372036854775807) (w2 : (Lit.int .u32 a2).wf = true) : ∃ k, planispherelaw25_SequenceLongest.f k l0 l1 a2 = some true := by
  obtain ⟨b0, hb0, hf0⟩ := few_f l0 h0
  obtain ⟨b1, hb1, hf1⟩ := few_f l1 h1
  obtain ⟨k, hk⟩ : ∃ k : Nat, 300 ≤ k := ⟨300, Nat.le_refl _⟩
  refine ⟨k, ?_⟩
  unfold planispherelaw25_SequenceLongest.f
  rw [head_f k (by omega), Option.bind_some, hf0 k (by omega), Option.bind_some]
  cases b0 with
  | false => exact longest_skip l0 l1 a2 k (by omega)
  | true =>
    rw [if_pos rfl, hf1 k (by omega), Option.bind_some]
    cases b1 with
    | false => exact longest_skip l0 l1 a2 k (by omega)
    | true => exact longest_go l0 l1 a2 (hb0 rfl) (hb1 rfl) k hk
end Go.Proofs.Ytebhophblgpjeaa.Seq
