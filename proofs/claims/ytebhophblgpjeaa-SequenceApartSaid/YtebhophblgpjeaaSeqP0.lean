/- What Same, Few, letters and head answer: the comparing of two lists, few and short elements, the letters of a text, and true. -/
import Derived.Test.YtebhophblgpjeaaSeqG
namespace Go.Proofs.Ytebhophblgpjeaa.Seq
open Go.RowKit Go.Proofs.YtebhophblgpjeaaW.PrintWords Go.Proofs.YtebhophblgpjeaaW.PrintLast Go.Proofs.YtebhophblgpjeaaW.PrintMore
set_option linter.unusedVariables false
set_option linter.unusedSimpArgs false

theorem same_l0 (l0 l1 : List ByteArray) (hl : l0.length = l1.length) (hn : l0.length ≤ 9223372036854775807) (d : Nat) : ∀ (k i : Nat), i ≤ l0.length → l0.length - i = d → d < k →
    planisphereref25_Same.l0 k l0 l1 (i : Int) = some (decide (l0.drop i = l1.drop i)) := by
  induction d with
  | zero =>
    intro k i h0 hd hk
    obtain ⟨k, rfl⟩ : ∃ m, k = m + 1 := ⟨k - 1, by omega⟩
    simp only [planisphereref25_Same.l0]
    rw [if_neg (by omega), List.drop_of_length_le (show l0.length ≤ i by omega), List.drop_of_length_le (show l1.length ≤ i by omega)]
    simp
  | succ d ih =>
    intro k i h0 hd hk
    obtain ⟨k, rfl⟩ : ∃ m, k = m + 1 := ⟨k - 1, by omega⟩
    have hlt : i < l0.length := by omega
    have hlt1 : i < l1.length := by omega
    simp only [planisphereref25_Same.l0]
    rw [if_pos (by omega), if_pos (by omega), if_pos (by omega), rdOf_nat l0 i hlt, rdOf_nat l1 i hlt1, wrap_nat hlt hn]
    have hc : (List.drop i l0 = List.drop i l1) ↔ (l0[i] = l1[i] ∧ List.drop (i + 1) l0 = List.drop (i + 1) l1) := by
      rw [List.drop_eq_getElem_cons hlt, List.drop_eq_getElem_cons hlt1]; exact List.cons_eq_cons
    by_cases he : l0[i] = l1[i]
    · rw [if_pos ((str_eq _ _).2 he), ih k (i + 1) (by omega) (by omega) (by omega)]
      simp only [hc, he, true_and]
    · rw [if_neg (fun h => he ((str_eq _ _).1 h))]
      simp only [hc, he, false_and, decide_false]
theorem same_f (l0 l1 : List ByteArray) (hn : l0.length ≤ 9223372036854775807) (k : Nat) (hk : l0.length < k) : planisphereref25_Same.f k l0 l1 = some (decide (l0 = l1)) := by
  unfold planisphereref25_Same.f
  by_cases hl : l0.length = l1.length
  · rw [if_pos (by omega)]
    have := same_l0 l0 l1 hl hn l0.length k 0 (by omega) (by omega) (by omega)
    simpa using this
  · rw [if_neg (by omega)]
    have : ¬ l0 = l1 := fun h => hl (by rw [h])
    simp [this]

theorem few_l0 (l : List ByteArray) (hn : l.length ≤ 9223372036854775807) (d : Nat) : ∀ (k i : Nat), i ≤ l.length → i ≤ 31 → 31 - i = d → 2 * d + 2 ≤ k → ∃ b, planisphereref25_Few.l0 k l (i : Int) = some b ∧ (b = true → l.length ≤ 30) := by
  induction d with
  | zero =>
    intro k i h0 h1 hd hk
    obtain ⟨k, rfl⟩ : ∃ m, k = m + 1 + 1 := ⟨k - 2, by omega⟩
    obtain rfl : i = 31 := by omega
    simp only [planisphereref25_Few.l0]
    by_cases hlt : 31 < l.length
    · rw [if_pos (by omega)]
      simp only [planisphereref25_Few.j1]
      rw [if_neg (by simp)]
      exact ⟨_, rfl, fun h => by have := of_decide_eq_true h; omega⟩
    · rw [if_neg (by omega)]
      simp only [planisphereref25_Few.j1]
      rw [if_neg (by simp)]
      exact ⟨_, rfl, fun h => by have := of_decide_eq_true h; omega⟩
  | succ d ih =>
    intro k i h0 h1 hd hk
    obtain ⟨k, rfl⟩ : ∃ m, k = m + 1 + 1 := ⟨k - 2, by omega⟩
    simp only [planisphereref25_Few.l0]
    by_cases hlt : i < l.length
    · rw [if_pos (by omega)]
      simp only [planisphereref25_Few.j1]
      rw [if_pos (by rw [decide_eq_true_eq]; omega), if_pos (by omega), if_pos (by omega)]
      by_cases h60 : ((rdOf ByteArray.empty l (i : Int)).size : Int) > 60
      · rw [if_pos h60]
        exact ⟨false, rfl, fun h => by cases h⟩
      · rw [if_neg h60, wrap_nat hlt hn]
        exact ih k (i + 1) (by omega) (by omega) (by omega) (by omega)
    · rw [if_neg (by omega)]
      simp only [planisphereref25_Few.j1]
      rw [if_neg (by simp)]
      exact ⟨_, rfl, fun h => by have := of_decide_eq_true h; omega⟩
theorem few_f (l : List ByteArray) (hn : l.length ≤ 9223372036854775807) : ∃ b, (b = true → l.length ≤ 30) ∧ ∀ k, 64 ≤ k → planisphereref25_Few.f k l = some b := by
  obtain ⟨b, h1, h2⟩ := few_l0 l hn 31 64 0 (by omega) (by omega) (by omega) (by omega)
  refine ⟨b, h2, fun k hk => ?_⟩
  unfold planisphereref25_Few.f
  induction k with
  | zero => omega
  | succ k ih =>
    by_cases h : 64 ≤ k
    · exact (planisphereref25_Few.mono_l k).1 l 0 b (ih h)
    · obtain rfl : k = 63 := by omega
      exact h1

def lettersV (s : ByteArray) : List ByteArray := (List.range s.size).map fun i => s.extract i (i + 1)
theorem letters_l0 (s : ByteArray) (hn : s.size ≤ 1000) (d : Nat) : ∀ (k i : Nat) (acc : List ByteArray), i ≤ s.size → s.size - i = d → d < k → acc.length ≤ i →
    planispherelaw25_letters.l0 k s acc (i : Int) = some (acc ++ (List.range' i d).map fun i => s.extract i (i + 1)) := by
  induction d with
  | zero =>
    intro k i acc h0 hd hk ha
    obtain ⟨k, rfl⟩ : ∃ m, k = m + 1 := ⟨k - 1, by omega⟩
    simp only [planispherelaw25_letters.l0]
    rw [if_neg (by omega)]
    simp
  | succ d ih =>
    intro k i acc h0 hd hk ha
    obtain ⟨k, rfl⟩ : ∃ m, k = m + 1 := ⟨k - 1, by omega⟩
    simp only [planispherelaw25_letters.l0]
    rw [wrap_nat (n := s.size) (by omega) (by omega), if_pos (by omega), if_pos (by omega), if_pos (by omega), if_pos (by omega), if_pos (by omega)]
    rw [ih k (i + 1) _ (by omega) (by omega) (by omega) (by simp; omega)]
    simp only [Int.toNat_natCast, List.range'_succ, List.map_cons, List.append_assoc, List.singleton_append]
theorem letters_f (s : ByteArray) (hn : s.size ≤ 1000) (k : Nat) (hk : s.size < k) : planispherelaw25_letters.f k s = some (lettersV s) := by
  unfold planispherelaw25_letters.f lettersV
  have := letters_l0 s hn s.size k 0 [] (by omega) (by omega) (by omega) (by simp)
  rw [List.range_eq_range']
  simpa using this

theorem merge_f (l0 l1 l2 : List ByteArray) (k : Nat) (hk : 0 < k) : sequence_Merge.f k l0 l1 l2 = some (mergeV l0 l1 l2) := by
  unfold sequence_Merge.f; rw [if_neg (by omega)]
theorem common_f (l0 l1 : List ByteArray) (k : Nat) (hk : 0 < k) : sequence_Common.f k l0 l1 = some (commonV l0 l1) := by
  unfold sequence_Common.f; rw [if_neg (by omega)]

theorem letters_abc : lettersV ⟨#[97, 98, 99]⟩ = [⟨#[97]⟩, ⟨#[98]⟩, ⟨#[99]⟩] := by decide +kernel
theorem letters_axbc : lettersV ⟨#[97, 120, 98, 99]⟩ = [⟨#[97]⟩, ⟨#[120]⟩, ⟨#[98]⟩, ⟨#[99]⟩] := by decide +kernel
theorem letters_abcy : lettersV ⟨#[97, 98, 99, 121]⟩ = [⟨#[97]⟩, ⟨#[98]⟩, ⟨#[99]⟩, ⟨#[121]⟩] := by decide +kernel
theorem letters_ab : lettersV ⟨#[97, 98]⟩ = [⟨#[97]⟩, ⟨#[98]⟩] := by decide +kernel
theorem letters_abcd : lettersV ⟨#[97, 98, 99, 100]⟩ = [⟨#[97]⟩, ⟨#[98]⟩, ⟨#[99]⟩, ⟨#[100]⟩] := by decide +kernel
theorem letters_ac : lettersV ⟨#[97, 99]⟩ = [⟨#[97]⟩, ⟨#[99]⟩] := by decide +kernel
theorem letters_ba : lettersV ⟨#[98, 97]⟩ = [⟨#[98]⟩, ⟨#[97]⟩] := by decide +kernel
theorem letters_axbcy : lettersV ⟨#[97, 120, 98, 99, 121]⟩ = [⟨#[97]⟩, ⟨#[120]⟩, ⟨#[98]⟩, ⟨#[99]⟩, ⟨#[121]⟩] := by decide +kernel
theorem letters_abcab : lettersV ⟨#[97, 98, 99, 97, 98]⟩ = [⟨#[97]⟩, ⟨#[98]⟩, ⟨#[99]⟩, ⟨#[97]⟩, ⟨#[98]⟩] := by decide +kernel
theorem letters_bab : lettersV ⟨#[98, 97, 98]⟩ = [⟨#[98]⟩, ⟨#[97]⟩, ⟨#[98]⟩] := by decide +kernel
theorem ex1 : mergeV (lettersV ⟨#[97, 98, 99]⟩) (lettersV ⟨#[97, 120, 98, 99]⟩) (lettersV ⟨#[97, 98, 99, 121]⟩) = (lettersV ⟨#[97, 120, 98, 99, 121]⟩, true) := by decide +kernel
theorem ex2 : mergeV (lettersV ⟨#[97, 98, 99]⟩) (lettersV ⟨#[97, 98]⟩) (lettersV ⟨#[97, 98, 99, 100]⟩) = ([], false) := by decide +kernel
theorem ex3 : mergeV (lettersV ⟨#[97, 98, 99]⟩) (lettersV ⟨#[97, 99]⟩) (lettersV ⟨#[97, 99]⟩) = (lettersV ⟨#[97, 99]⟩, true) := by decide +kernel
theorem ex4 : mergeV (lettersV ⟨#[97, 98]⟩) (lettersV ⟨#[98, 97]⟩) (lettersV ⟨#[97, 98]⟩) = (lettersV ⟨#[98, 97]⟩, true) := by decide +kernel
theorem ex5 : commonV (lettersV ⟨#[97, 98, 99, 97, 98]⟩) (lettersV ⟨#[98, 97, 98]⟩) = lettersV ⟨#[98, 97, 98]⟩ := by decide +kernel
theorem size_le (s : ByteArray) (h : s.size ≤ 10) : (lettersV s).length ≤ 10 := by simp [lettersV]; exact h

theorem head_f (k : Nat) (hk : 20 ≤ k) : planispherelaw25_head.f k = some true := by
  obtain ⟨k, rfl⟩ : ∃ m, k = m + 1 := ⟨k - 1, by omega⟩
  unfold planispherelaw25_head.f
  have hl : ∀ s : ByteArray, s.size ≤ 5 → planispherelaw25_letters.f (k + 1) s = some (lettersV s) := fun s hs => letters_f s (by omega) _ (by omega)
  have hl0 : ∀ s : ByteArray, s.size ≤ 5 → planispherelaw25_letters.f k s = some (lettersV s) := fun s hs => letters_f s (by omega) _ (by omega)
  have hs : ∀ s : ByteArray, s.size ≤ 5 → ∀ j, 10 < j → planisphereref25_Same.f j (lettersV s) (lettersV s) = some true := fun s hs j hj => by
    have h := size_le s (by omega)
    rw [same_f _ _ (by omega) _ (by omega)]; simp
  rw [hl _ (by decide), hl _ (by decide), hl _ (by decide), hl _ (by decide), hl _ (by decide), hl _ (by decide), hl _ (by decide)]
  simp only [Option.bind_some, merge_f _ _ _ (k + 1) (by omega), ex1, ex2, ex3]
  rw [hl _ (by decide)]
  simp only [Option.bind_some, merge_f _ _ _ (k + 1) (by omega), ex4, if_true]
  rw [hs _ (by decide) _ (by omega)]
  simp only [Option.bind_some, if_true, List.length_nil, Bool.false_eq_true, if_false]
  rw [if_pos (by decide), hs _ (by decide) _ (by omega)]
  simp only [Option.bind_some, if_true, planispherelaw25_head.j0]
  rw [hl0 _ (by decide)]
  simp only [Option.bind_some]
  rw [hs _ (by decide) _ (by omega)]
  simp only [Option.bind_some, if_true]
  rw [hl0 _ (by decide), hl0 _ (by decide)]
  simp only [Option.bind_some, common_f _ _ k (by omega), ex5]
  rw [hs _ (by decide) _ (by omega)]
  rfl
end Go.Proofs.Ytebhophblgpjeaa.Seq
