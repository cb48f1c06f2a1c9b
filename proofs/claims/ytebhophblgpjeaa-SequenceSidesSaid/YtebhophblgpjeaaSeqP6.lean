/- The law SequenceSides, as lists: the merge does not depend on the order of the sides; with a side equal to the base, or both sides equal, it is the other side. -/
import Derived.Test.YtebhophblgpjeaaSeqH6
import Derived.Test.YtebhophblgpjeaaSeqP0
import Derived.Test.YtebhophblgpjeaaSeqQ
namespace Go.Proofs.Ytebhophblgpjeaa.Seq
open Go.RowKit Go.Proofs.YtebhophblgpjeaaW.PrintWords Go.Proofs.YtebhophblgpjeaaW.PrintLast Go.Proofs.YtebhophblgpjeaaW.PrintMore
set_option linter.unusedVariables false
set_option linter.unusedSimpArgs false
theorem sides_skip (l0 l1 l2 : List ByteArray) (k : Nat) (hk : 0 < k) : planispherelaw25_SequenceSides.j0 k l0 l1 l2 true true = some true := by
  obtain ⟨k, rfl⟩ : ∃ m, k = m + 1 := ⟨k - 1, by omega⟩
  simp only [planispherelaw25_SequenceSides.j0, if_true]
theorem same_self (l : List ByteArray) (hn : l.length ≤ 9223372036854775807) (k : Nat) (hk : l.length < k) : planisphereref25_Same.f k l l = some true := by
  rw [same_f l l hn k hk]; simp
theorem sides_go (l0 l1 l2 : List ByteArray) (h0 : l0.length ≤ 30) (h1 : l1.length ≤ 30) (h2 : l2.length ≤ 30) (k : Nat) (hk : 100 + (mergeV l0 l1 l2).1.length ≤ k) (hm : (mergeV l0 l1 l2).1.length ≤ 9223372036854775807) : planispherelaw25_SequenceSides.j0 k l0 l1 l2 true false = some true := by
  obtain ⟨k, rfl⟩ : ∃ m, k = m + 1 := ⟨k - 1, by omega⟩
  have m1 := mergeV_swap l0 l2 l1
  have m2 := mergeV_base l0 l2 (by omega) (by omega)
  have m3 := mergeV_base' l0 l1 (by omega) (by omega)
  have m4 := mergeV_same l0 l1 (by omega) (by omega)
  simp only [planispherelaw25_SequenceSides.j0, merge_f _ _ _ k (by omega), Option.bind_some, Bool.false_eq_true, if_false, m1, m2, m3, m4, if_true, beq_self_eq_true]
  rw [same_self _ hm k (by omega), Option.bind_some, if_pos rfl, same_self l2 (by omega) k (by omega), Option.bind_some, if_pos rfl, same_self l1 (by omega) k (by omega), Option.bind_some, if_pos rfl]
  rfl
theorem SequenceSides_pure (l0 l1 l2 : List ByteArray) (h0 : l0.length ≤ 9223372036854775807) (h1 : l1.length ≤ 9223372036854775807) (h2 : l2.length ≤ 9223372036854775807) : ∃ k, planispherelaw25_SequenceSides.f k l0 l1 l2 = some true := by
  obtain ⟨b0, hb0, hf0⟩ := few_f l0 h0
  obtain ⟨b1, hb1, hf1⟩ := few_f l1 h1
  obtain ⟨b2, hb2, hf2⟩ := few_f l2 h2
  have hK := mergeV_len l0 l1 l2
  obtain ⟨k, hk⟩ : ∃ k, 100 + (mergeV l0 l1 l2).1.length ≤ k := ⟨_, Nat.le_refl _⟩
  refine ⟨k, ?_⟩
  unfold planispherelaw25_SequenceSides.f
  rw [head_f k (by omega), Option.bind_some, hf0 k (by omega), Option.bind_some]
  cases b0 with
  | false => exact sides_skip l0 l1 l2 k (by omega)
  | true =>
    rw [if_pos rfl, hf1 k (by omega), Option.bind_some]
    cases b1 with
    | false => exact sides_skip l0 l1 l2 k (by omega)
    | true =>
      rw [if_pos rfl, hf2 k (by omega), Option.bind_some]
      cases b2 with
      | false => exact sides_skip l0 l1 l2 k (by omega)
      | true => exact sides_go l0 l1 l2 (hb0 rfl) (hb1 rfl) (hb2 rfl) k (by omega) (by omega)
end Go.Proofs.Ytebhophblgpjeaa.Seq
