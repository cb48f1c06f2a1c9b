/- The law SequenceLong, as numbers and lists: with a list of more than 2000 elements there is no result. -/
import Derived.Test.YtebhophblgpjeaaSeqH4
import Derived.Test.YtebhophblgpjeaaSeqP0
namespace Go.Proofs.Ytebhophblgpjeaa.Seq
open Go.RowKit Go.Proofs.YtebhophblgpjeaaW.PrintWords Go.Proofs.YtebhophblgpjeaaW.PrintLast Go.Proofs.YtebhophblgpjeaaW.PrintMore
set_option linter.unusedVariables false
set_option linter.unusedSimpArgs false
theorem long_num (a : Int) (h0 : 0 ≤ a) (h1 : a ≤ 65535) : ∃ n : Nat, 2001 ≤ n ∧ n ≤ 5000 ∧ wrap64 (2001 + (Int.tmod (wrap64 a) 3000)) = (n : Int) := by
  have hw : wrap64 a = a := by unfold wrap64; omega
  rw [hw, Int.tmod_eq_emod_of_nonneg h0]
  refine ⟨(2001 + a % 3000).toNat, by omega, by omega, ?_⟩
  unfold wrap64
  omega
theorem SequenceLong_pure (a0 : Int) (l1 : List ByteArray) (w0 : (Lit.int .u16 a0).wf = true) (h1 : l1.length ≤ 9223372036854775807) : ∃ k, planispherelaw25_SequenceLong.f k a0 l1 = some true := by
  have hb : 0 ≤ a0 ∧ a0 ≤ 65535 := by
    simp only [Lit.wf, IntKind.min, IntKind.max, IntKind.signed, IntKind.bits, Bool.and_eq_true, decide_eq_true_eq] at w0
    exact ⟨by have := w0.1; simp at this; omega, by have := w0.2; simp at this; omega⟩
  obtain ⟨n, hn1, hn2, hn⟩ := long_num a0 hb.1 hb.2
  obtain ⟨b, hb1, hb2⟩ := few_f l1 h1
  obtain ⟨k, hk⟩ : ∃ k : Nat, 100 ≤ k := ⟨100, Nat.le_refl _⟩
  refine ⟨k, ?_⟩
  unfold planispherelaw25_SequenceLong.f
  rw [head_f k (by omega), Option.bind_some, hb2 k (by omega), Option.bind_some, hn]
  cases b with
  | false => rfl
  | true =>
    have hlen : (List.replicate n (⟨#[]⟩ : ByteArray)).length = n := List.length_replicate
    have m1 := mergeV_long (List.replicate n (⟨#[]⟩ : ByteArray)) l1 l1 (by rw [hlen]; omega)
    have m2 := mergeV_long l1 (List.replicate n (⟨#[]⟩ : ByteArray)) l1 (by rw [hlen]; omega)
    have m3 := mergeV_long l1 l1 (List.replicate n (⟨#[]⟩ : ByteArray)) (by rw [hlen]; omega)
    have c1 := commonV_long (List.replicate n (⟨#[]⟩ : ByteArray)) l1 (by rw [hlen]; omega)
    have c2 := commonV_long l1 (List.replicate n (⟨#[]⟩ : ByteArray)) (by rw [hlen]; omega)
    rw [Int.toNat_natCast]
    generalize (List.replicate n (⟨#[]⟩ : ByteArray)) = long at *
    rw [if_pos rfl, if_pos (by omega), if_pos (by omega)]
    rw [Option.bind_some, merge_f _ _ _ k (by omega), Option.bind_some, merge_f _ _ _ k (by omega), Option.bind_some, merge_f _ _ _ k (by omega), Option.bind_some, m1, m2, m3]
    have hz : wrap64 (wrap64 ((([] : List ByteArray).length : Int) + (([] : List ByteArray).length : Int)) + (([] : List ByteArray).length : Int)) = 0 := by simp only [List.length_nil]; unfold wrap64; omega
    simp only [if_true, Bool.false_eq_true, if_false]
    rw [if_pos hz, common_f _ _ k (by omega), Option.bind_some, c1, if_pos (by rfl), common_f _ _ k (by omega), Option.bind_some, c2]
    rfl
end Go.Proofs.Ytebhophblgpjeaa.Seq
