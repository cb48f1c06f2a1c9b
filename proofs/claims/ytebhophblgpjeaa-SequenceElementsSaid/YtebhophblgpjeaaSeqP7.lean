/- The law SequenceElements, as lists: what the merge has comes from a side, and it has what both sides keep. -/
import Derived.Test.YtebhophblgpjeaaSeqH7
import Derived.Test.YtebhophblgpjeaaSeqP0
import Derived.Test.YtebhophblgpjeaaSeqQ
import Derived.Test.YtebhophblgpjeaaSeqR
namespace Go.Proofs.Ytebhophblgpjeaa.Seq
open Go.RowKit Go.Proofs.YtebhophblgpjeaaW.PrintWords Go.Proofs.YtebhophblgpjeaaW.PrintLast Go.Proofs.YtebhophblgpjeaaW.PrintMore
set_option linter.unusedVariables false
set_option linter.unusedSimpArgs false
section
variable {α : Type} [DecidableEq α]
omit [DecidableEq α] in
theorem mem_cutOf {l : List α} {i j : Nat} {e : α} (h : e ∈ cutOf l i j) : e ∈ l := List.mem_of_mem_drop (List.mem_of_mem_take h)
theorem mergeGo_sub (base ours theirs : List α) : ∀ (S : List (Nat × Nat × Nat)) (i j k : Nat) (out r : List α), mergeGo base ours theirs S i j k out = some r → (∀ p ∈ S, ∀ x, base[p.1]? = some x → x ∈ ours) → ∀ e ∈ r, e ∈ out ∨ e ∈ ours ∨ e ∈ theirs
  | [], i, j, k, out, r, h, _, e, he => by simp only [mergeGo, Option.some.injEq] at h; subst h; exact .inl he
  | (b, o, t) :: S, i, j, k, out, r, h, hm, e, he => by
    simp only [mergeGo] at h
    split at h
    · cases h
    · rename_i part hp
      rcases mergeGo_sub base ours theirs S _ _ _ _ _ h (fun p hp => hm p (by simp [hp])) e he with h1 | h1
      · simp only [List.mem_append] at h1
        rcases h1 with (h1 | h1) | h1
        · exact .inl h1
        · rcases chunk_cases hp with rfl | rfl
          · exact .inr (.inl (mem_cutOf h1))
          · exact .inr (.inr (mem_cutOf h1))
        · refine .inr (.inl (hm (b, o, t) (by simp) e ?_))
          simpa using h1
      · exact .inr h1
theorem mergeGo_keep (base ours theirs : List α) : ∀ (S : List (Nat × Nat × Nat)) (i j k : Nat) (out r : List α), mergeGo base ours theirs S i j k out = some r → (∀ e ∈ out, e ∈ r) ∧ ∀ p ∈ S, ∀ x, base[p.1]? = some x → x ∈ r
  | [], i, j, k, out, r, h => by simp only [mergeGo, Option.some.injEq] at h; subst h; exact ⟨fun e he => he, fun p hp => by cases hp⟩
  | (b, o, t) :: S, i, j, k, out, r, h => by
    simp only [mergeGo] at h
    split at h
    · cases h
    · obtain ⟨h1, h2⟩ := mergeGo_keep base ours theirs S _ _ _ _ _ h
      refine ⟨fun e he => h1 e (by simp [he]), fun p hp x hx => ?_⟩
      rcases List.mem_cons.1 hp with rfl | hp
      · exact h1 x (by rw [hx]; simp)
      · exact h2 p hp x hx
end
theorem mergeV_some {base ours theirs l : List ByteArray} (h : mergeV base ours theirs = (l, true)) : mergeGo base ours theirs (stables (mt base ours) (mt base theirs) ++ [(base.length, ours.length, theirs.length)]) 0 0 0 [] = some l := by
  unfold mergeV at h
  split at h
  · simp at h
  · rename_i l' he
    simp only [Prod.mk.injEq, and_true] at h
    subst h
    unfold mergeO at he
    split at he
    · exact he
    · cases he
theorem merge_from {base ours theirs l : List ByteArray} (h : mergeV base ours theirs = (l, true)) (e : ByteArray) (he : e ∈ l) : e ∈ ours ∨ e ∈ theirs := by
  have := mergeGo_sub base ours theirs _ _ _ _ _ _ (mergeV_some h) (fun p hp x hx => by
    rcases List.mem_append.1 hp with hp | hp
    · have h1 := (mt_get (stables_mem hp).1).2.2
      simp only at h1
      rw [h1] at hx
      exact List.mem_of_getElem? hx
    · rw [List.mem_singleton.1 hp] at hx
      rw [List.getElem?_eq_none (Nat.le_refl _)] at hx
      cases hx) e he
  simpa using this
theorem mem_commonV {a b : List ByteArray} (h0 : a.length ≤ 2000) (h1 : b.length ≤ 2000) {e : ByteArray} (h : e ∈ commonV a b) : ∃ p ∈ mt a b, a[p.1]? = some e := by
  unfold commonV at h
  rw [isShort_of h0, isShort_of h1] at h
  simp only [Bool.and_self, if_true, List.mem_filterMap] at h
  obtain ⟨p, hp, hx⟩ := h
  exact ⟨p, hp, hx⟩
theorem merge_has {base ours theirs l : List ByteArray} (s0 : base.length ≤ 2000) (s1 : ours.length ≤ 2000) (s2 : theirs.length ≤ 2000) (h : mergeV base ours theirs = (l, true)) (i : Nat) (hi : i < base.length)
    (hl : base[i] ∉ base.take i) (hr : base[i] ∉ base.drop (i + 1)) (hx : base[i] ∈ commonV base ours) (hy : base[i] ∈ commonV base theirs) : base[i] ∈ l := by
  have huniq : ∀ j, base[j]? = some base[i] → j = i := by
    intro j hj
    obtain ⟨hj1, hj2⟩ := List.getElem?_eq_some_iff.1 hj
    rcases Nat.lt_trichotomy j i with h1 | h1 | h1
    · exfalso
      apply hl
      rw [← hj2]
      exact List.mem_take_iff_getElem.2 ⟨j, by omega, rfl⟩
    · exact h1
    · exfalso
      apply hr
      rw [← hj2]
      refine List.mem_drop_iff_getElem.2 ⟨j - (i + 1), by omega, ?_⟩
      congr 1
      omega
  obtain ⟨p, hp, hpe⟩ := mem_commonV s0 s1 hx
  obtain ⟨q, hq, hqe⟩ := mem_commonV s0 s2 hy
  have e1 := huniq _ hpe
  have e2 := huniq _ hqe
  have hst : (i, p.2, q.2) ∈ stables (mt base ours) (mt base theirs) := (mem_stables (mt_inc _ _) _).2 ⟨by rw [← e1]; exact hp, by rw [← e2]; exact hq⟩
  exact (mergeGo_keep base ours theirs _ _ _ _ _ _ (mergeV_some h)).2 _ (List.mem_append.2 (.inl hst)) _ (List.getElem?_eq_getElem hi)

/-- Has a list an element. -/
def inB (l : List ByteArray) (s : ByteArray) : Bool := l.any (fun x => decide (x = s))
theorem inB_iff {l : List ByteArray} {s : ByteArray} : inB l s = true ↔ s ∈ l := by
  unfold inB
  rw [List.any_eq_true]
  constructor
  · rintro ⟨x, hx, h⟩
    have := of_decide_eq_true h
    exact this ▸ hx
  · intro h
    exact ⟨s, h, decide_eq_true rfl⟩
theorem inB_no {l : List ByteArray} {s : ByteArray} (h : s ∉ l) : ¬ inB l s = true := fun h2 => h (inB_iff.1 h2)
theorem in_l0 (l : List ByteArray) (s : ByteArray) (hn : l.length ≤ 9223372036854775807) (d : Nat) : ∀ (k i : Nat), i ≤ l.length → l.length - i = d → d < k → planispherelaw25_in.l0 k l s (i : Int) = some (inB (l.drop i) s) := by
  induction d with
  | zero =>
    intro k i h0 hd hk
    obtain ⟨k, rfl⟩ : ∃ m, k = m + 1 := ⟨k - 1, by omega⟩
    simp only [planispherelaw25_in.l0]
    rw [if_neg (by omega), List.drop_of_length_le (show l.length ≤ i by omega)]
    rfl
  | succ d ih =>
    intro k i h0 hd hk
    obtain ⟨k, rfl⟩ : ∃ m, k = m + 1 := ⟨k - 1, by omega⟩
    have hlt : i < l.length := by omega
    simp only [planispherelaw25_in.l0]
    rw [if_pos (by omega), if_pos (by omega), rdOf_nat l i hlt, wrap_nat hlt hn, ih k (i + 1) (by omega) (by omega) (by omega)]
    have hd2 : inB (l.drop i) s = (decide (l[i] = s) || inB (l.drop (i + 1)) s) := by rw [List.drop_eq_getElem_cons hlt]; rfl
    rw [hd2]
    by_cases he : l[i] = s
    · rw [if_pos ((str_eq _ _).2 he), decide_eq_true he]
      rfl
    · rw [if_neg (fun h => he ((str_eq _ _).1 h)), decide_eq_false he]
      rfl
theorem in_f (l : List ByteArray) (s : ByteArray) (hn : l.length ≤ 9223372036854775807) (k : Nat) (hk : l.length < k) : planispherelaw25_in.f k l s = some (inB l s) := by
  unfold planispherelaw25_in.f
  have := in_l0 l s hn l.length k 0 (by omega) (by omega) hk
  simpa using this

section
variable {l0 l1 l2 l : List ByteArray}
theorem elements_l1 (h0 : l0.length ≤ 30) (h1 : l1.length ≤ 30) (h2 : l2.length ≤ 30) (hm : mergeV l0 l1 l2 = (l, true)) (hl : l.length ≤ 9223372036854775807) (d : Nat) : ∀ (k i : Nat), i ≤ l0.length → l0.length - i = d → 2 * d + l.length + 100 ≤ k →
    planispherelaw25_SequenceElements.l1 k l0 true l (commonV l0 l1) (commonV l0 l2) (i : Int) = some true := by
  have hc1 : (commonV l0 l1).length ≤ 30 := by have := (commonV_left l0 l1 (by omega) (by omega)).length_le; omega
  have hc2 : (commonV l0 l2).length ≤ 30 := by have := (commonV_left l0 l2 (by omega) (by omega)).length_le; omega
  induction d with
  | zero =>
    intro k i hi hd hk
    obtain ⟨k, rfl⟩ : ∃ m, k = m + 1 := ⟨k - 1, by omega⟩
    simp only [planispherelaw25_SequenceElements.l1]
    rw [if_neg (by omega)]
  | succ d ih =>
    intro k i hi hd hk
    obtain ⟨k, rfl⟩ : ∃ m, k = m + 1 + 1 := ⟨k - 2, by omega⟩
    have hlt : i < l0.length := by omega
    have hnext := ih k (i + 1) (by omega) (by omega) (by omega)
    have hnext1 := ih (k + 1) (i + 1) (by omega) (by omega) (by omega)
    have hw := Aside0.mk (wrap_nat (i := i) (n := l0.length) hlt (by omega))
    have hr := rdOf_nat l0 i hlt
    have hlast : ∀ b : Bool, (b = true → l0[i] ∉ l0.take i ∧ l0[i] ∉ l0.drop (i + 1)) → planispherelaw25_SequenceElements.j3 (k + 1) l0 true l (commonV l0 l1) (commonV l0 l2) (i : Int) b = some true := by
      intro b hb
      simp only [planispherelaw25_SequenceElements.j3, hw.out]
      cases b with
      | false => rw [if_neg (by simp)]; exact hnext
      | true =>
        rw [if_pos (Eq.refl true), if_pos (by omega), if_pos (by omega), hr, in_f _ _ (by omega) k (by omega), Option.bind_some]
        by_cases hx : l0[i] ∈ commonV l0 l1
        · rw [if_pos (inB_iff.2 hx), in_f _ _ (by omega) k (by omega), Option.bind_some]
          by_cases hy : l0[i] ∈ commonV l0 l2
          · have hz := merge_has (by omega) (by omega) (by omega) hm i hlt (hb rfl).1 (hb rfl).2 hx hy
            rw [if_pos (inB_iff.2 hy), in_f _ _ (by omega) k (by omega), Option.bind_some, if_pos (inB_iff.2 hz)]
            exact hnext
          · rw [if_neg (inB_no hy)]; exact hnext
        · rw [if_neg (inB_no hx)]; exact hnext
    simp only [planispherelaw25_SequenceElements.l1]
    rw [if_pos (by omega), if_pos (by omega), if_pos (by omega), hr, Int.toNat_natCast, in_f _ _ (by rw [List.length_take]; omega) (k + 1) (by rw [List.length_take]; omega), Option.bind_some, hw.out]
    by_cases ht : l0[i] ∈ l0.take i
    · rw [if_pos (inB_iff.2 ht)]
      exact hlast false (fun h => by cases h)
    · rw [if_neg (inB_no ht), if_pos (by omega), if_pos (by omega), Int.toNat_natCast, in_f _ _ (by rw [List.length_drop]; omega) (k + 1) (by rw [List.length_drop]; omega), Option.bind_some]
      refine hlast _ (fun h => ⟨ht, fun h2 => ?_⟩)
      rw [inB_iff.2 h2] at h
      cases h
theorem elements_l0 (h0 : l0.length ≤ 30) (h1 : l1.length ≤ 30) (h2 : l2.length ≤ 30) (hm : mergeV l0 l1 l2 = (l, true)) (hl : l.length ≤ 9223372036854775807) (d : Nat) : ∀ (k i : Nat), i ≤ l.length → l.length - i = d → d + l.length + 200 ≤ k →
    planispherelaw25_SequenceElements.l0 k l0 l1 l2 true l (i : Int) = some true := by
  induction d with
  | zero =>
    intro k i hi hd hk
    obtain ⟨k, rfl⟩ : ∃ m, k = m + 1 := ⟨k - 1, by omega⟩
    simp only [planispherelaw25_SequenceElements.l0]
    rw [if_neg (by omega), common_f _ _ k (by omega), Option.bind_some, common_f _ _ k (by omega), Option.bind_some]
    exact elements_l1 h0 h1 h2 hm hl l0.length k 0 (by omega) (by omega) (by omega)
  | succ d ih =>
    intro k i hi hd hk
    obtain ⟨k, rfl⟩ : ∃ m, k = m + 1 := ⟨k - 1, by omega⟩
    have hlt : i < l.length := by omega
    have hnext := ih k (i + 1) (by omega) (by omega) (by omega)
    simp only [planispherelaw25_SequenceElements.l0]
    rw [if_pos (by omega), if_pos (by omega), rdOf_nat l i hlt, wrap_nat hlt (by omega), in_f _ _ (by omega) k (by omega), Option.bind_some, in_f _ _ (by omega) k (by omega), Option.bind_some]
    by_cases ho : l[i] ∈ l1
    · rw [if_pos (inB_iff.2 ho)]; exact hnext
    · have ht := (merge_from hm l[i] (List.getElem_mem hlt)).resolve_left ho
      rw [if_neg (inB_no ho), if_pos (inB_iff.2 ht)]; exact hnext
theorem elements_skip (k : Nat) (hk : 0 < k) : planispherelaw25_SequenceElements.j0 k l0 l1 l2 true true = some true := by
  obtain ⟨k, rfl⟩ : ∃ m, k = m + 1 := ⟨k - 1, by omega⟩
  simp only [planispherelaw25_SequenceElements.j0, if_true]
theorem elements_go (h0 : l0.length ≤ 30) (h1 : l1.length ≤ 30) (h2 : l2.length ≤ 30) (k : Nat) (hk : 2 * (mergeV l0 l1 l2).1.length + 1000 ≤ k) : planispherelaw25_SequenceElements.j0 k l0 l1 l2 true false = some true := by
  obtain ⟨k, rfl⟩ : ∃ m, k = m + 1 := ⟨k - 1, by omega⟩
  have hlen := mergeV_len l0 l1 l2
  simp only [planispherelaw25_SequenceElements.j0, Bool.false_eq_true, if_false]
  rw [merge_f _ _ _ k (by omega), Option.bind_some]
  cases hm : mergeV l0 l1 l2 with
  | mk l b =>
    rw [hm] at hlen hk
    simp only at hlen hk
    cases b with
    | true =>
      rw [if_pos (Eq.refl true)]
      exact elements_l0 h0 h1 h2 hm (by omega) l.length k 0 (by omega) (by omega) (by omega)
    | false =>
      have hl0 : l = [] := by
        unfold mergeV at hm
        split at hm
        · simpa using hm.symm
        · simp at hm
      subst hl0
      have n1 : ¬ l0 = l1 := fun h => by subst h; rw [mergeV_base l0 l2 (by omega) (by omega)] at hm; simp at hm
      have n2 : ¬ l0 = l2 := fun h => by subst h; rw [mergeV_base' l0 l1 (by omega) (by omega)] at hm; simp at hm
      have n3 : ¬ l1 = l2 := fun h => by subst h; rw [mergeV_same l0 l1 (by omega) (by omega)] at hm; simp at hm
      rw [if_neg (by simp), if_pos trivial, if_pos (by rfl), same_f _ _ (by omega) k (by omega), Option.bind_some, if_neg (by simp [n1]), same_f _ _ (by omega) k (by omega), Option.bind_some, if_neg (by simp [n2]), same_f _ _ (by omega) k (by omega), Option.bind_some]
      simp [n3]
end
theorem SequenceElements_pure (l0 l1 l2 : List ByteArray) (h0 : l0.length ≤ 9223372036854775807) (h1 : l1.length ≤ 9223372036854775807) (h2 : l2.length ≤ 9223372036854775807) : ∃ k, planispherelaw25_SequenceElements.f k l0 l1 l2 = some true := by
  obtain ⟨b0, hb0, hf0⟩ := few_f l0 h0
  obtain ⟨b1, hb1, hf1⟩ := few_f l1 h1
  obtain ⟨b2, hb2, hf2⟩ := few_f l2 h2
  obtain ⟨k, hk⟩ : ∃ k : Nat, 2 * (mergeV l0 l1 l2).1.length + 1000 ≤ k := ⟨_, Nat.le_refl _⟩
  refine ⟨k, ?_⟩
  unfold planispherelaw25_SequenceElements.f
  rw [head_f k (by omega), Option.bind_some, hf0 k (by omega), Option.bind_some]
  cases b0 with
  | false => exact elements_skip k (by omega)
  | true =>
    rw [if_pos (Eq.refl true), hf1 k (by omega), Option.bind_some]
    cases b1 with
    | false => exact elements_skip k (by omega)
    | true =>
      rw [if_pos (Eq.refl true), hf2 k (by omega), Option.bind_some]
      cases b2 with
      | false => exact elements_skip k (by omega)
      | true => exact elements_go (hb0 rfl) (hb1 rfl) (hb2 rfl) k hk
end Go.Proofs.Ytebhophblgpjeaa.Seq
