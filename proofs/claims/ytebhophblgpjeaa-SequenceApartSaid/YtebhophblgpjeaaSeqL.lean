/- The merge of two changes that lie apart is both of them. -/
import Derived.Test.YtebhophblgpjeaaSeqQ
import Derived.Test.YtebhophblgpjeaaSeqR
namespace Go.Proofs.Ytebhophblgpjeaa.Seq
open Go.RowKit Go.Proofs.YtebhophblgpjeaaW.PrintWords Go.Proofs.YtebhophblgpjeaaW.PrintLast Go.Proofs.YtebhophblgpjeaaW.PrintMore
attribute [local go_sem] max2_int min2_int max_two min_two max_three min_three max_four min_four
set_option linter.unusedVariables false
set_option linter.unusedSimpArgs false

section
variable {α : Type}
theorem sub_front {c1 p s : List α} (h : c1.Sublist (p ++ s)) (hd : ∀ x ∈ c1, x ∉ s) : c1.Sublist p := by
  obtain ⟨d1, d2, rfl, h1, h2⟩ := List.sublist_append_iff.1 h
  cases d2 with
  | nil => simpa using h1
  | cons x d2 => exact absurd (h2.subset (by simp)) (hd x (by simp))
theorem sub_back {c1 p s : List α} (h : c1.Sublist (s ++ p)) (hd : ∀ x ∈ c1, x ∉ s) : c1.Sublist p := by
  obtain ⟨d1, d2, rfl, h1, h2⟩ := List.sublist_append_iff.1 h
  cases d1 with
  | nil => simpa using h2
  | cons x d1 => exact absurd (h1.subset (by simp)) (hd x (by simp))
end
theorem common_back (p f s : List ByteArray) (hd : ∀ x ∈ f, x ∉ s) (h0 : (p ++ s).length ≤ 2000) (h1 : (f ++ s).length ≤ 2000) : ∀ x ∈ s, x ∈ commonV (p ++ s) (f ++ s) := by
  have e1 := commonV_left (p ++ s) (f ++ s) h0 h1
  have e2 := commonV_right (p ++ s) (f ++ s) h0 h1
  have e3 := commonV_len (p ++ s) (f ++ s) h0 h1
  obtain ⟨c1, c2, hc, hc1, hc2⟩ := List.sublist_append_iff.1 e2
  rw [hc] at e1 e3 ⊢
  have e4 : c1.Sublist p := sub_front ((List.sublist_append_left c1 c2).trans e1) (fun x hx => hd x (hc1.subset hx))
  have e5 := lcs_max p f c1 e4 hc1
  have e6 := lcs_max (p ++ s) (f ++ s) (cmFrom (p.length + f.length) p f ++ s) ((cm_left _ p f).append (List.Sublist.refl s)) ((cm_right _ p f).append (List.Sublist.refl s))
  have e7 := cm_len (p.length + f.length) p f (Nat.le_refl _)
  rw [List.length_append] at e3 e6
  have e8 : c2 = s := hc2.eq_of_length (by have := hc2.length_le; omega)
  subst e8
  intro x hx
  exact List.mem_append.2 (.inr hx)
theorem common_front (p f s : List ByteArray) (hd : ∀ x ∈ f, x ∉ s) (h0 : (s ++ p).length ≤ 2000) (h1 : (s ++ f).length ≤ 2000) : ∀ x ∈ s, x ∈ commonV (s ++ p) (s ++ f) := by
  have e1 := commonV_left (s ++ p) (s ++ f) h0 h1
  have e2 := commonV_right (s ++ p) (s ++ f) h0 h1
  have e3 := commonV_len (s ++ p) (s ++ f) h0 h1
  obtain ⟨c1, c2, hc, hc1, hc2⟩ := List.sublist_append_iff.1 e2
  rw [hc] at e1 e3 ⊢
  have e4 : c2.Sublist p := sub_back ((List.sublist_append_right c1 c2).trans e1) (fun x hx => hd x (hc2.subset hx))
  have e5 := lcs_max p f c2 e4 hc2
  have e6 := lcs_max (s ++ p) (s ++ f) (s ++ cmFrom (p.length + f.length) p f) ((List.Sublist.refl s).append (cm_left _ p f)) ((List.Sublist.refl s).append (cm_right _ p f))
  have e7 := cm_len (p.length + f.length) p f (Nat.le_refl _)
  rw [List.length_append] at e3 e6
  have e8 : c1 = s := hc1.eq_of_length (by have := hc1.length_le; omega)
  subst e8
  intro x hx
  exact List.mem_append.2 (.inl hx)
theorem mem_common {a b : List ByteArray} (h0 : a.length ≤ 2000) (h1 : b.length ≤ 2000) {e : ByteArray} (h : e ∈ commonV a b) : ∃ p ∈ mt a b, a[p.1]? = some e := by
  unfold commonV at h
  rw [isShort_of h0, isShort_of h1] at h
  simp only [Bool.and_self, if_true, List.mem_filterMap] at h
  obtain ⟨p, hp, hx⟩ := h
  exact ⟨p, hp, hx⟩
theorem nd_eq {l : List ByteArray} (hn : l.Nodup) {i j : Nat} {x : ByteArray} (hi : l[i]? = some x) (hj : l[j]? = some x) : i = j := by
  have h := (List.getElem?_eq_some_iff.1 hi).1
  exact (List.getElem?_inj h hn).1 (hi.trans hj.symm)
theorem mt_back (p f s : List ByteArray) (hn : (p ++ s).Nodup) (hd : ∀ x ∈ f, x ∉ s) (h0 : (p ++ s).length ≤ 2000) (h1 : (f ++ s).length ≤ 2000) (x : Nat) (hx : x < s.length) : (p.length + x, f.length + x) ∈ mt (p ++ s) (f ++ s) := by
  obtain ⟨⟨u, v⟩, hp, hu⟩ := mem_common h0 h1 (common_back p f s hd h0 h1 s[x] (List.getElem_mem hx))
  have hv := (mt_get hp).2.2
  simp only at hu hv
  rw [hu] at hv
  have hs : s[x]? = some s[x] := List.getElem?_eq_getElem hx
  have e1 : u = p.length + x := nd_eq hn hu (by rw [List.getElem?_append_right (by omega), show p.length + x - p.length = x by omega, hs])
  have e2 : v = f.length + x := by
    by_cases hlt : v < f.length
    · rw [List.getElem?_append_left hlt] at hv
      exact absurd (List.getElem_mem hx) (hd _ (List.mem_of_getElem? hv.symm))
    · rw [List.getElem?_append_right (by omega)] at hv
      have := nd_eq (List.nodup_append.1 hn).2.1 hv.symm hs
      omega
  subst e1 e2
  exact hp
theorem mt_front (p f s : List ByteArray) (hn : (s ++ p).Nodup) (hd : ∀ x ∈ f, x ∉ s) (h0 : (s ++ p).length ≤ 2000) (h1 : (s ++ f).length ≤ 2000) (x : Nat) (hx : x < s.length) : (x, x) ∈ mt (s ++ p) (s ++ f) := by
  obtain ⟨⟨u, v⟩, hp, hu⟩ := mem_common h0 h1 (common_front p f s hd h0 h1 s[x] (List.getElem_mem hx))
  have hv := (mt_get hp).2.2
  simp only at hu hv
  rw [hu] at hv
  have hs : s[x]? = some s[x] := List.getElem?_eq_getElem hx
  have e1 : u = x := nd_eq hn hu (by rw [List.getElem?_append_left hx, hs])
  have e2 : v = x := by
    by_cases hlt : v < s.length
    · rw [List.getElem?_append_left hlt] at hv
      exact nd_eq (List.nodup_append.1 hn).1 hv.symm hs
    · rw [List.getElem?_append_right (by omega)] at hv
      exact absurd (List.getElem_mem hx) (hd _ (List.mem_of_getElem? hv.symm))
  subst e1 e2
  exact hp

theorem StOK_mem (la lb lc : Nat) : ∀ (l : List (Nat × Nat × Nat)) (i j k : Nat), StOK la lb lc i j k l → ∀ p ∈ l, i ≤ p.1 ∧ j ≤ p.2.1 ∧ k ≤ p.2.2
  | [], _, _, _, _, p, hp => by cases hp
  | (b, o, t) :: l, i, j, k, h, p, hp => by
    simp only [StOK] at h
    rcases List.mem_cons.1 hp with rfl | hp
    · exact ⟨h.1.1, h.2.1.1, h.2.2.1.1⟩
    · obtain ⟨h1, h2, h3⟩ := StOK_mem la lb lc l _ _ _ h.2.2.2 p hp
      exact ⟨by omega, by omega, by omega⟩
section
variable {α : Type}
theorem drop_step (l base : List α) (k t b : Nat) (h : k ≤ t) (ht : t < l.length) (hb : base[b]? = l[t]?) : cutOf l k t ++ (base[b]?).toList ++ l.drop (t + 1) = l.drop k := by
  have e1 : l.drop k = cutOf l k t ++ l.drop t := by
    unfold cutOf
    conv => lhs; rw [← List.take_append_drop (t - k) (l.drop k), List.drop_drop, show k + (t - k) = t by omega]
  rw [e1, List.append_assoc, hb, List.getElem?_eq_getElem ht, List.drop_eq_getElem_cons ht]
  rfl
theorem cut_take (l : List α) (j o F : Nat) (h : o ≤ F) : cutOf (l.take F) j o = cutOf l j o := by
  unfold cutOf
  rw [List.drop_take, List.take_take, Nat.min_eq_left (by omega)]
end
theorem go_two (base ours theirs : List ByteArray) (P f : Nat) (hl : base.length - P + f = ours.length) (hcut : ∀ i b, P ≤ i → i ≤ b → cutOf base i b = cutOf ours (i - P + f) (b - P + f)) :
    ∀ (S : List (Nat × Nat × Nat)) (i k : Nat) (out : List ByteArray), P ≤ i → StOK base.length ours.length theirs.length i (i - P + f) k (S ++ [(base.length, ours.length, theirs.length)]) →
    (∀ p ∈ S, p.2.1 = p.1 - P + f ∧ p.2.2 < theirs.length ∧ base[p.1]? = theirs[p.2.2]?) →
    mergeGo base ours theirs (S ++ [(base.length, ours.length, theirs.length)]) i (i - P + f) k out = some (out ++ theirs.drop k)
  | [], i, k, out, hi, hs, _ => by
    simp only [List.nil_append, StOK] at hs
    simp only [List.nil_append, mergeGo]
    rw [← hl, ← hcut i base.length hi hs.1.1, chunk_self]
    simp only [List.getElem?_eq_none (Nat.le_refl _), Option.toList_none, List.append_nil]
    unfold cutOf
    rw [List.take_of_length_le (by simp)]
  | (b, o, t) :: S, i, k, out, hi, hs, hm => by
    have hp := hm (b, o, t) (by simp)
    simp only at hp
    obtain ⟨rfl, ht, hb⟩ := hp
    simp only [List.cons_append, StOK] at hs
    simp only [List.cons_append, mergeGo]
    rw [← hcut i b hi hs.1.1, chunk_self]
    have e : b - P + f + 1 = b + 1 - P + f := by omega
    simp only
    rw [e] at hs ⊢
    rw [go_two base ours theirs P f hl hcut S (b + 1) (t + 1) _ (by omega) hs.2.2.2 (fun p hp => hm p (by simp [hp]))]
    rw [← drop_step theirs base k t b hs.2.2.1.1 ht hb]
    simp only [List.append_assoc]
theorem go_one (base ours theirs : List ByteArray) (P f N F : Nat) (hPN : P < N) (hF : F = N - P + f) (hN : N ≤ base.length) (hFl : F ≤ ours.length) (hl : base.length - P + f = ours.length) (hcut : ∀ i b, P ≤ i → i ≤ b → cutOf base i b = cutOf ours (i - P + f) (b - P + f))
    (hcut2 : ∀ i b, i ≤ b → b ≤ N → cutOf base i b = cutOf theirs i b) :
    ∀ (S : List (Nat × Nat × Nat)) (i j : Nat) (out : List ByteArray), i ≤ N → StOK base.length ours.length theirs.length i j i (S ++ [(base.length, ours.length, theirs.length)]) →
    (∀ p ∈ S, (p.1 < N → p.2.2 = p.1) ∧ (P ≤ p.1 → p.2.1 = p.1 - P + f) ∧ p.2.1 < ours.length ∧ p.2.2 < theirs.length ∧ base[p.1]? = ours[p.2.1]? ∧ base[p.1]? = theirs[p.2.2]?) →
    (i < N → (N - 1, F - 1, N - 1) ∈ S) → (i = N → j = F) →
    mergeGo base ours theirs (S ++ [(base.length, ours.length, theirs.length)]) i j i out = some (out ++ (ours.take F).drop j ++ theirs.drop N) := by
  intro S
  induction S with
  | nil =>
    intro i j out hi hs hm hin hij
    have e : i = N := by
      by_cases h : i < N
      · cases hin h
      · omega
    have ej := hij e
    subst e
    subst ej
    subst hF
    rw [go_two base ours theirs P f hl hcut [] i i out (by omega) hs (fun p hp => by cases hp), show (ours.take (i - P + f)).drop (i - P + f) = [] from List.drop_eq_nil_of_le (List.length_take_le _ _), List.append_nil]
  | cons p S ih =>
    intro i j out hi hs hm hin hij
    by_cases h : i < N
    · obtain ⟨b, o, t⟩ := p
      have hp := hm (b, o, t) (by simp)
      simp only at hp
      simp only [List.cons_append, StOK] at hs
      have hlt : b < N ∧ o < F ∧ (b + 1 < N → (N - 1, F - 1, N - 1) ∈ S) ∧ (b + 1 = N → o + 1 = F) := by
        rcases List.mem_cons.1 (hin h) with h1 | h1
        · simp only [Prod.mk.injEq] at h1
          exact ⟨by omega, by omega, fun h => by omega, fun h => by omega⟩
        · have := StOK_mem _ _ _ _ _ _ _ hs.2.2.2 _ (List.mem_append.2 (.inl h1))
          simp only at this
          exact ⟨by omega, by omega, fun _ => h1, fun h => by omega⟩
      obtain ⟨hb, ho, h3, h4⟩ := hlt
      have ht := hp.1 hb
      subst ht
      simp only [List.cons_append, mergeGo]
      rw [hcut2 i t hs.1.1 (by omega), chunk_swap, chunk_self]
      simp only
      rw [ih (t + 1) (o + 1) _ (by omega) hs.2.2.2 (fun p hp => hm p (by simp [hp])) h3 h4]
      have e := drop_step (ours.take F) base j o t hs.2.1.1 (by rw [List.length_take]; omega) (by rw [hp.2.2.2.2.1, List.getElem?_take_of_lt ho])
      rw [cut_take _ _ _ _ (by omega)] at e
      rw [← e]
      simp only [List.append_assoc]
    · have e : i = N := by omega
      have ej := hij e
      subst e
      subst ej
      subst hF
      rw [go_two base ours theirs P f hl hcut (p :: S) i i out (by omega) hs (fun q hq => by
        have h1 := StOK_mem _ _ _ _ _ _ _ hs q (List.mem_append.2 (.inl hq))
        have h2 := hm q hq
        exact ⟨h2.2.1 (by omega), h2.2.2.2.1, h2.2.2.2.2.2⟩), show (ours.take (i - P + f)).drop (i - P + f) = [] from List.drop_eq_nil_of_le (List.length_take_le _ _), List.append_nil]
theorem merge_apart (p q r first last : List ByteArray) (hn : (p ++ q ++ r).Nodup) (hq : q ≠ []) (hf : ∀ x ∈ first, x ∉ q ∧ x ∉ r) (hla : ∀ x ∈ last, x ∉ q ∧ x ∉ p)
    (h0 : (p ++ q ++ r).length ≤ 2000) (h1 : (first ++ q ++ r).length ≤ 2000) (h2 : (p ++ q ++ last).length ≤ 2000) :
    mergeV (p ++ q ++ r) (first ++ q ++ r) (p ++ q ++ last) = (first ++ q ++ last, true) := by
  have hq1 : 0 < q.length := List.length_pos_iff.2 hq
  have b0 : ∀ x, x < q.length + r.length → (p.length + x, first.length + x) ∈ mt (p ++ q ++ r) (first ++ q ++ r) := by
    intro x hx
    have := mt_back p first (q ++ r) (by rw [← List.append_assoc]; exact hn) (fun x hx h => by
      rcases List.mem_append.1 h with h | h
      · exact (hf x hx).1 h
      · exact (hf x hx).2 h) (by rw [← List.append_assoc]; exact h0) (by rw [← List.append_assoc]; exact h1) x (by rw [List.length_append]; exact hx)
    rw [← List.append_assoc, ← List.append_assoc] at this
    exact this
  have b1 : ∀ x, x < p.length + q.length → (x, x) ∈ mt (p ++ q ++ r) (p ++ q ++ last) := by
    intro x hx
    exact mt_front r last (p ++ q) hn (fun x hx h => by
      rcases List.mem_append.1 h with h | h
      · exact (hla x hx).2 h
      · exact (hla x hx).1 h) h0 h2 x (by rw [List.length_append]; exact hx)
  have l0 : (p ++ q ++ r).length = p.length + q.length + r.length := by rw [List.length_append, List.length_append]
  have l1 : (first ++ q ++ r).length = first.length + q.length + r.length := by rw [List.length_append, List.length_append]
  have l2 : (p ++ q ++ last).length = p.length + q.length + last.length := by rw [List.length_append, List.length_append]
  have hcut : ∀ i b, p.length ≤ i → i ≤ b → cutOf (p ++ q ++ r) i b = cutOf (first ++ q ++ r) (i - p.length + first.length) (b - p.length + first.length) := by
    intro i b hi hb
    unfold cutOf
    have a1 : (p ++ (q ++ r)).drop i = (q ++ r).drop (i - p.length) := by rw [List.drop_append, List.drop_eq_nil_of_le hi, List.nil_append]
    have a2 : (first ++ (q ++ r)).drop (i - p.length + first.length) = (q ++ r).drop (i - p.length + first.length - first.length) := by rw [List.drop_append, List.drop_eq_nil_of_le (show first.length ≤ i - p.length + first.length by omega), List.nil_append]
    rw [List.append_assoc, List.append_assoc, a1, a2,
      show i - p.length + first.length - first.length = i - p.length by omega, show b - p.length + first.length - (i - p.length + first.length) = b - i by omega]
  have hcut2 : ∀ i b, i ≤ b → b ≤ p.length + q.length → cutOf (p ++ q ++ r) i b = cutOf (p ++ q ++ last) i b := by
    intro i b hi hb
    rw [← cut_take (p ++ q ++ r) i b (p ++ q).length (by rw [List.length_append]; exact hb), ← cut_take (p ++ q ++ last) i b (p ++ q).length (by rw [List.length_append]; exact hb), List.take_left, List.take_left]
  have hgo := go_one (p ++ q ++ r) (first ++ q ++ r) (p ++ q ++ last) p.length first.length (p.length + q.length) (first.length + q.length) (by omega) (by omega) (by omega) (by omega) (by omega) hcut hcut2
    (stables (mt (p ++ q ++ r) (first ++ q ++ r)) (mt (p ++ q ++ r) (p ++ q ++ last))) 0 0 [] (by omega) (stables_ok _ _ _) (fun s hs => by
      obtain ⟨m1, m2⟩ := (mem_stables (mt_inc _ _) s).1 hs
      have g1 := mt_get m1
      have g2 := mt_get m2
      simp only at g1 g2
      refine ⟨fun hlt => ?_, fun hge => ?_, g1.2.1, g2.2.1, g1.2.2, g2.2.2⟩
      · have := inc_inj (mt_inc _ _) m2 (b1 s.1 hlt) rfl
        exact congrArg Prod.snd this
      · have h := inc_inj (mt_inc _ _) m1 (b0 (s.1 - p.length) (by omega)) (by simp only; omega)
        have := congrArg Prod.snd h
        simp only at this
        omega)
    (fun _ => (mem_stables (mt_inc _ _) _).2 ⟨by
      have := b0 (q.length - 1) (by omega)
      rw [show p.length + (q.length - 1) = p.length + q.length - 1 by omega, show first.length + (q.length - 1) = first.length + q.length - 1 by omega] at this
      exact this, b1 _ (by omega)⟩) (by omega)
  have e1 : (first ++ q ++ r).take (first.length + q.length) = first ++ q := by rw [← List.length_append, List.take_left]
  have e2 : (p ++ q ++ last).drop (p.length + q.length) = last := by rw [← List.length_append, List.drop_left]
  rw [e1, e2, List.drop_zero, List.nil_append] at hgo
  unfold mergeV mergeO
  rw [isShort_of h0, isShort_of h1, isShort_of h2]
  simp only [Bool.and_self, if_true]
  rw [hgo]

end Go.Proofs.Ytebhophblgpjeaa.Seq
