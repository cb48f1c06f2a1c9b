/- Laws of the merge on lists: it does not depend on the order of the sides; with a side equal to the base it is the other one; with both sides equal it is this. -/
import Derived.Test.YtebhophblgpjeaaSeqC
namespace Go.Proofs.Ytebhophblgpjeaa.Seq

theorem sorted_ext {α : Type} (f : α → Nat) : ∀ (l m : List α), l.Pairwise (fun p q => f p < f q) → m.Pairwise (fun p q => f p < f q) → (∀ x, x ∈ l ↔ x ∈ m) → l = m
  | [], [], _, _, _ => rfl
  | [], y :: m, _, _, h => absurd ((h y).2 (by simp)) (by simp)
  | x :: l, [], _, _, h => absurd ((h x).1 (by simp)) (by simp)
  | x :: l, y :: m, hl, hm, h => by
    rw [List.pairwise_cons] at hl hm
    have hxy : x = y := by
      rcases List.mem_cons.1 ((h x).1 (by simp)) with h1 | h1
      · exact h1
      · rcases List.mem_cons.1 ((h y).2 (by simp)) with h2 | h2
        · exact h2.symm
        · have a := hm.1 x h1
          have b := hl.1 y h2
          omega
    subst hxy
    congr 1
    refine sorted_ext f l m hl.2 hm.2 (fun z => ?_)
    constructor
    · intro hz
      rcases List.mem_cons.1 ((h z).1 (by simp [hz])) with h1 | h1
      · subst h1; have := hl.1 z hz; omega
      · exact h1
    · intro hz
      rcases List.mem_cons.1 ((h z).2 (by simp [hz])) with h1 | h1
      · subst h1; have := hm.1 z hz; omega
      · exact h1

def Inc (m : List (Nat × Nat)) : Prop := m.Pairwise (fun p q => p.1 < q.1 ∧ p.2 < q.2)
theorem mt_inc (a b : List ByteArray) : Inc (mt a b) := mtFrom_pair _ _ _ _ _
theorem inc_inj {m : List (Nat × Nat)} (h : Inc m) {p q : Nat × Nat} (hp : p ∈ m) (hq : q ∈ m) (he : p.1 = q.1) : p = q := by
  obtain ⟨i, hi, rfl⟩ := List.getElem_of_mem hp
  obtain ⟨j, hj, rfl⟩ := List.getElem_of_mem hq
  have h' := List.pairwise_iff_getElem.1 h
  rcases Nat.lt_trichotomy i j with h1 | h1 | h1
  · have := (h' i j hi hj h1).1; omega
  · subst h1; rfl
  · have := (h' j i hj hi h1).1; omega
theorem mem_stables {m n : List (Nat × Nat)} (hn : Inc n) (p : Nat × Nat × Nat) : p ∈ stables m n ↔ (p.1, p.2.1) ∈ m ∧ (p.1, p.2.2) ∈ n := by
  constructor
  · exact stables_mem
  · rintro ⟨h1, h2⟩
    unfold stables
    rw [List.mem_filterMap]
    refine ⟨(p.1, p.2.1), h1, ?_⟩
    cases hf : n.find? (fun q => q.1 == p.1) with
    | none =>
      rw [List.find?_eq_none] at hf
      exact absurd (hf _ h2) (by simp)
    | some q =>
      have hq := List.mem_of_find?_eq_some hf
      have hq1 := List.find?_some hf
      simp only [beq_iff_eq] at hq1
      have := inc_inj hn hq h2 hq1
      subst this
      simp
def swap3 (p : Nat × Nat × Nat) : Nat × Nat × Nat := (p.1, p.2.2, p.2.1)
theorem stables_swap {m n : List (Nat × Nat)} (hm : Inc m) (hn : Inc n) : stables n m = (stables m n).map swap3 := by
  refine sorted_ext (fun p => p.1) _ _ ?_ ?_ ?_
  · exact (stables_pair hn hm).imp (fun h => h.1)
  · rw [List.pairwise_map]
    exact (stables_pair hm hn).imp (fun h => h.1)
  · intro x
    rw [mem_stables hm, List.mem_map]
    constructor
    · rintro ⟨h1, h2⟩
      exact ⟨(x.1, x.2.2, x.2.1), (mem_stables hn _).2 ⟨h2, h1⟩, rfl⟩
    · rintro ⟨y, hy, rfl⟩
      have := (mem_stables hn _).1 hy
      exact ⟨this.2, this.1⟩

section
variable {α : Type} [DecidableEq α]
theorem chunk_swap (b o t : List α) : chunk b o t = chunk b t o := by
  unfold chunk
  by_cases h1 : o = b
  · by_cases h2 : t = b
    · simp [h1, h2]
    · simp [h1, h2]
  · by_cases h2 : t = b
    · simp [h1, h2]
    · by_cases h3 : t = o
      · simp [h3]
      · have h4 : ¬ o = t := fun h => h3 h.symm
        simp [h1, h2, h3, h4]
theorem mergeGo_swap (base ours theirs : List α) : ∀ (S : List (Nat × Nat × Nat)) (i j k : Nat) (out : List α), mergeGo base ours theirs S i j k out = mergeGo base theirs ours (S.map swap3) i k j out
  | [], _, _, _, _ => rfl
  | (b, o, t) :: S, i, j, k, out => by
    simp only [List.map_cons, swap3, mergeGo]
    rw [chunk_swap]
    split
    · rfl
    · exact mergeGo_swap base ours theirs S _ _ _ _
omit [DecidableEq α] in
theorem take_cut (l : List α) (k t : Nat) (h : k ≤ t) : l.take k ++ cutOf l k t = l.take t := by
  unfold cutOf
  rw [← List.take_add, show k + (t - k) = t by omega]
omit [DecidableEq α] in
theorem take_step (l base : List α) (k t b : Nat) (h : k ≤ t) (ht : t < l.length) (hb : base[b]? = l[t]?) : l.take k ++ cutOf l k t ++ (base[b]?).toList = l.take (t + 1) := by
  rw [take_cut l k t h, hb, List.getElem?_eq_getElem ht, List.take_succ_eq_append_getElem ht]
  rfl
omit [DecidableEq α] in
theorem take_last (l base : List α) (k : Nat) (h : k ≤ l.length) : l.take k ++ cutOf l k l.length ++ (base[base.length]?).toList = l := by
  rw [take_cut l k l.length h, List.getElem?_eq_none (Nat.le_refl _), List.take_length]
  simp
theorem chunk_self (b t : List α) : chunk b b t = some t := by simp [chunk]
theorem chunk_same (b o : List α) : chunk b o o = some o := by
  unfold chunk
  by_cases h : o = b <;> simp [h]
/-- One side is the base: the other side comes out. -/
theorem mergeGo_base (base theirs : List α) : ∀ (S : List (Nat × Nat × Nat)) (i k : Nat), StOK base.length base.length theirs.length i i k (S ++ [(base.length, base.length, theirs.length)]) →
    (∀ p ∈ S, p.2.1 = p.1 ∧ p.2.2 < theirs.length ∧ base[p.1]? = theirs[p.2.2]?) →
    mergeGo base base theirs (S ++ [(base.length, base.length, theirs.length)]) i i k (theirs.take k) = some theirs
  | [], i, k, hs, _ => by
    simp only [List.nil_append, StOK] at hs
    simp only [List.nil_append, mergeGo, chunk_self]
    rw [take_last theirs base k hs.2.2.1.1]
  | (b, o, t) :: S, i, k, hs, hm => by
    have hp := hm (b, o, t) (by simp)
    simp only at hp
    obtain ⟨rfl, ht, hb⟩ := hp
    simp only [List.cons_append, StOK] at hs
    simp only [List.cons_append, mergeGo, chunk_self]
    rw [take_step theirs base k t o hs.2.2.1.1 ht hb]
    exact mergeGo_base base theirs S (o + 1) (t + 1) hs.2.2.2 (fun p hp => hm p (by simp [hp]))
/-- Both sides are the same: they come out. -/
theorem mergeGo_same (base ours : List α) : ∀ (S : List (Nat × Nat × Nat)) (i j : Nat), StOK base.length ours.length ours.length i j j (S ++ [(base.length, ours.length, ours.length)]) →
    (∀ p ∈ S, p.2.2 = p.2.1 ∧ p.2.1 < ours.length ∧ base[p.1]? = ours[p.2.1]?) →
    mergeGo base ours ours (S ++ [(base.length, ours.length, ours.length)]) i j j (ours.take j) = some ours
  | [], i, j, hs, _ => by
    simp only [List.nil_append, StOK] at hs
    simp only [List.nil_append, mergeGo, chunk_same]
    rw [take_last ours base j hs.2.1.1]
  | (b, o, t) :: S, i, j, hs, hm => by
    have hp := hm (b, o, t) (by simp)
    simp only at hp
    obtain ⟨rfl, ht, hb⟩ := hp
    simp only [List.cons_append, StOK] at hs
    simp only [List.cons_append, mergeGo, chunk_same]
    rw [take_step ours base j t b hs.2.1.1 ht hb]
    exact mergeGo_same base ours S (b + 1) (t + 1) hs.2.2.2 (fun p hp => hm p (by simp [hp]))
/-- A list is matched with itself place by place. -/
theorem mtFrom_self (n : Nat) : ∀ (a : List α) (i : Nat) (p : Nat × Nat), p ∈ mtFrom n a a i i → p.1 = p.2 := by
  induction n with
  | zero => intro a i p h; simp [mtFrom] at h
  | succ n ih =>
    intro a i p h
    cases a with
    | nil => simp [mtFrom] at h
    | cons x xs =>
      simp only [mtFrom, if_true, List.mem_cons] at h
      rcases h with rfl | h
      · rfl
      · exact ih _ _ _ h
end

theorem mergeO_swap (base ours theirs : List ByteArray) : mergeO base ours theirs = mergeO base theirs ours := by
  unfold mergeO
  have e : (isShort base && isShort ours && isShort theirs) = (isShort base && isShort theirs && isShort ours) := by
    cases isShort base <;> cases isShort ours <;> cases isShort theirs <;> rfl
  rw [e, mergeGo_swap, List.map_append, stables_swap (mt_inc base ours) (mt_inc base theirs)]
  rfl
theorem mergeV_swap (base ours theirs : List ByteArray) : mergeV base ours theirs = mergeV base theirs ours := by
  unfold mergeV; rw [mergeO_swap]

theorem mt_get {a b : List ByteArray} {p : Nat × Nat} (h : p ∈ mt a b) : p.1 < a.length ∧ p.2 < b.length ∧ a[p.1]? = b[p.2]? := by
  have := mtFrom_mem _ _ _ _ _ _ h
  simp only [Nat.sub_zero] at this
  exact ⟨by omega, by omega, this.2.2.2.2⟩
theorem isShort_of {α : Type} {l : List α} (h : l.length ≤ 2000) : isShort l = true := decide_eq_true h
theorem mergeV_base (base theirs : List ByteArray) (h0 : base.length ≤ 2000) (h2 : theirs.length ≤ 2000) : mergeV base base theirs = (theirs, true) := by
  have e : mergeO base base theirs = some theirs := by
    unfold mergeO
    rw [isShort_of h0, isShort_of h2]
    simp only [Bool.and_self, if_true]
    have := mergeGo_base base theirs (stables (mt base base) (mt base theirs)) 0 0 (stables_ok _ _ _) (fun p hp => by
      have h := stables_mem hp
      have h1 := mtFrom_self _ _ _ _ h.1
      have h2 := mt_get h.2
      simp only at h1 h2
      exact ⟨h1.symm, h2.2⟩)
    simpa using this
  unfold mergeV; rw [e]
theorem mergeV_base' (base ours : List ByteArray) (h0 : base.length ≤ 2000) (h2 : ours.length ≤ 2000) : mergeV base ours base = (ours, true) := by
  rw [mergeV_swap, mergeV_base base ours h0 h2]
theorem mergeV_same (base ours : List ByteArray) (h0 : base.length ≤ 2000) (h2 : ours.length ≤ 2000) : mergeV base ours ours = (ours, true) := by
  have e : mergeO base ours ours = some ours := by
    unfold mergeO
    rw [isShort_of h0, isShort_of h2]
    simp only [Bool.and_self, if_true]
    have := mergeGo_same base ours (stables (mt base ours) (mt base ours)) 0 0 (stables_ok _ _ _) (fun p hp => by
      have h := stables_mem hp
      have h1 := inc_inj (mt_inc base ours) h.1 h.2 rfl
      have h2 := mt_get h.1
      simp only [Prod.mk.injEq, true_and] at h1 h2
      exact ⟨h1.symm, h2.2⟩)
    simpa using this
  unfold mergeV; rw [e]

theorem cutOf_le {α : Type} (l : List α) (i j : Nat) : (cutOf l i j).length ≤ l.length := by
  unfold cutOf; rw [List.length_take, List.length_drop]; omega
theorem chunk_cases {α : Type} [DecidableEq α] {b o t part : List α} (h : chunk b o t = some part) : part = o ∨ part = t := by
  unfold chunk at h
  split at h
  · exact .inr (by simpa using h.symm)
  · split at h
    · exact .inl (by simpa using h.symm)
    · split at h
      · exact .inl (by simpa using h.symm)
      · cases h
theorem mergeGo_len {α : Type} [DecidableEq α] (base ours theirs : List α) (M : Nat) (ho : ours.length ≤ M) (ht : theirs.length ≤ M) : ∀ (S : List (Nat × Nat × Nat)) (i j k : Nat) (out r : List α), mergeGo base ours theirs S i j k out = some r → r.length ≤ out.length + S.length * (M + 1)
  | [], i, j, k, out, r, h => by simp only [mergeGo, Option.some.injEq] at h; subst h; simp
  | (b, o, t) :: S, i, j, k, out, r, h => by
    simp only [mergeGo] at h
    split at h
    · cases h
    · rename_i part hp
      have h1 := mergeGo_len base ours theirs M ho ht S _ _ _ _ _ h
      have h2 : part.length ≤ M := by
        have a := cutOf_le ours j o
        have c := cutOf_le theirs k t
        rcases chunk_cases hp with rfl | rfl <;> omega
      have h3 : (base[b]?).toList.length ≤ 1 := by cases base[b]? <;> simp
      simp only [List.length_append, List.length_cons] at *
      rw [Nat.succ_mul]
      omega
theorem mergeV_len (base ours theirs : List ByteArray) : (mergeV base ours theirs).1.length ≤ 9000000 := by
  unfold mergeV
  split
  · simp
  · rename_i l h
    unfold mergeO at h
    split at h
    · rename_i hs
      simp only [Bool.and_eq_true, isShort, decide_eq_true_eq] at hs
      have h1 := mergeGo_len base ours theirs 2000 hs.1.2 hs.2 _ _ _ _ _ _ h
      have h2 := stables_len (mt base ours) (mt base theirs)
      have h3 := mt_len base ours
      simp only [List.length_append, List.length_cons, List.length_nil] at h1
      have h4 : ((stables (mt base ours) (mt base theirs)).length + (0 + 1)) * (2000 + 1) ≤ 2001 * 2001 := Nat.mul_le_mul (by omega) (by omega)
      simp only
      omega
    · cases h
end Go.Proofs.Ytebhophblgpjeaa.Seq
