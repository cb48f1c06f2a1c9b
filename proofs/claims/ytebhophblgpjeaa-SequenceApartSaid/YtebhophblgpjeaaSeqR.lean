/- Laws of the longest common subsequence on lists: it lies in both lists, none is longer, its length does not depend on the order, one of a list and itself is the list. -/
import Derived.Test.YtebhophblgpjeaaSeqS
namespace Go.Proofs.Ytebhophblgpjeaa.Seq
section
variable {α : Type} [DecidableEq α]
/-- The elements that are matched. -/
def cmFrom : Nat → List α → List α → List α
  | 0, _, _ => []
  | _ + 1, [], _ => []
  | _ + 1, _ :: _, [] => []
  | n + 1, x :: xs, y :: ys =>
    if x = y then x :: cmFrom n xs ys
    else if lcs xs (y :: ys) = lcs (x :: xs) (y :: ys) then cmFrom n xs (y :: ys)
    else cmFrom n (x :: xs) ys
theorem cm_mt (A : List α) (n : Nat) : ∀ (a b : List α) (i k : Nat), (∀ j, a[j]? = A[i + j]?) → (mtFrom n a b i k).filterMap (fun p => A[p.1]?) = cmFrom n a b := by
  induction n with
  | zero => intro a b i k h; rfl
  | succ n ih =>
    intro a b i k h
    cases a with
    | nil => rfl
    | cons x xs =>
      cases b with
      | nil => rfl
      | cons y ys =>
        have h0 : A[i]? = some x := by have := h 0; simpa using this.symm
        have hs : ∀ j, xs[j]? = A[i + 1 + j]? := fun j => by
          have := h (j + 1)
          rw [show i + 1 + j = i + (j + 1) by omega]
          simpa using this
        simp only [mtFrom, cmFrom]
        split
        · rw [List.filterMap_cons, h0]
          simp only
          rw [ih _ _ _ _ hs]
        · split
          · exact ih _ _ _ _ hs
          · exact ih _ _ _ _ h
theorem cm_left (n : Nat) : ∀ a b : List α, (cmFrom n a b).Sublist a := by
  induction n with
  | zero => intro a b; exact List.nil_sublist _
  | succ n ih =>
    intro a b
    cases a with
    | nil => exact List.nil_sublist _
    | cons x xs =>
      cases b with
      | nil => exact List.nil_sublist _
      | cons y ys =>
        simp only [cmFrom]
        split
        · exact (ih _ _).cons_cons _
        · split
          · exact (ih _ _).cons _
          · exact ih _ _
theorem cm_right (n : Nat) : ∀ a b : List α, (cmFrom n a b).Sublist b := by
  induction n with
  | zero => intro a b; exact List.nil_sublist _
  | succ n ih =>
    intro a b
    cases a with
    | nil => exact List.nil_sublist _
    | cons x xs =>
      cases b with
      | nil => exact List.nil_sublist _
      | cons y ys =>
        simp only [cmFrom]
        split
        · rename_i h; subst h; exact (ih _ _).cons_cons _
        · split
          · exact ih _ _
          · exact (ih _ _).cons _
theorem cm_len (n : Nat) : ∀ a b : List α, a.length + b.length ≤ n → (cmFrom n a b).length = lcs a b := by
  induction n with
  | zero =>
    intro a b h
    have : a = [] := List.eq_nil_of_length_eq_zero (by omega)
    subst this
    rw [lcs_nil]; rfl
  | succ n ih =>
    intro a b h
    cases a with
    | nil => rw [lcs_nil]; rfl
    | cons x xs =>
      cases b with
      | nil => rw [lcs_nil']; rfl
      | cons y ys =>
        simp only [List.length_cons] at h
        have hc := lcs_cons x y xs ys
        simp only [cmFrom]
        split
        · rename_i hxy
          rw [if_pos hxy] at hc
          rw [List.length_cons, ih _ _ (by omega), hc]
        · rename_i hxy
          rw [if_neg hxy] at hc
          split
          · rename_i he
            rw [ih _ _ (by simp only [List.length_cons]; omega), he]
          · rename_i he
            rw [ih _ _ (by simp only [List.length_cons]; omega)]
            omega
theorem lcs_max : ∀ (a b s : List α), s.Sublist a → s.Sublist b → s.length ≤ lcs a b
  | [], b, s, ha, _ => by rw [List.sublist_nil.1 ha]; simp
  | x :: xs, [], s, _, hb => by rw [List.sublist_nil.1 hb]; simp
  | x :: xs, y :: ys, s, ha, hb => by
    rw [lcs_cons]
    split
    · rename_i h
      subst h
      cases s with
      | nil => simp
      | cons z s =>
        have h1 : s.Sublist xs := ha.tail
        have h2 : s.Sublist ys := hb.tail
        have := lcs_max xs ys s h1 h2
        simp only [List.length_cons]
        omega
    · rename_i h
      rcases List.sublist_cons_iff.1 ha with h1 | ⟨r, rfl, h1⟩
      · have := lcs_max xs (y :: ys) s h1 hb
        omega
      · rcases List.sublist_cons_iff.1 hb with h2 | ⟨r', h2, h3⟩
        · have := lcs_max (x :: xs) ys (x :: r) ha h2
          omega
        · injection h2 with h2 _
          exact absurd h2 h
termination_by a b => a.length + b.length
theorem lcs_comm (a b : List α) : lcs a b = lcs b a := by
  have h1 := cm_len (a.length + b.length) a b (Nat.le_refl _)
  have h2 := cm_len (b.length + a.length) b a (Nat.le_refl _)
  have h3 := lcs_max b a _ (cm_right (a.length + b.length) a b) (cm_left (a.length + b.length) a b)
  have h4 := lcs_max a b _ (cm_right (b.length + a.length) b a) (cm_left (b.length + a.length) b a)
  omega
theorem cm_self (n : Nat) : ∀ a : List α, a.length ≤ n → cmFrom n a a = a := by
  induction n with
  | zero =>
    intro a h
    have : a = [] := List.eq_nil_of_length_eq_zero (by omega)
    subst this; rfl
  | succ n ih =>
    intro a h
    cases a with
    | nil => rfl
    | cons x xs =>
      simp only [List.length_cons] at h
      simp only [cmFrom, if_true]
      rw [ih xs (by omega)]
theorem commonV_cm (a b : List α) (h0 : a.length ≤ 2000) (h1 : b.length ≤ 2000) : commonV a b = cmFrom (a.length + b.length) a b := by
  unfold commonV isShort
  rw [decide_eq_true h0, decide_eq_true h1]
  simp only [Bool.and_self, if_true]
  exact cm_mt a _ a b 0 0 (fun j => by rw [Nat.zero_add])
theorem commonV_left (a b : List α) (h0 : a.length ≤ 2000) (h1 : b.length ≤ 2000) : (commonV a b).Sublist a := by rw [commonV_cm a b h0 h1]; exact cm_left _ _ _
theorem commonV_right (a b : List α) (h0 : a.length ≤ 2000) (h1 : b.length ≤ 2000) : (commonV a b).Sublist b := by rw [commonV_cm a b h0 h1]; exact cm_right _ _ _
theorem commonV_len (a b : List α) (h0 : a.length ≤ 2000) (h1 : b.length ≤ 2000) : (commonV a b).length = lcs a b := by rw [commonV_cm a b h0 h1]; exact cm_len _ _ _ (Nat.le_refl _)
theorem commonV_self (a : List α) (h0 : a.length ≤ 2000) : commonV a a = a := by rw [commonV_cm a a h0 h0]; exact cm_self _ _ (by omega)

/-- Is a list within another one: from the left on. -/
def wi : List α → List α → Bool
  | [], _ => true
  | _ :: _, [] => false
  | x :: xs, y :: ys => if y = x then wi xs ys else wi (x :: xs) ys
theorem wi_iff : ∀ (b s : List α), wi s b = true ↔ s.Sublist b
  | [], [] => by simp [wi]
  | [], x :: xs => by simp [wi]
  | y :: ys, [] => by simp [wi]
  | y :: ys, x :: xs => by
    simp only [wi]
    split
    · rename_i h
      subst h
      rw [wi_iff ys xs]
      exact (List.cons_sublist_cons).symm
    · rename_i h
      rw [wi_iff ys (x :: xs)]
      constructor
      · intro h2; exact h2.cons _
      · intro h2
        rcases List.sublist_cons_iff.1 h2 with h3 | ⟨r, h3, _⟩
        · exact h3
        · injection h3 with h3 _
          exact absurd h3.symm h
end
end Go.Proofs.Ytebhophblgpjeaa.Seq
