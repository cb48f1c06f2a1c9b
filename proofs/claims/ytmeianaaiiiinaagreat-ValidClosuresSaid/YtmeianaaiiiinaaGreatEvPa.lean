/- Closures of maps: the plain laws. -/
import Derived.Test.YtmeianaaiiiinaaGreatEvXk
namespace Go.Proofs.YtmeianaaiiiinaaGreat.Ev
open Go Go.Proofs
set_option linter.unusedVariables false
set_option linter.unusedSimpArgs false
set_option linter.all false

theorem bytesLt_trans : ∀ (x y z : List UInt8), bytesLt x y = true → bytesLt y z = true → bytesLt x z = true
  | x, [], z, h, _ => by cases x <;> simp [bytesLt] at h
  | x, b :: y, [], _, h => by simp [bytesLt] at h
  | [], b :: y, c :: z, _, _ => by simp [bytesLt]
  | a :: x, b :: y, c :: z, h1, h2 => by
    have ih := bytesLt_trans x y z
    simp only [bytesLt, Bool.or_eq_true, Bool.and_eq_true, beq_tf, decide_eq_true_eq] at *
    have lt : ∀ a b : Nat, Nat.blt a b = true ↔ a < b := fun a b => by simp
    simp only [lt] at *
    rcases h1 with h1 | ⟨h1, h1'⟩ <;> rcases h2 with h2 | ⟨h2, h2'⟩
    · exact .inl (by omega)
    · exact .inl (by omega)
    · exact .inl (by omega)
    · exact .inr ⟨by omega, ih h1' h2'⟩
theorem bytesLt_total : ∀ (x y : List UInt8), bytesLt x y = true ∨ x = y ∨ bytesLt y x = true
  | [], [] => .inr (.inl rfl)
  | [], b :: y => .inl (by simp [bytesLt])
  | a :: x, [] => .inr (.inr (by simp [bytesLt]))
  | a :: x, b :: y => by
    rcases Nat.lt_trichotomy a.toNat b.toNat with h | h | h
    · exact .inl (by simp [bytesLt, h])
    · have e : a = b := UInt8.toNat_inj.1 h
      subst e
      rcases bytesLt_total x y with h2 | h2 | h2
      · exact .inl (by simp [bytesLt, beq_tf, h2])
      · exact .inr (.inl (by rw [h2]))
      · exact .inr (.inr (by simp [bytesLt, beq_tf, h2]))
    · exact .inr (.inr (by simp [bytesLt, h]))
theorem bytesLt_irr : ∀ (x : List UInt8), bytesLt x x = false
  | [] => rfl
  | a :: x => by
    have h : Nat.blt a.toNat a.toNat = false := by
      cases e : Nat.blt a.toNat a.toNat with
      | false => rfl
      | true =>
        have : a.toNat < a.toNat := by simpa using e
        omega
    simp [bytesLt, bytesLt_irr x, h]
/-- b comes behind a. -/
def Gt (a b : ByteArray) : Prop := (strLt b a || strEq b a) = false
theorem gt_iff (a b : ByteArray) : Gt a b ↔ strLt a b = true := by
  unfold Gt
  rw [Bool.or_eq_false_iff]
  constructor
  · rintro ⟨h1, h2⟩
    rcases bytesLt_total a.data.toList b.data.toList with h | h | h
    · exact h
    · have : b = a := by
        obtain ⟨⟨a⟩⟩ := a
        obtain ⟨⟨b⟩⟩ := b
        simp at h
        rw [h]
      rw [strEq_eq.2 this] at h2; cases h2
    · unfold strLt at h1
      rw [h] at h1; cases h1
  · intro h
    refine ⟨?_, ?_⟩
    · cases e : strLt b a with
      | false => rfl
      | true =>
        have := bytesLt_trans _ _ _ h e
        rw [bytesLt_irr] at this; cases this
    · cases e : strEq b a with
      | false => rfl
      | true =>
        rw [strEq_eq.1 e] at h
        unfold strLt at h
        rw [bytesLt_irr] at h; cases h
theorem Gt.trans {a b c : ByteArray} (h1 : Gt a b) (h2 : Gt b c) : Gt a c := by
  rw [gt_iff] at *
  exact bytesLt_trans _ _ _ h1 h2
theorem Gt.ne {a b : ByteArray} (h : Gt a b) : b ≠ a := fun e => by
  unfold Gt at h
  rw [e, strEq_self, Bool.or_true] at h; cases h
theorem mapGo_cons {last : ByteArray} {o : Ob} {l : List Ob} : mapGo last (o :: l) = true ↔ objB o = true ∧ Gt last o.id ∧ mapGo o.id l = true := by
  rw [mapGo]
  unfold Gt
  cases objB o <;> cases (strLt o.id last || strEq o.id last) <;> simp
theorem mapGo_gt : ∀ (l : List Ob) (last : ByteArray), mapGo last l = true → ∀ o ∈ l, Gt last o.id ∧ objB o = true
  | p :: l, last, h, o, ho => by
    obtain ⟨h1, h2, h3⟩ := mapGo_cons.1 h
    rcases List.mem_cons.1 ho with rfl | ho
    · exact ⟨h2, h1⟩
    · have := mapGo_gt l p.id h3 o ho
      exact ⟨h2.trans this.1, this.2⟩
theorem mapGo_low {last last' : ByteArray} {l : List Ob} (h : mapGo last l = true) (hl : ∀ o ∈ l, Gt last' o.id) : mapGo last' l = true := by
  cases l with
  | nil => rfl
  | cons o l =>
    obtain ⟨h1, h2, h3⟩ := mapGo_cons.1 h
    exact mapGo_cons.2 ⟨h1, hl o List.mem_cons_self, h3⟩
theorem mapGo_filter (p : Ob → Bool) : ∀ (l : List Ob) (last : ByteArray), mapGo last l = true → mapGo last (l.filter p) = true
  | [], _, _ => rfl
  | o :: l, last, h => by
    obtain ⟨h1, h2, h3⟩ := mapGo_cons.1 h
    have ih := mapGo_filter p l o.id h3
    rw [List.filter_cons]
    split
    · exact mapGo_cons.2 ⟨h1, h2, ih⟩
    · exact mapGo_low ih (fun x hx => h2.trans (mapGo_gt _ _ ih x hx).1)
theorem mapB_filter {m : List Ob} (h : mapB m = true) (p : Ob → Bool) : mapB (m.filter p) = true := by
  unfold mapB at *
  rw [Bool.and_eq_true, decide_eq_true_eq] at *
  have := List.length_filter_le p m
  exact ⟨mapGo_filter p m _ h.1, by omega⟩
/-- Ids are different. -/
theorem mapGo_at : ∀ (l : List Ob) (last : ByteArray), mapGo last l = true → ∀ (i j : Nat) (hi : i < l.length) (hj : j < l.length), i < j → l[j].id ≠ l[i].id
  | o :: l, last, h, 0, j + 1, hi, hj, _ => by
    obtain ⟨h1, h2, h3⟩ := mapGo_cons.1 h
    exact (mapGo_gt l o.id h3 _ (List.getElem_mem (by simpa using hj))).1.ne
  | o :: l, last, h, i + 1, j + 1, hi, hj, hij => by
    obtain ⟨h1, h2, h3⟩ := mapGo_cons.1 h
    exact mapGo_at l o.id h3 i j (by simpa using hi) (by simpa using hj) (by omega)
theorem objI_at (m : List Ob) (hd : ∀ (i j : Nat) (hi : i < m.length) (hj : j < m.length), i < j → m[j].id ≠ m[i].id) (k : Nat) (hk : k < m.length) : ∀ i, k < i → i ≤ m.length → objI m i m[k].id = some m[k]
  | 0, h, _ => by omega
  | i + 1, h, hi => by
    unfold objI
    rw [List.getElem?_eq_getElem (by omega : i < m.length)]
    simp only
    by_cases e : k = i
    · subst e; rw [if_pos rfl]
    · rw [if_neg (fun h2 => hd k i hk (by omega) (by omega) h2.symm)]
      exact objI_at m hd k hk i (by omega) (by omega)
theorem objAt_mem {m : List Ob} (hv : mapB m = true) {o : Ob} (ho : o ∈ m) : objAt' m o.id = some o := by
  unfold mapB at hv
  rw [Bool.and_eq_true] at hv
  obtain ⟨k, hk, rfl⟩ := List.getElem_of_mem ho
  exact objI_at m (mapGo_at m _ hv.1) k hk m.length hk (Nat.le_refl _)
/-- What a valid map's closure is. -/
structure CloseV (m : List Ob) (ids : List ByteArray) (c : List Ob) (S : ByteArray → Bool) : Prop where
  eq : c = m.filter (fun o => S o.id)
  asked : ∀ x ∈ ids, S x = true
  shut : Shut m (fun x => S x = true)
  least : ∀ S' : ByteArray → Prop, Shut m S' → (∀ x ∈ ids, S' x) → ∀ x, S x = true → S' x
theorem CloseR.v {m : List Ob} {ids : List ByteArray} {c : List Ob} (h : CloseR m ids c) (hv : mapB m = true) : ∃ S, CloseV m ids c S := by
  rcases h with ⟨h, _⟩ | ⟨_, S, h1, h2, h3, h4⟩
  · rw [hv] at h; cases h
  · exact ⟨S, h1, h2, h3, h4⟩
theorem CloseV.mem {m : List Ob} {ids : List ByteArray} {c : List Ob} {S : ByteArray → Bool} (h : CloseV m ids c S) {o : Ob} : o ∈ c ↔ o ∈ m ∧ S o.id = true := by
  rw [h.eq, List.mem_filter]
/-- An object's Id is in just where it is asked for, or an object of the closure refers to it. -/
theorem CloseV.needed {m : List Ob} {ids : List ByteArray} {c : List Ob} {S : ByteArray → Bool} (hv : mapB m = true) (h : CloseV m ids c S) (x : ByteArray) : S x = true ↔ x ∈ ids ∨ ∃ o ∈ c, x ∈ o.refs := by
  constructor
  · intro hx
    have := h.least (fun x => S x = true ∧ (x ∈ ids ∨ ∃ o ∈ c, x ∈ o.refs)) (fun y o hy ho r hr => ?_) (fun x hx => ⟨h.asked x hx, .inl hx⟩) x hx
    · exact this.2
    · obtain ⟨h1, h2⟩ := objI_mem m y _ o ho
      have hc : o ∈ c := h.mem.2 ⟨h1, by rw [h2]; exact hy.1⟩
      exact ⟨h.shut y o hy.1 ho r hr, .inr ⟨o, hc, hr⟩⟩
  · rintro (hx | ⟨o, ho, hx⟩)
    · exact h.asked x hx
    · have := h.mem.1 ho
      exact h.shut o.id o this.2 (objAt_mem hv this.1) x hx
theorem filter_congr' {l : List Ob} {p q : Ob → Bool} (h : ∀ o ∈ l, p o = q o) : l.filter p = l.filter q := by
  induction l with
  | nil => rfl
  | cons o l ih =>
    rw [List.filter_cons, List.filter_cons, h o List.mem_cons_self, ih (fun x hx => h x (List.mem_cons_of_mem _ hx))]
/-- Closed by its own Ids it is the same. -/
theorem CloseV.own {m : List Ob} {ids : List ByteArray} {c c' : List Ob} {S : ByteArray → Bool} (hv : mapB m = true) (h : CloseV m ids c S) (h' : CloseR m (c.map (·.id)) c') : c' = c := by
  obtain ⟨S', k⟩ := h'.v hv
  rw [k.eq, h.eq]
  refine filter_congr' (fun o ho => ?_)
  have h1 : S' o.id = true → S o.id = true := fun hs => k.least (fun x => S x = true) h.shut (fun x hx => by
    obtain ⟨p, hp, rfl⟩ := List.mem_map.1 hx
    exact (h.mem.1 hp).2) _ hs
  have h2 : S o.id = true → S' o.id = true := fun hs => k.asked _ (List.mem_map.2 ⟨o, h.mem.2 ⟨ho, hs⟩, rfl⟩)
  cases e : S o.id <;> cases e' : S' o.id
  · rfl
  · rw [h1 e'] at e; cases e
  · rw [h2 e] at e'; cases e'
  · rfl
/-- The closure of the closure is the closure. -/
theorem CloseV.again {m : List Ob} {ids : List ByteArray} {c c' : List Ob} {S : ByteArray → Bool} (hv : mapB m = true) (h : CloseV m ids c S) (h' : CloseR c ids c') : c' = c := by
  have hvc : mapB c = true := by rw [h.eq]; exact mapB_filter hv _
  obtain ⟨S', k⟩ := h'.v hvc
  have hall : ∀ o ∈ c, S' o.id = true := fun o ho => (h.least (fun x => S x = true ∧ S' x = true) (fun y p hy hp r hr => by
    obtain ⟨h1, h2⟩ := objI_mem m y _ p hp
    have hc : p ∈ c := h.mem.2 ⟨h1, by rw [h2]; exact hy.1⟩
    refine ⟨h.shut y p hy.1 hp r hr, k.shut y p hy.2 ?_ r hr⟩
    have := objAt_mem hvc hc
    rw [h2] at this
    exact this) (fun x hx => ⟨h.asked x hx, k.asked x hx⟩) o.id (h.mem.1 ho).2).2
  rw [k.eq]
  exact List.filter_eq_self.2 hall
end Go.Proofs.YtmeianaaiiiinaaGreat.Ev
