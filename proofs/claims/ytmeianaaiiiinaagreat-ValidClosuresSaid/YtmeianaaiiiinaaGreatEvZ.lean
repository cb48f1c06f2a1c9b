/- Calls whose outcomes are laid together: what they have in common. -/
import Derived.Test.YtmeianaaiiiinaaGreatEvY
namespace Go.Proofs.YtmeianaaiiiinaaGreat.Ev
open Go
set_option linter.unusedVariables false
set_option linter.unusedSimpArgs false
set_option linter.all false
noncomputable section

/-! ### The same -/
def eqBytes (l : List UInt8) : List UInt8 → Bool :=
  List.rec (fun m => List.casesOn m true fun _ _ => false) (fun a _ ih m => List.casesOn m false fun b m => bif Nat.beq a.toNat b.toNat then ih m else false) l
def eqL (e : AV → AV → Bool) (l : List AV) : List AV → Bool :=
  List.rec (fun m => List.casesOn m true fun _ _ => false) (fun a _ ih m => List.casesOn m false fun b m => bif e a b then ih m else false) l
def eqI : Int → Int → Bool
  | .ofNat a, .ofNat b => Nat.beq a b
  | .negSucc a, .negSucc b => Nat.beq a b
  | _, _ => false
def eqB : Bool → Bool → Bool
  | true, b => b
  | false, b => !b
def eqCap : Cap → Cap → Bool
  | .known a, .known b => Nat.beq a b
  | .rest a, .rest b => Nat.beq a b
  | _, _ => false
def eqA1 (e : AV → AV → Bool) (a b : AV) : Bool :=
  match a with
  | .bool x => match b with
    | .bool y => eqB x y
    | _ => false
  | .int k n => match b with
    | .int k' n' => decide (k = k') && eqI n n'
    | _ => false
  | .str s => match b with
    | .str t => eqBytes s.data.toList t.data.toList
    | _ => false
  | .nilPtr => match b with
    | .nilPtr => true
    | _ => false
  | .nilSlice => match b with
    | .nilSlice => true
    | _ => false
  | .nilMap => match b with
    | .nilMap => true
    | _ => false
  | .nilFunc => match b with
    | .nilFunc => true
    | _ => false
  | .nilIface => match b with
    | .nilIface => true
    | _ => false
  | .agg l => match b with
    | .agg m => eqL e l m
    | _ => false
  | .tuple l => match b with
    | .tuple m => eqL e l m
    | _ => false
  | .ptr i o => match b with
    | .ptr j p => Nat.beq i j && Nat.beq o p
    | _ => false
  | .slice i o n c => match b with
    | .slice j p m d => Nat.beq i j && Nat.beq o p && Nat.beq n m && eqCap c d
    | _ => false
  | .map i => match b with
    | .map j => Nat.beq i j
    | _ => false
  | .iface t x => match b with
    | .iface u y => Nat.beq t u && e x y
    | _ => false
  | _ => false
def eqA (k : Nat) : AV → AV → Bool := Nat.rec (fun _ _ => false) (fun _ ih => eqA1 ih) k
def eqEs (e : AV → AV → Bool) (l : List (AV × AV × Nat)) : List (AV × AV × Nat) → Bool :=
  List.rec (fun m => List.casesOn m true fun _ _ => false) (fun a _ ih m => List.casesOn m false fun b m => bif e a.1 b.1 && e a.2.1 b.2.1 && Nat.beq a.2.2 b.2.2 then ih m else false) l
def eqO (o p : AObj) : Bool :=
  match o with
  | .row e l b => match p with
    | .row f m c => Nat.beq e f && eqL (eqA 20) l m && eqB b c
    | _ => false
  | .mp l c => match p with
    | .mp m d => eqEs (eqA 20) l m && Nat.beq c d
    | _ => false
  | .miter .. => false

theorem eqBytes_ok : ∀ (l m : List UInt8), eqBytes l m = true → l = m
  | [], [], _ => rfl
  | [], _ :: _, h => by cases h
  | _ :: _, [], h => by cases h
  | a :: l, b :: m, h => by
    have h' : (bif Nat.beq a.toNat b.toNat then eqBytes l m else false) = true := h
    cases hb : Nat.beq a.toNat b.toNat with
    | false => rw [hb] at h'; cases h'
    | true =>
      rw [hb] at h'
      rw [eqBytes_ok l m h', UInt8.toNat_inj.1 (Nat.eq_of_beq_eq_true hb)]
theorem eqL_ok {e : AV → AV → Bool} (he : ∀ a b, e a b = true → a = b) : ∀ (l m : List AV), eqL e l m = true → l = m
  | [], [], _ => rfl
  | [], _ :: _, h => by cases h
  | _ :: _, [], h => by cases h
  | a :: l, b :: m, h => by
    have h' : (bif e a b then eqL e l m else false) = true := h
    cases hb : e a b with
    | false => rw [hb] at h'; cases h'
    | true =>
      rw [hb] at h'
      rw [eqL_ok he l m h', he a b hb]
theorem eqI_ok : ∀ {a b : Int}, eqI a b = true → a = b
  | .ofNat a, .ofNat b, h => by rw [show a = b from Nat.eq_of_beq_eq_true h]
  | .negSucc a, .negSucc b, h => by rw [show a = b from Nat.eq_of_beq_eq_true h]
  | .ofNat _, .negSucc _, h => by cases h
  | .negSucc _, .ofNat _, h => by cases h
theorem eqB_ok {a b : Bool} (h : eqB a b = true) : a = b := by cases a <;> cases b <;> simp [eqB] at h ⊢
theorem eqCap_ok {a b : Cap} (h : eqCap a b = true) : a = b := by
  cases a <;> cases b <;> simp [eqCap] at h ⊢ <;> exact h
theorem eqA1_ok {e : AV → AV → Bool} (he : ∀ a b, e a b = true → a = b) (a b : AV) (h : eqA1 e a b = true) : a = b := by
  cases a <;> cases b <;> first
    | rfl
    | (cases h; done)
    | (simp only [eqA1, Bool.and_eq_true, decide_eq_true_eq] at h
       first
         | (obtain ⟨rfl, h2⟩ := h; rw [eqI_ok h2])
         | (obtain ⟨⟨⟨h1, h2⟩, h3⟩, h4⟩ := h; rw [Nat.eq_of_beq_eq_true h1, Nat.eq_of_beq_eq_true h2, Nat.eq_of_beq_eq_true h3, eqCap_ok h4])
         | (obtain ⟨h1, h2⟩ := h; rw [Nat.eq_of_beq_eq_true h1, Nat.eq_of_beq_eq_true h2])
         | (obtain ⟨h1, h2⟩ := h; rw [Nat.eq_of_beq_eq_true h1, he _ _ h2])
         | rw [eqB_ok h]
         | rw [eqL_ok he _ _ h]
         | rw [Nat.eq_of_beq_eq_true h]
         | (rename_i s t
            obtain ⟨⟨s⟩⟩ := s
            obtain ⟨⟨t⟩⟩ := t
            rw [show s = t from eqBytes_ok _ _ h]))
theorem eqA_ok : ∀ (k : Nat) (a b : AV), eqA k a b = true → a = b
  | 0, a, b, h => by cases h
  | k + 1, a, b, h => eqA1_ok (eqA_ok k) a b h
theorem eqEs_ok {e : AV → AV → Bool} (he : ∀ a b, e a b = true → a = b) : ∀ (l m : List (AV × AV × Nat)), eqEs e l m = true → l = m
  | [], [], _ => rfl
  | [], _ :: _, h => by cases h
  | _ :: _, [], h => by cases h
  | a :: l, b :: m, h => by
    have h' : (bif e a.1 b.1 && e a.2.1 b.2.1 && Nat.beq a.2.2 b.2.2 then eqEs e l m else false) = true := h
    cases hb : (e a.1 b.1 && e a.2.1 b.2.1 && Nat.beq a.2.2 b.2.2) with
    | false => rw [hb] at h'; cases h'
    | true =>
      rw [hb] at h'
      simp only [Bool.and_eq_true] at hb
      obtain ⟨⟨h1, h2⟩, h3⟩ := hb
      obtain ⟨a1, a2, a3⟩ := a
      obtain ⟨b1, b2, b3⟩ := b
      rw [eqEs_ok he l m h', show a1 = b1 from he _ _ h1, show a2 = b2 from he _ _ h2, show a3 = b3 from Nat.eq_of_beq_eq_true h3]
theorem eqO_ok {o p : AObj} (h : eqO o p = true) : o = p := by
  cases o with
  | row e l b =>
    cases p with
    | row f m c =>
      simp only [eqO, Bool.and_eq_true] at h
      obtain ⟨⟨h1, h2⟩, h3⟩ := h
      rw [Nat.eq_of_beq_eq_true h1, eqL_ok (eqA_ok 20) _ _ h2, eqB_ok h3]
    | _ => cases h
  | mp l c =>
    cases p with
    | mp m d =>
      simp only [eqO, Bool.and_eq_true] at h
      rw [eqEs_ok (eqA_ok 20) _ _ h.1, Nat.eq_of_beq_eq_true h.2]
    | _ => cases h
  | miter m s l k => cases h

/-! ### Laid together -/
/-- The object that stands at a number in all of some heaps. -/
def mobj (R0 : AH) (l : List AH) (id : Nat) : Option AObj :=
  Option.casesOn (R0.get id) none fun o => bif allR (fun R => Option.casesOn (AH.get R id) false fun p => eqO o p) l then some o else none
def layMK {β : Type} (R0 : AH) (l : List AH) (ids : List Nat) : T AObj → (T AObj → β) → β :=
  List.rec (fun t k => k t) (fun id _ ih t k => Option.casesOn (mobj R0 l id) (t.putK none (pathOf id) fun t => ih t k) fun o => t.putK (some o) (pathOf id) fun t => ih t k) ids
def layNK {β : Type} (R0 : AH) (l : List AH) (c n : Nat) : T AObj → (T AObj → β) → β :=
  Nat.rec (fun t k => k t) (fun m ih t k => Option.casesOn (mobj R0 l (c + m)) (t.putK none (pathOf (c + m)) fun t => ih t k) fun o => t.putK (some o) (pathOf (c + m)) fun t => ih t k) n
def layDK {β : Type} (R0 : AH) (l : List AH) (ds : List AH) : T AObj → (T AObj → β) → β :=
  List.rec (fun t k => k t) (fun R _ ih t k => layMK R0 l R.dirty t fun t => ih t k) ds
def maxNext (l : List AH) (n : Nat) : Nat := List.rec n (fun R _ ih => Nat.max R.next ih) l
def marks (base : Nat) (l : List AH) (d : List Nat) : List Nat := List.rec d (fun R _ ih => List.rec ih (fun id _ ih => mark id base ih) R.dirty) l
def sameV (v : AV) (l : List (AV × AH)) : Bool := allR (fun x => eqA 20 v x.1) l
def mergeO (h : AH) (x : Outs (AV × AH)) : Outs (AV × AH) :=
  match x with
  | none => none
  | some [] => some []
  | some (a :: l) => match sameV a.1 l with
    | false => none
    | true => forceN (maxNext ((a :: l).map (·.2)) h.next) fun n => layNK a.2 ((a :: l).map (·.2)) h.next (n - h.next) h.objs fun t => layDK a.2 ((a :: l).map (·.2)) ((a :: l).map (·.2)) t fun t =>
      AH.force ⟨t, n, h.base, marks h.base ((a :: l).map (·.2)) h.dirty⟩ fun h => one (a.1, h)
/-- Calls, up to a depth; sum: what is known of calls; mrg: the functions whose outcomes are laid together. -/
def callM (P : Program) (sum : FuncId → List AV → Option AV) (mrg : FuncId → Bool) : Nat → CallA
  | 0 => fun _ _ _ => none
  | k + 1 => fun f args h => match sum f args with
    | some v => one (v, h)
    | none => match mrg f with
      | true => mergeO h ((bodyA P (callM P sum mrg k) f).run args ⟨h.objs, h.next, h.next, []⟩)
      | false => (bodyA P (callM P sum mrg k) f).run args h

theorem mobj_some {R0 : AH} {l : List AH} {id : Nat} {o : AObj} (h : mobj R0 l id = some o) {R : AH} (hR : R ∈ l) : R.get id = some o := by
  unfold mobj at h
  cases h0 : R0.get id with
  | none => rw [h0] at h; cases h
  | some o' =>
    rw [h0] at h
    simp only at h
    cases hb : allR (fun R => Option.casesOn (motive := fun _ => Bool) (AH.get R id) false fun p => eqO o' p) l with
    | false => rw [hb] at h; cases h
    | true =>
      rw [hb] at h
      simp only [cond_true] at h
      cases h
      have := (allR_iff _ l).1 hb R hR
      cases hg : R.get id with
      | none => rw [hg] at this; cases this
      | some p =>
        rw [hg] at this
        rw [eqO_ok this]
theorem layMK_ok {β : Type} {R0 : AH} {l : List AH} {R : AH} (hR : R ∈ l) : ∀ (ids : List Nat) (t : T AObj) (k : T AObj → β), ∃ t', layMK R0 l ids t k = k t' ∧ (∀ m o, t'.get m = some o → R.get m = some o ∨ (m ∉ ids ∧ t.get m = some o)) ∧ ∀ m, m ∉ ids → t'.get m = t.get m
  | [], t, k => ⟨t, rfl, fun m o h => .inr ⟨by simp, h⟩, fun _ _ => rfl⟩
  | id :: ids, t, k => by
    have put : ∀ x, (∀ o, x = some o → R.get id = some o) → ∃ t', (t.putK x (pathOf id) fun t => layMK R0 l ids t k) = k t' ∧ (∀ m o, t'.get m = some o → R.get m = some o ∨ (m ∉ id :: ids ∧ t.get m = some o)) ∧ ∀ m, m ∉ id :: ids → t'.get m = t.get m := by
      intro x hx
      rw [T.put_k]
      obtain ⟨t', h1, h2, h2'⟩ := layMK_ok hR ids (t.put id x) k
      refine ⟨t', h1, fun m o h => ?_, fun m hm => by
        have e : m ≠ id := fun e => hm (by rw [e]; exact List.mem_cons_self ..)
        rw [h2' m (fun h => hm (List.mem_cons_of_mem _ h)), T.get_put, if_neg e]⟩
      rcases h2 m o h with h | ⟨h3, h4⟩
      · exact .inl h
      · rw [T.get_put] at h4
        by_cases e : m = id
        · rw [if_pos e] at h4
          rw [e]; exact .inl (hx o h4)
        · rw [if_neg e] at h4
          exact .inr ⟨by simp [e, h3], h4⟩
    show ∃ t', (Option.casesOn (motive := fun _ => β) (mobj R0 l id) (t.putK none (pathOf id) fun t => layMK R0 l ids t k) fun o => t.putK (some o) (pathOf id) fun t => layMK R0 l ids t k) = k t' ∧ _
    cases hm : mobj R0 l id with
    | none => exact put none (fun o h => by cases h)
    | some o => exact put (some o) (fun o' h => by cases h; exact mobj_some hm hR)
theorem layNK_ok {β : Type} {R0 : AH} {l : List AH} {R : AH} (hR : R ∈ l) (c : Nat) : ∀ (n : Nat) (t : T AObj) (k : T AObj → β), ∃ t', layNK R0 l c n t k = k t' ∧ (∀ m o, t'.get m = some o → R.get m = some o ∨ (¬ (c ≤ m ∧ m < c + n) ∧ t.get m = some o)) ∧ ∀ m, ¬ (c ≤ m ∧ m < c + n) → t'.get m = t.get m
  | 0, t, k => ⟨t, rfl, fun m o h => .inr ⟨by omega, h⟩, fun _ _ => rfl⟩
  | n + 1, t, k => by
    have put : ∀ x, (∀ o, x = some o → R.get (c + n) = some o) → ∃ t', (t.putK x (pathOf (c + n)) fun t => layNK R0 l c n t k) = k t' ∧ (∀ m o, t'.get m = some o → R.get m = some o ∨ (¬ (c ≤ m ∧ m < c + (n + 1)) ∧ t.get m = some o)) ∧ ∀ m, ¬ (c ≤ m ∧ m < c + (n + 1)) → t'.get m = t.get m := by
      intro x hx
      rw [T.put_k]
      obtain ⟨t', h1, h2, h2'⟩ := layNK_ok hR c n (t.put (c + n) x) k
      refine ⟨t', h1, fun m o h => ?_, fun m hm => by rw [h2' m (by omega), T.get_put, if_neg (by omega)]⟩
      rcases h2 m o h with h | ⟨h3, h4⟩
      · exact .inl h
      · rw [T.get_put] at h4
        by_cases e : m = c + n
        · rw [if_pos e] at h4
          rw [e]; exact .inl (hx o h4)
        · rw [if_neg e] at h4
          exact .inr ⟨by omega, h4⟩
    show ∃ t', (Option.casesOn (motive := fun _ => β) (mobj R0 l (c + n)) (t.putK none (pathOf (c + n)) fun t => layNK R0 l c n t k) fun o => t.putK (some o) (pathOf (c + n)) fun t => layNK R0 l c n t k) = k t' ∧ _
    cases hm : mobj R0 l (c + n) with
    | none => exact put none (fun o h => by cases h)
    | some o => exact put (some o) (fun o' h => by cases h; exact mobj_some hm hR)
theorem layDK_ok {β : Type} {R0 : AH} {l : List AH} {R : AH} (hR : R ∈ l) : ∀ (ds : List AH) (t : T AObj) (k : T AObj → β), ∃ t', layDK R0 l ds t k = k t' ∧ (∀ m o, t'.get m = some o → R.get m = some o ∨ ((∀ D ∈ ds, m ∉ D.dirty) ∧ t.get m = some o)) ∧ ∀ m, (∀ D ∈ ds, m ∉ D.dirty) → t'.get m = t.get m
  | [], t, k => ⟨t, rfl, fun m o h => .inr ⟨fun D hD => (by cases hD), h⟩, fun _ _ => rfl⟩
  | D :: ds, t, k => by
    obtain ⟨t1, h1, h2, h2'⟩ := layMK_ok (R0 := R0) hR D.dirty t (fun t => layDK R0 l ds t k)
    obtain ⟨t2, h3, h4, h4'⟩ := layDK_ok hR ds t1 k
    refine ⟨t2, ?_, fun m o h => ?_, fun m hm => by rw [h4' m (fun D' hD' => hm D' (List.mem_cons_of_mem _ hD')), h2' m (hm D (List.mem_cons_self ..))]⟩
    · show layMK R0 l D.dirty t (fun t => layDK R0 l ds t k) = _
      rw [h1]; exact h3
    · rcases h4 m o h with h | ⟨h5, h6⟩
      · exact .inl h
      · rcases h2 m o h6 with h | ⟨h7, h8⟩
        · exact .inl h
        · exact .inr ⟨fun D' hD' => by
            rcases List.mem_cons.1 hD' with rfl | hD'
            · exact h7
            · exact h5 D' hD', h8⟩
theorem maxNext_le (n : Nat) : ∀ (l : List AH), n ≤ maxNext l n ∧ ∀ R ∈ l, R.next ≤ maxNext l n
  | [] => ⟨Nat.le_refl _, fun R h => by cases h⟩
  | R :: l => by
    have ih := maxNext_le n l
    show n ≤ Nat.max R.next (maxNext l n) ∧ ∀ R' ∈ R :: l, R'.next ≤ Nat.max R.next (maxNext l n)
    have h1 : maxNext l n ≤ Nat.max R.next (maxNext l n) := Nat.le_max_right _ _
    refine ⟨Nat.le_trans ih.1 h1, fun R' h => ?_⟩
    rcases List.mem_cons.1 h with rfl | h
    · exact Nat.le_max_left _ _
    · exact Nat.le_trans (ih.2 R' h) h1
theorem marksOne_old (base : Nat) {x : Nat} (l : List Nat) (hx : x ∈ l) : ∀ (d : List Nat), x ∈ (List.rec l (fun id _ ih => mark id base ih) d : List Nat)
  | [] => hx
  | id :: d => mem_mark id base (marksOne_old base l hx d)
theorem marksOne_new (base : Nat) {x : Nat} (l : List Nat) (hb : x < base) : ∀ (d : List Nat), x ∈ d → x ∈ (List.rec l (fun id _ ih => mark id base ih) d : List Nat)
  | id :: d, h => by
    show x ∈ mark id base (List.rec l (fun id _ ih => mark id base ih) d : List Nat)
    rcases List.mem_cons.1 h with rfl | h
    · exact mark_self _ hb
    · exact mem_mark id base (marksOne_new base l hb d h)
theorem marks_old (base : Nat) {x : Nat} (d : List Nat) (hx : x ∈ d) : ∀ (l : List AH), x ∈ marks base l d
  | [] => hx
  | R :: l => marksOne_old base _ (marks_old base d hx l) R.dirty
theorem marks_new (base : Nat) {x : Nat} (d : List Nat) (hb : x < base) {R : AH} (hd : x ∈ R.dirty) : ∀ (l : List AH), R ∈ l → x ∈ marks base l d
  | R' :: l, h => by
    show x ∈ (List.rec (marks base l d) (fun id _ ih => mark id base ih) R'.dirty : List Nat)
    rcases List.mem_cons.1 h with rfl | h
    · exact marksOne_new base _ hb _ hd
    · exact marksOne_old base _ (marks_new base d hb hd l h) _

theorem mergeO_ok {P : Program} {r : Ren} {A K : Nat → Prop} {h : AH} {H : Array Obj} (R0 : Rel P r A K h H) {outs0 outs : List (AV × AH)} (hm : mergeO h (some outs0) = some outs) {v' : Value} {H' : Array Obj}
    (hg : Good P r A K ⟨h.objs, h.next, h.next, []⟩ H outs0 v' H') : Good P r A K h H outs v' H' := by
  obtain ⟨v, R, r', K', hmem, R', E, hv⟩ := hg
  cases outs0 with
  | nil => cases hmem
  | cons a l =>
    unfold mergeO at hm
    simp only at hm
    cases hs : sameV a.1 l with
    | false => rw [hs] at hm; cases hm
    | true =>
      rw [hs] at hm
      simp only [forceN_eq] at hm
      generalize hL : (a :: l).map (·.2) = L at hm
      have hRL : R ∈ L := by rw [← hL]; exact List.mem_map.2 ⟨(v, R), hmem, rfl⟩
      have hva : v = a.1 := by
        rcases List.mem_cons.1 hmem with e | e
        · rw [← e]
        · exact (eqA_ok 20 _ _ ((allR_iff _ l).1 hs (v, R) e)).symm
      obtain ⟨t1, h1, h2, h2'⟩ := layNK_ok (R0 := a.2) hRL h.next (maxNext L h.next - h.next) h.objs (fun t => layDK a.2 L L t fun t => AH.force ⟨t, maxNext L h.next, h.base, marks h.base L h.dirty⟩ fun h => one (a.1, h))
      obtain ⟨t2, h3, h4, h4'⟩ := layDK_ok (R0 := a.2) hRL L t1 (fun t => AH.force ⟨t, maxNext L h.next, h.base, marks h.base L h.dirty⟩ fun h => one (a.1, h))
      rw [h1, h3] at hm
      simp only [AH.force_eq] at hm
      have ho := one_some hm
      have hmx := maxNext_le h.next L
      have get : ∀ m o, t2.get m = some o → R.get m = some o := fun m o hmo => by
        rcases h4 m o hmo with h5 | ⟨h5, h6⟩
        · exact h5
        · rcases h2 m o h6 with h7 | ⟨h7, h8⟩
          · exact h7
          · have hk := (R0.lt m o h8).1
            have hn := R0.kn m hk
            have := (E.stay m hk hn (h5 R hRL)).1
            rw [this]
            exact h8
      -- what is not touched stays
      have keepG : ∀ m, K m → m < h.base → m ∉ marks h.base L h.dirty → t2.get m = h.objs.get m := fun m hk hb hd => by
        have hn := R0.kn m hk
        have nd : ∀ D ∈ L, m ∉ D.dirty := fun D hD hx => hd (marks_new h.base h.dirty hb hx L hD)
        rw [h4' m nd, h2' m (by omega)]
      refine ⟨a.1, ⟨t2, maxNext L h.next, h.base, marks h.base L h.dirty⟩, r', K', by rw [ho]; exact List.mem_singleton.2 rfl, ⟨fun id o hx => R'.lt id o (get id o hx), fun id o hx => R'.ob id o (get id o hx), fun id id' o o' hx hx' e => R'.inj id id' o o' (get id o hx) (get id' o' hx') e, R'.old, fun id hk => Nat.lt_of_lt_of_le (R'.kn id hk) (hmx.2 R hRL)⟩,
        ⟨hmx.1, E.kk, E.knew, E.ren, E.size, E.sub, E.keep, fun id o hx hb => E.own id o (get id o hx) hb, rfl, fun id hd => marks_old h.base h.dirty hd L, fun id hk hb hd => ?_, fun id o hx => E.back id o (get id o hx), E.io⟩, hva ▸ hv⟩
      have nd : id ∉ R.dirty := fun hx => hd (marks_new h.base h.dirty hb hx L hRL)
      exact ⟨keepG id hk hb hd, fun o hx => (E.stay id hk (R0.kn id hk) nd).2 o hx⟩

theorem callM_ok {P : Program} {A : Nat → Prop} {sum : FuncId → List AV → Option AV} {mrg : FuncId → Bool} (hs : SumOk P A sum) (hm : P.follows .mixedOrders = true) : ∀ (k : Nat), CallOk P A (callM P sum mrg k)
  | 0 => fun f args h outs he => by cases he
  | k + 1 => fun f args h outs he r K w vargs hw R hv => by
    have he' : (match sum f args with
      | some v => one (v, h)
      | none => match mrg f with
        | true => mergeO h ((bodyA P (callM P sum mrg k) f).run args ⟨h.objs, h.next, h.next, []⟩)
        | false => (bodyA P (callM P sum mrg k) f).run args h) = some outs := he
    cases hsm : sum f args with
    | some v =>
      rw [hsm] at he'
      exact hs f args h outs (by simp only [hsm]; exact he') r K w vargs hw R hv
    | none =>
      rw [hsm] at he'
      simp only at he'
      cases hf : mrg f with
      | false =>
        rw [hf] at he'
        exact bodyA_ok (callM_ok hs hm k) hm he' hw R hv
      | true =>
        rw [hf] at he'
        simp only at he'
        cases hb : (bodyA P (callM P sum mrg k) f).run args ⟨h.objs, h.next, h.next, []⟩ with
        | none => rw [hb] at he'; cases he'
        | some outs0 =>
          rw [hb] at he'
          have R' : Rel P r A K ⟨h.objs, h.next, h.next, []⟩ w.heap := ⟨R.lt, R.ob, R.inj, R.old, R.kn⟩
          refine (bodyA_ok (callM_ok hs hm k) hm hb hw R' hv).mono ?_
          rintro e w' ⟨v', rfl, hio, hg⟩
          exact ⟨v', rfl, hio, mergeO_ok R he' hg⟩
end
end Go.Proofs.YtmeianaaiiiinaaGreat.Ev
