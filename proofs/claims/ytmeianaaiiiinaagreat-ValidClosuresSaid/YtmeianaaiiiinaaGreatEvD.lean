/- The relation of heaps through a new object, a change of an object, and a row that is taken over. -/
import Derived.Test.YtmeianaaiiiinaaGreatEvB
namespace Go.Proofs.YtmeianaaiiiinaaGreat.Ev
open Go
set_option linter.unusedVariables false
set_option linter.unusedSimpArgs false
set_option linter.all false

def Ren.upd (r : Ren) (id b c : Nat) : Ren := ⟨fun i => if i = id then b else r.blk i, fun i => if i = id then c else r.cap i, r.io⟩
theorem Ren.upd_at (r : Ren) (id b c : Nat) : (r.upd id b c).blk id = b ∧ (r.upd id b c).cap id = c := by simp [Ren.upd]
theorem Ren.upd_ne (r : Ren) (id b c i : Nat) (h : i ≠ id) : (r.upd id b c).blk i = r.blk i ∧ (r.upd id b c).cap i = r.cap i := by simp [Ren.upd, h]
theorem push_old {H : Array Obj} {x : Obj} {b : Nat} (h : b < H.size) : (H.push x)[b]? = H[b]? := by
  rw [Array.getElem?_push]
  simp [Nat.ne_of_lt h]
/-- The numbers that mean something, and one more. -/
def Kn (K : Nat → Prop) (n : Nat) : Nat → Prop := fun i => K i ∨ i = n
theorem Ren.upd_old (r : Ren) {K : Nat → Prop} {nx : Nat} (hk : ∀ i, K i → i < nx) (b c : Nat) : ∀ i, K i → (r.upd nx b c).blk i = r.blk i ∧ (r.upd nx b c).cap i = r.cap i :=
  fun i h => r.upd_ne nx b c i (by have := hk i h; omega)

section
variable {P : Program} {r : Ren} {A K : Nat → Prop} {h : AH} {H : Array Obj}
theorem V.push {a : AV} {v : Value} (R : Rel P r A K h H) (x : Obj) (b c : Nat) (hv : V H r K A a v) :
    V (H.push x) (r.upd h.next b c) (Kn K h.next) A a v := hv.ext (fun _ h => .inl h) (r.upd_old R.kn b c) (fun _ h => h) (fun b hb => push_old (R.old b hb))
theorem VS.push {a : List AV} {v : List Value} (R : Rel P r A K h H) (x : Obj) (b c : Nat) (hv : VS H r K A a v) :
    VS (H.push x) (r.upd h.next b c) (Kn K h.next) A a v := hv.ext (fun _ h => .inl h) (r.upd_old R.kn b c) (fun _ h => h) (fun b hb => push_old (R.old b hb))
/-- A new object. -/
theorem rel_new (R : Rel P r A K h H) (c : Nat) {o : AObj} {x : Obj} (ho : O P (H.push x) (r.upd h.next H.size c) (Kn K h.next) A h.next o x) :
    Rel P (r.upd h.next H.size c) A (Kn K h.next) (h.new o) (H.push x) ∧ Ext r A K h H (r.upd h.next H.size c) A (Kn K h.next) (h.new o) (H.push x) := by
  have hlt : ∀ id p, h.get id = some p → id < h.next := fun id p hp => R.kn id (R.lt id p hp).1
  refine ⟨⟨fun id p hp => ?_, fun id p hp => ?_, fun id id' p p' hp hp' hb => ?_, fun b hb => ?_, fun id hi => ?_⟩, ⟨?_, fun _ h => .inl h, fun id hi => ?_, r.upd_old R.kn _ _, ?_, fun b hb => hb, fun b hb _ => push_old hb, fun id p hp hb => ?_, rfl, fun _ h => h, fun id hk hi hd => ?_, fun id o ho => ?_, rfl⟩⟩
  · rw [AH.get_new] at hp
    by_cases e : id = h.next
    · subst e
      refine ⟨.inr rfl, ?_, ?_⟩
      · rw [(r.upd_at _ _ _).1]; simp
      · rw [(r.upd_at _ _ _).1]; intro hb; exact absurd (R.old _ hb) (by omega)
    · rw [if_neg e] at hp
      have := R.lt id p hp
      rw [(r.upd_ne _ _ _ _ e).1]
      exact ⟨.inl this.1, by simp; omega, this.2.2⟩
  · rw [AH.get_new] at hp
    by_cases e : id = h.next
    · subst e
      rw [if_pos rfl] at hp
      cases hp
      rw [(r.upd_at _ _ _).1]
      exact ⟨x, by simp, ho⟩
    · rw [if_neg e] at hp
      obtain ⟨y, hy, hO⟩ := R.ob id p hp
      have := R.lt id p hp
      rw [(r.upd_ne _ _ _ _ e).1]
      refine ⟨y, by rw [push_old this.2.1]; exact hy, ?_⟩
      exact hO.ext this.1 (fun _ h => .inl h) (r.upd_old R.kn _ _) (fun _ h => h) (fun b hb => push_old (R.old b hb))
  · rw [AH.get_new] at hp hp'
    by_cases e : id = h.next
    · by_cases e' : id' = h.next
      · rw [e, e']
      · rw [if_neg e'] at hp'
        have := R.lt id' p' hp'
        rw [e, (r.upd_at _ _ _).1, (r.upd_ne _ _ _ _ e').1] at hb
        omega
    · rw [if_neg e] at hp
      have := R.lt id p hp
      by_cases e' : id' = h.next
      · rw [e', (r.upd_at _ _ _).1, (r.upd_ne _ _ _ _ e).1] at hb
        omega
      · rw [if_neg e'] at hp'
        rw [(r.upd_ne _ _ _ _ e).1, (r.upd_ne _ _ _ _ e').1] at hb
        exact R.inj id id' p p' hp hp' hb
  · have := R.old b hb
    simp; omega
  · rw [AH.next_new]
    rcases hi with hi | hi
    · have := R.kn id hi; omega
    · omega
  · rw [AH.next_new]; omega
  · rcases hi with hi | hi
    · exact .inl hi
    · exact .inr (by omega)
  · simp
  · rw [AH.get_new] at hp
    by_cases e : id = h.next
    · subst e
      rw [(r.upd_at _ _ _).1] at hb
      omega
    · rw [if_neg e] at hp
      exact ⟨id, p, hp, by rw [(r.upd_ne _ _ _ _ e).1]⟩
  · have := R.kn id hk
    exact ⟨by rw [AH.get_new, if_neg (by omega)], fun o ho => push_old (R.lt id o ho).2.1⟩
  · rw [AH.get_new] at ho
    by_cases e : id = h.next
    · exact .inr (by omega)
    · rw [if_neg e] at ho; exact .inl ⟨o, ho⟩

theorem set_ne {b b' : Nat} {x : Obj} (h : b ≠ b') : (H.setIfInBounds b x)[b']? = H[b']? := Array.getElem?_setIfInBounds_ne h
/-- A change of an object. -/
theorem rel_set (R : Rel P r A K h H) {id : Nat} {o o' : AObj} {x' : Obj} (hg : h.get id = some o) (ho : O P (H.setIfInBounds (r.blk id) x') r K A id o' x') :
    Rel P r A K (h.set id o') (H.setIfInBounds (r.blk id) x') ∧ Ext r A K h H r A K (h.set id o') (H.setIfInBounds (r.blk id) x') := by
  have hid := R.lt id o hg
  have hkeep : ∀ b, A b → (H.setIfInBounds (r.blk id) x')[b]? = H[b]? := fun b hb => set_ne (fun e => hid.2.2 (e ▸ hb))
  refine ⟨⟨fun i p hp => ?_, fun i p hp => ?_, fun i i' p p' hp hp' hb => ?_, fun b hb => ?_, fun i hi => R.kn i hi⟩, ⟨?_, fun _ h => h, fun _ h => .inl h, fun _ _ => ⟨rfl, rfl⟩, ?_, fun b hb => hb, fun b hb hk => ?_, fun i p hp hb => ?_, rfl, fun _ h => mem_mark _ _ h, fun i hk hi hd => ?_, fun i p hp => ?_, rfl⟩⟩
  · rw [AH.get_set] at hp
    rw [Array.size_setIfInBounds]
    by_cases e : i = id
    · subst e; exact hid
    · rw [if_neg e] at hp; exact R.lt i p hp
  · rw [AH.get_set] at hp
    by_cases e : i = id
    · subst e
      rw [if_pos rfl] at hp
      cases hp
      exact ⟨x', by rw [Array.getElem?_setIfInBounds_self_of_lt hid.2.1], ho⟩
    · rw [if_neg e] at hp
      obtain ⟨y, hy, hO⟩ := R.ob i p hp
      refine ⟨y, ?_, hO.ext (R.lt i p hp).1 (fun _ h => h) (fun _ _ => ⟨rfl, rfl⟩) (fun _ h => h) hkeep⟩
      rw [set_ne (fun eb => e (R.inj i id p o hp hg eb.symm))]
      exact hy
  · rw [AH.get_set] at hp hp'
    by_cases e : i = id
    · subst e
      by_cases e' : i' = i
      · rw [e']
      · rw [if_neg e'] at hp'; exact R.inj _ _ _ _ hg hp' hb
    · rw [if_neg e] at hp
      by_cases e' : i' = id
      · subst e'; exact R.inj _ _ _ _ hp hg hb
      · rw [if_neg e'] at hp'; exact R.inj _ _ _ _ hp hp' hb
  · rw [Array.size_setIfInBounds]; exact R.old b hb
  · exact Nat.le_refl _
  · rw [Array.size_setIfInBounds]; exact Nat.le_refl _
  · exact set_ne (hk id o hg)
  · rw [AH.get_set] at hp
    by_cases e : i = id
    · subst e; exact ⟨i, o, hg, rfl⟩
    · rw [if_neg e] at hp; exact ⟨i, p, hp, rfl⟩
  · have hne : i ≠ id := fun e => hd (by rw [AH.dirty_set, e]; exact mark_self _ (e ▸ hi))
    exact ⟨by rw [AH.get_set, if_neg hne], fun p hp => set_ne (fun eb => hne (R.inj i id p o hp hg eb.symm))⟩
  · rw [AH.get_set] at hp
    by_cases e : i = id
    · subst e; exact .inl ⟨o, hg⟩
    · rw [if_neg e] at hp; exact .inl ⟨p, hp⟩

/-- A row is given up: its number means nothing any more. -/
theorem rel_drop (R : Rel P r A K h H) (id : Nat) : Rel P r A K (h.drop id) H ∧ Ext r A K h H r A K (h.drop id) H := by
  have hget : ∀ i p, (h.drop id).get i = some p → h.get i = some p := by
    intro i p hp
    rw [AH.get_drop] at hp
    by_cases e : i = id
    · rw [if_pos e] at hp; cases hp
    · rw [if_neg e] at hp; exact hp
  refine ⟨⟨fun i p hp => R.lt i p (hget i p hp), fun i p hp => R.ob i p (hget i p hp), fun i i' p p' hp hp' hb => R.inj i i' p p' (hget i p hp) (hget i' p' hp') hb, R.old, R.kn⟩,
    ⟨Nat.le_refl _, fun _ h => h, fun _ h => .inl h, fun _ _ => ⟨rfl, rfl⟩, Nat.le_refl _, fun b hb => hb, fun b hb _ => rfl, fun i p hp hb => ⟨i, p, hget i p hp, rfl⟩, rfl, fun _ h => mem_mark _ _ h, fun i hk hi hd => ?_, fun i p hp => ?_, rfl⟩⟩
  · have hne : i ≠ id := fun e => hd (by rw [AH.dirty_drop, e]; exact mark_self _ (e ▸ hi))
    exact ⟨by rw [AH.get_drop, if_neg hne], fun p hp => rfl⟩
  · exact .inl ⟨p, hget i p hp⟩

/-- A row is taken over by a new number, in its place. -/
theorem rel_move (R : Rel P r A K h H) {id : Nat} {o o' : AObj} {x' : Obj} (hg : h.get id = some o)
    (ho : O P (H.setIfInBounds (r.blk id) x') (r.upd h.next (r.blk id) (r.cap id)) (Kn K h.next) A h.next o' x') :
    Rel P (r.upd h.next (r.blk id) (r.cap id)) A (Kn K h.next) ((h.drop id).new o') (H.setIfInBounds (r.blk id) x') ∧
      Ext r A K h H (r.upd h.next (r.blk id) (r.cap id)) A (Kn K h.next) ((h.drop id).new o') (H.setIfInBounds (r.blk id) x') := by
  have hid := R.lt id o hg
  have hidn := R.kn id hid.1
  have hkeep : ∀ b, A b → (H.setIfInBounds (r.blk id) x')[b]? = H[b]? := fun b hb => set_ne (fun e => hid.2.2 (e ▸ hb))
  have hget : ∀ i p, ((h.drop id).new o').get i = some p → (i = h.next ∧ p = o') ∨ (i ≠ h.next ∧ i ≠ id ∧ h.get i = some p) := by
    intro i p hp
    rw [AH.get_new, AH.next_drop] at hp
    by_cases e : i = h.next
    · rw [if_pos e] at hp; cases hp; exact .inl ⟨e, rfl⟩
    · rw [if_neg e, AH.get_drop] at hp
      by_cases e2 : i = id
      · rw [if_pos e2] at hp; cases hp
      · rw [if_neg e2] at hp; exact .inr ⟨e, e2, hp⟩
  refine ⟨⟨fun i p hp => ?_, fun i p hp => ?_, fun i i' p p' hp hp' hb => ?_, fun b hb => ?_, fun i hi => ?_⟩, ⟨?_, fun _ h => .inl h, fun i hi => ?_, r.upd_old R.kn _ _, ?_, fun b hb => hb, fun b hb hk => ?_, fun i p hp hb => ?_, rfl, fun _ h => mem_mark _ _ h, fun i hk hi hd => ?_, fun i p hp => ?_, rfl⟩⟩
  · rw [Array.size_setIfInBounds]
    rcases hget i p hp with ⟨e, _⟩ | ⟨e, e2, hq⟩
    · rw [e, (r.upd_at _ _ _).1]; exact ⟨.inr rfl, hid.2⟩
    · rw [(r.upd_ne _ _ _ _ e).1]
      have := R.lt i p hq
      exact ⟨.inl this.1, this.2⟩
  · rcases hget i p hp with ⟨e, e'⟩ | ⟨e, e2, hq⟩
    · subst e; subst e'
      rw [(r.upd_at _ _ _).1]
      exact ⟨x', by rw [Array.getElem?_setIfInBounds_self_of_lt hid.2.1], ho⟩
    · obtain ⟨y, hy, hO⟩ := R.ob i p hq
      rw [(r.upd_ne _ _ _ _ e).1]
      refine ⟨y, ?_, hO.ext (R.lt i p hq).1 (fun _ h => .inl h) (r.upd_old R.kn _ _) (fun _ h => h) hkeep⟩
      rw [set_ne (fun eb => e2 (R.inj i id p o hq hg eb.symm))]
      exact hy
  · rcases hget i p hp with ⟨e, _⟩ | ⟨e, e2, hq⟩
    · rcases hget i' p' hp' with ⟨e', _⟩ | ⟨e', e2', hq'⟩
      · rw [e, e']
      · rw [e, (r.upd_at _ _ _).1, (r.upd_ne _ _ _ _ e').1] at hb
        exact absurd (R.inj _ _ _ _ hg hq' hb).symm e2'
    · rcases hget i' p' hp' with ⟨e', _⟩ | ⟨e', e2', hq'⟩
      · rw [e', (r.upd_at _ _ _).1, (r.upd_ne _ _ _ _ e).1] at hb
        exact absurd (R.inj _ _ _ _ hq hg hb) e2
      · rw [(r.upd_ne _ _ _ _ e).1, (r.upd_ne _ _ _ _ e').1] at hb
        exact R.inj _ _ _ _ hq hq' hb
  · rw [Array.size_setIfInBounds]; exact R.old b hb
  · rw [AH.next_new, AH.next_drop]
    rcases hi with hi | hi
    · have := R.kn i hi; omega
    · omega
  · rw [AH.next_new, AH.next_drop]; omega
  · rcases hi with hi | hi
    · exact .inl hi
    · exact .inr (by omega)
  · rw [Array.size_setIfInBounds]; exact Nat.le_refl _
  · exact set_ne (hk id o hg)
  · rcases hget i p hp with ⟨e, _⟩ | ⟨e, e2, hq⟩
    · exact ⟨id, o, hg, by rw [e, (r.upd_at _ _ _).1]⟩
    · exact ⟨i, p, hq, by rw [(r.upd_ne _ _ _ _ e).1]⟩
  · have hne : i ≠ id := fun e => hd (by rw [AH.dirty_new, AH.dirty_drop, e]; exact mark_self _ (e ▸ hi))
    have := R.kn i hk
    exact ⟨by rw [AH.get_new, AH.next_drop, if_neg (by omega), AH.get_drop, if_neg hne], fun p hp => set_ne (fun eb => hne (R.inj i id p o hp hg eb.symm))⟩
  · rcases hget i p hp with ⟨e, _⟩ | ⟨e, e2, hq⟩
    · exact .inr (by omega)
    · exact .inl ⟨p, hq⟩
end

/-! ### The temporaries -/
/-- The temporaries stand for those of a frame. -/
def TMR (H : Array Obj) (r : Ren) (K : Nat → Prop) (A : Nat → Prop) (tm : TM) (vs : Array Value) : Prop :=
  ∀ t a, tm.get t = some a → ∃ v, vs[t]? = some v ∧ V H r K A a v
theorem TMR.through {P : Program} {r r' : Ren} {A A' K K' : Nat → Prop} {h h' : AH} {H H' : Array Obj} (e : Ext r A K h H r' A' K' h' H') (R : Rel P r A K h H) {tm : TM} {vs : Array Value} (ht : TMR H r K A tm vs) :
    TMR H' r' K' A' tm vs := fun t a ha => by
  obtain ⟨v, h1, h2⟩ := ht t a ha
  exact ⟨v, h1, h2.through e R⟩
theorem TMR.put {H : Array Obj} {r : Ren} {K : Nat → Prop} {A : Nat → Prop} {tm : TM} {vs : Array Value} {d : Nat} {a : AV} {v : Value} (ht : TMR H r K A tm vs) (hd : d < vs.size) (hv : V H r K A a v) :
    TMR H r K A (tm.put d (some a)) (vs.setIfInBounds d v) := fun t b hb => by
  rw [T.get_put] at hb
  by_cases e : t = d
  · subst e
    rw [if_pos rfl] at hb
    cases hb
    exact ⟨v, by rw [Array.getElem?_setIfInBounds_self_of_lt hd], hv⟩
  · rw [if_neg e] at hb
    obtain ⟨w, h1, h2⟩ := ht t b hb
    exact ⟨w, by rw [Array.getElem?_setIfInBounds_ne (fun h => e h.symm)]; exact h1, h2⟩
theorem ofConst_V {H : Array Obj} {r : Ren} {K : Nat → Prop} {A : Nat → Prop} {v : Value} {a : AV} (h : ofConst v = some a) : V H r K A a v := by
  unfold ofConst at h
  split at h <;> first | (cases h; constructor) | cases h
theorem ofConsts_VS {H : Array Obj} {r : Ren} {K : Nat → Prop} {A : Nat → Prop} : ∀ {vs : List Value} {as : List AV}, ofConsts vs = some as → VS H r K A as vs
  | [], as, h => by
    cases h
    exact ⟨rfl, fun i a v ha hv => by simp at ha⟩
  | v :: vs, as, h => by
    simp only [ofConsts] at h
    cases h1 : ofConst v with
    | none => simp [h1] at h
    | some a =>
      cases h2 : ofConsts vs with
      | none => simp [h1, h2] at h
      | some l =>
        simp [h1, h2] at h
        subst h
        have ih := ofConsts_VS (H := H) (r := r) (K := K) (A := A) h2
        refine ⟨by simp [ih.1], fun i x y hx hy => ?_⟩
        cases i with
        | zero => simp at hx hy; subst hx; subst hy; exact ofConst_V h1
        | succ i => exact ih.2 i x y (by simpa using hx) (by simpa using hy)
theorem ofZero_V {H : Array Obj} {r : Ren} {K : Nat → Prop} {A : Nat → Prop} {v : Value} {a : AV} (h : ofZero v = some a) : V H r K A a v := by
  unfold ofZero at h
  split at h
  · rename_i cs
    cases h1 : ofConsts cs.toList with
    | none => simp [h1] at h
    | some l =>
      simp [h1] at h
      subst h
      have := ofConsts_VS (H := H) (r := r) (K := K) (A := A) h1
      exact .agg _ _ (by simpa using this.1) (fun i a v ha hv => this.2 i a v ha (by simpa using hv))
  · exact ofConst_V h
theorem operand_V {H : Array Obj} {r : Ren} {K : Nat → Prop} {A : Nat → Prop} {tm : TM} {a : Act} (ht : TMR H r K A tm a.tmps) {x : Operand} {v : AV} (h : operand tm x = some v) : V H r K A v (a.eval x) := by
  cases x with
  | tmp t =>
    obtain ⟨w, h1, h2⟩ := ht t v h
    have : a.eval (.tmp t) = w := by simp [Act.eval, Array.getD_eq_getD_getElem?, h1]
    rw [this]; exact h2
  | const c => exact ofZero_V h
  | global g => simp [operand] at h
  | func f =>
    simp [operand] at h
    subst h
    exact .func _ _ _ #[] #[] rfl rfl (fun i a v ha hv => by simp at ha) (fun i a v ha hv => by simp at ha)
theorem operands_cons (tm : TM) (x : Operand) (l : List Operand) : operands tm (x :: l) = match operand tm x with
    | none => none
    | some a => match operands tm l with
      | none => none
      | some as => some (a :: as) := rfl
theorem operands_VS {H : Array Obj} {r : Ren} {K : Nat → Prop} {A : Nat → Prop} {tm : TM} {a : Act} (ht : TMR H r K A tm a.tmps) : ∀ {l : List Operand} {vs : List AV}, operands tm l = some vs → VS H r K A vs (l.map a.eval)
  | [], vs, h => by
    cases h
    exact ⟨rfl, fun i a v ha hv => by simp at ha⟩
  | x :: l, vs, h => by
    rw [operands_cons] at h
    cases h1 : operand tm x with
    | none => simp [h1] at h
    | some b =>
      cases h2 : operands tm l with
      | none => simp [h1, h2] at h
      | some bs =>
        simp [h1, h2] at h
        subst h
        have ih := operands_VS ht h2
        refine ⟨by simp [ih.1], fun i x y hx hy => ?_⟩
        cases i with
        | zero => simp at hx hy; subst hx; subst hy; exact operand_V ht h1
        | succ i => exact ih.2 i x y (by simpa using hx) (by simpa using hy)
end Go.Proofs.YtmeianaaiiiinaaGreat.Ev
