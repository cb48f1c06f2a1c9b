/- The logic, continued: a text evaluated by the kernel, to values without numbers. -/
import Derived.Test.YtmeianaaiiiinaaGreatEvWf
namespace Go.Proofs.YtmeianaaiiiinaaGreat.Ev
open Go
set_option linter.unusedVariables false
set_option linter.unusedSimpArgs false
set_option linter.all false
noncomputable section

/-- All of a list, or none. -/
def deepL (f : AV → Option AV) (l : List AV) : Option (List AV) :=
  List.rec (some []) (fun a _ ih => Option.casesOn (f a) none fun b => Option.casesOn ih none fun bs => some (b :: bs)) l
/-- A value with all to which it leads in a heap. -/
def deepV (h : AH) (k : Nat) : AV → Option AV :=
  Nat.rec (fun _ => none) (fun _ ih v => match v with
    | .agg cs => Option.casesOn (deepL ih cs) none fun ds => some (.agg ds)
    | .ptr id off => match h.get id with
      | some (.row _ cells _) => Option.casesOn (deepL ih cells) none fun ds => some (.rptr ds off)
      | _ => none
    | .slice id off len _ => match h.get id with
      | some (.row _ cells _) => Option.casesOn (deepL ih (cells.drop off)) none fun ds => some (.view len ds false)
      | _ => none
    | .rptr cells off => Option.casesOn (deepL ih cells) none fun ds => some (.rptr ds off)
    | .view n cells e => Nat.casesOn n (some (.view 0 [] e)) fun n => Option.casesOn (deepL ih cells) none fun ds => some (.view (Nat.succ n) ds e)
    | .bool b => some (.bool b)
    | .int k n => some (.int k n)
    | .str s => some (.str s)
    | .nilPtr => some .nilPtr
    | .nilSlice => some .nilSlice
    | .nilMap => some .nilMap
    | .nilFunc => some .nilFunc
    | .nilIface => some .nilIface
    | _ => none) k
theorem deepL_at {f : AV → Option AV} : ∀ {l m : List AV}, deepL f l = some m → l.length = m.length ∧ ∀ (i : Nat) a b, l[i]? = some a → m[i]? = some b → f a = some b
  | [], m, h => by
    cases h
    exact ⟨rfl, fun i a b ha => by simp at ha⟩
  | x :: l, m, h => by
    have e : deepL f (x :: l) = Option.casesOn (f x) none fun b => Option.casesOn (deepL f l) none fun bs => some (b :: bs) := rfl
    rw [e] at h
    cases hx : f x with
    | none => rw [hx] at h; cases h
    | some b =>
      cases hl : deepL f l with
      | none => rw [hx, hl] at h; cases h
      | some bs =>
        rw [hx, hl] at h
        have h' : b :: bs = m := Option.some.inj h
        subst h'
        have ih := deepL_at hl
        refine ⟨by simp [ih.1], fun i a c ha hc => ?_⟩
        cases i with
        | zero =>
          have e1 : x = a := by simpa using ha
          have e2 : b = c := by simpa using hc
          rw [← e1, ← e2]; exact hx
        | succ i => exact ih.2 i a c (by simpa using ha) (by simpa using hc)
theorem deepV_ok {P : Program} {H : Array Obj} {r : Ren} {A K : Nat → Prop} {h : AH} (R : Rel P r A K h H) : ∀ (k : Nat) (a b : AV) (x : Value), deepV h k a = some b → V H r K A a x → V H r (fun _ => False) (fun b => A b ∨ ∃ id o, h.get id = some o ∧ r.blk id = b) b x ∧ Low 0 b := by
  intro k
  induction k with
  | zero => intro a b x h; cases h
  | succ k ih =>
    intro a b x hd hx
    have row : ∀ {id : Nat} {e : TypeId} {cells ds : List AV} {op : Bool} {off : Nat}, h.get id = some (.row e cells op) → deepL (deepV h k) (cells.drop off) = some ds →
        (fun b => A b ∨ ∃ id o, h.get id = some o ∧ r.blk id = b) (r.blk id) ∧ (∀ (i : Nat) d, ds[i]? = some d → ∃ v, cellH H (r.blk id) (off + i) = some v) ∧ (∀ (i : Nat) d v, ds[i]? = some d → cellH H (r.blk id) (off + i) = some v → V H r (fun _ => False) (fun b => A b ∨ ∃ id o, h.get id = some o ∧ r.blk id = b) d v ∧ Low 0 d) := by
      intro id e cells ds op off hg hdl
      obtain ⟨y, h1, h2⟩ := R.ob id _ hg
      obtain ⟨hlen, hat⟩ := deepL_at hdl
      cases h2 with
      | row _ _ _ cs g1 g2 g3 g4 =>
        have get : ∀ (i : Nat) d, ds[i]? = some d → ∃ c v, cells[off + i]? = some c ∧ cs[off + i]? = some v ∧ deepV h k c = some d := fun i d hi => by
          have hlt : i < ds.length := (List.getElem?_eq_some_iff.1 hi).1
          have hlt2 : i < (cells.drop off).length := by omega
          have h3 : (cells.drop off)[i]? = some (cells.drop off)[i] := List.getElem?_eq_getElem hlt2
          have h4 : off + i < cells.length := by rw [List.length_drop] at hlt2; omega
          refine ⟨(cells.drop off)[i], cs[off + i]'(by omega), by rw [← List.getElem?_drop]; exact h3, Array.getElem?_eq_getElem (by omega), hat i _ _ h3 hi⟩
        refine ⟨.inr ⟨id, _, hg, rfl⟩, fun i d hi => ?_, fun i d v hi hv => ?_⟩
        · obtain ⟨c, v, _, h5, _⟩ := get i d hi
          exact ⟨v, by unfold cellH; rw [h1]; exact h5⟩
        · obtain ⟨c, v', h4, h5, h6⟩ := get i d hi
          have : cellH H (r.blk id) (off + i) = some v' := by unfold cellH; rw [h1]; exact h5
          have e : v = v' := by rw [this] at hv; exact (Option.some.inj hv).symm
          subst e
          exact ih c d v h6 (g4 _ _ _ h4 h5)
    have lowAll : ∀ {ds : List AV}, (∀ (i : Nat) d, ds[i]? = some d → Low 0 d) → ∀ a ∈ ds, Low 0 a := fun hall a ha => by
      obtain ⟨i, hi, rfl⟩ := List.getElem_of_mem ha
      exact hall i _ (List.getElem?_eq_getElem hi)
    cases a with
    | bool b' => cases hd; cases hx; exact ⟨.bool _, .bool _⟩
    | int k n => cases hd; cases hx; exact ⟨.int _ _, .int _ _⟩
    | str s => cases hd; cases hx; exact ⟨.str _, .str _⟩
    | nilPtr => cases hd; cases hx; exact ⟨.nilPtr, .nilPtr⟩
    | nilSlice => cases hd; cases hx; exact ⟨.nilSlice, .nilSlice⟩
    | nilMap => cases hd; cases hx; exact ⟨.nilMap, .nilMap⟩
    | nilFunc => cases hd; cases hx; exact ⟨.nilFunc, .nilFunc⟩
    | nilIface => cases hd; cases hx; exact ⟨.nilIface, .nilIface⟩
    | tuple vs => cases hd
    | map id => cases hd
    | func fn f c => cases hd
    | iface t v => cases hd
    | agg cs =>
      have hd' : (Option.casesOn (deepL (deepV h k) cs) none fun ds => some (AV.agg ds) : Option AV) = some b := hd
      cases hl : deepL (deepV h k) cs with
      | none => rw [hl] at hd'; cases hd'
      | some ds =>
        rw [hl] at hd'
        have e : AV.agg ds = b := Option.some.inj hd'
        subst e
        obtain ⟨h1, h2⟩ := deepL_at hl
        cases hx with
        | agg _ vs g1 g2 =>
          have get : ∀ (i : Nat) d, ds[i]? = some d → ∃ v, vs[i]? = some v ∧ V H r (fun _ => False) (fun b => A b ∨ ∃ id o, h.get id = some o ∧ r.blk id = b) d v ∧ Low 0 d := fun i d hi => by
            have hlt : i < ds.length := (List.getElem?_eq_some_iff.1 hi).1
            have ha : cs[i]? = some cs[i] := List.getElem?_eq_getElem (by omega)
            have hv : vs[i]? = some (vs[i]'(by omega)) := Array.getElem?_eq_getElem (by omega)
            exact ⟨_, hv, ih _ _ _ (h2 i _ _ ha hi) (g2 i _ _ ha hv)⟩
          refine ⟨.agg _ _ (by omega) (fun i d v hi hv => ?_), .agg _ (lowAll (fun i d hi => (get i d hi).choose_spec.2.2))⟩
          obtain ⟨v', h3, h4, _⟩ := get i d hi
          have : v = v' := by rw [h3] at hv; exact (Option.some.inj hv).symm
          rw [this]; exact h4
    | ptr id off =>
      have hd' : (match h.get id with
        | some (.row _ cells _) => (Option.casesOn (deepL (deepV h k) cells) none fun ds => some (AV.rptr ds off) : Option AV)
        | _ => none) = some b := hd
      cases hg : h.get id with
      | none => rw [hg] at hd'; cases hd'
      | some o =>
        rw [hg] at hd'
        cases o with
        | row e cells op =>
          simp only at hd'
          cases hl : deepL (deepV h k) cells with
          | none => rw [hl] at hd'; cases hd'
          | some ds =>
            rw [hl] at hd'
            have e' : AV.rptr ds off = b := Option.some.inj hd'
            subst e'
            obtain ⟨h1, h2, h3⟩ := row (off := 0) hg (by rw [List.drop_zero]; exact hl)
            cases hx with
            | ptr _ _ hi =>
              refine ⟨?_, .rptr _ _ (lowAll (fun i d hi => ?_))⟩
              · have := V.rptr (H := H) (r := r) (K := fun _ => False) (A := fun b => A b ∨ ∃ id o, h.get id = some o ∧ r.blk id = b) ds off (r.blk id) 0 h1 h2 (fun i d v hi hv => (h3 i d v hi hv).1)
                rw [Nat.zero_add] at this
                exact this
              · obtain ⟨v, hv⟩ := h2 i d hi
                exact (h3 i d v hi hv).2
        | mp es c => cases hd'
        | miter m s l n => cases hd'
    | slice id off len cap =>
      have hd' : (match h.get id with
        | some (.row _ cells _) => (Option.casesOn (deepL (deepV h k) (cells.drop off)) none fun ds => some (AV.view len ds false) : Option AV)
        | _ => none) = some b := hd
      cases hg : h.get id with
      | none => rw [hg] at hd'; cases hd'
      | some o =>
        rw [hg] at hd'
        cases o with
        | row e cells op =>
          simp only at hd'
          cases hl : deepL (deepV h k) (cells.drop off) with
          | none => rw [hl] at hd'; cases hd'
          | some ds =>
            rw [hl] at hd'
            have e' : AV.view len ds false = b := Option.some.inj hd'
            subst e'
            obtain ⟨h1, h2, h3⟩ := row hg hl
            cases hx with
            | slice _ _ _ _ hi hc =>
              refine ⟨.view _ _ _ _ _ _ hc (fun h => by cases h) h1 h2 (fun i d v hi hv => (h3 i d v hi hv).1), .view _ _ _ (lowAll (fun i d hi => ?_))⟩
              obtain ⟨v, hv⟩ := h2 i d hi
              exact (h3 i d v hi hv).2
        | mp es c => cases hd'
        | miter m s l n => cases hd'
    | rptr cells off =>
      have hd' : (Option.casesOn (deepL (deepV h k) cells) none fun ds => some (AV.rptr ds off) : Option AV) = some b := hd
      cases hl : deepL (deepV h k) cells with
      | none => rw [hl] at hd'; cases hd'
      | some ds =>
        rw [hl] at hd'
        have e : AV.rptr ds off = b := Option.some.inj hd'
        subst e
        obtain ⟨h1, h2⟩ := deepL_at hl
        cases hx with
        | rptr _ _ b o ha hc hv =>
          have get : ∀ (i : Nat) d, ds[i]? = some d → ∃ c, cells[i]? = some c ∧ deepV h k c = some d := fun i d hi => by
            have hlt : i < ds.length := (List.getElem?_eq_some_iff.1 hi).1
            have h3 : cells[i]? = some cells[i] := List.getElem?_eq_getElem (by omega)
            exact ⟨_, h3, h2 i _ _ h3 hi⟩
          refine ⟨.rptr _ _ _ _ (.inl ha) (fun i d hi => ?_) (fun i d v hi hv' => ?_), .rptr _ _ (lowAll (fun i d hi => ?_))⟩
          · obtain ⟨c, h3, _⟩ := get i d hi
            exact hc i c h3
          · obtain ⟨c, h3, h4⟩ := get i d hi
            exact (ih c d v h4 (hv i c v h3 hv')).1
          · obtain ⟨c, h3, h4⟩ := get i d hi
            obtain ⟨v, h5⟩ := hc i c h3
            exact (ih c d v h4 (hv i c v h3 h5)).2
    | view n cells ex =>
     cases n with
     | zero =>
      have e : AV.view 0 [] ex = b := Option.some.inj hd
      subst e
      refine ⟨?_, .view _ _ _ (fun a ha => by cases ha)⟩
      cases hx with
      | view0 _ _ a cap hx => exact .view0 _ _ _ _ hx
      | view _ _ _ b o cap hn hx ha hc hv => exact .view0 _ _ _ _ hx
     | succ n =>
      have hd' : (Option.casesOn (deepL (deepV h k) cells) none fun ds => some (AV.view (Nat.succ n) ds ex) : Option AV) = some b := hd
      cases hl : deepL (deepV h k) cells with
      | none => rw [hl] at hd'; cases hd'
      | some ds =>
        rw [hl] at hd'
        have e : AV.view (Nat.succ n) ds ex = b := Option.some.inj hd'
        subst e
        obtain ⟨h1, h2⟩ := deepL_at hl
        have get : ∀ (i : Nat) d, ds[i]? = some d → ∃ c, cells[i]? = some c ∧ deepV h k c = some d := fun i d hi => by
          have hlt : i < ds.length := (List.getElem?_eq_some_iff.1 hi).1
          have h3 : cells[i]? = some cells[i] := List.getElem?_eq_getElem (by omega)
          exact ⟨_, h3, h2 i _ _ h3 hi⟩
        cases hx with
        | view _ _ _ b o cap hn hx ha hc hv =>
          refine ⟨.view _ _ _ _ _ _ hn hx (.inl ha) (fun i d hi => ?_) (fun i d v hi hv' => ?_), .view _ _ _ (lowAll (fun i d hi => ?_))⟩
          · obtain ⟨c, h3, _⟩ := get i d hi
            exact hc i c h3
          · obtain ⟨c, h3, h4⟩ := get i d hi
            exact (ih c d v h4 (hv i c v h3 hv')).1
          · obtain ⟨c, h3, h4⟩ := get i d hi
            obtain ⟨v, h5⟩ := hc i c h3
            exact (ih c d v h4 (hv i c v h3 h5)).2

def eqP1 (e : AV → AV → Bool) (a b : AV) : Bool :=
  match a with
  | .rptr l o => match b with
    | .rptr m p => eqL e l m && Nat.beq o p
    | _ => false
  | .view n l x => match b with
    | .view n' m y => Nat.beq n n' && eqL e l m && eqB x y
    | _ => false
  | a => eqA1 e a b
def eqP (k : Nat) : AV → AV → Bool := Nat.rec (fun _ _ => false) (fun _ ih => eqP1 ih) k
theorem eqP1_ok {e : AV → AV → Bool} (he : ∀ a b, e a b = true → a = b) (a b : AV) (h : eqP1 e a b = true) : a = b := by
  unfold eqP1 at h
  split at h
  · split at h
    · simp only [Bool.and_eq_true] at h
      rw [eqL_ok he _ _ h.1, Nat.eq_of_beq_eq_true h.2]
    · cases h
  · split at h
    · simp only [Bool.and_eq_true] at h
      rw [Nat.eq_of_beq_eq_true h.1.1, eqL_ok he _ _ h.1.2, eqB_ok h.2]
    · cases h
  · exact eqA1_ok he _ _ h
theorem eqP_ok : ∀ (k : Nat) (a b : AV), eqP k a b = true → a = b
  | 0, _, _, h => by cases h
  | k + 1, a, b, h => eqP1_ok (eqP_ok k) a b h
/-- Whether a state's temporaries are those of a list, spelled out. -/
def seamB (t : TM) (h : AH) (E2 : Env) : Bool :=
  List.rec true (fun p _ ih => bif (match t.get p.1 with
    | some u => match deepV h 12 u with
      | some v => eqP 20 v p.2
      | none => false
    | none => false) then ih else false) E2
/-- Whether a text comes to one normal exit, with these temporaries. -/
def evB (P : Program) (call : CallA) (nt : Nat) (c : Code) (E : Env) (E2 : Env) : Bool :=
  match (ev P call nt c).run (tmE E) (hE [] 0) with
  | some [(.normal, t, h)] => seamB t h E2
  | _ => false
theorem seamB_ok {t : TM} {h : AH} : ∀ {E2 : Env}, seamB t h E2 = true → ∀ d v, getL E2 d = some v → ∃ u, t.get d = some u ∧ deepV h 12 u = some v
  | [], _, d, v, hg => by cases hg
  | p :: E2, hs, d, v, hg => by
    have e : seamB t h (p :: E2) = bif (match t.get p.1 with
      | some u => match deepV h 12 u with
        | some v => eqP 20 v p.2
        | none => false
      | none => false) then seamB t h E2 else false := rfl
    rw [e] at hs
    cases hb : (match t.get p.1 with
      | some u => match deepV h 12 u with
        | some v => eqP 20 v p.2
        | none => false
      | none => false) with
    | false => rw [hb] at hs; cases hs
    | true =>
      rw [hb] at hs
      simp only [cond_true] at hs
      obtain ⟨p1, p2⟩ := p
      rw [getL_if] at hg
      by_cases h1 : p1 = d
      · rw [if_pos h1] at hg
        have e2 : p2 = v := Option.some.inj hg
        subst h1
        subst e2
        simp only at hb
        split at hb
        · rename_i u hu
          split at hb
          · rename_i v' hv'
            rw [eqP_ok 20 _ _ hb] at hv'
            exact ⟨u, hu, hv'⟩
          · cases hb
        · cases hb
      · rw [if_neg h1] at hg
        exact seamB_ok hs d v hg
section
variable {P : Program} {nt : Nat} {F : Fr}
/-- A text that the kernel has evaluated, from values without numbers to such values. -/
theorem AW.evK {call : CallA} (hcall : ∀ A, CallOk P A call) (hm : P.follows .mixedOrders = true) {c : Code} {Q : AEx → Env → AH → Prop} {E : Env} (E2 : Env) (hn : F.h.next = 0) (he : evB P call nt c E E2 = true) (hq : Q .normal E2 (hE [] 0)) : AW P nt F c Q E (hE [] 0) := by
  intro r A K a w S T hb
  unfold evB at he
  split at he
  · rename_i t h hrun
    refine ev_ok (hcall A) hm c (tmE E) (hE [] 0) r K a w _ _ hrun S (fun s hs r' K' a' w' S' E' => ?_)
    obtain rfl : s = (.normal, t, h) := by simpa using hs
    have T' := T.step (P := P) E'
    have hdeep := seamB_ok he
    have hA : ∀ b, A b → w'.heap[b]? = w'.heap[b]? := fun _ _ => rfl
    refine ⟨.normal, E2, hE [] 0, r', (fun b => A b ∨ ∃ id o, h.get id = some o ∧ r'.blk id = b), (fun _ => False), rfl, hq, ⟨⟨fun id o ho => (by rw [hE_get] at ho; cases ho), fun id o ho => (by rw [hE_get] at ho; cases ho), fun id _ o _ ho => (by rw [hE_get] at ho; cases ho), fun b hb => ?_, fun id hi => hi.elim⟩, fun d v hd => ?_, S'.size, S'.defers, S'.io⟩,
      ⟨⟨by rw [hn]; exact Nat.zero_le _, fun id hi => ?_, fun id hi => hi.elim, T'.ext.ren, T'.ext.size, fun b hb => .inl (T'.ext.sub b hb), T'.ext.keep, fun id o ho => (by rw [hE_get] at ho; cases ho), ?_, fun id hi => ?_, fun id h1 h2 => ?_, fun id o ho => (by rw [hE_get] at ho; cases ho), T'.ext.io⟩, fun b hb => ?_, T.fk, T.base⟩, rfl⟩
    · rcases hb with hb | ⟨id, o, ho, rfl⟩
      · exact S'.rel.old b hb
      · exact (S'.rel.lt id o ho).2.1
    · rw [tmE_get] at hd
      obtain ⟨u, h1, h2⟩ := hdeep d v hd
      obtain ⟨x, h3, h4⟩ := S'.tms d u h1
      exact ⟨x, h3, (deepV_ok S'.rel 12 u v x h2 h4).1⟩
    · have := T.fk id hi
      rw [hn] at this; omega
    · show (0 : Nat) = F.h.base
      exact T.base.symm
    · have := T.ext.mono id hi
      cases this
    · rw [T.base] at h2; omega
    · rcases hb with hb | ⟨id, o, ho, rfl⟩
      · exact T.anew b hb
      · by_cases hlt : r'.blk id < F.H.size
        · obtain ⟨id', o', g1, g2⟩ := T'.ext.own id o ho hlt
          exact .inr (.inr ⟨id', o', g1, g2⟩)
        · exact .inr (.inl (Nat.le_of_not_lt hlt))
  · cases he
/-- The n-th part of a text. -/
def segC (n : Nat) : Code → Code :=
  Nat.rec (fun c => match c with
    | .seq a _ => a
    | c => c) (fun _ ih c => match c with
    | .seq _ b => ih b
    | c => c) n
end
end
end Go.Proofs.YtmeianaaiiiinaaGreat.Ev
