/- A logic of texts over abstract states: what holds behind a text, whatever the memory around it. States as lists. -/
import Derived.Test.YtmeianaaiiiinaaGreatEvZ
namespace Go.Proofs.YtmeianaaiiiinaaGreat.Ev
open Go
set_option linter.unusedVariables false
set_option linter.unusedSimpArgs false
set_option linter.all false

noncomputable section
/-! ### Temporaries and heaps as lists: the newest entry counts -/
abbrev Env := List (Nat × AV)
abbrev Hp := List (Nat × Option AObj)
def getL {α : Type} (l : List (Nat × α)) (d : Nat) : Option α := List.rec none (fun p _ ih => bif Nat.beq p.1 d then some p.2 else ih) l
theorem getL_nil {α : Type} (d : Nat) : getL ([] : List (Nat × α)) d = none := rfl
theorem getL_cons {α : Type} (p : Nat × α) (l : List (Nat × α)) (d : Nat) : getL (p :: l) d = bif Nat.beq p.1 d then some p.2 else getL l d := rfl
theorem getL_same {α : Type} (d : Nat) (v : α) (l : List (Nat × α)) : getL ((d, v) :: l) d = some v := by simp [getL_cons, beq_tf]
theorem getL_other {α : Type} (d e : Nat) (v : α) (l : List (Nat × α)) (h : d ≠ e) : getL ((d, v) :: l) e = getL l e := by simp [getL_cons, beq_tf, h]
def tmE (E : Env) : TM := List.rec .nil (fun p _ ih => ih.put p.1 (some p.2)) E
theorem tmE_get (E : Env) (d : Nat) : (tmE E).get d = getL E d := by
  induction E with
  | nil => exact T.get_nil d
  | cons p E ih =>
    show ((tmE E).put p.1 (some p.2)).get d = _
    rw [T.get_put, ih, getL_cons, beq_tf]
    by_cases h : d = p.1
    · simp [h]
    · have : p.1 ≠ d := fun e => h e.symm
      simp [h, this]
theorem tmE_put (E : Env) (d : Nat) (v : AV) : (tmE E).put d (some v) = tmE ((d, v) :: E) := rfl
def objE (L : Hp) : T AObj := List.rec .nil (fun p _ ih => ih.put p.1 p.2) L
theorem objE_get (L : Hp) (d : Nat) : (objE L).get d = (getL L d).join := by
  induction L with
  | nil => exact T.get_nil d
  | cons p E ih =>
    show ((objE E).put p.1 p.2).get d = _
    rw [T.get_put, ih, getL_cons, beq_tf]
    by_cases h : d = p.1
    · simp [h]
    · have : p.1 ≠ d := fun e => h e.symm
      simp [h, this]
/-- The heap of a list of objects; the next number. -/
def hE (L : Hp) (n : Nat) : AH := ⟨objE L, n, 0, []⟩
def getO (L : Hp) (id : Nat) : Option AObj := (getL L id).join
theorem hE_get (L : Hp) (n id : Nat) : (hE L n).get id = getO L id := objE_get L id
theorem mark_zero (n : Nat) (l : List Nat) : mark n 0 l = l := by
  have : Nat.blt n 0 = false := by cases h : Nat.blt n 0 <;> simp_all
  simp [mark, this]
theorem hE_set (L : Hp) (n id : Nat) (o : AObj) : (hE L n).set id o = hE ((id, some o) :: L) n := by
  simp only [AH.set, hE, AObj.force_eq, mark_zero]; rfl
theorem hE_new (L : Hp) (n : Nat) (o : AObj) : (hE L n).new o = hE ((n, some o) :: L) (n + 1) := by
  simp only [AH.new, hE, AObj.force_eq]; rfl
theorem hE_drop (L : Hp) (n id : Nat) : (hE L n).drop id = hE ((id, none) :: L) n := by
  simp only [AH.drop, hE, mark_zero]; rfl
theorem hE_next (L : Hp) (n : Nat) : (hE L n).next = n := rfl
theorem hE_force {β : Type} (L : Hp) (n : Nat) (c : AH → β) : (hE L n).force c = c (hE L n) := AH.force_eq _ _

/-! ### The frame of a function's run -/
/-- How things stood when a function was entered. -/
structure Fr where
  r : Ren
  A : Nat → Prop
  K : Nat → Prop
  h : AH
  H : Array Obj
/-- What has been done since. -/
structure At (F : Fr) (r : Ren) (A K : Nat → Prop) (h : AH) (H : Array Obj) : Prop where
  ext : Ext F.r F.A F.K F.h F.H r A K h H
  anew : ∀ b, A b → F.A b ∨ F.H.size ≤ b ∨ ∃ id o, F.h.get id = some o ∧ F.r.blk id = b
  fk : ∀ id, F.K id → id < F.h.next
  base : F.h.base = 0

theorem At.refl {P : Program} {r : Ren} {A K : Nat → Prop} {h : AH} {H : Array Obj} (R : Rel P r A K h H) (hb : h.base = 0) : At ⟨r, A, K, h, H⟩ r A K h H :=
  ⟨Ext.refl _ _ _ _ _, fun b hb => .inl hb, R.kn, hb⟩
theorem At.step {P : Program} {F : Fr} {r r' : Ren} {A K K' : Nat → Prop} {h h' : AH} {H H' : Array Obj} (a : At F r A K h H) (e : Ext r A K h H r' A K' h' H') : At F r' A K' h' H' :=
  ⟨a.ext.trans e, a.anew, a.fk, a.base⟩
/-- A call's own doings, after those before it. -/
theorem At.call {F : Fr} {r r' : Ren} {A A' K K' : Nat → Prop} {h h' : AH} {H H' : Array Obj} (a : At F r A K h H) (b : At ⟨r, A, K, h, H⟩ r' A' K' h' H') : At F r' A' K' h' H' := by
  refine ⟨a.ext.trans b.ext, fun x hx => ?_, a.fk, a.base⟩
  rcases b.anew x hx with h1 | h1 | ⟨id, o, h1, h2⟩
  · exact a.anew x h1
  · exact .inr (.inl (Nat.le_trans a.ext.size h1))
  · by_cases hlt : x < F.H.size
    · have h3 : r.blk id = x := h2
      obtain ⟨id', o', g1, g2⟩ := a.ext.own id o h1 (by rw [h3]; exact hlt)
      exact .inr (.inr ⟨id', o', g1, g2.trans h3⟩)
    · exact .inr (.inl (Nat.le_of_not_lt hlt))

/-- What a function's run comes to. -/
def FnOk (P : Program) (f : FuncId) (args : List AV) (h : AH) (Q : AV → AH → Prop) : Prop :=
  ∀ (r : Ren) (A K : Nat → Prop) (w : World) (vargs : Array Value), Rel P r A K h w.heap → h.base = 0 → ioW w = r.io → VS w.heap r K A args vargs.toList →
    Calls P f vargs w fun e w' => ∃ v' v h' r' A' K', e = .returned v' ∧ Q v h' ∧ Rel P r' A' K' h' w'.heap ∧ V w'.heap r' K' A' v v' ∧ At ⟨r, A, K, h, w.heap⟩ r' A' K' h' w'.heap ∧ h'.base = 0 ∧ ioW w' = r'.io
theorem FnOk.mono {P : Program} {f : FuncId} {args : List AV} {h : AH} {Q Q' : AV → AH → Prop} (hf : FnOk P f args h Q) (hq : ∀ v h', Q v h' → Q' v h') : FnOk P f args h Q' :=
  fun r A K w vargs R hb hw hv => (hf r A K w vargs R hb hw hv).mono fun e w' ⟨v', v, h', r', A', K', h1, h2, h3⟩ => ⟨v', v, h', r', A', K', h1, hq _ _ h2, h3⟩

section
variable {P : Program} {nt : Nat} {F : Fr}

/-- What holds at an exit. -/
def Ends (P : Program) (nt : Nat) (F : Fr) (Q : AEx → Env → AH → Prop) : Exit → Act → World → Prop :=
  fun e a w => ∃ x E h r A K, e = exitOf x ∧ Q x E h ∧ StR P A K nt r (tmE E) h a w ∧ At F r A K h w.heap ∧ h.base = 0
/-- Behind a text, begun in a state, Q holds. -/
def AW (P : Program) (nt : Nat) (F : Fr) (c : Code) (Q : AEx → Env → AH → Prop) (E : Env) (h : AH) : Prop :=
  ∀ r A K a w, StR P A K nt r (tmE E) h a w → At F r A K h w.heap → h.base = 0 → c.wp P (Ends P nt F Q) a w
/-- The same of the rest of a region's operations. -/
def AWL (P : Program) (nt : Nat) (F : Fr) (ops : List Oper) (l : List Oper) (Q : AEx → Env → AH → Prop) (E : Env) (h : AH) : Prop :=
  ∀ r A K a w, StR P A K nt r (tmE E) h a w → At F r A K h w.heap → h.base = 0 → wpList P ops.toArray (Ends P nt F Q) l a w

theorem Ends.mono {Q Q' : AEx → Env → AH → Prop} (hq : ∀ x E h, Q x E h → Q' x E h) {e : Exit} {a : Act} {w : World} (he : Ends P nt F Q e a w) : Ends P nt F Q' e a w := by
  obtain ⟨x, E, h, r, A, K, h1, h2, h3⟩ := he
  exact ⟨x, E, h, r, A, K, h1, hq _ _ _ h2, h3⟩
theorem AW.mono {c : Code} {Q Q' : AEx → Env → AH → Prop} {E : Env} {h : AH} (hc : AW P nt F c Q E h) (hq : ∀ x E h, Q x E h → Q' x E h) : AW P nt F c Q' E h :=
  fun r A K a w S T hb => Code.wp_mono (fun e a w he => he.mono hq) (hc r A K a w S T hb)

/-- What comes behind the normal exit; the others stay. -/
def thenQ (c : Env → AH → Prop) (Q : AEx → Env → AH → Prop) : AEx → Env → AH → Prop
  | .normal, E, h => c E h
  | x, E, h => Q x E h
def blockQ (id : Nat) (Q : AEx → Env → AH → Prop) : AEx → Env → AH → Prop
  | .exit i, E, h => if i = id then Q .normal E h else Q (.exit i) E h
  | x, E, h => Q x E h

theorem AW.skip {Q : AEx → Env → AH → Prop} {E : Env} {h : AH} (hq : Q .normal E h) : AW P nt F .skip Q E h :=
  fun r A K a w S T hb => wp_skip ⟨.normal, E, h, r, A, K, rfl, hq, S, T, hb⟩
theorem AW.exit {id : Nat} {Q : AEx → Env → AH → Prop} {E : Env} {h : AH} (hq : Q (.exit id) E h) : AW P nt F (.exit id) Q E h :=
  fun r A K a w S T hb => wp_exit ⟨.exit id, E, h, r, A, K, rfl, hq, S, T, hb⟩
theorem AW.label {id : Nat} {Q : AEx → Env → AH → Prop} {E : Env} {h : AH} (hq : Q .normal E h) : AW P nt F (.label id) Q E h :=
  fun r A K a w S T hb => wp_label ⟨.normal, E, h, r, A, K, rfl, hq, S, T, hb⟩
theorem AW.ret {Q : AEx → Env → AH → Prop} {E : Env} {h : AH} (hq : Q .ret E h) : AW P nt F .ret Q E h :=
  fun r A K a w S T hb => wp_ret ⟨.ret, E, h, r, A, K, rfl, hq, S, T, hb⟩
theorem AW.seq {x y : Code} {Q : AEx → Env → AH → Prop} {E : Env} {h : AH} (hc : AW P nt F x (thenQ (fun E h => AW P nt F y Q E h) Q) E h) : AW P nt F (.seq x y) Q E h :=
  fun r A K a w S T hb => wp_seq (Code.wp_mono (fun e a w he => by
    obtain ⟨x, E, h, r, A, K, h1, h2, h3, h4, h5⟩ := he
    subst h1
    cases x with
    | normal => exact h2 r A K a w h3 h4 h5
    | exit i => exact ⟨.exit i, E, h, r, A, K, rfl, h2, h3, h4, h5⟩
    | ret => exact ⟨.ret, E, h, r, A, K, rfl, h2, h3, h4, h5⟩) (hc r A K a w S T hb))
theorem AW.block {id : Nat} {c : Code} {Q : AEx → Env → AH → Prop} {E : Env} {h : AH} (hc : AW P nt F c (blockQ id Q) E h) : AW P nt F (.block id c) Q E h :=
  fun r A K a w S T hb => wp_block (Code.wp_mono (fun e a w he => by
    obtain ⟨x, E, h, r, A, K, h1, h2, h3, h4, h5⟩ := he
    subst h1
    cases x with
    | normal => exact ⟨.normal, E, h, r, A, K, rfl, h2, h3, h4, h5⟩
    | exit i =>
      show (if i = id then Ends P nt F Q .normal a w else Ends P nt F Q (.exit i) a w)
      have h2' : if i = id then Q .normal E h else Q (.exit i) E h := h2
      by_cases e : i = id
      · rw [if_pos e] at h2' ⊢
        exact ⟨.normal, E, h, r, A, K, rfl, h2', h3, h4, h5⟩
      · rw [if_neg e] at h2' ⊢
        exact ⟨.exit i, E, h, r, A, K, rfl, h2', h3, h4, h5⟩
    | ret => exact ⟨.ret, E, h, r, A, K, rfl, h2, h3, h4, h5⟩) (hc r A K a w S T hb))
theorem AW.scope {c : Code} {Q : AEx → Env → AH → Prop} {E : Env} {h : AH} (hc : AW P nt F c Q E h) : AW P nt F (.scope c) Q E h :=
  fun r A K a w S T hb => wp_scope_straight (Code.wp_mono (fun e a w he => by
    obtain ⟨x, E, h, r, A, K, h1, h2⟩ := he
    subst h1
    cases x <;> exact ⟨_, E, h, r, A, K, rfl, h2⟩) (hc r A K a w S T hb))
theorem AW.loop {c : Code} {Q : AEx → Env → AH → Prop} {E : Env} {h : AH} (J : Nat → Env → AH → Prop) (n : Nat) (h0 : J n E h)
    (round : ∀ n E h, J n E h → AW P nt F c (thenQ (fun E h => ∃ m, m < n ∧ J m E h) Q) E h) : AW P nt F (.loop c) Q E h :=
  fun r A K a w S T hb => by
    refine wp_loop_n (fun n a w => ∃ m E h r A K, m < n ∧ J m E h ∧ StR P A K nt r (tmE E) h a w ∧ At F r A K h w.heap ∧ h.base = 0) (fun a w ⟨m, _, _, _, _, _, hm, _⟩ => by omega) (fun k a w ⟨m, E, h, r, A, K, hm, hJ, S, T, hb⟩ => ?_) (n := n + 1) ⟨n, E, h, r, A, K, by omega, h0, S, T, hb⟩
    refine Code.wp_mono (fun e a w he => ?_) (round m E h hJ r A K a w S T hb)
    obtain ⟨x, E, h, r, A, K, h1, h2, h3, h4, h5⟩ := he
    subst h1
    cases x with
    | normal =>
      obtain ⟨m', hm', hJ'⟩ := h2
      exact ⟨m', E, h, r, A, K, by omega, hJ', h3, h4, h5⟩
    | exit i => exact ⟨.exit i, E, h, r, A, K, rfl, h2, h3, h4, h5⟩
    | ret => exact ⟨.ret, E, h, r, A, K, rfl, h2, h3, h4, h5⟩

/-- An operand's value. -/
def opE (E : Env) : Operand → Option AV
  | .tmp t => getL E t
  | .const v => ofZero v
  | .global _ => none
  | .func f => some (.func (.func f) [] [])
theorem opE_eq (E : Env) (x : Operand) : operand (tmE E) x = opE E x := by
  cases x with
  | tmp t => exact tmE_get E t
  | _ => rfl
def opsE (E : Env) (l : List Operand) : Option (List AV) :=
  List.rec (some []) (fun x _ ih => match opE E x with
    | none => none
    | some a => match ih with
      | none => none
      | some as => some (a :: as)) l
theorem opsE_eq (E : Env) : ∀ l, operands (tmE E) l = opsE E l
  | [] => rfl
  | x :: l => by
    rw [operands_cons, opE_eq, opsE_eq E l]
    rfl

theorem AW.cond {c : Operand} {x y : Code} {Q : AEx → Env → AH → Prop} {E : Env} {h : AH} {b : Bool} (hc : opE E c = some (.bool b)) (hx : b = true → AW P nt F x Q E h) (hy : b = false → AW P nt F y Q E h) : AW P nt F (.cond c x y) Q E h :=
  fun r A K a w S T hb => by
    have hv := operand_V S.tms ((opE_eq E c).trans hc)
    generalize hae : a.eval c = vv at hv
    cases hv with
    | bool t => exact wp_cond_split hae (fun e => hx e r A K a w S T hb) (fun e => hy e r A K a w S T hb)

theorem AW.region {id : Nat} {ops : List Oper} {Q : AEx → Env → AH → Prop} {E : Env} {h : AH} (hc : AWL P nt F ops ops Q E h) : AW P nt F (.region id ops.toArray false) Q E h :=
  fun r A K a w S T hb => wp_region_lit (hc r A K a w S T hb)
theorem AWL.nil {ops : List Oper} {Q : AEx → Env → AH → Prop} {E : Env} {h : AH} (hq : Q .normal E h) : AWL P nt F ops [] Q E h :=
  fun r A K a w S T hb => wpList_nil ⟨.normal, E, h, r, A, K, rfl, hq, S, T, hb⟩

/-- The state behind an operation. -/
def putE (E : Env) (d : Option Tmp) (v : AV) : Env :=
  match d with
  | some d => (d, v) :: E
  | none => E
def dstB (nt : Nat) (d : Option Tmp) : Bool :=
  match d with
  | some d => Nat.blt d nt
  | none => true
theorem StR.puts {A K : Nat → Prop} {r : Ren} {E : Env} {h : AH} {a : Act} {w : World} (S : StR P A K nt r (tmE E) h a w) {d : Option Tmp} (hd : dstB nt d = true) {h' : AH} {r' : Ren} {K' : Nat → Prop} {w' : World} {v : AV} {v' : Value}
    (hio : ioW w' = ioW w) (R' : Rel P r' A K' h' w'.heap) (E' : Ext r A K h w.heap r' A K' h' w'.heap) (hv : V w'.heap r' K' A v v') : StR P A K' nt r' (tmE (putE E d v)) h' (a.put d v') w' := by
  cases d with
  | none => exact S.keep hio R' E' v'
  | some d => exact S.put (by simpa [dstB] using hd) hio R' E' hv

/-- Whether an operation is wanted: by what stands where its guard looks. -/
def guardE (ops : List Oper) (E : Env) (g : Option (Nat × Bool)) : Option Bool :=
  match g with
  | none => some true
  | some (j, want) => match ops[j]? with
    | some p => match p.dst with
      | some d => match getL E d with
        | some (.bool b) => some (b == want)
        | some _ => some false
        | none => none
      | none => none
    | none => none
theorem guardE_ok {A K : Nat → Prop} {r : Ren} {ops : List Oper} {E : Env} {h : AH} {a : Act} {w : World} (S : StR P A K nt r (tmE E) h a w) {o : Oper} {b : Bool} (hg : guardE ops E o.guard = some b) : Region.wanted o (yielded ops.toArray a.tmps) = b := by
  obtain ⟨dst, op, type, pos, after, guard⟩ := o
  cases guard with
  | none => cases hg; rfl
  | some g =>
    obtain ⟨j, want⟩ := g
    have : guardA ops.toArray (tmE E) j want = some b := by
      unfold guardA
      unfold guardE at hg
      simp only [List.getElem?_toArray]
      cases hp : ops[j]? with
      | none => simp [hp] at hg
      | some p =>
        simp only [hp] at hg ⊢
        cases hd : p.dst with
        | none => simp [hd] at hg
        | some d =>
          simp only [hd] at hg ⊢
          rw [tmE_get]
          cases hx : getL E d with
          | none => simp [hx] at hg
          | some x =>
            simp only [hx] at hg ⊢
            cases x with
            | bool q => cases q <;> cases want <;> simp_all
            | _ => simpa using hg
    exact guardA_ok S this

/-- No Go function is known. -/
def call0 : CallA := fun _ _ _ => none
theorem call0_ok (P : Program) (A : Nat → Prop) : CallOk P A call0 := fun f args h outs he => by cases he
/-- An operation that is no call of a Go function: for each of its outcomes. -/
theorem AWL.op {ops : List Oper} {o : Oper} {l : List Oper} {Q : AEx → Env → AH → Prop} {E : Env} {h : AH} {outs : List (AV × AH)} (hg : guardE ops E o.guard = some true) (hs : (opC P call0 o.op).run (tmE E) h = some outs) (hd : dstB nt o.dst = true)
    (k : ∀ v h', (v, h') ∈ outs → AWL P nt F ops l Q (putE E o.dst v) h' ∧ h'.base = 0) : AWL P nt F ops (o :: l) Q E h :=
  fun r A K a w S T hb => by
    show (if Region.wanted o (yielded ops.toArray a.tmps) then _ else _)
    rw [if_pos (guardE_ok S hg)]
    refine .inl (opC_ok (call0_ok P A) w S.io S.rel S.tms o hs _ _ (fun v' w' hio h3 => ?_))
    obtain ⟨v, h', r', K', hm, R', E', hv⟩ := h3
    obtain ⟨k1, k2⟩ := k v h' hm
    exact k1 r' A K' _ w' (S.puts hd hio R' E' hv) (T.step (P := P) E') k2
/-- An operation with one outcome. -/
theorem AWL.do {ops : List Oper} {o : Oper} {l : List Oper} {Q : AEx → Env → AH → Prop} {E : Env} {L L' : Hp} {n n' : Nat} {v : AV} (hg : guardE ops E o.guard = some true) (hd : dstB nt o.dst = true) (hs : (opC P call0 o.op).run (tmE E) (hE L n) = some [(v, hE L' n')])
    (k : AWL P nt F ops l Q (putE E o.dst v) (hE L' n')) : AWL P nt F ops (o :: l) Q E (hE L n) :=
  AWL.op hg hs hd (fun u h' hm => by
    obtain ⟨rfl, rfl⟩ : u = v ∧ h' = hE L' n' := by simpa using hm
    exact ⟨k, rfl⟩)
/-- An operation that is not wanted. -/
theorem AWL.no {ops : List Oper} {o : Oper} {l : List Oper} {Q : AEx → Env → AH → Prop} {E : Env} {h : AH} (hg : guardE ops E o.guard = some false) (hd : dstB nt o.dst = true)
    (k : AWL P nt F ops l Q (putE E o.dst .undef) h) : AWL P nt F ops (o :: l) Q E h :=
  fun r A K a w S T hb => by
    show (if Region.wanted o (yielded ops.toArray a.tmps) then _ else _)
    rw [if_neg (by rw [guardE_ok S hg]; simp)]
    exact k r A K _ w (S.puts hd rfl S.rel (Ext.refl _ _ _ _ _) .undef) T hb
end
end
end Go.Proofs.YtmeianaaiiiinaaGreat.Ev
