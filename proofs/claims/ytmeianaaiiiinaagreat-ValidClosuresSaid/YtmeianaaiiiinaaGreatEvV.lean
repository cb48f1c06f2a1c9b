/- Regions that draw their order: what holds between the operations, in any order. -/
import Derived.Test.YtmeianaaiiiinaaGreatEvU
namespace Go.Proofs.YtmeianaaiiiinaaGreat.Ev
open Go
set_option linter.unusedVariables false
set_option linter.unusedSimpArgs false
set_option linter.all false

/-- Some of the temporaries. -/
noncomputable def pickT (tm : TM) : List Tmp → TM → TM
  | [], t => t
  | x :: l, t => pickT tm l (t.put x (tm.get x))
/-- The numbers below a bound. -/
def lim (K : Nat → Prop) (c : Nat) : Nat → Prop := fun id => K id ∧ id < c

/-- What holds when some of the operations are done. -/
structure Dinv (P : Program) (nt : Nat) (ops : Array Oper) (ms : List Nat) (h0 : AH) (tm0 : TM) (D : Nat → Pt) (W : Nat → Vl) (r0 : Ren) (A K0 : Nat → Prop) (H0 : Array Obj) (X : Nat → Prop) (r : Ren) (K : Nat → Prop) (a : Act) (w : World) : Prop where
  size : a.tmps.size = nt
  defers : a.defers = []
  kLt : ∀ id, K id → K0 id ∨ ∃ m, m < ops.size ∧ X m ∧ (D m).c ≤ id ∧ id < (W m).R.next
  k0 : ∀ id, K0 id → K id
  ren : ∀ id, K0 id → r.blk id = r0.blk id ∧ r.cap id = r0.cap id
  hsize : H0.size ≤ w.heap.size
  tms : ∀ t p v, valN ops tm0 h0 W X t ops.size = (p, some v) → ∃ x, a.tmps[t]? = some x ∧ V w.heap r (lim K p) A v x
  obs : ∀ id p o, objN h0 D W X id ops.size = (p, some o) → K id ∧ id < p ∧ r.blk id < w.heap.size ∧ ¬ A (r.blk id) ∧ ∃ x, w.heap[r.blk id]? = some x ∧ O P w.heap r (lim K p) A id o x
  inj : ∀ id id' o o', (objN h0 D W X id ops.size).2 = some o → (objN h0 D W X id' ops.size).2 = some o' → r.blk id = r.blk id' → id = id'
  keep : ∀ b, b < H0.size → (∀ id o, h0.get id = some o → r0.blk id ≠ b) → w.heap[b]? = H0[b]?
  own : ∀ id o, (objN h0 D W X id ops.size).2 = some o → r.blk id < H0.size → ∃ id' o', h0.get id' = some o' ∧ r0.blk id' = r.blk id
  same : ∀ id o, h0.get id = some o → (∀ k, k < ops.size → X k → tch D W k id = false) → w.heap[r0.blk id]? = H0[r0.blk id]?
  left : ∀ m, m < ops.size → X m → Left D W m
  sn : ∀ j, j < ops.size → X j → ∀ id x, (W j).S.get id = some x → (∃ o, h0.get id = some o) ∨ ∃ m, preB ms j m = true ∧ (D m).c ≤ id ∧ id < (W m).R.next
  rio : r.io = r0.io
  io : ioW w = r.io

section
variable {P : Program} {call : CallA} {nt : Nat} {ops : Array Oper} {ms : List Nat} {h0 : AH} {tm0 : TM} {D : Nat → Pt} {W : Nat → Vl} {r0 r : Ren} {A K0 K : Nat → Prop} {H0 : Array Obj} {X : Nat → Prop} {a : Act} {w : World}

theorem inv_start (R : Run P call nt ops ms h0 tm0 D W) (S : StR P A K0 nt r0 tm0 h0 a w) : Dinv P nt ops ms h0 tm0 D W r0 A K0 w.heap (fun _ => False) r0 K0 a w := by
  have ho : ∀ id, objN h0 D W (fun _ => False) id ops.size = (h0.next, h0.get id) := fun id => objN_none _ (fun k _ h => h.elim)
  have hv : ∀ t, valN ops tm0 h0 W (fun _ => False) t ops.size = (h0.next, tm0.get t) := fun t => valN_more _ (Nat.zero_le _) (fun k _ _ h => h.elim)
  refine ⟨S.size, S.defers, fun id h => .inl h, fun id h => h, fun id h => ⟨rfl, rfl⟩, Nat.le_refl _, fun t p v h => ?_, fun id p o h => ?_, fun id id' o o' h h' e => ?_, fun b _ _ => rfl, fun id o h hb => ?_, fun id o h _ => rfl, fun m _ h => h.elim, fun j _ h => h.elim, rfl, S.io⟩
  · rw [hv] at h
    obtain ⟨e, h'⟩ := Prod.mk.inj h
    subst e
    obtain ⟨x, h1, h2⟩ := S.tms t v h'
    exact ⟨x, h1, h2.ext (fun id hid => ⟨hid, S.rel.kn id hid⟩) (fun _ _ => ⟨rfl, rfl⟩) (fun _ h => h) (fun _ _ => rfl)⟩
  · rw [ho] at h
    obtain ⟨e, h'⟩ := Prod.mk.inj h
    subst e
    obtain ⟨h1, h2, h3⟩ := S.rel.lt id o h'
    obtain ⟨x, h4, h5⟩ := S.rel.ob id o h'
    exact ⟨h1, S.rel.kn id h1, h2, h3, x, h4, h5.ext h1 (fun id hid => ⟨hid, S.rel.kn id hid⟩) (fun _ _ => ⟨rfl, rfl⟩) (fun _ h => h) (fun _ _ => rfl)⟩
  · rw [ho] at h h'
    exact S.rel.inj id id' o o' h h' e
  · rw [ho] at h
    exact ⟨id, o, h, rfl⟩

/-- Two operations of which none comes before the other. -/
theorem free_cmp (R : Run P call nt ops ms h0 tm0 D W) (hc : Closed ms X) {i k : Nat} (hk : k < ops.size) (hni : ¬ X i) (hx : X k) (hp : preB ms i k = false) : cmpB ms i k = false ∧ cmpB ms k i = false ∧ i ≠ k := by
  have h1 : preB ms k i = false := by
    cases h : preB ms k i with
    | false => rfl
    | true => exact absurd (hc k hx i h) hni
  refine ⟨by unfold cmpB; rw [hp, h1]; rfl, by unfold cmpB; rw [hp, h1]; rfl, fun e => hni (e ▸ hx)⟩

section
variable (R : Run P call nt ops ms h0 tm0 D W) (I : Dinv P nt ops ms h0 tm0 D W r0 A K0 H0 X r K a w) (hc : Closed ms X) {i : Nat} (hi : i < ops.size) (hni : ¬ X i) (hpre : ∀ k, preB ms i k = true → X k)
include R I hc hi hni hpre

theorem pre_size {k : Nat} (h : preB ms i k = true) : k < i := by
  obtain ⟨o, ho⟩ := op_at hi
  exact R.st.lt i o ho k h
/-- An object that the operation is given comes from the start, or was made by one that comes before it. -/
theorem sn_at {id : Nat} {x : AObj} (hx : (W i).S.get id = some x) : (∃ o, h0.get id = some o) ∨ ∃ m, preB ms i m = true ∧ (D m).c ≤ id ∧ id < (W m).R.next := by
  obtain ⟨o, ho⟩ := op_at hi
  have hg := R.given hi (fun m hm => I.left m (by have := pre_size R I hc hi hni hpre hm; omega) (hpre m hm)) hx
  rcases objN_cases (D := D) (W := W) (X := fun k => preB ms i k = true) (id := id) i with h | ⟨m, h1, h2, h3, h4⟩
  · rw [objN_none _ h] at hg
    exact .inl ⟨x, hg⟩
  · rcases (tch_iff m id).1 h3 with h5 | ⟨_, h5⟩
    · exact .inr ⟨m, h2, h5⟩
    · cases hS : (W m).S.get id with
      | none => rw [hS] at h5; cases h5
      | some y =>
        rcases I.sn m (by omega) (hpre m h2) id y hS with h6 | ⟨m', h6, h7⟩
        · exact .inl h6
        · exact .inr ⟨m', R.st.trans i o ho m m' h2 h6, h7⟩
/-- What is done and does not come before the operation has not touched what it is given. -/
theorem given_free (hK0 : ∀ id o, h0.get id = some o → id < h0.next) {id : Nat} {x : AObj} (hx : (W i).S.get id = some x) {k : Nat} (hk : k < ops.size) (hxk : X k) (hp : preB ms i k = false) : tch D W k id = false := by
  obtain ⟨h1, h2, h3⟩ := free_cmp R hc hk hni hxk hp
  cases ht : tch D W k id with
  | false => rfl
  | true =>
    rcases (tch_iff k id).1 ht with h4 | ⟨h4, h5⟩
    · rcases sn_at R I hc hi hni hpre hx with ⟨o, h6⟩ | ⟨m, h6, h7⟩
      · have h8 := hK0 id o h6
        have := R.c0 (k := k) (by omega)
        omega
      · have hm := pre_size R I hc hi hni hpre h6
        have : m = k := R.apart (by omega) hk h7.1 h7.2 h4.1 h4.2
        rw [this, hp] at h6
        cases h6
    · have := R.dyn' hk hi (fun e => h3 e.symm) h2 h4 h5
      rw [hx] at this; cases this
/-- What the operation is given is what stands there now. -/
theorem given_now (hK0 : ∀ id o, h0.get id = some o → id < h0.next) {id : Nat} {x : AObj} (hx : (W i).S.get id = some x) : ∃ p, objN h0 D W X id ops.size = (p, some x) ∧ p ≤ (D i).c := by
  have hg := R.given hi (fun m hm => I.left m (by have := pre_size R I hc hi hni hpre hm; omega) (hpre m hm)) hx
  have e : objN h0 D W X id ops.size = objN h0 D W (fun k => preB ms i k = true) id i := by
    rw [objN_more ops.size (i := i) (by omega) (fun k h1 h2 h3 => given_free R I hc hi hni hpre hK0 hx h2 h3 (by
      cases h : preB ms i k with
      | false => rfl
      | true => have := pre_size R I hc hi hni hpre h; omega))]
    refine objN_congr i (fun k hk ht => ⟨fun h => ?_, hpre k⟩)
    cases hp : preB ms i k with
    | true => rfl
    | false =>
      rw [given_free R I hc hi hni hpre hK0 hx (by omega) h hp] at ht
      cases ht
  refine ⟨(objN h0 D W (fun k => preB ms i k = true) id i).1, ?_, R.objN_le i (by omega)⟩
  rw [e, ← hg]
/-- The heap that the operation is given stands for a part of the memory. -/
theorem rel_given (hK0 : ∀ id, K0 id → id < h0.next) (h0K : ∀ id o, h0.get id = some o → K0 id) (hA : ∀ b, A b → b < H0.size) : Rel P r A (lim K (D i).c) (W i).S w.heap := by
  have hk : ∀ id o, h0.get id = some o → id < h0.next := fun id o h => hK0 id (h0K id o h)
  obtain ⟨o, ho⟩ := op_at hi
  refine ⟨fun id x hx => ?_, fun id x hx => ?_, fun id id' x x' hx hx' e => ?_, fun b hb => Nat.lt_of_lt_of_le (hA b hb) I.hsize, fun id h => ?_⟩
  · obtain ⟨p, h1, h2⟩ := given_now R I hc hi hni hpre hk hx
    obtain ⟨h3, h4, h5, h6, _⟩ := I.obs id p x h1
    exact ⟨⟨h3, by omega⟩, h5, h6⟩
  · obtain ⟨p, h1, h2⟩ := given_now R I hc hi hni hpre hk hx
    obtain ⟨h3, h4, h5, h6, y, h7, h8⟩ := I.obs id p x h1
    exact ⟨y, h7, h8.ext ⟨h3, h4⟩ (fun id h => ⟨h.1, by have := h.2; omega⟩) (fun _ _ => ⟨rfl, rfl⟩) (fun _ h => h) (fun _ _ => rfl)⟩
  · obtain ⟨p, h1, _⟩ := given_now R I hc hi hni hpre hk hx
    obtain ⟨p', h1', _⟩ := given_now R I hc hi hni hpre hk hx'
    exact I.inj id id' x x' (by rw [h1]) (by rw [h1']) e
  · rw [(R.step i o ho).snext]; exact h.2
/-- The temporaries that the operation looks at. -/
theorem tms_given {o : Oper} (ho : ops[i]? = some o) : TMR w.heap r (lim K (D i).c) A (pickT (D i).tm (o.looksAt ops) .nil) a.tmps := by
  have pick : ∀ (l : List Tmp) (t0 : TM) (t : Tmp), (pickT (D i).tm l t0).get t = if t ∈ l then (D i).tm.get t else t0.get t := by
    intro l
    induction l with
    | nil => intro t0 t; simp [pickT]
    | cons x l ih =>
      intro t0 t
      show (pickT (D i).tm l (t0.put x ((D i).tm.get x))).get t = _
      rw [ih, T.get_put]
      by_cases e : t = x
      · subst e; simp
      · simp [e]
  intro t v hv
  rw [pick] at hv
  by_cases hm : t ∈ o.looksAt ops
  · rw [if_pos hm, R.tm_at t i (by omega)] at hv
    -- a writer that is not before it is not there
    have no : ∀ k, k < ops.size → k ≠ i → (ops[k]?).bind (·.dst) = some t → cmpB ms k i = true := by
      intro k hk hne hd
      cases hcmp : cmpB ms k i with
      | true => rfl
      | false =>
        obtain ⟨p, hp⟩ := op_at hk
        rw [hp] at hd
        exact absurd hm (R.st.apart k i o p ho hp hne hcmp t hd).1
    have e : valN ops tm0 h0 W X t ops.size = valN ops tm0 h0 W (fun _ => True) t i := by
      rw [valN_more ops.size (i := i) (by omega) (fun k h1 h2 h3 h4 => ?_)]
      · refine valN_congr i (fun k hk hd => ⟨fun _ => trivial, fun _ => ?_⟩)
        have := no k (by omega) (by omega) hd
        unfold cmpB at this
        rw [Bool.or_eq_true] at this
        obtain ⟨p, hp⟩ := op_at (ops := ops) (j := k) (by omega)
        rcases this with h | h
        · have := R.st.lt k p hp i h; omega
        · exact hpre k h
      · have hne : k ≠ i := fun e => hni (e ▸ h3)
        have := no k h2 hne h4
        unfold cmpB at this
        rw [Bool.or_eq_true] at this
        rcases this with h | h
        · exact hni (hc k h3 i h)
        · have := pre_size R I hc hi hni hpre h; omega
    have hle := R.valN_le (X := fun _ => True) (t := t) i (by omega)
    obtain ⟨x, h1, h2⟩ := I.tms t (valN ops tm0 h0 W (fun _ => True) t i).1 v (by rw [e, ← hv])
    exact ⟨x, h1, h2.ext (fun id h => ⟨h.1, by have := h.2; omega⟩) (fun _ _ => ⟨rfl, rfl⟩) (fun _ h => h) (fun _ _ => rfl)⟩
  · rw [if_neg hm, T.get_nil] at hv; cases hv
end
end
end Go.Proofs.YtmeianaaiiiinaaGreat.Ev
