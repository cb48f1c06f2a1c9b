/- The logic, continued: regions that draw their order, where they only read. -/
import Derived.Test.YtmeianaaiiiinaaGreatEvWc
namespace Go.Proofs.YtmeianaaiiiinaaGreat.Ev
open Go
set_option linter.unusedVariables false
set_option linter.unusedSimpArgs false
set_option linter.all false
noncomputable section

/-- The part of a heap that an operation of such a region is given. -/
def subH (d : Dom) (h : AH) : AH :=
  match d with
  | .empty => ⟨.nil, h.next, h.next, []⟩
  | .one id => ⟨T.put .nil id (h.get id), h.next, h.next, []⟩
  | .all => ⟨h.objs, h.next, h.next, []⟩
theorem subH_one (id i : Nat) (h : AH) : (subH (.one id) h).get i = if i = id then h.get id else none := by
  show T.get (T.put .nil id (h.get id)) i = _
  rw [T.get_put, T.get_nil]
theorem subH_all (i : Nat) (h : AH) : (subH .all h).get i = h.get i := rfl
section
variable {P : Program} {call : CallA} {nt : Nat}
/-- An item of an operation that left memory as it was. -/
structure Inert (h : AH) (it : Item) : Prop where
  c : it.c = h.next
  next : it.R.next = h.next
  dirty : it.R.dirty = []
theorem Inert.touch {h : AH} {it : Item} (i : Inert h it) (id : Nat) : it.touch id = false := by
  unfold Item.touch
  rw [i.c, i.next, i.dirty]
  have : (Nat.ble h.next id && Nat.blt id h.next) = false := by
    cases h1 : Nat.ble h.next id with
    | false => rfl
    | true =>
      have h2 := Nat.le_of_ble_eq_true h1
      cases h3 : Nat.blt id h.next with
      | false => rfl
      | true =>
        have h4 : id < h.next := by simpa using h3
        omega
  rw [this]
  rfl
theorem objAt_inert {h : AH} {X : Nat → Bool} (id : Nat) : ∀ (items : List Item), (∀ it ∈ items, Inert h it) → objAt h X items id = h.get id
  | [], _ => rfl
  | it :: items, hi => by
    show (bif X it.j && it.touch id then it.R.get id else objAt h X items id) = _
    rw [(hi it List.mem_cons_self).touch, Bool.and_false]
    exact objAt_inert id items (fun x hx => hi x (List.mem_cons_of_mem _ hx))
theorem layAll_inert {β : Type} {h : AH} {X : Nat → Bool} : ∀ (items : List Item), (∀ it ∈ items, Inert h it) → ∀ (t : T AObj) (k : T AObj → β), layAllK X items t k = k t
  | [], _, t, k => rfl
  | it :: items, hi, t, k => by
    have i := hi it List.mem_cons_self
    show layAllK X items t (fun t => bif X it.j then layNewK it (it.R.next - it.c) t fun t => layOldK it it.R.dirty t k else k t) = _
    rw [layAll_inert items (fun x hx => hi x (List.mem_cons_of_mem _ hx)), i.c, i.next, i.dirty, Nat.sub_self]
    cases X it.j <;> rfl
theorem startK_inert {h : AH} {X : Nat → Bool} {items : List Item} (hi : ∀ it ∈ items, Inert h it) (d : Dom) : ∃ b, (∀ {β : Type} (k : Bool → AH → β), startK h h.objs X items h.next d k = k b (subH d h)) ∧ (b = true → (subH d h).objs = h.objs) := by
  cases d with
  | empty => exact ⟨false, fun k => rfl, fun h => by cases h⟩
  | one id =>
    refine ⟨false, fun k => ?_, fun h => by cases h⟩
    show T.putK (objAt h X items id) (pathOf id) .nil (fun t => k false ⟨t, h.next, h.next, []⟩) = _
    rw [objAt_inert id items hi, T.put_k]
    rfl
  | all =>
    refine ⟨allX X items, fun k => ?_, fun _ => rfl⟩
    show (bif allX X items then k true ⟨h.objs, h.next, h.next, []⟩ else layAllK X items h.objs fun t => k false ⟨t, h.next, h.next, []⟩) = _
    cases allX X items with
    | true => rfl
    | false =>
      rw [cond_false, layAll_inert items hi]
      rfl
/-- A way through such a region's operations, in the order of the text. -/
def ChainD (P : Program) (call : CallA) (nt : Nat) (ops : List Oper) (h : AH) : List Oper → Env → Env → Prop
  | [], E, E' => E' = E
  | o :: l, E, E' => dstB nt o.dst = true ∧
      ((guardE ops E o.guard = some true ∧ ∃ v, (opC P call o.op).run (tmE E) (subH ((domOf o.op).run (tmE E)) h) = some [(v, subH ((domOf o.op).run (tmE E)) h)] ∧ ChainD P call nt ops h l (putE E o.dst v) E') ∨
       (guardE ops E o.guard = some false ∧ ChainD P call nt ops h l (putE E o.dst .undef) E'))
theorem guardE_A {ops : List Oper} {E : Env} {j : Nat} {want b : Bool} (hg : guardE ops E (some (j, want)) = some b) : guardA ops.toArray (tmE E) j want = some b := by
  unfold guardA
  unfold guardE at hg
  simp only [List.getElem?_toArray]
  cases hp : ops[j]? with
  | none => simp [hp] at hg
  | some p =>
    simp only [hp] at hg ⊢
    cases hd : p.dst with
    | none => simp [hd] at hg
    | some d =>
      simp only [hd] at hg ⊢
      rw [tmE_get]
      cases hx : getL E d with
      | none => simp [hx] at hg
      | some x =>
        simp only [hx] at hg ⊢
        cases x with
        | bool q => cases q <;> cases want <;> simp_all
        | _ => simpa using hg
theorem putD_e {β : Type} {E : Env} {d : Option Tmp} {v : AV} (hd : dstB nt d = true) (c : TM → Option β) : putD nt (tmE E) d v c = c (tmE (putE E d v)) := by
  cases d with
  | none => rfl
  | some d =>
    have hd' : Nat.blt d nt = true := hd
    show (bif Nat.blt d nt then AV.force v fun v => (tmE E).putK (some v) (pathOf d) c else none) = _
    rw [hd', cond_true, AV.force_eq, T.put_k]
    rfl
theorem drawPut_inert {β : Type} {E : Env} {h : AH} {dst : Option Tmp} {j : Nat} {next : CloD β} {items : List Item} {k : TM → T AObj → List Item → Nat → Option β} {b : Bool} {v : AV} {S : AH} (hi : ∀ it ∈ items, Inert h it)
    (hd : dstB nt dst = true) (hn : S.next = h.next) (hdy : S.dirty = []) (hb : b = true → S.objs = h.objs) :
    ∃ items', (∀ it ∈ items', Inert h it) ∧ drawPut nt dst j next h (tmE E) h.objs items h.next k b v S S = next.run h (tmE (putE E dst v)) h.objs items' h.next k := by
  unfold drawPut
  rw [putD_e hd, forceN_eq]
  have hle : Nat.ble h.next S.next = true := by rw [hn]; exact Nat.ble_eq_true_of_le (Nat.le_refl _)
  rw [hle, cond_true, hn]
  have hit : Inert h ⟨j, h.next, S, S⟩ := ⟨rfl, hn, hdy⟩
  have hcur : ∀ (k : T AObj → Option β), curK ⟨j, h.next, S, S⟩ b h.objs k = k h.objs := fun k => by
    cases b with
    | true =>
      show k S.objs = _
      rw [hb rfl]
    | false =>
      show layNewK ⟨j, h.next, S, S⟩ (S.next - h.next) h.objs (fun t => layOldK ⟨j, h.next, S, S⟩ S.dirty t k) = _
      rw [hn, hdy, Nat.sub_self]
      rfl
  rw [hcur]
  refine ⟨_, ?_, rfl⟩
  unfold pushI
  have hcons : ∀ it ∈ (⟨j, h.next, S, S⟩ : Item) :: items, Inert h it := fun it hx => by
    rcases List.mem_cons.1 hx with rfl | hx
    · exact hit
    · exact hi it hx
  cases b with
  | true => exact hcons
  | false =>
    simp only
    split
    · cases Nat.beq S.next h.next with
      | true =>
        simp only [cond_true]
        split
        · exact hi
        · exact hcons
      | false => exact hcons
    · exact hcons
theorem drawGo_chain {β : Type} {ops : List Oper} {ms : List Nat} {h : AH} {k : TM → T AObj → List Item → Nat → Option β} {out : Option β} {E' : Env} : ∀ (l : List Oper) (j : Nat) (E : Env) (items : List Item), (∀ it ∈ items, Inert h it) → ChainD P call nt ops h l E E' →
    (∀ items', (∀ it ∈ items', Inert h it) → k (tmE E') h.objs items' h.next = out) → (drawGo P call nt ops.toArray ms l j).run h (tmE E) h.objs items h.next k = out
  | [], j, E, items, hi, hc, hk => by
    have hc' : E' = E := hc
    subst hc'
    exact hk items hi
  | o :: l, j, E, items, hi, ⟨hd, hc⟩, hk => by
    have e : (drawGo P call nt ops.toArray ms (o :: l) j : CloD β) = drawStep P call nt ops.toArray ms o j (drawGo P call nt ops.toArray ms l (Nat.succ j)) := by
      show drawStep P call nt ops.toArray ms o j (forceN (Nat.succ j) fun j' => drawGo P call nt ops.toArray ms l j') = _
      rw [forceN_eq]
    rw [e]
    obtain ⟨dst, op, type, pos, after, guard⟩ := o
    have run : ∀ v, (opC P call op).run (tmE E) (subH ((domOf op).run (tmE E)) h) = some [(v, subH ((domOf op).run (tmE E)) h)] → ChainD P call nt ops h l (putE E dst v) E' →
        drawRun (domOf op) (opC P call op) (preB ms j) h h.objs (tmE E) items h.next (drawPut nt dst j (drawGo P call nt ops.toArray ms l (Nat.succ j)) h (tmE E) h.objs items h.next k) = out := by
      intro v hv hc2
      unfold drawRun
      obtain ⟨b, h1, h2⟩ := startK_inert (X := preB ms j) hi ((domOf op).run (tmE E))
      rw [h1, hv]
      simp only
      rw [AH.force_eq]
      have hn : (subH ((domOf op).run (tmE E)) h).next = h.next := by cases (domOf op).run (tmE E) <;> rfl
      have hdy : (subH ((domOf op).run (tmE E)) h).dirty = [] := by cases (domOf op).run (tmE E) <;> rfl
      obtain ⟨items', h3, h4⟩ := drawPut_inert (E := E) (dst := dst) (j := j) (next := drawGo P call nt ops.toArray ms l (Nat.succ j)) (k := k) (v := v) hi hd hn hdy h2
      rw [h4]
      exact drawGo_chain l _ _ items' h3 hc2 hk
    rcases hc with ⟨hg, v, hv, hc2⟩ | ⟨hg, hc2⟩
    · cases guard with
      | none => exact run v hv hc2
      | some g =>
        obtain ⟨gj, want⟩ := g
        have hg' := guardE_A hg
        show (match guardA ops.toArray (tmE E) gj want with
          | some true => _
          | some false => _
          | none => _) = _
        rw [hg']
        exact run v hv hc2
    · cases guard with
      | none => cases hg
      | some g =>
        obtain ⟨gj, want⟩ := g
        have hg' := guardE_A hg
        show (match guardA ops.toArray (tmE E) gj want with
          | some true => _
          | some false => drawPut nt dst j (drawGo P call nt ops.toArray ms l (Nat.succ j)) h (tmE E) h.objs items h.next k false .undef ⟨.nil, h.next, h.next, []⟩ ⟨.nil, h.next, h.next, []⟩
          | none => _) = _
        rw [hg']
        obtain ⟨items', h3, h4⟩ := drawPut_inert (E := E) (dst := dst) (j := j) (next := drawGo P call nt ops.toArray ms l (Nat.succ j)) (k := k) (v := .undef) (S := ⟨.nil, h.next, h.next, []⟩) (b := false) hi hd rfl rfl (fun e => by cases e)
        simp only
        rw [h4]
        exact drawGo_chain l _ _ items' h3 hc2 hk
theorem dynB_inert {h : AH} {ms : List Nat} {items : List Item} (hi : ∀ it ∈ items, Inert h it) : dynB ms items = true := by
  have : ∀ (l all : List Item), (∀ it ∈ l, Inert h it) → (List.rec true (fun a _ ih => bif (match a.R.dirty with
    | [] => true
    | _ => List.rec true (fun b _ ih => bif dynPair ms a b then ih else false) all) then ih else false) l : Bool) = true := by
    intro l all hl
    induction l with
    | nil => rfl
    | cons a l ih =>
      show (bif (match a.R.dirty with
        | [] => true
        | _ => _) then _ else false) = true
      rw [(hl a List.mem_cons_self).dirty]
      exact ih (fun x hx => hl x (List.mem_cons_of_mem _ hx))
  exact this items items hi
theorem markAll_inert {h : AH} {base : Nat} {d : List Nat} : ∀ (items : List Item), (∀ it ∈ items, Inert h it) → markAll base items d = d
  | [], _ => rfl
  | it :: items, hi => by
    show (List.rec (markAll base items d) (fun id _ ih => mark id base ih) it.R.dirty : List Nat) = d
    rw [(hi it List.mem_cons_self).dirty]
    exact markAll_inert items (fun x hx => hi x (List.mem_cons_of_mem _ hx))
theorem evDraw_chain {ops : List Oper} {h : AH} {E E' : Env} (hst : statB ops.toArray (masksOf ops.toArray) = true) (hc : ChainD P call nt ops h ops E E') : (evDraw P call nt ops.toArray).run (tmE E) h = some [(tmE E', h)] := by
  unfold evDraw
  rw [hst]
  simp only
  refine drawGo_chain ops 0 E [] (fun it hx => by cases hx) hc (fun items hi => ?_)
  rw [dynB_inert hi]
  simp only
  rw [AH.force_eq, markAll_inert items hi]
  rfl

variable {F : Fr}
/-- What is shown of the rest of such a region. -/
def DW (P : Program) (call : CallA) (nt : Nat) (ops : List Oper) (l : List Oper) (Q : Env → Prop) (E : Env) (h : AH) : Prop := ∃ E', ChainD P call nt ops h l E E' ∧ Q E'
theorem AW.draw {id : Nat} {ops : List Oper} {Q : AEx → Env → AH → Prop} {E : Env} {h : AH} (call : CallA) (hcall : ∀ A, CallOk P A call) (hm : P.follows .mixedOrders = true) (hst : statB ops.toArray (masksOf ops.toArray) = true)
    (hc : DW P call nt ops ops (fun E' => Q .normal E' h) E h) : AW P nt F (.region id ops.toArray true) Q E h := by
  obtain ⟨E', h1, h2⟩ := hc
  intro r A K a w S T hb
  refine evDraw_ok (hcall A) hm (evDraw_chain hst h1) S (fun s hs r' K' a' w' S' E2 => ?_)
  obtain rfl : s = (tmE E', h) := by simpa using hs
  exact ⟨.normal, E', h, r', A, K', rfl, h2, S', T.step (P := P) E2, hb⟩
theorem DW.nil {ops : List Oper} {Q : Env → Prop} {E : Env} {h : AH} (hq : Q E) : DW P call nt ops [] Q E h := ⟨E, rfl, hq⟩
theorem DW.do {ops : List Oper} {o : Oper} {l : List Oper} {Q : Env → Prop} {E : Env} {h : AH} {v : AV} (hg : guardE ops E o.guard = some true) (hd : dstB nt o.dst = true)
    (hs : (opC P call o.op).run (tmE E) (subH ((domOf o.op).run (tmE E)) h) = some [(v, subH ((domOf o.op).run (tmE E)) h)]) (k : DW P call nt ops l Q (putE E o.dst v) h) : DW P call nt ops (o :: l) Q E h := by
  obtain ⟨E', h1, h2⟩ := k
  exact ⟨E', ⟨hd, .inl ⟨hg, v, hs, h1⟩⟩, h2⟩
theorem DW.no {ops : List Oper} {o : Oper} {l : List Oper} {Q : Env → Prop} {E : Env} {h : AH} (hg : guardE ops E o.guard = some false) (hd : dstB nt o.dst = true)
    (k : DW P call nt ops l Q (putE E o.dst .undef) h) : DW P call nt ops (o :: l) Q E h := by
  obtain ⟨E', h1, h2⟩ := k
  exact ⟨E', ⟨hd, .inr ⟨hg, h1⟩⟩, h2⟩

theorem dom_load (t : TypeId) (a : Operand) (tm : TM) : (domOf (.load t a)).run tm = domOfV (operand tm a) := rfl
theorem dom_lookup (t : TypeId) (m k : Operand) (b : Bool) (tm : TM) : (domOf (.lookup t m k b)).run tm = domOfV (operand tm m) := rfl
theorem domV_ptr (id off : Nat) : domOfV (some (.ptr id off)) = .one id := rfl
theorem domV_map (id : Nat) : domOfV (some (.map id)) = .one id := rfl
theorem domV_rptr (cs : List AV) (off : Nat) : domOfV (some (.rptr cs off)) = .empty := rfl
theorem dom_call (f : Operand) (args : Array Operand) (ts : Array TypeId) (tm : TM) : (domOf (.call ⟨.value f, args, ts⟩)).run tm = .all := rfl
theorem run_call {E : Env} {h : AH} (f : Operand) (args : Array Operand) (ts : Array TypeId) : (opC P call (.call ⟨.value f, args, ts⟩)).run (tmE E) h = eS E args.toList fun vs => e1 E f fun f => callC P call h vs f := by
  show (match operands (tmE E) args.toList with
    | some vs => on1 (tmE E) f (callC P call h vs)
    | none => none) = _
  rw [opsE_eq]
  unfold eS
  cases opsE E args.toList with
  | none => rfl
  | some vs => exact on1_e _ _ _

/-- Values that lie nowhere. -/
inductive Scal : AV → Prop where
  | bool (b : Bool) : Scal (.bool b)
  | int (k : IntKind) (n : Int) : Scal (.int k n)
  | str (s : ByteArray) : Scal (.str s)
theorem Scal.v {v : AV} (hs : Scal v) {H H' : Array Obj} {r r' : Ren} {K K' A A' : Nat → Prop} {x : Value} (h : V H r K A v x) : V H' r' K' A' v x := by
  cases hs with
  | bool b => cases h; exact .bool b
  | int k n => cases h; exact .int k n
  | str s => cases h; exact .str s
/-- Calls of functions with a table of what they come to. -/
def callT (tab : FuncId → List AV → Option AV) : CallA := fun f args h => match tab f args with
  | some v => one (v, h)
  | none => none
theorem callT_ok {tab : FuncId → List AV → Option AV} (ht : ∀ f args v, tab f args = some v → PureOk P f args (fun u => u = v) ∧ (∀ a ∈ args, Low 0 a) ∧ Scal v) (A : Nat → Prop) : CallOk P A (callT tab) := by
  intro f args h outs he r K w vargs hw R hv
  unfold callT at he
  cases hs : tab f args with
  | none => rw [hs] at he; cases he
  | some v =>
    rw [hs] at he
    have := one_some he
    subst this
    obtain ⟨hp, hl, hsc⟩ := ht f args v hs
    have R0 : Rel P r A (fun _ => False) (hE [] 0) w.heap := ⟨fun id o ho => (by rw [hE_get] at ho; cases ho), fun id o ho => (by rw [hE_get] at ho; cases ho), fun id _ o _ ho => (by rw [hE_get] at ho; cases ho), R.old, fun id hi => hi.elim⟩
    refine (hp r A (fun _ => False) w vargs R0 rfl hw ⟨hv.1, fun i a v ha hv' => (hv.2 i a v ha hv').pure (hl a (mem_at ha))⟩).mono ?_
    rintro e w' ⟨v', u, h', r', A', K', rfl, ⟨rfl, hlow⟩, hR, hV, hT, hb', hio⟩
    have keep : ∀ b, b < w.heap.size → w'.heap[b]? = w.heap[b]? := fun b hlt => hT.ext.keep b hlt (fun id o ho => by rw [hE_get] at ho; cases ho)
    have hA : ∀ b, A b → w'.heap[b]? = w.heap[b]? := fun b hb => keep b (R.old b hb)
    refine ⟨v', rfl, hio.trans (hT.ext.io.trans hw.symm), u, h, r, K, List.mem_singleton.2 rfl, ⟨fun id o ho => ?_, fun id o ho => ?_, R.inj, fun b hb => Nat.lt_of_lt_of_le (R.old b hb) hT.ext.size, R.kn⟩, ⟨Nat.le_refl _, fun _ h => h, fun _ h => .inl h, fun _ _ => ⟨rfl, rfl⟩, hT.ext.size, fun _ h => h, fun b hlt _ => keep b hlt, fun id o ho _ => ⟨id, o, ho, rfl⟩, rfl, fun _ h => h, fun id hk _ _ => ⟨rfl, fun o ho => keep _ (R.lt id o ho).2.1⟩, fun id o ho => .inl ⟨o, ho⟩, rfl⟩, hsc.v hV⟩
    · obtain ⟨h1, h2, h3⟩ := R.lt id o ho
      exact ⟨h1, Nat.lt_of_lt_of_le h2 hT.ext.size, h3⟩
    · obtain ⟨x, h1, h2⟩ := R.ob id o ho
      exact ⟨x, by rw [keep _ (R.lt id o ho).2.1]; exact h1, h2.ext (R.lt id o ho).1 (fun _ h => h) (fun _ _ => ⟨rfl, rfl⟩) (fun _ h => h) hA⟩
end
end
end Go.Proofs.YtmeianaaiiiinaaGreat.Ev
