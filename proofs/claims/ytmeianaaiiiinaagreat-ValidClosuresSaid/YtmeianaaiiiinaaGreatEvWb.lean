/- The logic, continued: values without numbers, weaker states, calls, whole functions. -/
import Derived.Test.YtmeianaaiiiinaaGreatEvWa
namespace Go.Proofs.YtmeianaaiiiinaaGreat.Ev
open Go
set_option linter.unusedVariables false
set_option linter.unusedSimpArgs false
set_option linter.all false
noncomputable section

/-- All numbers in a value are below n. -/
inductive Low (n : Nat) : AV → Prop where
  | bool (b : Bool) : Low n (.bool b)
  | int (k : IntKind) (i : Int) : Low n (.int k i)
  | str (s : ByteArray) : Low n (.str s)
  | nilPtr : Low n .nilPtr
  | nilSlice : Low n .nilSlice
  | nilMap : Low n .nilMap
  | nilFunc : Low n .nilFunc
  | nilIface : Low n .nilIface
  | agg (cs : List AV) (h : ∀ a ∈ cs, Low n a) : Low n (.agg cs)
  | tuple (cs : List AV) (h : ∀ a ∈ cs, Low n a) : Low n (.tuple cs)
  | ptr (id off : Nat) (h : id < n) : Low n (.ptr id off)
  | rptr (cells : List AV) (off : Nat) (h : ∀ a ∈ cells, Low n a) : Low n (.rptr cells off)
  | slice (id off len : Nat) (cap : Cap) (h : id < n) : Low n (.slice id off len cap)
  | view (m : Nat) (cells : List AV) (ex : Bool) (h : ∀ a ∈ cells, Low n a) : Low n (.view m cells ex)
  | map (id : Nat) (h : id < n) : Low n (.map id)
  | func (fn : Fn) (f c : List AV) (h1 : ∀ a ∈ f, Low n a) (h2 : ∀ a ∈ c, Low n a) : Low n (.func fn f c)
  | iface (t : TypeId) (a : AV) (h : Low n a) : Low n (.iface t a)
theorem Low.mono {n m : Nat} (hnm : n ≤ m) {v : AV} (h : Low n v) : Low m v := by
  induction h with
  | agg cs _ ih => exact .agg cs ih
  | tuple cs _ ih => exact .tuple cs ih
  | ptr id off h => exact .ptr id off (by omega)
  | rptr cells off _ ih => exact .rptr cells off ih
  | slice id off len cap h => exact .slice id off len cap (by omega)
  | view m cells ex _ ih => exact .view m cells ex ih
  | map id h => exact .map id (by omega)
  | func fn f c _ _ ih1 ih2 => exact .func fn f c ih1 ih2
  | iface t a _ ih => exact .iface t a ih
  | _ => constructor
theorem mem_at {α : Type} {l : List α} {i : Nat} {a : α} (h : l[i]? = some a) : a ∈ l := List.mem_of_getElem? h

/-- A value keeps its meaning where the numbers that it names keep theirs. -/
theorem V.low {n : Nat} {H : Array Obj} {r r' : Ren} {A K K' : Nat → Prop} (hk : ∀ id, K id → id < n → K' id ∧ r'.blk id = r.blk id ∧ r'.cap id = r.cap id) {v : AV} {x : Value} (h : V H r K A v x) : Low n v → V H r' K' A v x := by
  induction h with
  | bool b => exact fun _ => .bool b
  | int k n => exact fun _ => .int k n
  | str s => exact fun _ => .str s
  | nilPtr => exact fun _ => .nilPtr
  | nilSlice => exact fun _ => .nilSlice
  | nilMap => exact fun _ => .nilMap
  | nilFunc => exact fun _ => .nilFunc
  | nilIface => exact fun _ => .nilIface
  | agg cs vs hl _ ih => intro hlow; cases hlow with | agg _ h => exact .agg cs vs hl (fun i a v ha hv => ih i a v ha hv (h a (mem_at ha)))
  | tuple cs vs hl _ ih => intro hlow; cases hlow with | tuple _ h => exact .tuple cs vs hl (fun i a v ha hv => ih i a v ha hv (h a (mem_at ha)))
  | ptr id off hi =>
    intro hlow
    cases hlow with
    | ptr _ _ h =>
      have := hk id hi h
      rw [← this.2.1]
      exact .ptr id off this.1
  | rptr cells off b o ha hc _ ih => intro hlow; cases hlow with | rptr _ _ h => exact .rptr cells off b o ha hc (fun i a v h1 h2 => ih i a v h1 h2 (h a (mem_at h1)))
  | slice id off len cap hi hc =>
    intro hlow
    cases hlow with
    | slice _ _ _ _ h =>
      have := hk id hi h
      rw [← this.2.1, ← capOf_ext this.2.2]
      exact .slice id off len cap this.1 (by rw [capOf_ext this.2.2]; exact hc)
  | view0 cells ex a cap hx => exact fun _ => .view0 cells ex a cap hx
  | view n cells ex b o cap hn hx ha hc _ ih => intro hlow; cases hlow with | view _ _ _ h => exact .view n cells ex b o cap hn hx ha hc (fun i a v h1 h2 => ih i a v h1 h2 (h a (mem_at h1)))
  | map id hi =>
    intro hlow
    cases hlow with
    | map _ h =>
      have := hk id hi h
      rw [← this.2.1]
      exact .map id this.1
  | func fn f c vf vc hf hc _ _ ih1 ih2 => intro hlow; cases hlow with | func _ _ _ h1 h2 => exact .func fn f c vf vc hf hc (fun i a v ha hv => ih1 i a v ha hv (h1 a (mem_at ha))) (fun i a v ha hv => ih2 i a v ha hv (h2 a (mem_at ha)))
  | iface t a v _ ih => intro hlow; cases hlow with | iface _ _ h => exact .iface t a v (ih h)
theorem V.pure {H : Array Obj} {r r' : Ren} {A K K' : Nat → Prop} {v : AV} {x : Value} (h : V H r K A v x) (hl : Low 0 v) : V H r' K' A v x :=
  h.low (fun id _ h => by omega) hl

inductive LowO (n : Nat) : AObj → Prop where
  | row (e : TypeId) (cells : List AV) (op : Bool) (h : ∀ a ∈ cells, Low n a) : LowO n (.row e cells op)
  | mp (es : List (AV × AV × Nat)) (c : Nat) (h : ∀ e ∈ es, Low n e.1 ∧ Low n e.2.1) : LowO n (.mp es c)
  | miter (m : Option Nat) (since : Nat) (seen : List Nat) (k : Nat) (h : ∀ id, m = some id → id < n) : LowO n (.miter m since seen k)
theorem LowO.mono {n m : Nat} (hnm : n ≤ m) {o : AObj} (h : LowO n o) : LowO m o := by
  cases h with
  | row e cells op h => exact .row e cells op (fun a ha => (h a ha).mono hnm)
  | mp es c h => exact .mp es c (fun e he => ⟨(h e he).1.mono hnm, (h e he).2.mono hnm⟩)
  | miter m since seen k h => exact .miter m since seen k (fun id e => Nat.lt_of_lt_of_le (h id e) hnm)
theorem O.low {P : Program} {n id : Nat} {H : Array Obj} {r r' : Ren} {A K K' : Nat → Prop} (hid : K id ∧ id < n) (hk : ∀ id, K id → id < n → K' id ∧ r'.blk id = r.blk id ∧ r'.cap id = r.cap id) {o : AObj} {x : Obj} (h : O P H r K A id o x) (hl : LowO n o) : O P H r' K' A id o x := by
  cases h with
  | row e cells op cs h1 hc ho h =>
    cases hl with
    | row _ _ _ hl => exact .row e cells op cs h1 hc (fun e => by rw [(hk id hid.1 hid.2).2.2]; exact ho e) (fun i a v ha hv => (h i a v ha hv).low hk (hl a (mem_at ha)))
  | mp es c ms h1 h =>
    cases hl with
    | mp _ _ hl => exact .mp es c ms h1 (fun i e m he hm => ⟨(h i e m he hm).1.low hk (hl e (mem_at he)).1, (h i e m he hm).2.1.low hk (hl e (mem_at he)).2, (h i e m he hm).2.2⟩)
  | miter m since seen k hi =>
    cases hl with
    | miter _ _ _ _ hl =>
      have : m.map r'.blk = m.map r.blk := by
        cases m with
        | none => rfl
        | some i => simp [(hk i (hi i rfl) (hl i rfl)).2.1]
      rw [← this]
      exact .miter m since seen k (fun i e => (hk i (hi i e) (hl i e)).1)

/-! ### Weaker states -/
/-- A state that knows less: fewer temporaries, fewer objects, and the numbers from its next one on mean nothing. -/
structure Weak (n0 : Nat) (E : Env) (h : AH) (E2 : Env) (h2 : AH) : Prop where
  env : ∀ d v, getL E2 d = some v → getL E d = some v ∧ Low h2.next v
  obj : ∀ id o, h2.get id = some o → h.get id = some o ∧ id < h2.next ∧ LowO h2.next o
  lo : n0 ≤ h2.next
  hi : h2.next ≤ h.next
  base : h2.base = h.base
  dirty : h2.dirty = h.dirty
section
variable {P : Program} {nt : Nat} {F : Fr}
theorem Weak.state {E E2 : Env} {h h2 : AH} (W : Weak F.h.next E h E2 h2) {r : Ren} {A K : Nat → Prop} {a : Act} {w : World} (S : StR P A K nt r (tmE E) h a w) (T : At F r A K h w.heap) :
    ∃ K2, StR P A K2 nt r (tmE E2) h2 a w ∧ At F r A K2 h2 w.heap := by
  have hk : ∀ id, K id → id < h2.next → (K id ∧ id < h2.next) ∧ r.blk id = r.blk id ∧ r.cap id = r.cap id := fun id h1 h2 => ⟨⟨h1, h2⟩, rfl, rfl⟩
  refine ⟨fun id => K id ∧ id < h2.next, ⟨⟨fun id o ho => ?_, fun id o ho => ?_, fun id id' o o' ho ho' e => ?_, S.rel.old, fun id hi => hi.2⟩, fun t v ht => ?_, S.size, S.defers, S.io⟩, ⟨⟨W.lo, fun id hi => ⟨T.ext.kk id hi, Nat.lt_of_lt_of_le (T.fk id hi) W.lo⟩, fun id hi => T.ext.knew id hi.1, T.ext.ren, T.ext.size, T.ext.sub, T.ext.keep, fun id o ho => ?_, ?_, ?_, fun id h1 h2 => ?_, fun id o ho => ?_, T.ext.io⟩, T.anew, T.fk, T.base⟩⟩
  · obtain ⟨h1, h2, h3⟩ := W.obj id o ho
    have := S.rel.lt id o h1
    exact ⟨⟨this.1, h2⟩, this.2⟩
  · obtain ⟨h1, h2, h3⟩ := W.obj id o ho
    obtain ⟨x, h4, h5⟩ := S.rel.ob id o h1
    exact ⟨x, h4, h5.low ⟨(S.rel.lt id o h1).1, h2⟩ hk h3⟩
  · exact S.rel.inj id id' o o' (W.obj id o ho).1 (W.obj id' o' ho').1 e
  · rw [tmE_get] at ht
    obtain ⟨h1, h2⟩ := W.env t v ht
    obtain ⟨x, h3, h4⟩ := S.tms t v (by rw [tmE_get]; exact h1)
    exact ⟨x, h3, h4.low hk h2⟩
  · exact T.ext.own id o (W.obj id o ho).1
  · exact W.base.trans T.ext.base
  · intro id hi
    rw [W.dirty]
    exact T.ext.mono id hi
  · rw [T.base] at h2; omega
  · exact T.ext.back id o (W.obj id o ho).1
theorem AW.weak {E h} (E2 : Env) (h2 : AH) {c : Code} {Q : AEx → Env → AH → Prop} (W : Weak F.h.next E h E2 h2) (hc : AW P nt F c Q E2 h2) : AW P nt F c Q E h :=
  fun r A K a w S T hb => by
    obtain ⟨K2, S2, T2⟩ := W.state S T
    exact hc r A K2 a w S2 T2 (W.base.trans hb)
theorem AWL.weak {E h} (E2 : Env) (h2 : AH) {ops l : List Oper} {Q : AEx → Env → AH → Prop} (W : Weak F.h.next E h E2 h2) (hc : AWL P nt F ops l Q E2 h2) : AWL P nt F ops l Q E h :=
  fun r A K a w S T hb => by
    obtain ⟨K2, S2, T2⟩ := W.state S T
    exact hc r A K2 a w S2 T2 (W.base.trans hb)

/-! ### Calls -/
theorem StR.puts' {A A' K : Nat → Prop} {r : Ren} {E : Env} {h : AH} {a : Act} {w : World} (S : StR P A K nt r (tmE E) h a w) {d : Option Tmp} (hd : dstB nt d = true) {h' : AH} {r' : Ren} {K' : Nat → Prop} {w' : World} {v : AV} {v' : Value}
    (hio : ioW w' = r'.io) (R' : Rel P r' A' K' h' w'.heap) (E' : Ext r A K h w.heap r' A' K' h' w'.heap) (hv : V w'.heap r' K' A' v v') : StR P A' K' nt r' (tmE (putE E d v)) h' (a.put d v') w' := by
  have ht := S.tms.through E' S.rel
  cases d with
  | none => exact ⟨R', ht, S.size, S.defers, hio⟩
  | some d => exact ⟨R', ht.put (by rw [S.size]; simpa [dstB] using hd) hv, by simp [Act.put, S.size], S.defers, hio⟩
theorem AWL.call {ops : List Oper} {dst : Option Tmp} {f : Operand} {args : Array Operand} {ats : Array TypeId} {ty : TypeId} {pos : String} {after : Array Edge} {guard : Option (Nat × Bool)} {l : List Oper} {Q : AEx → Env → AH → Prop} {E : Env} {h : AH}
    {g : FuncId} {first captured vs : List AV} {Qc : AV → AH → Prop} (hg : guardE ops E guard = some true) (hf : opE E f = some (.func (.func g) first captured)) (hen : enterB P g = true) (ha : opsE E args.toList = some vs)
    (hd : dstB nt dst = true) (hc : FnOk P g (first ++ vs ++ captured) h Qc) (k : ∀ v h', Qc v h' → AWL P nt F ops l Q (putE E dst v) h') : AWL P nt F ops (⟨dst, .call ⟨.value f, args, ats⟩, ty, pos, after, guard⟩ :: l) Q E h :=
  fun r A K a w S T hb => by
    show (if Region.wanted _ (yielded ops.toArray a.tmps) then _ else _)
    rw [if_pos (guardE_ok S hg)]
    refine .inl ?_
    have hv := operands_VS S.tms ((opsE_eq E _).trans ha)
    have hfv := operand_V S.tms ((opE_eq E f).trans hf)
    unfold Oper.wp
    generalize hfe : a.eval f = vf at hfv
    cases hfv with
    | func _ _ _ v1 v2 l1 l2 e1 e2 =>
      have hfirst : VS w.heap r K A first v1.toList := ⟨by simpa using l1, fun i x y hx hy => e1 i x y hx (by simpa using hy)⟩
      have hcapt : VS w.heap r K A captured v2.toList := ⟨by simpa using l2, fun i x y hx hy => e2 i x y hx (by simpa using hy)⟩
      have hall : VS w.heap r K A (first ++ vs ++ captured) (v1 ++ args.map a.eval ++ v2).toList := by
        simp only [Array.toList_append, map_toList]
        exact (hfirst.append hv).append hcapt
      have hrun : (execOp a.eval ⟨dst, .call ⟨.value f, args, ats⟩, ty, pos, after, guard⟩).run P w = .ok (.enter g (v1 ++ args.map a.eval ++ v2)) w := by
        unfold enterB at hen
        split at hen
        · rename_i fn' hfn
          simp only [Bool.and_eq_true, Bool.not_eq_true'] at hen
          have hb : ¬ fn'.body = none := fun hbo => by simp [hbo] at hen
          have hnm : ¬ fn'.name = "runtime.NumGoroutine" := fun e => by simp [e] at hen
          simp [execOp, resolve, hfe, Deferred.ofValue, invoke, callFunc, hfn, hnm, hb]
        · cases hen
      rw [hrun]
      show Calls P g _ w _
      refine (hc r A K w _ S.rel hb S.io hall).mono ?_
      rintro e w' ⟨v', v, h', r', A', K', rfl, hq, hR, hV, hT, hb', hio⟩
      exact k v h' hq r' A' K' _ w' (S.puts' hd hio hR hT.ext hV) (T.call hT) hb'

/-! ### Whole functions -/
def argsE : List AV → Nat → Env
  | [], _ => []
  | v :: l, i => (i, v) :: argsE l (i + 1)
theorem argsE_get (t : Nat) : ∀ (l : List AV) (i : Nat), getL (argsE l i) t = if i ≤ t ∧ t < i + l.length then l[t - i]? else none
  | [], i => by
    rw [if_neg (by simp)]; rfl
  | v :: l, i => by
    show getL ((i, v) :: argsE l (i + 1)) t = _
    rw [getL_cons, beq_tf, argsE_get t l (i + 1)]
    by_cases h : i = t
    · subst h
      simp
    · by_cases h2 : i + 1 ≤ t ∧ t < i + 1 + l.length
      · rw [if_pos h2, if_pos (by simp; omega)]
        have e : t - i = (t - (i + 1)) + 1 := by omega
        rw [e, List.getElem?_cons_succ]
        simp [h]
      · rw [if_neg h2, if_neg (by simp; omega)]
        simp [h]
def resE (P : Program) (E : Env) (h : AH) : ResultVar → Option AV
  | .tmp t => getL E t
  | .cell a t => match getL E a with
    | some a => loadA P h t a
    | none => none
def resultsE (P : Program) (E : Env) (h : AH) : List ResultVar → Option (List AV)
  | [] => some []
  | r :: l => match resE P E h r with
    | none => none
    | some a => match resultsE P E h l with
      | none => none
      | some as => some (a :: as)
theorem resultsE_eq (P : Program) (E : Env) (h : AH) : ∀ l, resultsA P h (tmE E) l = resultsE P E h l
  | [] => rfl
  | r :: l => by
    have e : resultA P h (tmE E) r = resE P E h r := by
      cases r with
      | tmp t => exact tmE_get E t
      | cell a t => simp only [resultA, resE, tmE_get]; rfl
    show (match resultA P h (tmE E) r with
      | none => none
      | some a => match resultsA P h (tmE E) l with
        | none => none
        | some as => some (a :: as)) = _
    rw [e, resultsE_eq P E h l]
    rfl
/-- What a function's text must leave. -/
def retQ (P : Program) (fn : Func) (Q : AV → AH → Prop) : AEx → Env → AH → Prop := fun x E h =>
  match x with
  | .exit _ => False
  | _ => ∃ vs, resultsE P E h fn.results.toList = some vs ∧ Q (packA vs) h
theorem FnOk.of_AW {f : FuncId} {fn : Func} {c : Code} {args : List AV} {h : AH} {Q : AV → AH → Prop} (hf : P.funcs[f]? = some fn) (hb : fn.body = some c) (hl : args.length ≤ fn.ntmps)
    (haw : ∀ F : Fr, F.h = h → AW P fn.ntmps F c (retQ P fn Q) (argsE args 0) h) : FnOk P f args h Q := by
  intro r A K w vargs R h0 hw hv
  have hsz : vargs.size = args.length := by have := hv.1; simp at this; omega
  have S : StR P A K fn.ntmps r (tmE (argsE args 0)) h { tmps := vargs ++ Array.replicate (fn.ntmps - vargs.size) undef, defers := [] } w := by
    refine ⟨R, fun t v ht => ?_, by simp; omega, rfl, hw⟩
    rw [tmE_get, argsE_get] at ht
    simp only [Nat.zero_le, Nat.zero_add, true_and, Nat.sub_zero] at ht
    by_cases hlt : t < args.length
    · rw [if_pos hlt] at ht
      have hx : vargs[t]? = some (vargs[t]'(by omega)) := Array.getElem?_eq_getElem (by omega)
      refine ⟨vargs[t]'(by omega), ?_, hv.2 t v _ ht (by simpa using hx)⟩
      rw [Array.getElem?_append_left (by omega)]
      exact hx
    · rw [if_neg hlt] at ht; cases ht
  refine calls_of_wp hf hb (Code.wp_mono (fun e a w' he => ?_) (haw ⟨r, A, K, h, w.heap⟩ rfl r A K _ w S (At.refl R h0) h0))
  obtain ⟨x, E', h', r', A', K', h1, h2, S', T', hb'⟩ := he
  subst h1
  have fin : (∃ vs, resultsE P E' h' fn.results.toList = some vs ∧ Q (packA vs) h') → a.defers = [] ∧ ∃ v, (results fn a.tmps).run P w' = .ok v w' ∧ ∃ v' u h2 r2 A2 K2, Ending.returned v = .returned v' ∧ Q u h2 ∧ Rel P r2 A2 K2 h2 w'.heap ∧ V w'.heap r2 K2 A2 u v' ∧ At ⟨r, A, K, h, w.heap⟩ r2 A2 K2 h2 w'.heap ∧ h2.base = 0 ∧ ioW w' = r2.io := by
    rintro ⟨vs, g1, g2⟩
    obtain ⟨u, g3, g4⟩ := results_ok S' ((resultsE_eq P E' h' _).trans g1)
    exact ⟨S'.defers, u, g3, u, packA vs, h', r', A', K', rfl, g2, S'.rel, g4, T', hb', S'.io⟩
  cases x with
  | normal => exact fin h2
  | ret => exact fin h2
  | exit i => exact h2.elim

/-- A function of values without numbers, to such a value. -/
def PureOk (P : Program) (f : FuncId) (args : List AV) (Q : AV → Prop) : Prop := FnOk P f args (hE [] 0) (fun v _ => Q v ∧ Low 0 v)
theorem PureOk.fn {f : FuncId} {args : List AV} {Q : AV → Prop} (hp : PureOk P f args Q) (hl : ∀ a ∈ args, Low 0 a) (h : AH) : FnOk P f args h (fun v h' => h' = h ∧ Q v ∧ Low 0 v) := by
  intro r A K w vargs R hb hw hv
  have R0 : Rel P r A (fun _ => False) (hE [] 0) w.heap := ⟨fun id o ho => (by rw [hE_get] at ho; cases ho), fun id o ho => (by rw [hE_get] at ho; cases ho), fun id _ o _ ho => (by rw [hE_get] at ho; cases ho), R.old, fun id hi => hi.elim⟩
  refine (hp r A (fun _ => False) w vargs R0 rfl hw ⟨hv.1, fun i a v ha hv' => (hv.2 i a v ha hv').pure (hl a (mem_at ha))⟩).mono ?_
  rintro e w' ⟨v', v, h', r', A', K', rfl, ⟨hq, hlow⟩, hR, hV, hT, hb', hio⟩
  have keep : ∀ b, b < w.heap.size → w'.heap[b]? = w.heap[b]? := fun b hlt => hT.ext.keep b hlt (fun id o ho => by rw [hE_get] at ho; cases ho)
  have sub : ∀ b, A b → A' b := hT.ext.sub
  have anew : ∀ b, A' b → A b ∨ w.heap.size ≤ b := fun b hb => by
    rcases hT.anew b hb with h1 | h1 | ⟨id, o, h1, _⟩
    · exact .inl h1
    · exact .inr h1
    · rw [hE_get] at h1; cases h1
  have hA : ∀ b, A b → w'.heap[b]? = w.heap[b]? := fun b hb => keep b (R.old b hb)
  have E : Ext r A K h w.heap r A' K h w'.heap := ⟨Nat.le_refl _, fun _ h => h, fun _ h => .inl h, fun _ _ => ⟨rfl, rfl⟩, hT.ext.size, sub, fun b hlt _ => keep b hlt, fun id o ho _ => ⟨id, o, ho, rfl⟩, rfl, fun _ h => h, fun id hk _ _ => ⟨rfl, fun o ho => keep _ (R.lt id o ho).2.1⟩, fun id o ho => .inl ⟨o, ho⟩, rfl⟩
  refine ⟨v', v, h, r, A', K, rfl, ⟨rfl, hq, hlow⟩, ⟨fun id o ho => ?_, fun id o ho => ?_, R.inj, fun b hb => hR.old b hb, R.kn⟩, hV.pure hlow, ⟨E, fun b hb => ?_, R.kn, hb⟩, hb, hio.trans hT.ext.io⟩
  · obtain ⟨h1, h2, h3⟩ := R.lt id o ho
    refine ⟨h1, Nat.lt_of_lt_of_le h2 hT.ext.size, fun ha => ?_⟩
    rcases anew _ ha with h4 | h4
    · exact h3 h4
    · omega
  · obtain ⟨x, h1, h2⟩ := R.ob id o ho
    exact ⟨x, by rw [keep _ (R.lt id o ho).2.1]; exact h1, h2.ext (R.lt id o ho).1 (fun _ h => h) (fun _ _ => ⟨rfl, rfl⟩) sub hA⟩
  · rcases anew b hb with h1 | h1
    · exact .inl h1
    · exact .inr (.inl h1)
end
/-! ### Weaker states, listed -/
def Pick (n : Nat) (E : Env) : Env → Prop
  | [] => True
  | p :: E2 => (getL E p.1 = some p.2 ∧ Low n p.2) ∧ Pick n E E2
def PickO (n : Nat) (L : Hp) : Hp → Prop
  | [] => True
  | p :: L2 => (∀ o, p.2 = some o → getO L p.1 = some o ∧ p.1 < n ∧ LowO n o) ∧ PickO n L L2
theorem getL_mem {α : Type} {d : Nat} {v : α} : ∀ {l : List (Nat × α)}, getL l d = some v → (d, v) ∈ l
  | [], h => by cases h
  | p :: l, h => by
    rw [getL_cons] at h
    cases hb : Nat.beq p.1 d with
    | true =>
      rw [hb] at h
      obtain ⟨p1, p2⟩ := p
      have e : p1 = d := Nat.eq_of_beq_eq_true hb
      have : p2 = v := by simpa using h
      subst e; subst this
      exact List.mem_cons_self
    | false =>
      rw [hb] at h
      exact List.mem_cons_of_mem _ (getL_mem h)
theorem Pick.mem {n : Nat} {E : Env} : ∀ {E2 : Env}, Pick n E E2 → ∀ p ∈ E2, getL E p.1 = some p.2 ∧ Low n p.2
  | _ :: _, h, _, hp => by
    rcases List.mem_cons.1 hp with rfl | hp
    · exact h.1
    · exact Pick.mem h.2 _ hp
theorem PickO.mem {n : Nat} {L : Hp} : ∀ {L2 : Hp}, PickO n L L2 → ∀ p ∈ L2, ∀ o, p.2 = some o → getO L p.1 = some o ∧ p.1 < n ∧ LowO n o
  | _ :: _, h, _, hp => by
    rcases List.mem_cons.1 hp with rfl | hp
    · exact h.1
    · exact PickO.mem h.2 _ hp
theorem Weak.of {n0 n n2 : Nat} {E E2 : Env} {L L2 : Hp} (h1 : Pick n2 E E2) (h2 : PickO n2 L L2) (h3 : n0 ≤ n2) (h4 : n2 ≤ n) : Weak n0 E (hE L n) E2 (hE L2 n2) := by
  refine ⟨fun d v hv => h1.mem _ (getL_mem hv), fun id o ho => ?_, h3, h4, rfl, rfl⟩
  rw [hE_get] at ho ⊢
  unfold getO at ho
  cases hl : getL L2 id with
  | none => rw [hl] at ho; cases ho
  | some x =>
    rw [hl] at ho
    have hx : x = some o := by simpa using ho
    exact h2.mem _ (getL_mem hl) o hx
section
variable {P : Program} {nt : Nat} {F : Fr}
theorem again {J : Nat → Env → AH → Prop} {n n0 : Nat} {E : Env} {h : AH} (m : Nat) (E2 : Env) (h2 : AH) (h1 : m < n) (hw : Weak n0 E h E2 h2) (hj : J m E2 h2) : ∃ m E2 h2, m < n ∧ Weak n0 E h E2 h2 ∧ J m E2 h2 := ⟨m, E2, h2, h1, hw, hj⟩
/-- A loop over states that are made weaker at its head. -/
theorem AW.loopW {c : Code} {Q : AEx → Env → AH → Prop} {E : Env} {h : AH} (J : Nat → Env → AH → Prop) (n : Nat) (E0 : Env) (h0 : AH) (hw : Weak F.h.next E h E0 h0) (hj : J n E0 h0)
    (round : ∀ n E h, J n E h → AW P nt F c (thenQ (fun E h => ∃ m E2 h2, m < n ∧ Weak F.h.next E h E2 h2 ∧ J m E2 h2) Q) E h) : AW P nt F (.loop c) Q E h := by
  refine AW.weak E0 h0 hw ?_
  intro r A K a w S T hb
  refine wp_loop_n (fun n a w => ∃ m E h r A K, m < n ∧ J m E h ∧ StR P A K nt r (tmE E) h a w ∧ At F r A K h w.heap ∧ h.base = 0) (fun a w ⟨m, _, _, _, _, _, hm, _⟩ => by omega) (fun k a w ⟨m, E, h, r, A, K, hm, hJ, S, T, hb⟩ => ?_) (n := n + 1) ⟨n, E0, h0, r, A, K, by omega, hj, S, T, hb⟩
  refine Code.wp_mono (fun e a w he => ?_) (round m E h hJ r A K a w S T hb)
  obtain ⟨x, E, h, r, A, K, h1, h2, h3, h4, h5⟩ := he
  subst h1
  cases x with
  | normal =>
    obtain ⟨m', E2, h2', hm', hw', hJ'⟩ := h2
    obtain ⟨K2, S2, T2⟩ := hw'.state h3 h4
    exact ⟨m', E2, h2', r, A, K2, by omega, hJ', S2, T2, hw'.base.trans h5⟩
  | exit i => exact ⟨.exit i, E, h, r, A, K, rfl, h2, h3, h4, h5⟩
  | ret => exact ⟨.ret, E, h, r, A, K, rfl, h2, h3, h4, h5⟩
end
end
end Go.Proofs.YtmeianaaiiiinaaGreat.Ev
