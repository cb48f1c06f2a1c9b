/- How the evaluator's values and heap stand for those of a run: relations, and how they last. -/
import Derived.Test.YtmeianaaiiiinaaGreatEvA
namespace Go.Proofs.YtmeianaaiiiinaaGreat.Ev
open Go
set_option linter.unusedVariables false
set_option linter.unusedSimpArgs false
set_option linter.all false

/-- Where the blocks of the run's own lie, and how many elements the open ones bear. -/
structure Ren where
  blk : Nat → Nat
  cap : Nat → Nat
  io : Os × Array (Nat × ByteArray)
/-- What lies outside the memory. -/
def ioW (w : World) : Os × Array (Nat × ByteArray) := (w.os, w.output)
def capOf (r : Ren) (id : Nat) : Cap → Nat
  | .known n => n
  | .rest k => r.cap id - k
/-- The cell at a place of a block. -/
def cellH (H : Array Obj) (b o : Nat) : Option Value :=
  match H[b]? with
  | some (.cells c _ _) => c[o]?
  | _ => none
theorem cell_eq (w : World) (b o : Nat) : w.cell? ⟨b, o, none⟩ = cellH w.heap b o := by
  unfold World.cell? cellH
  cases h : w.heap[b]? with
  | none => rfl
  | some ob => cases ob <;> simp

/-- An abstract value stands for a value, in a memory; A: the blocks that don't change any more. -/
inductive V (H : Array Obj) (r : Ren) (K : Nat → Prop) (A : Nat → Prop) : AV → Value → Prop where
  | bool (b : Bool) : V H r K A (.bool b) (.bool b)
  | int (k : IntKind) (n : Int) : V H r K A (.int k n) (.int k n)
  | str (s : ByteArray) : V H r K A (.str s) (.string s)
  | nilPtr : V H r K A .nilPtr (.pointer none)
  | nilSlice : V H r K A .nilSlice (.slice none 0 0)
  | nilMap : V H r K A .nilMap (.map none)
  | nilFunc : V H r K A .nilFunc .nilFunc
  | nilIface : V H r K A .nilIface .nilIface
  | agg (cs : List AV) (vs : Array Value) (hl : cs.length = vs.size) (h : ∀ (i : Nat) a v, cs[i]? = some a → vs[i]? = some v → V H r K A a v) : V H r K A (.agg cs) (.agg vs)
  | tuple (cs : List AV) (vs : Array Value) (hl : cs.length = vs.size) (h : ∀ (i : Nat) a v, cs[i]? = some a → vs[i]? = some v → V H r K A a v) : V H r K A (.tuple cs) (.tuple vs)
  | ptr (id off : Nat) (hi : K id) : V H r K A (.ptr id off) (.pointer (some ⟨r.blk id, off, none⟩))
  | rptr (cells : List AV) (off b o : Nat) (hA : A b) (hc : ∀ (i : Nat) a, cells[i]? = some a → ∃ v, cellH H b (o + i) = some v)
      (h : ∀ (i : Nat) a v, cells[i]? = some a → cellH H b (o + i) = some v → V H r K A a v) : V H r K A (.rptr cells off) (.pointer (some ⟨b, o + off, none⟩))
  | slice (id off len : Nat) (cap : Cap) (hi : K id) (hc : len ≤ capOf r id cap) : V H r K A (.slice id off len cap) (.slice (some ⟨r.blk id, off, none⟩) len (capOf r id cap))
  | view0 (cells : List AV) (ex : Bool) (a : Option Addr) (cap : Nat) (hx : ex = true → cap = 0) : V H r K A (.view 0 cells ex) (.slice a 0 cap)
  | view (n : Nat) (cells : List AV) (ex : Bool) (b o cap : Nat) (hn : n ≤ cap) (hx : ex = true → cap = n) (hA : A b) (hc : ∀ (i : Nat) a, cells[i]? = some a → ∃ v, cellH H b (o + i) = some v)
      (h : ∀ (i : Nat) a v, cells[i]? = some a → cellH H b (o + i) = some v → V H r K A a v) : V H r K A (.view n cells ex) (.slice (some ⟨b, o, none⟩) n cap)
  | map (id : Nat) (hi : K id) : V H r K A (.map id) (.map (some (r.blk id)))
  | func (fn : Fn) (f c : List AV) (vf vc : Array Value) (hf : f.length = vf.size) (hc : c.length = vc.size) (h1 : ∀ (i : Nat) a v, f[i]? = some a → vf[i]? = some v → V H r K A a v)
      (h2 : ∀ (i : Nat) a v, c[i]? = some a → vc[i]? = some v → V H r K A a v) : V H r K A (.func fn f c) (.func fn vf vc)
  | iface (t : TypeId) (a : AV) (v : Value) (h : V H r K A a v) : V H r K A (.iface t a) (.iface t v)

/-- The same for lists. -/
def VS (H : Array Obj) (r : Ren) (K : Nat → Prop) (A : Nat → Prop) (as : List AV) (vs : List Value) : Prop :=
  as.length = vs.length ∧ ∀ (i : Nat) a v, as[i]? = some a → vs[i]? = some v → V H r K A a v

/-- An abstract object stands for one. -/
inductive O (P : Program) (H : Array Obj) (r : Ren) (K : Nat → Prop) (A : Nat → Prop) (id : Nat) : AObj → Obj → Prop where
  | row (e : TypeId) (cells : List AV) (op : Bool) (cs : Array Value) (hl : cells.length ≤ cs.size) (hc : op = false → cs.size = cells.length)
      (ho : op = true → ∃ sz, szOf P e = some sz ∧ cs.size = r.cap id * sz) (h : ∀ (i : Nat) a v, cells[i]? = some a → cs[i]? = some v → V H r K A a v) : O P H r K A id (.row e cells op) (.cells cs e (0, 0))
  | mp (es : List (AV × AV × Nat)) (c : Nat) (ms : Array MapEntry) (hl : es.length = ms.size)
      (h : ∀ (i : Nat) e m, es[i]? = some e → ms[i]? = some m → V H r K A e.1 m.key ∧ V H r K A e.2.1 m.val ∧ e.2.2 = m.born) : O P H r K A id (.mp es c) (.map ms c)
  | miter (m : Option Nat) (since : Nat) (seen : List Nat) (k : Nat) (hi : ∀ id, m = some id → K id) : O P H r K A id (.miter m since seen k) (.mapIter (m.map r.blk) since seen.toArray k)

/-- The heap stands for a part of a memory; K: the numbers that mean something. -/
structure Rel (P : Program) (r : Ren) (A K : Nat → Prop) (h : AH) (H : Array Obj) : Prop where
  lt : ∀ id o, h.get id = some o → K id ∧ r.blk id < H.size ∧ ¬ A (r.blk id)
  ob : ∀ id o, h.get id = some o → ∃ x, H[r.blk id]? = some x ∧ O P H r K A id o x
  inj : ∀ id id' o o', h.get id = some o → h.get id' = some o' → r.blk id = r.blk id' → id = id'
  old : ∀ b, A b → b < H.size
  kn : ∀ id, K id → id < h.next

/-- What a piece of a run may do: blocks that are no one's stay as they are. -/
structure Ext (r : Ren) (A K : Nat → Prop) (h : AH) (H : Array Obj) (r' : Ren) (A' K' : Nat → Prop) (h' : AH) (H' : Array Obj) : Prop where
  next : h.next ≤ h'.next
  kk : ∀ id, K id → K' id
  knew : ∀ id, K' id → K id ∨ h.next ≤ id
  ren : ∀ id, K id → r'.blk id = r.blk id ∧ r'.cap id = r.cap id
  size : H.size ≤ H'.size
  sub : ∀ b, A b → A' b
  keep : ∀ b, b < H.size → (∀ id o, h.get id = some o → r.blk id ≠ b) → H'[b]? = H[b]?
  own : ∀ id o, h'.get id = some o → r'.blk id < H.size → ∃ id' o', h.get id' = some o' ∧ r.blk id' = r'.blk id
  base : h'.base = h.base
  mono : ∀ id, id ∈ h.dirty → id ∈ h'.dirty
  stay : ∀ id, K id → id < h.base → id ∉ h'.dirty → h'.get id = h.get id ∧ ∀ o, h.get id = some o → H'[r.blk id]? = H[r.blk id]?
  back : ∀ id o, h'.get id = some o → (∃ o', h.get id = some o') ∨ h.next ≤ id
  io : r'.io = r.io

theorem capOf_ext {r r' : Ren} {id : Nat} (h : r'.cap id = r.cap id) (c : Cap) : capOf r' id c = capOf r id c := by
  cases c <;> simp [capOf, h]

theorem V.ext {H H' : Array Obj} {r r' : Ren} {K K' : Nat → Prop} {A A' : Nat → Prop} (hn : ∀ id, K id → K' id) (hr : ∀ id, K id → r'.blk id = r.blk id ∧ r'.cap id = r.cap id)
    (hA : ∀ b, A b → A' b) (hH : ∀ b, A b → H'[b]? = H[b]?) {a : AV} {v : Value} (h : V H r K A a v) : V H' r' K' A' a v := by
  have hcell : ∀ b o, A b → cellH H' b o = cellH H b o := fun b o hb => by unfold cellH; rw [hH b hb]
  induction h with
  | bool b => exact .bool b
  | int k n => exact .int k n
  | str s => exact .str s
  | nilPtr => exact .nilPtr
  | nilSlice => exact .nilSlice
  | nilMap => exact .nilMap
  | nilFunc => exact .nilFunc
  | nilIface => exact .nilIface
  | agg cs vs hl _ ih => exact .agg cs vs hl ih
  | tuple cs vs hl _ ih => exact .tuple cs vs hl ih
  | ptr id off hi =>
    rw [← (hr id hi).1]
    exact .ptr id off (hn _ hi)
  | rptr cells off b o ha hc _ ih => exact .rptr cells off b o (hA b ha) (fun i a hi => by rw [hcell _ _ ha]; exact hc i a hi) (fun i a v hi hv => ih i a v hi (by rw [← hcell _ _ ha]; exact hv))
  | slice id off len cap hi hc =>
    rw [← (hr id hi).1, ← capOf_ext (hr id hi).2]
    exact .slice id off len cap (hn _ hi) (by rw [capOf_ext (hr id hi).2]; exact hc)
  | view0 cells ex a cap hx => exact .view0 cells ex a cap hx
  | view n cells ex b o cap hn hx ha hc _ ih => exact .view n cells ex b o cap hn hx (hA b ha) (fun i a hi => by rw [hcell _ _ ha]; exact hc i a hi) (fun i a v hi hv => ih i a v hi (by rw [← hcell _ _ ha]; exact hv))
  | map id hi =>
    rw [← (hr id hi).1]
    exact .map id (hn _ hi)
  | func fn f c vf vc hf hc _ _ ih1 ih2 => exact .func fn f c vf vc hf hc ih1 ih2
  | iface t a v _ ih => exact .iface t a v ih

theorem VS.ext {H H' : Array Obj} {r r' : Ren} {K K' : Nat → Prop} {A A' : Nat → Prop} (hn : ∀ id, K id → K' id) (hr : ∀ id, K id → r'.blk id = r.blk id ∧ r'.cap id = r.cap id)
    (hA : ∀ b, A b → A' b) (hH : ∀ b, A b → H'[b]? = H[b]?) {as : List AV} {vs : List Value} (h : VS H r K A as vs) : VS H' r' K' A' as vs :=
  ⟨h.1, fun i a v ha hv => (h.2 i a v ha hv).ext hn hr hA hH⟩

theorem O.ext {P : Program} {H H' : Array Obj} {r r' : Ren} {K K' : Nat → Prop} {A A' : Nat → Prop} {id : Nat} (hid : K id) (hn : ∀ id, K id → K' id) (hr : ∀ id, K id → r'.blk id = r.blk id ∧ r'.cap id = r.cap id)
    (hA : ∀ b, A b → A' b) (hH : ∀ b, A b → H'[b]? = H[b]?) {o : AObj} {x : Obj} (h : O P H r K A id o x) : O P H' r' K' A' id o x := by
  cases h with
  | row e cells op cs hl hc ho h => exact .row e cells op cs hl hc (fun e => by rw [(hr id hid).2]; exact ho e) (fun i a v ha hv => (h i a v ha hv).ext hn hr hA hH)
  | mp es c ms hl h => exact .mp es c ms hl (fun i e m he hm => ⟨((h i e m he hm).1).ext hn hr hA hH, ((h i e m he hm).2.1).ext hn hr hA hH, (h i e m he hm).2.2⟩)
  | miter m since seen k hi =>
    have : m.map r'.blk = m.map r.blk := by
      cases m with
      | none => rfl
      | some i => simp [(hr i (hi i rfl)).1]
    rw [← this]
    exact .miter m since seen k (fun i e => hn _ (hi i e))

theorem Ext.hH {P : Program} {r r' : Ren} {A A' K K' : Nat → Prop} {h h' : AH} {H H' : Array Obj} (e : Ext r A K h H r' A' K' h' H') (R : Rel P r A K h H) : ∀ b, A b → H'[b]? = H[b]? :=
  fun b hb => e.keep b (R.old b hb) (fun id o ho he => (R.lt id o ho).2.2 (he ▸ hb))
theorem V.through {P : Program} {r r' : Ren} {A A' K K' : Nat → Prop} {h h' : AH} {H H' : Array Obj} (e : Ext r A K h H r' A' K' h' H') (R : Rel P r A K h H) {a : AV} {v : Value} (hv : V H r K A a v) :
    V H' r' K' A' a v := hv.ext e.kk e.ren e.sub (e.hH R)
theorem VS.through {P : Program} {r r' : Ren} {A A' K K' : Nat → Prop} {h h' : AH} {H H' : Array Obj} (e : Ext r A K h H r' A' K' h' H') (R : Rel P r A K h H) {a : List AV} {v : List Value} (hv : VS H r K A a v) :
    VS H' r' K' A' a v := hv.ext e.kk e.ren e.sub (e.hH R)

theorem Ext.refl (r : Ren) (A K : Nat → Prop) (h : AH) (H : Array Obj) : Ext r A K h H r A K h H :=
  ⟨Nat.le_refl _, fun _ h => h, fun _ h => .inl h, fun _ _ => ⟨rfl, rfl⟩, Nat.le_refl _, fun _ h => h, fun _ _ _ => rfl, fun id o ho _ => ⟨id, o, ho, rfl⟩, rfl, fun _ h => h, fun _ _ _ _ => ⟨rfl, fun _ _ => rfl⟩, fun id o ho => .inl ⟨o, ho⟩, rfl⟩
theorem Ext.trans {r r' r'' : Ren} {A A' A'' K K' K'' : Nat → Prop} {h h' h'' : AH} {H H' H'' : Array Obj} (a : Ext r A K h H r' A' K' h' H') (b : Ext r' A' K' h' H' r'' A'' K'' h'' H'') : Ext r A K h H r'' A'' K'' h'' H'' := by
  refine ⟨Nat.le_trans a.next b.next, fun id hi => b.kk id (a.kk id hi), fun id hi => ?_, fun id hi => ?_, Nat.le_trans a.size b.size, fun x hx => b.sub x (a.sub x hx), fun x hx hk => ?_, fun id o ho hb => ?_, b.base.trans a.base, fun id h => b.mono id (a.mono id h), fun id hk hi hd => ?_, fun id o ho => ?_, b.io.trans a.io⟩
  · rcases b.knew id hi with h1 | h1
    · exact a.knew id h1
    · exact .inr (Nat.le_trans a.next h1)
  · have h1 := a.ren id hi
    have h2 := b.ren id (a.kk id hi)
    exact ⟨h2.1.trans h1.1, h2.2.trans h1.2⟩
  · rw [b.keep x (Nat.lt_of_lt_of_le hx a.size) (fun id o ho he => ?_), a.keep x hx hk]
    obtain ⟨id', o', h1, h2⟩ := a.own id o ho (he ▸ hx)
    exact hk id' o' h1 (h2.trans he)
  · obtain ⟨id1, o1, h1, h2⟩ := b.own id o ho (Nat.lt_of_lt_of_le hb a.size)
    obtain ⟨id2, o2, h3, h4⟩ := a.own id1 o1 h1 (h2 ▸ hb)
    exact ⟨id2, o2, h3, h4.trans h2⟩
  · have h1 := a.stay id hk hi (fun h => hd (b.mono id h))
    have h2 := b.stay id (a.kk id hk) (by rw [a.base]; exact hi) hd
    refine ⟨h2.1.trans h1.1, fun o ho => ?_⟩
    rw [← h1.2 o ho, ← (a.ren id hk).1]
    exact h2.2 o (h1.1.trans ho)
  · rcases b.back id o ho with ⟨o', h1⟩ | h1
    · exact a.back id o' h1
    · exact .inr (Nat.le_trans a.next h1)
end Go.Proofs.YtmeianaaiiiinaaGreat.Ev
namespace Go.Proofs.YtmeianaaiiiinaaGreat.Ev
open Go
set_option linter.unusedVariables false
set_option linter.unusedSimpArgs false

def Path.val : Path → Nat
  | .here => 0
  | .left p => 2 * p.val + 1
  | .right p => 2 * p.val + 2
theorem pathF_succ (k n : Nat) : pathF (k + 1) n = bif Nat.beq n 0 then .here else bif Nat.beq (Nat.mod n 2) 1 then .left (pathF k (Nat.div n 2)) else .right (pathF k (Nat.div (Nat.pred n) 2)) := rfl
theorem beq_tf (a b : Nat) : Nat.beq a b = decide (a = b) := by
  cases h : Nat.beq a b with
  | true => simp [Nat.eq_of_beq_eq_true h]
  | false =>
    have : a ≠ b := Nat.ne_of_beq_eq_false h
    simp [this]
theorem pathF_val : ∀ k n, n < k → (pathF k n).val = n := by
  intro k
  induction k with
  | zero => intro n h; omega
  | succ k ih =>
    intro n h
    rw [pathF_succ, beq_tf, beq_tf]
    by_cases h0 : n = 0
    · subst h0; rfl
    · by_cases h1 : Nat.mod n 2 = 1
      · have e : Nat.div n 2 = n / 2 := rfl
        have e1 : Nat.mod n 2 = n % 2 := rfl
        rw [e1] at h1
        simp [h0, h1, e, e1, Path.val]
        rw [ih (n / 2) (by omega)]
        omega
      · have e : Nat.div (Nat.pred n) 2 = (n - 1) / 2 := rfl
        have e1 : Nat.mod n 2 = n % 2 := rfl
        rw [e1] at h1
        simp [h0, h1, e, e1, Path.val]
        have ih2 : (pathF k ((n - 1).div 2)).val = (n - 1) / 2 := ih ((n - 1) / 2) (by omega)
        omega
theorem pathOf_inj {m n : Nat} (h : pathOf m = pathOf n) : m = n := by
  have h1 := pathF_val (m + 1) m (by omega)
  have h2 := pathF_val (n + 1) n (by omega)
  unfold pathOf at h
  rw [← h1, ← h2]
  exact congrArg Path.val h

theorem T.putK_eq {α : Type} (v : Option α) (p : Path) : ∀ {β : Type} (t : T α) (c : T α → β), T.putK v p t c = c (T.putK v p t id) := by
  induction p with
  | here => intro β t c; cases t <;> rfl
  | left p ih =>
    intro β t c
    cases t with
    | nil =>
      show T.putK v p .nil _ = c (T.putK v p .nil _)
      rw [ih, ih (c := fun l => id (T.node l none .nil))]
      rfl
    | node l x r =>
      show T.putK v p l _ = c (T.putK v p l _)
      rw [ih, ih (c := fun l => id (T.node l x r))]
      rfl
  | right p ih =>
    intro β t c
    cases t with
    | nil =>
      show T.putK v p .nil _ = c (T.putK v p .nil _)
      rw [ih, ih (c := fun l => id (T.node .nil none l))]
      rfl
    | node l x r =>
      show T.putK v p r _ = c (T.putK v p r _)
      rw [ih, ih (c := fun r => id (T.node l x r))]
      rfl
theorem T.at_putK {α : Type} (v : Option α) (p : Path) : ∀ (t : T α) (q : Path), T.at q (T.putK v p t id) = if q = p then v else T.at q t := by
  induction p with
  | here => intro t q; cases t <;> cases q <;> first | rfl | (rename_i q; cases q <;> rfl)
  | left p ih =>
    intro t q
    cases t with
    | nil =>
      show T.at q (T.putK v p .nil _) = _
      rw [T.putK_eq]
      cases q with
      | here => rfl
      | left q =>
        show T.at q (T.putK v p .nil id) = _
        rw [ih]
        by_cases h : q = p
        · simp [h]
        · simp [h]; cases q <;> rfl
      | right q => cases q <;> rfl
    | node l x r =>
      show T.at q (T.putK v p l _) = _
      rw [T.putK_eq]
      cases q with
      | here => rfl
      | left q =>
        show T.at q (T.putK v p l id) = _
        rw [ih]
        by_cases h : q = p
        · simp [h]
        · simp [h]; rfl
      | right q => rfl
  | right p ih =>
    intro t q
    cases t with
    | nil =>
      show T.at q (T.putK v p .nil _) = _
      rw [T.putK_eq]
      cases q with
      | here => rfl
      | right q =>
        show T.at q (T.putK v p .nil id) = _
        rw [ih]
        by_cases h : q = p
        · simp [h]
        · simp [h]; cases q <;> rfl
      | left q => cases q <;> rfl
    | node l x r =>
      show T.at q (T.putK v p r _) = _
      rw [T.putK_eq]
      cases q with
      | here => rfl
      | right q =>
        show T.at q (T.putK v p r id) = _
        rw [ih]
        by_cases h : q = p
        · simp [h]
        · simp [h]; rfl
      | left q => rfl
theorem T.get_put {α : Type} (t : T α) (n m : Nat) (v : Option α) : (t.put n v).get m = if m = n then v else t.get m := by
  unfold T.get T.put
  rw [T.at_putK]
  by_cases h : m = n
  · simp [h]
  · simp [h]
    intro e
    exact absurd (pathOf_inj e) h
theorem T.put_k {α β : Type} (t : T α) (n : Nat) (v : Option α) (c : T α → β) : t.putK v (pathOf n) c = c (t.put n v) := T.putK_eq v _ t c
theorem T.get_nil {α : Type} (n : Nat) : (T.nil : T α).get n = none := by
  unfold T.get
  cases pathOf n <;> rfl

theorem forceN_eq {β : Type} (n : Nat) (c : Nat → β) : forceN n c = c n := by cases n <;> rfl
theorem forceI_eq {β : Type} (n : Int) (c : Int → β) : forceI n c = c n := by
  cases n with
  | ofNat n => show forceN n (fun n => c (.ofNat n)) = _; rw [forceN_eq]
  | negSucc n => show forceN n (fun n => c (.negSucc n)) = _; rw [forceN_eq]
theorem forceB_eq {β : Type} (n : Bool) (c : Bool → β) : forceB n c = c n := by cases n <;> rfl
theorem forceS_eq {α β : Type} (l : List α) : ∀ (c : List α → β), forceS l c = c l := by
  induction l with
  | nil => intro c; rfl
  | cons v l ih => intro c; show forceS l (fun l => c (v :: l)) = _; rw [ih]
theorem Cap.force_eq {β : Type} (k : Cap) (c : Cap → β) : k.force c = c k := by
  cases k with
  | known n => show forceN n (fun n => c (.known n)) = _; rw [forceN_eq]
  | rest n => show forceN n (fun n => c (.rest n)) = _; rw [forceN_eq]
theorem AV.force_eq {β : Type} (v : AV) (c : AV → β) : v.force c = c v := by
  cases v with
  | bool b => show forceB b (fun b => c (.bool b)) = _; rw [forceB_eq]
  | int k n => show forceI n (fun n => c (.int k n)) = _; rw [forceI_eq]
  | agg l => show forceS l (fun l => c (.agg l)) = _; rw [forceS_eq]
  | tuple l => show forceS l (fun l => c (.tuple l)) = _; rw [forceS_eq]
  | ptr i o => show forceN i (fun i => forceN o fun o => c (.ptr i o)) = _; rw [forceN_eq, forceN_eq]
  | rptr l o => show forceN o (fun o => c (.rptr l o)) = _; rw [forceN_eq]
  | slice i o n k => show forceN i (fun i => forceN o fun o => forceN n fun n => k.force fun k => c (.slice i o n k)) = _; rw [forceN_eq, forceN_eq, forceN_eq, Cap.force_eq]
  | view n l e => show forceN n (fun n => forceB e fun e => c (.view n l e)) = _; rw [forceN_eq, forceB_eq]
  | map i => show forceN i (fun i => c (.map i)) = _; rw [forceN_eq]
  | _ => rfl
theorem forceEs_eq {β : Type} : ∀ (l : List (AV × AV × Nat)) (c : List (AV × AV × Nat) → β), forceEs l c = c l
  | [], c => rfl
  | (k, v, b) :: l, c => by
    show AV.force k (fun k => AV.force v fun v => forceN b fun b => forceEs l fun l => c ((k, v, b) :: l)) = _
    rw [AV.force_eq, AV.force_eq, forceN_eq, forceEs_eq l]
theorem AObj.force_eq {β : Type} (o : AObj) (c : AObj → β) : AObj.force o c = c o := by
  cases o with
  | row e cells b => show forceS cells (fun cells => forceB b fun b => c (.row e cells b)) = _; rw [forceS_eq, forceB_eq]
  | mp es n => show forceEs es (fun es => forceN n fun n => c (.mp es n)) = _; rw [forceEs_eq, forceN_eq]
  | miter m s l k => show forceN s (fun s => forceS l fun l => forceN k fun k => c (.miter m s l k)) = _; rw [forceN_eq, forceS_eq, forceN_eq]
theorem T.force_eq {α β : Type} (t : T α) (c : T α → β) : T.force t c = c t := by cases t <;> rfl
theorem AH.force_eq {β : Type} (h : AH) (c : AH → β) : h.force c = c h := by
  cases h with
  | mk t n k l => show T.force t (fun t => forceN n fun n => forceN k fun k => forceS l fun l => c ⟨t, n, k, l⟩) = _; rw [T.force_eq, forceN_eq, forceN_eq, forceS_eq]

theorem AH.get_set (h : AH) (id m : Nat) (o : AObj) : (h.set id o).get m = if m = id then some o else h.get m := by
  show (AObj.force o fun o => h.objs.put id (some o)).get m = _
  rw [AObj.force_eq]
  exact T.get_put _ _ _ _
theorem AH.get_new (h : AH) (m : Nat) (o : AObj) : (h.new o).get m = if m = h.next then some o else h.get m := by
  show (AObj.force o fun o => h.objs.put h.next (some o)).get m = _
  rw [AObj.force_eq]
  exact T.get_put _ _ _ _
theorem AH.get_drop (h : AH) (id m : Nat) : (h.drop id).get m = if m = id then none else h.get m := T.get_put _ _ _ _
theorem AH.next_set (h : AH) (id : Nat) (o : AObj) : (h.set id o).next = h.next := rfl
theorem AH.next_new (h : AH) (o : AObj) : (h.new o).next = h.next + 1 := rfl
theorem AH.next_drop (h : AH) (id : Nat) : (h.drop id).next = h.next := rfl
theorem memB_iff (n : Nat) : ∀ (l : List Nat), memB n l = true ↔ n ∈ l
  | [] => by simp [memB]
  | m :: l => by
    have ih := memB_iff n l
    show (bif Nat.beq n m then true else memB n l) = true ↔ _
    rw [List.mem_cons, ← ih]
    cases h : Nat.beq n m with
    | true => simp [Nat.eq_of_beq_eq_true h]
    | false => simp [Nat.ne_of_beq_eq_false h]
theorem mem_mark {m : Nat} (n base : Nat) {l : List Nat} (h : m ∈ l) : m ∈ mark n base l := by
  unfold mark
  cases Nat.blt n base <;> cases memB n l <;> simp [h]
theorem mark_self {n base : Nat} (l : List Nat) (h : n < base) : n ∈ mark n base l := by
  unfold mark
  have : Nat.blt n base = true := by simpa using h
  rw [this]
  cases hm : memB n l with
  | true => exact (memB_iff n l).1 hm
  | false => simp
theorem mark_sub {m n base : Nat} {l : List Nat} (h : m ∈ mark n base l) : m ∈ l ∨ (m = n ∧ n < base) := by
  unfold mark at h
  cases hb : Nat.blt n base with
  | false => rw [hb] at h; exact .inl h
  | true =>
    rw [hb] at h
    cases hm : memB n l with
    | true => rw [hm] at h; exact .inl h
    | false =>
      rw [hm] at h
      rcases List.mem_cons.1 h with h | h
      · exact .inr ⟨h, by simpa using hb⟩
      · exact .inl h
theorem AH.base_set (h : AH) (id : Nat) (o : AObj) : (h.set id o).base = h.base := rfl
theorem AH.base_new (h : AH) (o : AObj) : (h.new o).base = h.base := rfl
theorem AH.base_drop (h : AH) (id : Nat) : (h.drop id).base = h.base := rfl
theorem AH.dirty_set (h : AH) (id : Nat) (o : AObj) : (h.set id o).dirty = mark id h.base h.dirty := rfl
theorem AH.dirty_new (h : AH) (o : AObj) : (h.new o).dirty = h.dirty := rfl
theorem AH.dirty_drop (h : AH) (id : Nat) : (h.drop id).dirty = mark id h.base h.dirty := rfl

/-! ### What may come out -/
theorem catO_mem {α : Type} : ∀ (l : List (Outs α)) (m : List α), catO l = some m → ∀ x ∈ l, ∃ k, x = some k ∧ ∀ y ∈ k, y ∈ m
  | [], m, h, x, hx => by cases hx
  | none :: l, m, h, x, hx => by simp [catO] at h
  | some k :: l, m, h, x, hx => by
    simp only [catO] at h
    cases hc : catO l with
    | none => simp [hc] at h
    | some r =>
      simp [hc] at h
      subst h
      rcases List.mem_cons.1 hx with rfl | hx
      · exact ⟨k, rfl, fun y hy => List.mem_append.2 (.inl hy)⟩
      · obtain ⟨k', e, hk⟩ := catO_mem l r hc x hx
        exact ⟨k', e, fun y hy => List.mem_append.2 (.inr (hk y hy))⟩
theorem bindO_some {α β : Type} {x : Outs α} {f : α → Outs β} {m : List β} (h : bindO x f = some m) :
    ∃ l, x = some l ∧ ∀ a ∈ l, ∃ k, f a = some k ∧ ∀ y ∈ k, y ∈ m := by
  cases x with
  | none => simp [bindO] at h
  | some l =>
    refine ⟨l, rfl, fun a ha => ?_⟩
    match l, h, ha with
    | [b], h, ha =>
      have : a = b := by simpa using ha
      subst this
      exact ⟨m, h, fun y hy => hy⟩
    | b :: c :: r, h, ha =>
      obtain ⟨k, hk, hm⟩ := catO_mem _ m h (f a) (List.mem_map_of_mem ha)
      exact ⟨k, hk, hm⟩
end Go.Proofs.YtmeianaaiiiinaaGreat.Ev
