/- The logic, continued: objects that don't change any more; results in a heap of their own. -/
import Derived.Test.YtmeianaaiiiinaaGreatEvWe
namespace Go.Proofs.YtmeianaaiiiinaaGreat.Ev
open Go
set_option linter.unusedVariables false
set_option linter.unusedSimpArgs false
set_option linter.all false
noncomputable section

/-- The same value, where an object's cells are spelled out. -/
inductive Fz (id : Nat) (cells : List AV) : AV → AV → Prop where
  | refl (v : AV) : Fz id cells v v
  | slice (off len : Nat) (cap : Cap) : Fz id cells (.slice id off len cap) (.view len (cells.drop off) false)
  | ptr (off : Nat) : Fz id cells (.ptr id off) (.rptr cells off)
  | nil : Fz id cells .nilSlice (.view 0 [] false)
  | agg (cs ds : List AV) (hl : cs.length = ds.length) (h : ∀ (i : Nat) a b, cs[i]? = some a → ds[i]? = some b → Fz id cells a b) : Fz id cells (.agg cs) (.agg ds)
theorem Fz.ok {P : Program} {id : Nat} {cells : List AV} {H : Array Obj} {r : Ren} {A K : Nat → Prop} {e : TypeId} {cs : Array Value} {fz : Nat × Nat} (hH : H[r.blk id]? = some (.cells cs e fz)) (hlen : cells.length ≤ cs.size)
    (hcells : ∀ (i : Nat) a v, cells[i]? = some a → cs[i]? = some v → V H r K A a v) {a b : AV} (hf : Fz id cells a b) : ∀ {x : Value}, V H r K A a x → V H r K (fun b => A b ∨ b = r.blk id) b x := by
  have mono : ∀ {a : AV} {x : Value}, V H r K A a x → V H r K (fun b => A b ∨ b = r.blk id) a x := fun h => h.ext (fun _ h => h) (fun _ _ => ⟨rfl, rfl⟩) (fun _ h => .inl h) (fun _ _ => rfl)
  have cell : ∀ i a, cells[i]? = some a → ∃ v, cellH H (r.blk id) i = some v ∧ V H r K A a v := fun i a ha => by
    have hi : i < cells.length := (List.getElem?_eq_some_iff.1 ha).1
    have h1 : cs[i]? = some (cs[i]'(by omega)) := Array.getElem?_eq_getElem (by omega)
    exact ⟨_, by unfold cellH; rw [hH]; exact h1, hcells i a _ ha h1⟩
  induction hf with
  | refl v => exact mono
  | slice off len cap =>
    intro x hx
    cases hx with
    | slice _ _ _ _ hi hc =>
      refine .view _ _ _ _ _ _ hc (fun h => by cases h) (.inr rfl) (fun i a ha => ?_) (fun i a v ha hv => ?_)
      · rw [List.getElem?_drop] at ha
        obtain ⟨v, h1, _⟩ := cell _ a ha
        exact ⟨v, h1⟩
      · rw [List.getElem?_drop] at ha
        obtain ⟨v', h1, h2⟩ := cell _ a ha
        have : v = v' := by rw [h1] at hv; exact (Option.some.inj hv).symm
        rw [this]; exact mono h2
  | ptr off =>
    intro x hx
    cases hx with
    | ptr _ _ hi =>
      have := V.rptr (H := H) (r := r) (K := K) (A := fun b => A b ∨ b = r.blk id) cells off (r.blk id) 0 (.inr rfl) (fun i a ha => by
        obtain ⟨v, h1, _⟩ := cell i a ha
        exact ⟨v, by rw [Nat.zero_add]; exact h1⟩) (fun i a v ha hv => by
        rw [Nat.zero_add] at hv
        obtain ⟨v', h1, h2⟩ := cell i a ha
        have : v = v' := by rw [h1] at hv; exact (Option.some.inj hv).symm
        rw [this]; exact mono h2)
      rw [Nat.zero_add] at this
      exact this
  | nil =>
    intro x hx
    cases hx with
    | nilSlice => exact .view0 _ _ _ _ (fun _ => rfl)
  | agg cs ds hl h ih =>
    intro x hx
    cases hx with
    | agg _ vs h1 h2 =>
      refine .agg _ _ (by rw [← hl]; exact h1) (fun i b v hb hv => ?_)
      have hi : i < cs.length := by rw [hl]; exact (List.getElem?_eq_some_iff.1 hb).1
      have ha : cs[i]? = some cs[i] := List.getElem?_eq_getElem hi
      exact ih i cs[i] b ha hb (h2 i cs[i] v ha hv)
inductive FzO (id : Nat) (cells : List AV) : AObj → AObj → Prop where
  | refl (o : AObj) : FzO id cells o o
  | row (e : TypeId) (cs ds : List AV) (op : Bool) (hl : cs.length = ds.length) (h : ∀ (i : Nat) a b, cs[i]? = some a → ds[i]? = some b → Fz id cells a b) : FzO id cells (.row e cs op) (.row e ds op)
section
variable {P : Program} {nt : Nat} {F : Fr}
/-- A state in which an object that doesn't change any more has become a part of the values that lead to it. -/
structure Frz (id : Nat) (cells : List AV) (E : Env) (h : AH) (E2 : Env) (h2 : AH) : Prop where
  env : ∀ d v, getL E2 d = some v → ∃ u, getL E d = some u ∧ Fz id cells u v
  obj : ∀ j o, h2.get j = some o → j ≠ id ∧ ∃ o', h.get j = some o' ∧ FzO id cells o' o
  next : h2.next = h.next
  base : h2.base = h.base
  dirty : h2.dirty = h.dirty
theorem Frz.state {id : Nat} {cells : List AV} {e : TypeId} {op : Bool} {E E2 : Env} {h h2 : AH} (W : Frz id cells E h E2 h2) (hg : h.get id = some (.row e cells op)) {r : Ren} {A K : Nat → Prop} {a : Act} {w : World} (S : StR P A K nt r (tmE E) h a w) (T : At F r A K h w.heap) :
    ∃ A2, StR P A2 K nt r (tmE E2) h2 a w ∧ At F r A2 K h2 w.heap := by
  obtain ⟨x, hx, ho⟩ := S.rel.ob id _ hg
  cases ho with
  | row _ _ _ cs hl hc hop hv =>
    have ok : ∀ {a b : AV} {x : Value}, Fz id cells a b → V w.heap r K A a x → V w.heap r K (fun b => A b ∨ b = r.blk id) b x := fun hf hx' => hf.ok (P := P) hx hl hv hx'
    have hid := S.rel.lt id _ hg
    refine ⟨fun b => A b ∨ b = r.blk id, ⟨⟨fun j o hj => ?_, fun j o hj => ?_, fun j j' o o' hj hj' e => ?_, fun b hb => ?_, fun j hj => by rw [W.next]; exact S.rel.kn j hj⟩, fun t v ht => ?_, S.size, S.defers, S.io⟩, ⟨⟨by rw [W.next]; exact T.ext.next, T.ext.kk, T.ext.knew, T.ext.ren, T.ext.size, fun b hb => .inl (T.ext.sub b hb), T.ext.keep, fun j o hj => ?_, W.base.trans T.ext.base, fun j hj => by rw [W.dirty]; exact T.ext.mono j hj, fun j h1 h2 => by rw [T.base] at h2; omega, fun j o hj => ?_, T.ext.io⟩, fun b hb => ?_, T.fk, T.base⟩⟩
    · obtain ⟨hne, o', h1, _⟩ := W.obj j o hj
      have h3 := S.rel.lt j o' h1
      refine ⟨h3.1, h3.2.1, fun hb => ?_⟩
      rcases hb with hb | hb
      · exact h3.2.2 hb
      · exact hne (S.rel.inj j id _ _ h1 hg hb)
    · obtain ⟨hne, o', h1, hf⟩ := W.obj j o hj
      obtain ⟨y, h2, h3⟩ := S.rel.ob j o' h1
      refine ⟨y, h2, ?_⟩
      cases hf with
      | refl _ => exact h3.ext (S.rel.lt j _ h1).1 (fun _ h => h) (fun _ _ => ⟨rfl, rfl⟩) (fun _ h => .inl h) (fun _ _ => rfl)
      | row e' cs' ds op' hl' hf =>
        cases h3 with
        | row _ _ _ vs g1 g2 g3 g4 =>
          refine .row _ _ _ vs (by omega) (fun e => by rw [g2 e]; omega) g3 (fun i b v hb hv' => ?_)
          have hi : i < cs'.length := by rw [hl']; exact (List.getElem?_eq_some_iff.1 hb).1
          have ha : cs'[i]? = some cs'[i] := List.getElem?_eq_getElem hi
          exact ok (hf i _ b ha hb) (g4 i _ v ha hv')
    · obtain ⟨_, p, h1, _⟩ := W.obj j o hj
      obtain ⟨_, p', h2, _⟩ := W.obj j' o' hj'
      exact S.rel.inj j j' p p' h1 h2 e
    · rcases hb with hb | hb
      · exact S.rel.old b hb
      · rw [hb]; exact hid.2.1
    · rw [tmE_get] at ht
      obtain ⟨u, h1, h2⟩ := W.env t v ht
      obtain ⟨x', h3, h4⟩ := S.tms t u (by rw [tmE_get]; exact h1)
      exact ⟨x', h3, ok h2 h4⟩
    · intro hlt
      obtain ⟨_, o', h1, _⟩ := W.obj j o hj
      exact T.ext.own j o' h1 hlt
    · obtain ⟨_, o', h1, _⟩ := W.obj j o hj
      exact T.ext.back j o' h1
    · rcases hb with hb | hb
      · exact T.anew b hb
      · by_cases hlt : b < F.H.size
        · obtain ⟨id', o', h1, h2⟩ := T.ext.own id _ hg (by rw [← hb]; exact hlt)
          exact .inr (.inr ⟨id', o', h1, h2.trans hb.symm⟩)
        · exact .inr (.inl (Nat.le_of_not_lt hlt))
theorem AW.freeze {id : Nat} {cells : List AV} {e : TypeId} {op : Bool} {E : Env} {h : AH} (E2 : Env) (h2 : AH) (hg : h.get id = some (.row e cells op)) {c : Code} {Q : AEx → Env → AH → Prop} (W : Frz id cells E h E2 h2) (hc : AW P nt F c Q E2 h2) : AW P nt F c Q E h :=
  fun r A K a w S T hb => by
    obtain ⟨A2, S2, T2⟩ := W.state hg S T
    exact hc r A2 K a w S2 T2 (W.base.trans hb)
theorem AWL.freeze {id : Nat} {cells : List AV} {e : TypeId} {op : Bool} {E : Env} {h : AH} (E2 : Env) (h2 : AH) (hg : h.get id = some (.row e cells op)) {ops l : List Oper} {Q : AEx → Env → AH → Prop} (W : Frz id cells E h E2 h2) (hc : AWL P nt F ops l Q E2 h2) : AWL P nt F ops l Q E h :=
  fun r A K a w S T hb => by
    obtain ⟨A2, S2, T2⟩ := W.state hg S T
    exact hc r A2 K a w S2 T2 (W.base.trans hb)
/-- Such states, listed. -/
def FzE (id : Nat) (cells : List AV) (E : Env) : Env → Prop
  | [] => True
  | p :: E2 => (∃ u, getL E p.1 = some u ∧ Fz id cells u p.2) ∧ FzE id cells E E2
def FzH (id : Nat) (cells : List AV) (L : Hp) : Hp → Prop
  | [] => True
  | p :: L2 => (∀ o, p.2 = some o → p.1 ≠ id ∧ ∃ o', getO L p.1 = some o' ∧ FzO id cells o' o) ∧ FzH id cells L L2
theorem FzE.mem {id : Nat} {cells : List AV} {E : Env} : ∀ {E2 : Env}, FzE id cells E E2 → ∀ p ∈ E2, ∃ u, getL E p.1 = some u ∧ Fz id cells u p.2
  | _ :: _, h, _, hp => by
    rcases List.mem_cons.1 hp with rfl | hp
    · exact h.1
    · exact FzE.mem h.2 _ hp
theorem FzH.mem {id : Nat} {cells : List AV} {L : Hp} : ∀ {L2 : Hp}, FzH id cells L L2 → ∀ p ∈ L2, ∀ o, p.2 = some o → p.1 ≠ id ∧ ∃ o', getO L p.1 = some o' ∧ FzO id cells o' o
  | _ :: _, h, _, hp => by
    rcases List.mem_cons.1 hp with rfl | hp
    · exact h.1
    · exact FzH.mem h.2 _ hp
theorem Frz.of {id : Nat} {cells : List AV} {n : Nat} {E E2 : Env} {L L2 : Hp} (h1 : FzE id cells E E2) (h2 : FzH id cells L L2) : Frz id cells E (hE L n) E2 (hE L2 n) := by
  refine ⟨fun d v hv => h1.mem _ (getL_mem hv), fun j o ho => ?_, rfl, rfl, rfl⟩
  rw [hE_get] at ho
  unfold getO at ho
  cases hl : getL L2 j with
  | none => rw [hl] at ho; cases ho
  | some x =>
    rw [hl] at ho
    have hx : x = some o := by simpa using ho
    obtain ⟨h3, o', h4, h5⟩ := h2.mem _ (getL_mem hl) o hx
    exact ⟨h3, o', by rw [hE_get]; exact h4, h5⟩

/-- A call that gives a new map with plain entries. -/
theorem FnOk.map1 {f : FuncId} {args : List AV} {Q : List (AV × AV × Nat) → Nat → Prop} (hp : FnOk P f args (hE [] 0) (fun v h' => ∃ k es c, v = .map k ∧ h'.get k = some (.mp es c) ∧ (∀ e ∈ es, Low 0 e.1 ∧ Low 0 e.2.1) ∧ Q es c)) (hl : ∀ a ∈ args, Low 0 a) (L : Hp) (n : Nat) :
    FnOk P f args (hE L n) (fun v h' => ∃ es c, v = .map n ∧ h' = hE ((n, some (.mp es c)) :: L) (n + 1) ∧ (∀ e ∈ es, Low 0 e.1 ∧ Low 0 e.2.1) ∧ Q es c) := by
  intro r A K w vargs R hb hw hv
  have R0 : Rel P r A (fun _ => False) (hE [] 0) w.heap := ⟨fun id o ho => (by rw [hE_get] at ho; cases ho), fun id o ho => (by rw [hE_get] at ho; cases ho), fun id _ o _ ho => (by rw [hE_get] at ho; cases ho), R.old, fun id hi => hi.elim⟩
  refine (hp r A (fun _ => False) w vargs R0 rfl hw ⟨hv.1, fun i a v ha hv' => (hv.2 i a v ha hv').pure (hl a (mem_at ha))⟩).mono ?_
  rintro e w' ⟨v', v, h', r', A', K', rfl, ⟨k, es, c, rfl, g0, hlow, hq⟩, hR, hV, hT, hb', hio⟩
  have keep : ∀ b, b < w.heap.size → w'.heap[b]? = w.heap[b]? := fun b hlt => hT.ext.keep b hlt (fun id o ho => by rw [hE_get] at ho; cases ho)
  have sub : ∀ b, A b → A' b := hT.ext.sub
  have anew : ∀ b, A' b → A b ∨ w.heap.size ≤ b := fun b hb => by
    rcases hT.anew b hb with h1 | h1 | ⟨id, o, h1, _⟩
    · exact .inl h1
    · exact .inr h1
    · rw [hE_get] at h1; cases h1
  have hA : ∀ b, A b → w'.heap[b]? = w.heap[b]? := fun b hb => keep b (R.old b hb)
  have l0 := hR.lt k _ g0
  have hbig : w.heap.size ≤ r'.blk k := by
    by_cases h : r'.blk k < w.heap.size
    · obtain ⟨id', o', h1, _⟩ := hT.ext.own k _ g0 h
      rw [hE_get] at h1; cases h1
    · omega
  have hkn : ∀ id, K id → id < n := R.kn
  have hren : ∀ id, K id → (r.upd n (r'.blk k) 0).blk id = r.blk id ∧ (r.upd n (r'.blk k) 0).cap id = r.cap id := fun id hi => Ren.upd_ne r n _ _ id (by have := hkn id hi; omega)
  have hnew : (r.upd n (r'.blk k) 0).blk n = r'.blk k := (Ren.upd_at r n _ _).1
  have get : ∀ id o, (hE ((n, some (AObj.mp es c)) :: L) (n + 1)).get id = some o → (id = n ∧ o = .mp es c) ∨ (id ≠ n ∧ (hE L n).get id = some o) := fun id o ho => by
    rw [hE_get] at ho
    unfold getO at ho
    rw [getL_if] at ho
    by_cases h : n = id
    · subst h
      rw [if_pos rfl] at ho
      exact .inl ⟨rfl, by simpa using ho.symm⟩
    · rw [if_neg h] at ho
      exact .inr ⟨fun e => h e.symm, by rw [hE_get]; exact ho⟩
  refine ⟨v', .map n, _, r.upd n (r'.blk k) 0, A', Kn K n, rfl, ⟨es, c, rfl, rfl, hlow, hq⟩, ⟨fun id o ho => ?_, fun id o ho => ?_, fun id id' o o' ho ho' e => ?_, fun b hb => hR.old b hb, fun id hi => ?_⟩, ?_, ⟨⟨by show n ≤ n + 1; omega, fun id hi => .inl hi, fun id hi => ?_, hren, hT.ext.size, sub, fun b hlt _ => keep b hlt, fun id o ho hlt => ?_, rfl, fun _ h => h, fun id hk hz => ?_, fun id o ho => ?_, rfl⟩, fun b hb => ?_, R.kn, rfl⟩, rfl, hio.trans hT.ext.io⟩
  · rcases get id o ho with ⟨rfl, rfl⟩ | ⟨hne, ho⟩
    · exact ⟨.inr rfl, by rw [hnew]; exact l0.2.1, by rw [hnew]; exact l0.2.2⟩
    · obtain ⟨h1, h2, h3⟩ := R.lt id o ho
      rw [(hren id h1).1]
      refine ⟨.inl h1, Nat.lt_of_lt_of_le h2 hT.ext.size, fun ha => ?_⟩
      rcases anew _ ha with h4 | h4
      · exact h3 h4
      · omega
  · rcases get id o ho with ⟨rfl, rfl⟩ | ⟨hne, ho⟩
    · obtain ⟨x, h1, h2⟩ := hR.ob k _ g0
      refine ⟨x, by rw [hnew]; exact h1, ?_⟩
      cases h2 with
      | mp _ _ ms g1 g2 => exact .mp es c ms g1 (fun i e m he hm => ⟨(g2 i e m he hm).1.pure (hlow e (mem_at he)).1, (g2 i e m he hm).2.1.pure (hlow e (mem_at he)).2, (g2 i e m he hm).2.2⟩)
    · obtain ⟨x, h1, h2⟩ := R.ob id o ho
      have h3 := R.lt id o ho
      exact ⟨x, by rw [(hren id h3.1).1, keep _ h3.2.1]; exact h1, h2.ext h3.1 (fun _ h => .inl h) hren sub hA⟩
  · rcases get id o ho with ⟨rfl, rfl⟩ | ⟨hne, ho⟩
    · rcases get id' o' ho' with ⟨rfl, rfl⟩ | ⟨hne', ho'⟩
      · rfl
      · have h3 := R.lt id' o' ho'
        rw [hnew, (hren id' h3.1).1] at e
        omega
    · have h3 := R.lt id o ho
      rcases get id' o' ho' with ⟨rfl, rfl⟩ | ⟨hne', ho'⟩
      · rw [hnew, (hren id h3.1).1] at e
        omega
      · have h4 := R.lt id' o' ho'
        rw [(hren id h3.1).1, (hren id' h4.1).1] at e
        exact R.inj id id' o o' ho ho' e
  · rcases hi with hi | rfl
    · show id < n + 1
      have := hkn id hi; omega
    · show id < id + 1
      omega
  · cases hV with
    | map _ hi =>
      have := V.map (H := w'.heap) (r := r.upd n (r'.blk k) 0) (K := Kn K n) (A := A') n (Or.inr rfl)
      rw [hnew] at this
      exact this
  · rcases hi with hi | rfl
    · exact .inl hi
    · exact .inr (Nat.le_refl _)
  · rcases get id o ho with ⟨rfl, rfl⟩ | ⟨hne, ho⟩
    · have hlt' : (r.upd id (r'.blk k) 0).blk id < w.heap.size := hlt
      rw [hnew] at hlt'; omega
    · exact ⟨id, o, ho, by rw [(hren id (R.lt id o ho).1).1]⟩
  · have : id < 0 := hz
    omega
  · rcases get id o ho with ⟨rfl, rfl⟩ | ⟨hne, ho⟩
    · exact .inr (Nat.le_refl _)
    · exact .inl ⟨o, ho⟩
  · rcases anew b hb with h1 | h1
    · exact .inl h1
    · exact .inr (.inl h1)
end
end
end Go.Proofs.YtmeianaaiiiinaaGreat.Ev
namespace Go.Proofs.YtmeianaaiiiinaaGreat.Ev
open Go
set_option linter.unusedVariables false
set_option linter.unusedSimpArgs false
noncomputable section

/-- The same value, where an object has another number. -/
inductive Rn (s t : Nat) : AV → AV → Prop where
  | low (v : AV) (h : Low t v) : Rn s t v v
  | slice (off len : Nat) (cap : Cap) : Rn s t (.slice s off len cap) (.slice t off len cap)
  | ptr (off : Nat) : Rn s t (.ptr s off) (.ptr t off)
  | map : Rn s t (.map s) (.map t)
  | agg (cs ds : List AV) (hl : cs.length = ds.length) (h : ∀ (i : Nat) a b, cs[i]? = some a → ds[i]? = some b → Rn s t a b) : Rn s t (.agg cs) (.agg ds)
theorem Rn.ok {s t : Nat} {H : Array Obj} {r : Ren} {A K K2 : Nat → Prop} (hk : ∀ j, K j → j < t → K2 j) (ht : K2 t) {a b : AV} (hr : Rn s t a b) : ∀ {x : Value}, V H r K A a x → V H (r.upd t (r.blk s) (r.cap s)) K2 A b x := by
  have hnew := Ren.upd_at r t (r.blk s) (r.cap s)
  induction hr with
  | low v h => exact fun hx => hx.low (fun j h1 h2 => ⟨hk j h1 h2, Ren.upd_ne r t _ _ j (by omega)⟩) h
  | slice off len cap =>
    intro x hx
    cases hx with
    | slice _ _ _ _ hi hc =>
      have e : capOf (r.upd t (r.blk s) (r.cap s)) t cap = capOf r s cap := by cases cap <;> simp [capOf, hnew.2]
      have := V.slice (H := H) (r := r.upd t (r.blk s) (r.cap s)) (K := K2) (A := A) t off len cap ht (by rw [e]; exact hc)
      rw [e, hnew.1] at this
      exact this
  | ptr off =>
    intro x hx
    cases hx with
    | ptr _ _ hi =>
      have := V.ptr (H := H) (r := r.upd t (r.blk s) (r.cap s)) (K := K2) (A := A) t off ht
      rw [hnew.1] at this
      exact this
  | map =>
    intro x hx
    cases hx with
    | map _ hi =>
      have := V.map (H := H) (r := r.upd t (r.blk s) (r.cap s)) (K := K2) (A := A) t ht
      rw [hnew.1] at this
      exact this
  | agg cs ds hl h ih =>
    intro x hx
    cases hx with
    | agg _ vs h1 h2 =>
      refine .agg _ _ (by rw [← hl]; exact h1) (fun i b v hb hv => ?_)
      have hi : i < cs.length := by rw [hl]; exact (List.getElem?_eq_some_iff.1 hb).1
      have ha : cs[i]? = some cs[i] := List.getElem?_eq_getElem hi
      exact ih i cs[i] b ha hb (h2 i cs[i] v ha hv)
inductive RnO (s t : Nat) : AObj → AObj → Prop where
  | low (o : AObj) (h : LowO t o) : RnO s t o o
  | row (e : TypeId) (cs ds : List AV) (op : Bool) (hl : cs.length = ds.length) (h : ∀ (i : Nat) a b, cs[i]? = some a → ds[i]? = some b → Rn s t a b) : RnO s t (.row e cs op) (.row e ds op)
section
variable {P : Program} {nt : Nat} {F : Fr}
/-- A state in which the object s has the number t, the others lower ones, and the next number is t + 1. -/
structure Mv (n0 s t : Nat) (E : Env) (h : AH) (E2 : Env) (h2 : AH) : Prop where
  env : ∀ d v, getL E2 d = some v → ∃ u, getL E d = some u ∧ Rn s t u v
  obj : ∀ j o, h2.get j = some o → (j < t ∧ ∃ o', h.get j = some o' ∧ RnO s t o' o) ∨ (j = t ∧ h.get s = some o ∧ LowO t o)
  next : h2.next = t + 1
  lo : n0 ≤ t
  ts : t ≤ s
  hi : t + 1 ≤ h.next
  base : h2.base = h.base
  dirty : h2.dirty = h.dirty
theorem Mv.state {s t : Nat} {E E2 : Env} {h h2 : AH} {o0 : AObj} (W : Mv F.h.next s t E h E2 h2) (hg : h.get s = some o0) {r : Ren} {A K : Nat → Prop} {a : Act} {w : World} (S : StR P A K nt r (tmE E) h a w) (T : At F r A K h w.heap) :
    ∃ r2 K2, StR P A K2 nt r2 (tmE E2) h2 a w ∧ At F r2 A K2 h2 w.heap := by
  have hs := S.rel.lt s _ hg
  have hnew := Ren.upd_at r t (r.blk s) (r.cap s)
  have hne : ∀ j, j ≠ t → (r.upd t (r.blk s) (r.cap s)).blk j = r.blk j ∧ (r.upd t (r.blk s) (r.cap s)).cap j = r.cap j := fun j hj => Ren.upd_ne r t _ _ j hj
  have hk : ∀ j, K j → j < t → (fun j => (K j ∧ j < t) ∨ j = t) j := fun j h1 h2 => .inl ⟨h1, h2⟩
  have ht : (fun j => (K j ∧ j < t) ∨ j = t) t := .inr rfl
  have ok : ∀ {a b : AV} {x : Value}, Rn s t a b → V w.heap r K A a x → V w.heap (r.upd t (r.blk s) (r.cap s)) (fun j => (K j ∧ j < t) ∨ j = t) A b x := fun hr hx => hr.ok hk ht hx
  have hlow : ∀ id, K id → id < t → ((K id ∧ id < t) ∨ id = t) ∧ (r.upd t (r.blk s) (r.cap s)).blk id = r.blk id ∧ (r.upd t (r.blk s) (r.cap s)).cap id = r.cap id := fun id h1 h2 => ⟨.inl ⟨h1, h2⟩, hne id (by omega)⟩
  refine ⟨r.upd t (r.blk s) (r.cap s), fun j => (K j ∧ j < t) ∨ j = t, ⟨⟨fun j o ho => ?_, fun j o ho => ?_, fun j j' o o' ho ho' e => ?_, S.rel.old, fun j hj => ?_⟩, fun d v hd => ?_, S.size, S.defers, S.io⟩, ⟨⟨?_, fun id hi => ?_, fun id hi => ?_, fun id hi => ?_, T.ext.size, T.ext.sub, T.ext.keep, fun j o ho hlt => ?_, W.base.trans T.ext.base, fun id hi => by rw [W.dirty]; exact T.ext.mono id hi, fun id h1 h2 => by rw [T.base] at h2; omega, fun j o ho => ?_, T.ext.io⟩, T.anew, T.fk, T.base⟩⟩
  · rcases W.obj j o ho with ⟨h1, o', h2, _⟩ | ⟨rfl, h2, _⟩
    · have := S.rel.lt j o' h2
      rw [(hne j (by omega)).1]
      exact ⟨.inl ⟨this.1, h1⟩, this.2⟩
    · rw [hnew.1]
      exact ⟨.inr rfl, hs.2⟩
  · rcases W.obj j o ho with ⟨h1, o', h2, h3⟩ | ⟨rfl, h2, h3⟩
    · obtain ⟨x, h4, h5⟩ := S.rel.ob j o' h2
      refine ⟨x, by rw [(hne j (by omega)).1]; exact h4, ?_⟩
      cases h3 with
      | low _ hl => exact h5.low ⟨(S.rel.lt j _ h2).1, h1⟩ hlow hl
      | row e cs ds op hl hr =>
        cases h5 with
        | row _ _ _ vs g1 g2 g3 g4 =>
          refine .row _ _ _ vs (by omega) (fun e => by rw [g2 e]; omega) (fun e => by rw [(hne j (by omega)).2]; exact g3 e) (fun i b v hb hv => ?_)
          have hi : i < cs.length := by rw [hl]; exact (List.getElem?_eq_some_iff.1 hb).1
          have ha : cs[i]? = some cs[i] := List.getElem?_eq_getElem hi
          exact ok (hr i _ b ha hb) (g4 i _ v ha hv)
    · obtain ⟨x, h4, h5⟩ := S.rel.ob s o h2
      refine ⟨x, by rw [hnew.1]; exact h4, ?_⟩
      cases h5 with
      | row e cells op cs g1 g2 g3 g4 =>
        cases h3 with
        | row _ _ _ hl => exact .row e cells op cs g1 g2 (fun e => by rw [hnew.2]; exact g3 e) (fun i a v ha hv => (g4 i a v ha hv).low hlow (hl a (mem_at ha)))
      | mp es c ms g1 g2 =>
        cases h3 with
        | mp _ _ hl => exact .mp es c ms g1 (fun i e m he hm => ⟨(g2 i e m he hm).1.low hlow (hl e (mem_at he)).1, (g2 i e m he hm).2.1.low hlow (hl e (mem_at he)).2, (g2 i e m he hm).2.2⟩)
      | miter m since seen k hi =>
        cases h3 with
        | miter _ _ _ _ hl =>
          have : m.map (r.upd j (r.blk s) (r.cap s)).blk = m.map r.blk := by
            cases m with
            | none => rfl
            | some i => simp [(hne i (by have := hl i rfl; omega)).1]
          rw [← this]
          exact .miter m since seen k (fun i e => .inl ⟨hi i e, hl i e⟩)
  · rcases W.obj j o ho with ⟨h1, p, h2, _⟩ | ⟨rfl, h2, _⟩
    · rw [(hne j (by omega)).1] at e
      rcases W.obj j' o' ho' with ⟨h3, p', h4, _⟩ | ⟨rfl, h4, _⟩
      · rw [(hne j' (by omega)).1] at e
        exact S.rel.inj j j' p p' h2 h4 e
      · rw [hnew.1] at e
        have := S.rel.inj j s p _ h2 hg e
        have := W.ts
        omega
    · rw [hnew.1] at e
      rcases W.obj j' o' ho' with ⟨h3, p', h4, _⟩ | ⟨rfl, h4, _⟩
      · rw [(hne j' (by omega)).1] at e
        have := S.rel.inj s j' _ p' hg h4 e
        have := W.ts
        omega
      · rfl
  · rw [W.next]
    rcases hj with hj | rfl
    · omega
    · omega
  · rw [tmE_get] at hd
    obtain ⟨u, h1, h2⟩ := W.env d v hd
    obtain ⟨x, h3, h4⟩ := S.tms d u (by rw [tmE_get]; exact h1)
    exact ⟨x, h3, ok h2 h4⟩
  · rw [W.next]; have := W.lo; omega
  · exact .inl ⟨T.ext.kk id hi, Nat.lt_of_lt_of_le (T.fk id hi) W.lo⟩
  · rcases hi with hi | rfl
    · exact T.ext.knew id hi.1
    · exact .inr W.lo
  · have h1 := Nat.lt_of_lt_of_le (T.fk id hi) W.lo
    have h2 := hne id (by omega)
    exact ⟨h2.1.trans (T.ext.ren id hi).1, h2.2.trans (T.ext.ren id hi).2⟩
  · rcases W.obj j o ho with ⟨h1, p, h2, _⟩ | ⟨rfl, h2, _⟩
    · rw [(hne j (by omega)).1] at hlt ⊢
      exact T.ext.own j p h2 hlt
    · rw [hnew.1] at hlt ⊢
      exact T.ext.own s _ h2 hlt
  · rcases W.obj j o ho with ⟨h1, p, h2, _⟩ | ⟨rfl, h2, _⟩
    · exact T.ext.back j p h2
    · exact .inr W.lo
theorem AW.move {s t : Nat} {o0 : AObj} {E : Env} {h : AH} (E2 : Env) (h2 : AH) (hg : h.get s = some o0) {c : Code} {Q : AEx → Env → AH → Prop} (W : Mv F.h.next s t E h E2 h2) (hc : AW P nt F c Q E2 h2) : AW P nt F c Q E h :=
  fun r A K a w S T hb => by
    obtain ⟨r2, K2, S2, T2⟩ := W.state hg S T
    exact hc r2 A K2 a w S2 T2 (W.base.trans hb)
theorem AWL.move {s t : Nat} {o0 : AObj} {E : Env} {h : AH} (E2 : Env) (h2 : AH) (hg : h.get s = some o0) {ops l : List Oper} {Q : AEx → Env → AH → Prop} (W : Mv F.h.next s t E h E2 h2) (hc : AWL P nt F ops l Q E2 h2) : AWL P nt F ops l Q E h :=
  fun r A K a w S T hb => by
    obtain ⟨r2, K2, S2, T2⟩ := W.state hg S T
    exact hc r2 A K2 a w S2 T2 (W.base.trans hb)
def RnE (s t : Nat) (E : Env) : Env → Prop
  | [] => True
  | p :: E2 => (∃ u, getL E p.1 = some u ∧ Rn s t u p.2) ∧ RnE s t E E2
def RnH (s t : Nat) (L : Hp) : Hp → Prop
  | [] => True
  | p :: L2 => (∀ o, p.2 = some o → (p.1 < t ∧ ∃ o', getO L p.1 = some o' ∧ RnO s t o' o) ∨ (p.1 = t ∧ getO L s = some o ∧ LowO t o)) ∧ RnH s t L L2
theorem RnE.mem {s t : Nat} {E : Env} : ∀ {E2 : Env}, RnE s t E E2 → ∀ p ∈ E2, ∃ u, getL E p.1 = some u ∧ Rn s t u p.2
  | _ :: _, h, _, hp => by
    rcases List.mem_cons.1 hp with rfl | hp
    · exact h.1
    · exact RnE.mem h.2 _ hp
theorem RnH.mem {s t : Nat} {L : Hp} : ∀ {L2 : Hp}, RnH s t L L2 → ∀ p ∈ L2, ∀ o, p.2 = some o → (p.1 < t ∧ ∃ o', getO L p.1 = some o' ∧ RnO s t o' o) ∨ (p.1 = t ∧ getO L s = some o ∧ LowO t o)
  | _ :: _, h, _, hp => by
    rcases List.mem_cons.1 hp with rfl | hp
    · exact h.1
    · exact RnH.mem h.2 _ hp
theorem Mv.of {n0 s t n : Nat} {E E2 : Env} {L L2 : Hp} (h1 : RnE s t E E2) (h2 : RnH s t L L2) (h3 : n0 ≤ t) (h4 : t ≤ s) (h5 : t + 1 ≤ n) : Mv n0 s t E (hE L n) E2 (hE L2 (t + 1)) := by
  refine ⟨fun d v hv => h1.mem _ (getL_mem hv), fun j o ho => ?_, rfl, h3, h4, h5, rfl, rfl⟩
  rw [hE_get] at ho
  unfold getO at ho
  cases hl : getL L2 j with
  | none => rw [hl] at ho; cases ho
  | some x =>
    rw [hl] at ho
    have hx : x = some o := by simpa using ho
    simp only [hE_get]
    exact h2.mem _ (getL_mem hl) o hx
/-- States that go round, with another number for an object. -/
theorem againM {J : Nat → Env → AH → Prop} {n n0 : Nat} {E : Env} {h : AH} (m : Nat) (E2 : Env) (h2 : AH) (h1 : m < n) (hw : Weak n0 E h E2 h2) (hj : J m E2 h2) : ∃ m E2 h2, m < n ∧ Weak n0 E h E2 h2 ∧ J m E2 h2 := ⟨m, E2, h2, h1, hw, hj⟩
/-- A loop over states that are changed at its head: made weaker, or an object under another number. -/
theorem AW.loopM {c : Code} {Q : AEx → Env → AH → Prop} {E : Env} {h : AH} (J : Nat → Env → AH → Prop) (n : Nat) (E0 : Env) (h0 : AH) (hw : Weak F.h.next E h E0 h0) (hj : J n E0 h0)
    (round : ∀ n E h, J n E h → AW P nt F c (thenQ (fun E h => ∃ m E2 h2, m < n ∧ (Weak F.h.next E h E2 h2 ∨ ∃ s t o, h.get s = some o ∧ Mv F.h.next s t E h E2 h2) ∧ J m E2 h2) Q) E h) : AW P nt F (.loop c) Q E h := by
  refine AW.weak E0 h0 hw ?_
  intro r A K a w S T hb
  refine wp_loop_n (fun n a w => ∃ m E h r A K, m < n ∧ J m E h ∧ StR P A K nt r (tmE E) h a w ∧ At F r A K h w.heap ∧ h.base = 0) (fun a w ⟨m, _, _, _, _, _, hm, _⟩ => by omega) (fun k a w ⟨m, E, h, r, A, K, hm, hJ, S, T, hb⟩ => ?_) (n := n + 1) ⟨n, E0, h0, r, A, K, by omega, hj, S, T, hb⟩
  refine Code.wp_mono (fun e a w he => ?_) (round m E h hJ r A K a w S T hb)
  obtain ⟨x, E, h, r, A, K, h1, h2, h3, h4, h5⟩ := he
  subst h1
  cases x with
  | normal =>
    obtain ⟨m', E2, h2', hm', hw' | ⟨s, t, o, hg, hw'⟩, hJ'⟩ := h2
    · obtain ⟨K2, S2, T2⟩ := hw'.state h3 h4
      exact ⟨m', E2, h2', r, A, K2, by omega, hJ', S2, T2, hw'.base.trans h5⟩
    · obtain ⟨r2, K2, S2, T2⟩ := hw'.state hg h3 h4
      exact ⟨m', E2, h2', r2, A, K2, by omega, hJ', S2, T2, hw'.base.trans h5⟩
  | exit i => exact ⟨.exit i, E, h, r, A, K, rfl, h2, h3, h4, h5⟩
  | ret => exact ⟨.ret, E, h, r, A, K, rfl, h2, h3, h4, h5⟩

/-! Slices: what is built, and append -/
def bsK (sz : Nat) (z : AV) (e : TypeId) (h : AH) (len : Nat) (parts : List (Nat × AV)) : Option (AV × AH) :=
  if len * sz ≤ 16777216 ∧ z.cells.length = sz then
    match fillA (fun i => some (i * sz, sz)) (repCells z.cells len) parts with
    | none => none
    | some cs => some (.slice h.next 0 len (.known len), h.new (.row e cs false))
  else none
def apK (b sz : Nat) (z : AV) (e : TypeId) (h : AH) (s x : AV) : Option (AV × AH) :=
  match lenA s, lenA x with
  | some sl, some n =>
    if b ≤ 65536 ∧ sl + n ≤ 1048576 ∧ z.cells.length = sz then
      match firstA h sz n x with
      | none => none
      | some new => appendTo h e sz n new s
    else none
  | _, _ => none
theorem apK_nil {b sz : Nat} {z : AV} {e e' : TypeId} {h : AH} {q : Nat} {c : Cap} {cells : List AV} {op : Bool} {n : Nat} (hb : b ≤ 65536) (hz : z.cells.length = sz) (hq : h.get q = some (.row e' cells op)) (hc : cells.length = n * sz) (hn : n ≠ 0) (hm : n ≤ 1048576) :
    apK b sz z e h .nilSlice (.slice q 0 n c) = some (.slice h.next 0 n (.rest 0), h.new (.row e cells true)) := by
  simp only [apK, lenA, firstA, rowOf, hq]
  rw [if_pos ⟨hb, by omega, hz⟩, if_pos ⟨Nat.le_refl _, by omega⟩]
  simp only [List.drop_zero, appendTo]
  rw [if_neg hn, List.take_of_length_le (by omega)]
theorem apK_more {b sz : Nat} {z : AV} {e e' : TypeId} {h : AH} {s q m : Nat} {c : Cap} {old cells : List AV} {op : Bool} {n : Nat} (hb : b ≤ 65536) (hz : z.cells.length = sz) (hs : h.get s = some (.row e old true)) (ho : old.length = m * sz) (hq : h.get q = some (.row e' cells op)) (hc : cells.length = n * sz)
    (h1 : cells.all AV.oneB = true) (hm : m + n ≤ 1048576) :
    apK b sz z e h (.slice s 0 m (.rest 0)) (.slice q 0 n c) = some (.slice h.next 0 (m + n) (.rest 0), (h.drop s).new (.row e (old ++ cells) true)) := by
  simp only [apK, lenA, firstA, rowOf, hq]
  rw [if_pos ⟨hb, by omega, hz⟩, if_pos ⟨Nat.le_refl _, by omega⟩]
  simp only [List.drop_zero, appendTo, hs]
  rw [List.take_of_length_le (by omega), if_pos ⟨trivial, ho, h1, hc⟩]
end
end
end Go.Proofs.YtmeianaaiiiinaaGreat.Ev
