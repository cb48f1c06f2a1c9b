/- Regions that draw their order: whole. -/
import Derived.Test.YtmeianaaiiiinaaGreatEvW
namespace Go.Proofs.YtmeianaaiiiinaaGreat.Ev
open Go
set_option linter.unusedVariables false
set_option linter.unusedSimpArgs false
set_option linter.all false

theorem markOne_old (base : Nat) {x : Nat} (l : List Nat) (hx : x ∈ l) : ∀ (d : List Nat), x ∈ (List.rec l (fun id _ ih => mark id base ih) d : List Nat)
  | [] => hx
  | id :: d => mem_mark id base (markOne_old base l hx d)
theorem markOne_new (base : Nat) {x : Nat} (l : List Nat) (hb : x < base) : ∀ (d : List Nat), x ∈ d → x ∈ (List.rec l (fun id _ ih => mark id base ih) d : List Nat)
  | id :: d, h => by
    show x ∈ mark id base (List.rec l (fun id _ ih => mark id base ih) d : List Nat)
    rcases List.mem_cons.1 h with rfl | h
    · exact mark_self _ hb
    · exact mem_mark id base (markOne_new base l hb d h)
theorem markAll_old (base : Nat) {x : Nat} (l : List Nat) (hx : x ∈ l) : ∀ (items : List Item), x ∈ markAll base items l
  | [] => hx
  | it :: items => markOne_old base _ (markAll_old base l hx items) it.R.dirty
theorem markAll_new (base : Nat) {x : Nat} (l : List Nat) (hb : x < base) {it : Item} (hd : x ∈ it.R.dirty) : ∀ (items : List Item), it ∈ items → x ∈ markAll base items l
  | it' :: items, h => by
    show x ∈ (List.rec (markAll base items l) (fun id _ ih => mark id base ih) it'.R.dirty : List Nat)
    rcases List.mem_cons.1 h with rfl | h
    · exact markOne_new base _ hb _ hd
    · exact markOne_old base _ (markAll_new base l hb hd items h) _

theorem pickT_get (tm : TM) : ∀ (l : List Tmp) (t0 : TM) (t : Tmp), (pickT tm l t0).get t = if t ∈ l then tm.get t else t0.get t
  | [], t0, t => by simp [pickT]
  | x :: l, t0, t => by
    show (pickT tm l (t0.put x (tm.get x))).get t = _
    rw [pickT_get tm l, T.get_put]
    by_cases e : t = x
    · subst e; simp
    · simp [e]
theorem operand_pick {ops : Array Oper} {tm : TM} {o : Oper} {x : Operand} (h : x ∈ o.op.operands.toList) : operand tm x = operand (pickT tm (o.looksAt ops) .nil) x := by
  cases x with
  | tmp t =>
    have : t ∈ o.looksAt ops := by
      unfold Oper.looksAt
      exact List.mem_append.2 (.inl (List.mem_filterMap.2 ⟨.tmp t, h, rfl⟩))
    show tm.get t = (pickT tm (o.looksAt ops) .nil).get t
    rw [pickT_get, if_pos this]
  | const v => rfl
  | global g => rfl
  | func f => rfl
theorem guardA_pick {ops : Array Oper} {tm : TM} {o : Oper} {g : Nat} {want : Bool} (h : o.guard = some (g, want)) : guardA ops tm g want = guardA ops (pickT tm (o.looksAt ops) .nil) g want := by
  unfold guardA
  cases hp : ops[g]? with
  | none => rfl
  | some p =>
    simp only
    cases hd : p.dst with
    | none => rfl
    | some d =>
      have : d ∈ o.looksAt ops := by
        unfold Oper.looksAt
        refine List.mem_append.2 (.inr ?_)
        rw [h]
        simp [hp, hd]
      simp only
      rw [pickT_get, if_pos this]

/-- How many are not listed. -/
def unl (n : Nat) (listed : Array Bool) : Nat := ((List.range n).filter fun i => !(listed.getD i false)).length
theorem filter_lt {p q : Nat → Bool} (hpq : ∀ x, q x = true → p x = true) : ∀ (l : List Nat), (∃ x ∈ l, p x = true ∧ q x = false) → (l.filter q).length < (l.filter p).length
  | y :: l, ⟨x, hx, h1, h2⟩ => by
    have le : ∀ l : List Nat, (l.filter q).length ≤ (l.filter p).length := by
      intro l
      induction l with
      | nil => simp
      | cons y l ih =>
        rw [List.filter_cons, List.filter_cons]
        cases hq : q y with
        | true => rw [hpq y hq]; simpa using ih
        | false => cases hp : p y <;> simp <;> omega
    rw [List.filter_cons, List.filter_cons]
    rcases List.mem_cons.1 hx with rfl | hx
    · rw [h1, h2]
      have := le l
      simp
      omega
    · have ih := filter_lt hpq l ⟨x, hx, h1, h2⟩
      cases hq : q y with
      | true => rw [hpq y hq]; simpa using ih
      | false => cases hp : p y <;> simp <;> omega

section
variable {P : Program} {call : CallA} {nt : Nat} {ops : Array Oper} {ms : List Nat} {h0 : AH} {tm0 : TM} {D : Nat → Pt} {W : Nat → Vl} {r0 r : Ren} {A K0 K : Nat → Prop} {H0 : Array Obj} {X : Nat → Prop} {a : Act} {w : World}

theorem draw_go (hcall : CallOk P A call) (R : Run P call nt ops ms h0 tm0 D W) (hK0 : ∀ id, K0 id → id < h0.next) (h0K : ∀ id o, h0.get id = some o → K0 id) (hA : ∀ b, A b → b < H0.size) {Q : Exit → Act → World → Prop}
    (hfin : ∀ X r K a w, (∀ k, k < ops.size → X k) → Dinv P nt ops ms h0 tm0 D W r0 A K0 H0 X r K a w → Q .normal a w) :
    ∀ (fuel : Nat) (listed : Array Bool) (a : Act) (w : World), listed.size = ops.size → unl ops.size listed ≤ fuel → Closed ms (LX listed) → (∃ r K, Dinv P nt ops ms h0 tm0 D W r0 A K0 H0 (LX listed) r K a w) → wpAny P .any ops Q fuel listed a w
  | 0, listed, a, w, hs, hu, hc, ⟨r, K, I⟩ => by
    have hall : ∀ k, k < ops.size → LX listed k := fun k hk => by
      have h0 : (List.range ops.size).filter (fun i => !(listed.getD i false)) = [] := List.eq_nil_of_length_eq_zero (by unfold unl at hu; omega)
      rw [List.filter_eq_nil_iff] at h0
      have := h0 k (List.mem_range.2 hk)
      rw [← getD_true]
      simpa using this
    refine ⟨?_, hfin _ r K a w hall I⟩
    rw [List.eq_nil_iff_forall_not_mem]
    intro i hi
    obtain ⟨h1, ⟨o, ho⟩, _⟩ := ready_pre R.st hc hi
    exact h1 (hall i (Array.getElem?_eq_some_iff.1 ho).1)
  | fuel + 1, listed, a, w, hs, hu, hc, ⟨r, K, I⟩ => by
    refine ⟨fun hr => hfin _ r K a w (ready_nil R.st hs hr) I, fun i hi => ?_⟩
    obtain ⟨hni, ⟨o, ho⟩, hpre⟩ := ready_pre R.st hc hi
    have hin : i < ops.size := (Array.getElem?_eq_some_iff.1 ho).1
    have hset : ∀ k, LX (listed.setIfInBounds i true) k ↔ LX listed k ∨ k = i := LX_set (by omega)
    have next : ∀ (v' : Value) (w' : World), ioW w' = ioW w → Good P r A (lim K (D i).c) (W i).S w.heap [((W i).v, (W i).R)] v' w'.heap → wpAny P .any ops Q fuel (listed.setIfInBounds i true) (a.put o.dst v') w' := by
      intro v' w' hio hg
      obtain ⟨r2, K2, I2⟩ := inv_step R I hc hin hni hpre hK0 h0K hA ho hio hg
      refine draw_go hcall R hK0 h0K hA hfin fuel _ _ w' (by rw [Array.size_setIfInBounds]; exact hs) ?_ ?_ ⟨r2, K2, ?_⟩
      · have : unl ops.size (listed.setIfInBounds i true) < unl ops.size listed := by
          refine filter_lt (fun x hx => ?_) _ ⟨i, List.mem_range.2 hin, ?_, ?_⟩
          · cases h : listed.getD x false with
            | false => rfl
            | true =>
              have := getD_true.2 ((hset x).2 (.inl (getD_true.1 h)))
              rw [this] at hx; cases hx
          · cases h : listed.getD i false with
            | false => rfl
            | true => exact absurd (getD_true.1 h) hni
          · rw [getD_true.2 ((hset i).2 (.inr rfl))]; rfl
        omega
      · intro j hj k hk
        rw [hset] at hj ⊢
        rcases hj with hj | hj
        · exact .inl (hc j hj k hk)
        · subst hj; exact .inl (hpre k hk)
      · have e : LX (listed.setIfInBounds i true) = fun k => LX listed k ∨ k = i := funext fun k => propext (hset k)
        rw [e]
        exact I2
    have RS := rel_given R I hc hin hni hpre hK0 h0K hA
    have TS := tms_given R I hc hin hni hpre ho
    have S : StR P A (lim K (D i).c) nt r (pickT (D i).tm (o.looksAt ops) .nil) (W i).S a w := ⟨RS, TS, I.size, I.defers, I.io⟩
    unfold wpOp
    rw [ho]
    simp only
    rcases (R.step i o ho).run with ⟨hg, hrun⟩ | ⟨⟨g, want, hg, hgf⟩, hv, hR, _⟩
    · have hw : Region.wanted o (yielded ops a.tmps) = true := by
        unfold Region.wanted
        cases hgd : o.guard with
        | none => rfl
        | some gw =>
          obtain ⟨g, want⟩ := gw
          have := hg g want hgd
          rw [guardA_pick hgd] at this
          exact guardA_ok S this
      rw [if_pos hw]
      refine .inl ?_
      rw [opC_congr (tm' := pickT (D i).tm (o.looksAt ops) .nil) (fun x hx => operand_pick hx)] at hrun
      exact opC_ok hcall w I.io RS TS o hrun _ Q (fun v' w' hio hgood => next v' w' hio hgood)
    · have hw : Region.wanted o (yielded ops a.tmps) = false := by
        unfold Region.wanted
        rw [hg]
        rw [guardA_pick hg] at hgf
        exact guardA_ok S hgf
      rw [if_neg (by rw [hw]; simp)]
      refine next _ w rfl ?_
      rw [hv, hR]
      exact ⟨_, _, r, _, List.mem_singleton.2 rfl, RS, Ext.refl _ _ _ _ _, .undef⟩

theorem inv_end (R : Run P call nt ops ms h0 tm0 D W) (hK0 : ∀ id, K0 id → id < h0.next) (h0K : ∀ id o, h0.get id = some o → K0 id) (hA : ∀ b, A b → b < H0.size) (hall : ∀ k, k < ops.size → X k)
    (I : Dinv P nt ops ms h0 tm0 D W r0 A K0 H0 X r K a w) : StR P A K nt r (D ops.size).tm ⟨(D ops.size).cur, (D ops.size).c, h0.base, markAll h0.base (D ops.size).items h0.dirty⟩ a w ∧
      Ext r0 A K0 h0 H0 r A K ⟨(D ops.size).cur, (D ops.size).c, h0.base, markAll h0.base (D ops.size).items h0.dirty⟩ w.heap := by
  generalize hF : (⟨(D ops.size).cur, (D ops.size).c, h0.base, markAll h0.base (D ops.size).items h0.dirty⟩ : AH) = F
  have hget : ∀ id, F.get id = (objN h0 D W X id ops.size).2 := fun id => by
    have h1 := R.cur_at id ops.size (Nat.le_refl _) (fun m hm _ => I.left m hm (hall m hm))
    rw [objN_congr (X := X) (Y := fun _ => True) _ (fun k hk _ => ⟨fun _ => trivial, fun _ => hall k hk⟩), ← h1, ← hF]
    rfl
  have hnext : F.next = (D ops.size).c := by rw [← hF]
  have hbase : F.base = h0.base := by rw [← hF]
  have hdirty : F.dirty = markAll h0.base (D ops.size).items h0.dirty := by rw [← hF]
  have hobs : ∀ id x, F.get id = some x → ∃ p, objN h0 D W X id ops.size = (p, some x) := fun id x h => ⟨_, by rw [← h, hget]⟩
  have hkn : ∀ id, K id → id < F.next := fun id h => by
    rw [hnext]
    rcases I.kLt id h with h | ⟨m, hm, _, _, h2⟩
    · have h1 := hK0 id h
      have := R.c0 (k := ops.size) (Nat.le_refl _)
      omega
    · have := R.nextLe hm (Nat.le_refl _)
      omega
  refine ⟨⟨⟨fun id x h => ?_, fun id x h => ?_, fun id id' x x' h h' e => ?_, fun b hb => Nat.lt_of_lt_of_le (hA b hb) I.hsize, hkn⟩, fun t v h => ?_, I.size, I.defers, I.io⟩, ⟨?_, I.k0, fun id h => ?_, I.ren, I.hsize, fun _ h => h, I.keep, fun id x h hb => ?_, hbase, fun id h => ?_, fun id hk hb hd => ?_, fun id x h => ?_, I.rio⟩⟩
  · obtain ⟨p, h1⟩ := hobs id x h
    obtain ⟨g1, g2, g3, g4, _⟩ := I.obs id p x h1
    exact ⟨g1, g3, g4⟩
  · obtain ⟨p, h1⟩ := hobs id x h
    obtain ⟨g1, g2, g3, g4, y, g5, g6⟩ := I.obs id p x h1
    exact ⟨y, g5, g6.ext ⟨g1, g2⟩ (fun id h => h.1) (fun _ _ => ⟨rfl, rfl⟩) (fun _ h => h) (fun _ _ => rfl)⟩
  · rw [hget] at h h'
    exact I.inj id id' x x' h h' e
  · rw [R.tm_at t ops.size (Nat.le_refl _)] at h
    rw [valN_congr (X := fun _ => True) (Y := X) _ (fun k hk _ => ⟨fun _ => hall k hk, fun _ => trivial⟩)] at h
    obtain ⟨x, h1, h2⟩ := I.tms t _ v (by rw [← h])
    exact ⟨x, h1, h2.ext (fun id h => h.1) (fun _ _ => ⟨rfl, rfl⟩) (fun _ h => h) (fun _ _ => rfl)⟩
  · rw [hnext]; exact R.c0 (Nat.le_refl _)
  · rcases I.kLt id h with h | ⟨m, hm, _, h1, _⟩
    · exact .inl h
    · have := R.c0 (k := m) (by omega)
      exact .inr (by omega)
  · rw [hget] at h
    exact I.own id x h hb
  · rw [hdirty]; exact markAll_old _ _ h _
  · have hnt : ∀ k, k < ops.size → X k → tch D W k id = false := fun k hkk _ => by
      cases ht : tch D W k id with
      | false => rfl
      | true =>
        rcases (tch_iff k id).1 ht with h1 | ⟨h1, _⟩
        · have h2 := hK0 id hk
          have := R.c0 (k := k) (by omega)
          omega
        · rcases R.mem_item _ (Nat.le_refl _) k hkk with h2 | h2
          · have : id ∈ F.dirty := by rw [hdirty]; exact markAll_new _ _ hb (it := itemOf D W k) h1 _ h2
            exact absurd this hd
          · rw [(quiet h2 id).1] at ht; cases ht
    refine ⟨by rw [hget, objN_none _ hnt], fun x hx => I.same id x hx hnt⟩
  · rw [hget] at h
    rcases objN_cases (D := D) (W := W) (X := X) (id := id) ops.size with h1 | ⟨m, h1, h2, h3, _⟩
    · rw [objN_none _ h1] at h
      exact .inl ⟨x, h⟩
    · rcases (tch_iff m id).1 h3 with h4 | ⟨_, h4⟩
      · have := R.c0 (k := m) (by omega)
        exact .inr (by omega)
      · cases hS : (W m).S.get id with
        | none => rw [hS] at h4; cases h4
        | some y =>
          rcases I.sn m h1 h2 id y hS with h5 | ⟨m', h5, h6, _⟩
          · exact .inl h5
          · obtain ⟨om, hom⟩ := op_at h1
            have := R.st.lt m om hom m' h5
            have := R.c0 (k := m') (by omega)
            exact .inr (by omega)

theorem evDraw_ok (hcall : CallOk P A call) (hm : P.follows .mixedOrders = true) {id : Nat} {tm : TM} {h : AH} {outs : List St} (he : (evDraw P call nt ops).run tm h = some outs) (S : StR P A K nt r tm h a w) {Q : Exit → Act → World → Prop}
    (hq : ∀ s ∈ outs, ∀ r' K' a' w', StR P A K' nt r' s.1 s.2 a' w' → Ext r A K h w.heap r' A K' s.2 w'.heap → Q .normal a' w') : (Code.region id ops true).wp P Q a w := by
  refine wp_region_any hm ?_
  unfold evDraw at he
  cases hst : statB ops (masksOf ops) with
  | false => rw [hst] at he; cases he
  | true =>
    rw [hst] at he
    simp only at he
    obtain ⟨D, W, h1, h2, h3⟩ := drawGo_some ops.toList 0 ⟨tm, h.objs, [], h.next⟩ he
    simp only [Nat.zero_add, Array.length_toList] at h2 h3
    cases hd : dynB (masksOf ops) (D ops.size).items with
    | false => rw [hd] at h3; cases h3
    | true =>
      rw [hd] at h3
      simp only [AH.force_eq] at h3
      have R : Run P call nt ops (masksOf ops) h tm D W := ⟨statB_ok hst, h1, fun j o ho => h2 j o (by simpa using ho), hd⟩
      have S' : StR P A K nt r tm h a { w with drawn := w.drawn + 1 } := ⟨S.rel, S.tms, S.size, S.defers, S.io⟩
      refine draw_go hcall R S.rel.kn (fun id o h => (S.rel.lt id o h).1) S.rel.old ?_ ops.size _ a _ (by simp) ?_ ?_ ⟨r, K, ?_⟩ (r0 := r) (K0 := K) (H0 := w.heap)
      · intro X r' K' a' w' hall I
        obtain ⟨h4, h5⟩ := inv_end R S.rel.kn (fun id o h => (S.rel.lt id o h).1) S.rel.old hall I
        have : outs = [((D ops.size).tm, ⟨(D ops.size).cur, (D ops.size).c, h.base, markAll h.base (D ops.size).items h.dirty⟩)] := by
          unfold one at h3
          exact (Option.some.inj h3).symm
        exact hq _ (by rw [this]; exact List.mem_singleton.2 rfl) r' K' a' w' h4 h5
      · unfold unl
        exact Nat.le_trans (List.length_filter_le _ _) (by simp)
      · intro j hj
        have : ¬ LX (Array.replicate ops.size false) j := by
          unfold LX
          rw [Array.getElem?_replicate]
          split <;> simp
        exact absurd hj this
      · have e : LX (Array.replicate ops.size false) = fun _ => False := funext fun j => propext ⟨fun h => by
          unfold LX at h
          rw [Array.getElem?_replicate] at h
          split at h <;> simp at h, fun h => h.elim⟩
        rw [e]
        exact inv_start R S'
end
end Go.Proofs.YtmeianaaiiiinaaGreat.Ev
