/- Regions that draw their order: one operation more. -/
import Derived.Test.YtmeianaaiiiinaaGreatEvV
namespace Go.Proofs.YtmeianaaiiiinaaGreat.Ev
open Go
set_option linter.unusedVariables false
set_option linter.unusedSimpArgs false
set_option linter.all false

/-- The numbers of an operation's own mean what it says; the others what they meant. -/
def Ren.join (r r' : Ren) (c n : Nat) : Ren := ⟨fun id => if c ≤ id ∧ id < n then r'.blk id else r.blk id, fun id => if c ≤ id ∧ id < n then r'.cap id else r.cap id, r.io⟩
section
variable {P : Program} {call : CallA} {nt : Nat} {ops : Array Oper} {ms : List Nat} {h0 : AH} {tm0 : TM} {D : Nat → Pt} {W : Nat → Vl} {r0 r : Ren} {A K0 K : Nat → Prop} {H0 : Array Obj} {X : Nat → Prop} {a : Act} {w : World}

theorem inv_step (R : Run P call nt ops ms h0 tm0 D W) (I : Dinv P nt ops ms h0 tm0 D W r0 A K0 H0 X r K a w) (hc : Closed ms X) {i : Nat} (hi : i < ops.size) (hni : ¬ X i) (hpre : ∀ k, preB ms i k = true → X k)
    (hK0 : ∀ id, K0 id → id < h0.next) (h0K : ∀ id o, h0.get id = some o → K0 id) (hA : ∀ b, A b → b < H0.size)
    {o : Oper} (ho : ops[i]? = some o) {v' : Value} {w' : World} (hio : ioW w' = ioW w) (hg : Good P r A (lim K (D i).c) (W i).S w.heap [((W i).v, (W i).R)] v' w'.heap) :
    ∃ r'' K'', Dinv P nt ops ms h0 tm0 D W r0 A K0 H0 (fun k => X k ∨ k = i) r'' K'' (a.put o.dst v') w' := by
  have RS := rel_given R I hc hi hni hpre hK0 h0K hA
  have hk0 : ∀ id o, h0.get id = some o → id < h0.next := fun id o h => hK0 id (h0K id o h)
  have SO := R.step i o ho
  obtain ⟨v, h1, r', K', hm, R', E, hv⟩ := hg
  obtain ⟨rfl, rfl⟩ := Prod.mk.inj (List.mem_singleton.1 hm)
  have hsnext := SO.snext
  have hsbase := SO.sbase
  -- numbers
  have f1 : ∀ id, K' id → (K id ∧ id < (D i).c) ∨ (D i).c ≤ id := fun id h => by
    rcases E.knew id h with h | h
    · exact .inl h
    · rw [hsnext] at h; exact .inr h
  have f1' : ∀ id, K' id → id < (W i).R.next := fun id h => R'.kn id h
  have f2 : ∀ id, K id → ¬ ((D i).c ≤ id ∧ id < (W i).R.next) := fun id h hr => by
    rcases I.kLt id h with h | ⟨m, hm, hx, h1, h2⟩
    · have h1 := hK0 id h
      have := R.c0 (k := i) (by omega)
      omega
    · have := R.apart hm hi h1 h2 hr.1 hr.2
      exact hni (this ▸ hx)
  generalize hr'' : Ren.join r r' (D i).c (W i).R.next = r''
  have f3 : ∀ id, K id → r''.blk id = r.blk id ∧ r''.cap id = r.cap id := fun id h => by
    subst hr''
    unfold Ren.join
    simp only
    rw [if_neg (f2 id h), if_neg (f2 id h)]
    exact ⟨rfl, rfl⟩
  have f4 : ∀ id, K' id → r''.blk id = r'.blk id ∧ r''.cap id = r'.cap id := fun id h => by
    rcases f1 id h with h1 | h1
    · have h2 := f3 id h1.1
      have h3 := E.ren id h1
      exact ⟨h2.1.trans h3.1.symm, h2.2.trans h3.2.symm⟩
    · subst hr''
      unfold Ren.join
      simp only
      rw [if_pos ⟨h1, f1' id h⟩, if_pos ⟨h1, f1' id h⟩]
      exact ⟨rfl, rfl⟩
  have f5 : ∀ b, A b → w'.heap[b]? = w.heap[b]? := E.hH RS
  generalize hK'' : (fun id => K id ∨ K' id) = K''
  have kl : ∀ id, K id → K'' id := fun id h => hK'' ▸ .inl h
  have kr : ∀ id, K' id → K'' id := fun id h => hK'' ▸ .inr h
  have f6 : ∀ {p : Nat} {x : AV} {y : Value}, V w.heap r (lim K p) A x y → V w'.heap r'' (lim K'' p) A x y := fun h => h.ext (fun id h => ⟨kl id h.1, h.2⟩) (fun id h => f3 id h.1) (fun _ h => h) f5
  -- what is touched
  have later : ∀ id, tch D W i id = true → ∀ k, k < ops.size → i < k → X k → tch D W k id = false := fun id ht k hk hik hxk => by
    have hp : preB ms i k = false := by
      cases h : preB ms i k with
      | false => rfl
      | true => have := R.st.lt i o ho k h; omega
    cases htk : tch D W k id with
    | false => rfl
    | true =>
      obtain ⟨c1, c2, c3⟩ := free_cmp R hc hk hni hxk hp
      rcases (tch_iff i id).1 ht with h1 | ⟨h1, h2⟩
      · rcases (tch_iff k id).1 htk with h3 | ⟨h3, h4⟩
        · exact absurd (R.apart hi hk h1.1 h1.2 h3.1 h3.2) c3
        · cases hS : (W k).S.get id with
          | none => rw [hS] at h4; cases h4
          | some y =>
            rcases I.sn k hk hxk id y hS with ⟨q, h5⟩ | ⟨m, h5, h6⟩
            · have h7 := hk0 id q h5
              have := R.c0 (k := i) (by omega)
              omega
            · obtain ⟨ok, hok⟩ := op_at hk
              have := R.st.lt k ok hok m h5
              have e := R.apart (by omega) hi h6.1 h6.2 h1.1 h1.2
              exact absurd (hc k hxk m h5) (e ▸ hni)
      · cases hS : (W i).S.get id with
        | none => rw [hS] at h2; cases h2
        | some y =>
          rw [given_free R I hc hi hni hpre hk0 hS hk hxk hp] at htk
          cases htk
  have oYes : ∀ id, tch D W i id = true → objN h0 D W (fun k => X k ∨ k = i) id ops.size = ((W i).R.next, (W i).R.get id) := fun id ht =>
    objN_last hi (.inr rfl) ht (fun k h1 h2 h3 => by
      rcases h3 with h3 | h3
      · exact later id ht k h2 h1 h3
      · omega)
  have oNo : ∀ id, tch D W i id = false → objN h0 D W (fun k => X k ∨ k = i) id ops.size = objN h0 D W X id ops.size := fun id ht =>
    objN_congr _ (fun k hk htk => ⟨fun h => (by
      rcases h with h | h
      · exact h
      · rw [h, ht] at htk; cases htk), .inl⟩)
  -- what is not touched stands as it stood
  have f9 : ∀ id x, (objN h0 D W X id ops.size).2 = some x → tch D W i id = false → w'.heap[r.blk id]? = w.heap[r.blk id]? := fun id x hx ht => by
    obtain ⟨q1, q2, q3, q4, _⟩ := I.obs id _ x (by rw [← hx])
    cases hS : (W i).S.get id with
    | some y =>
      have hk := (RS.lt id y hS).1
      have hd : id ∉ (W i).R.dirty := fun hd => by
        have : tch D W i id = true := (tch_iff i id).2 (.inr ⟨hd, by rw [hS]; rfl⟩)
        rw [ht] at this; cases this
      exact (E.stay id hk (by rw [hsbase]; exact hk.2) hd).2 y hS
    | none =>
      refine E.keep _ q3 (fun id' y hy e => ?_)
      obtain ⟨p, g1, _⟩ := given_now R I hc hi hni hpre hk0 hy
      have := I.inj id' id y x (by rw [g1]) hx e
      rw [this, hS] at hy
      cases hy
  have hleft : Left D W i := fun id ht => by
    have hnd : ∀ y, (W i).S.get id = some y → id ∉ (W i).R.dirty := fun y hS hd => by
      have : tch D W i id = true := (tch_iff i id).2 (.inr ⟨hd, by rw [hS]; rfl⟩)
      rw [ht] at this; cases this
    cases hS : (W i).S.get id with
    | some y =>
      have hk := (RS.lt id y hS).1
      rw [← hS]
      exact (E.stay id hk (by rw [hsbase]; exact hk.2) (hnd y hS)).1
    | none =>
      cases hR : (W i).R.get id with
      | none => rfl
      | some y =>
        rcases E.back id y hR with ⟨z, h⟩ | h
        · rw [hS] at h; cases h
        · have h2 := f1' id (R'.lt id y hR).1
          rw [hsnext] at h
          have : tch D W i id = true := (tch_iff i id).2 (.inl ⟨h, h2⟩)
          rw [ht] at this; cases this
  refine ⟨r'', K'', ⟨?_, (by cases o.dst <;> exact I.defers), fun id h => ?_, fun id h => kl id (I.k0 id h), fun id h => ?_, Nat.le_trans I.hsize E.size, fun t p x h => ?_, fun id p x h => ?_, fun id id' x x' h h' e => ?_, fun b hb hnb => ?_, fun id x h hb => ?_, fun id x h hnt => ?_, fun m hm hx => ?_, fun j hj hx => ?_, ?_, ?_⟩⟩
  · have : (a.put o.dst v').tmps.size = a.tmps.size := by cases o.dst <;> simp [Act.put]
    rw [this]; exact I.size
  · rw [← hK''] at h
    rcases h with h | h
    · rcases I.kLt id h with h | ⟨m, h1, h2, h3⟩
      · exact .inl h
      · exact .inr ⟨m, h1, .inl h2, h3⟩
    · rcases f1 id h with h1 | h1
      · rcases I.kLt id h1.1 with h | ⟨m, h1, h2, h3⟩
        · exact .inl h
        · exact .inr ⟨m, h1, .inl h2, h3⟩
      · exact .inr ⟨i, hi, .inr rfl, h1, f1' id h⟩
  · have h1 := f3 id (I.k0 id h)
    have h2 := I.ren id h
    exact ⟨h1.1.trans h2.1, h1.2.trans h2.2⟩
  · -- temporaries
    by_cases hd : o.dst = some t
    · have hdi : (ops[i]?).bind (·.dst) = some t := by rw [ho]; exact hd
      rw [valN_last hi (.inr rfl) hdi (fun k h1 h2 h3 hdk => by
        rcases h3 with h3 | h3
        · have hp : preB ms i k = false := by
            cases h : preB ms i k with
            | false => rfl
            | true => have := R.st.lt i o ho k h; omega
          obtain ⟨c1, c2, c3⟩ := free_cmp R hc h2 hni h3 hp
          obtain ⟨ok, hok⟩ := op_at h2
          rw [hok] at hdk
          exact (R.st.apart k i o ok ho hok (fun e => c3 e.symm) c2 t hdk).2 hd
        · omega)] at h
      obtain ⟨e1, e2⟩ := Prod.mk.inj h
      subst e1
      cases e2
      refine ⟨v', ?_, hv.ext (fun id h => ⟨kr id h, f1' id h⟩) f4 (fun _ h => h) (fun _ _ => rfl)⟩
      rw [hd]
      have ht : t < a.tmps.size := by
        rcases SO.tm with ⟨h1, _⟩ | ⟨t', h1, h2, _⟩
        · rw [hd] at h1; cases h1
        · rw [hd] at h1; cases h1; rw [I.size]; exact h2
      show (a.tmps.setIfInBounds t v')[t]? = some v'
      rw [Array.getElem?_setIfInBounds_self_of_lt ht]
    · rw [valN_congr (Y := X) _ (fun k hk hdk => ⟨fun h => (by
        rcases h with h | h
        · exact h
        · rw [h, ho] at hdk; exact absurd hdk hd), .inl⟩)] at h
      obtain ⟨y, h1, h2⟩ := I.tms t p x h
      refine ⟨y, ?_, f6 h2⟩
      cases hdst : o.dst with
      | none => exact h1
      | some t' =>
        show (a.tmps.setIfInBounds t' v')[t]? = some y
        rw [Array.getElem?_setIfInBounds_ne (fun e => hd (by rw [hdst, e]))]
        exact h1
  · -- objects
    cases ht : tch D W i id with
    | true =>
      rw [oYes id ht] at h
      obtain ⟨e1, e2⟩ := Prod.mk.inj h
      subst e1
      obtain ⟨g1, g2, g3⟩ := R'.lt id x e2
      obtain ⟨y, g4, g5⟩ := R'.ob id x e2
      rw [(f4 id g1).1]
      exact ⟨kr id g1, f1' id g1, g2, g3, y, g4, g5.ext g1 (fun id h => ⟨kr id h, f1' id h⟩) f4 (fun _ h => h) (fun _ _ => rfl)⟩
    | false =>
      rw [oNo id ht] at h
      obtain ⟨g1, g2, g3, g4, y, g5, g6⟩ := I.obs id p x h
      rw [(f3 id g1).1]
      refine ⟨kl id g1, g2, Nat.lt_of_lt_of_le g3 E.size, g4, y, ?_, g6.ext ⟨g1, g2⟩ (fun id h => ⟨kl id h.1, h.2⟩) (fun id h => f3 id h.1) (fun _ h => h) f5⟩
      rw [f9 id x (by rw [h]) ht]
      exact g5
  · -- no two in one place
    have mixed : ∀ id id' x x', tch D W i id = true → tch D W i id' = false → (W i).R.get id = some x → (objN h0 D W X id' ops.size).2 = some x' → r''.blk id = r''.blk id' → id = id' := by
      intro id id' x x' ht ht' hx hx' e
      obtain ⟨g1, g2, g3⟩ := R'.lt id x hx
      obtain ⟨q1, q2, q3, q4, _⟩ := I.obs id' _ x' (by rw [← hx'])
      rw [(f4 id g1).1, (f3 id' q1).1] at e
      obtain ⟨id1, y, h1, h2⟩ := E.own id x hx (by rw [e]; exact q3)
      obtain ⟨p, h3, _⟩ := given_now R I hc hi hni hpre hk0 h1
      have e1 : id1 = id' := I.inj id1 id' y x' (by rw [h3]) hx' (h2.trans e)
      subst e1
      have hR : (W i).R.get id1 = some y := by rw [hleft id1 ht', h1]
      have hk1 := (R'.lt id1 y hR).1
      refine R'.inj id id1 x y hx hR ?_
      rw [e, ← (f4 id1 hk1).1, (f3 id1 q1).1]
    cases ht : tch D W i id with
    | true =>
      rw [oYes id ht] at h
      cases ht' : tch D W i id' with
      | true =>
        rw [oYes id' ht'] at h'
        have g1 := (R'.lt id x h).1
        have g1' := (R'.lt id' x' h').1
        rw [(f4 id g1).1, (f4 id' g1').1] at e
        exact R'.inj id id' x x' h h' e
      | false =>
        rw [oNo id' ht'] at h'
        exact mixed id id' x x' ht ht' h h' e
    | false =>
      rw [oNo id ht] at h
      cases ht' : tch D W i id' with
      | true =>
        rw [oYes id' ht'] at h'
        exact (mixed id' id x' x ht' ht h' h e.symm).symm
      | false =>
        rw [oNo id' ht'] at h'
        have g1 := (I.obs id _ x (by rw [← h])).1
        have g1' := (I.obs id' _ x' (by rw [← h'])).1
        rw [(f3 id g1).1, (f3 id' g1').1] at e
        exact I.inj id id' x x' h h' e
  · rw [E.keep b (Nat.lt_of_lt_of_le hb I.hsize) (fun id y hy e => ?_), I.keep b hb hnb]
    obtain ⟨p, h1, _⟩ := given_now R I hc hi hni hpre hk0 hy
    obtain ⟨id', o', h2, h3⟩ := I.own id y (by rw [h1]) (by rw [e]; exact hb)
    exact hnb id' o' h2 (h3.trans e)
  · cases ht : tch D W i id with
    | true =>
      rw [oYes id ht] at h
      have g1 := (R'.lt id x h).1
      rw [(f4 id g1).1] at hb ⊢
      obtain ⟨id1, y, h1, h2⟩ := E.own id x h (Nat.lt_of_lt_of_le hb I.hsize)
      obtain ⟨p, h3, _⟩ := given_now R I hc hi hni hpre hk0 h1
      obtain ⟨id', o', h4, h5⟩ := I.own id1 y (by rw [h3]) (by rw [h2]; exact hb)
      exact ⟨id', o', h4, h5.trans h2⟩
    | false =>
      rw [oNo id ht] at h
      have g1 := (I.obs id _ x (by rw [← h])).1
      rw [(f3 id g1).1] at hb ⊢
      exact I.own id x h hb
  · have hnX : ∀ k, k < ops.size → X k → tch D W k id = false := fun k hk hx => hnt k hk (.inl hx)
    rw [← I.same id x h hnX, ← (I.ren id (h0K id x h)).1]
    exact f9 id x (by rw [objN_none _ hnX]; exact h) (hnt i hi (.inr rfl))
  · rcases hx with hx | hx
    · exact I.left m hm hx
    · rw [hx]; exact hleft
  · rcases hx with hx | hx
    · exact I.sn j hj hx
    · subst hx
      exact fun id y hy => sn_at R I hc hi hni hpre hy
  · subst hr''; exact I.rio
  · subst hr''; exact hio.trans I.io
end
end Go.Proofs.YtmeianaaiiiinaaGreat.Ev
