/- Whole texts, and whole functions. -/
import Derived.Test.YtmeianaaiiiinaaGreatEvX
import Derived.Scope
import Derived.Tactics
namespace Go.Proofs.YtmeianaaiiiinaaGreat.Ev
open Go
set_option linter.unusedVariables false
set_option linter.unusedSimpArgs false
set_option linter.all false

/-- A loop whose passes are counted. -/
theorem wp_loop_n {P : Program} {Q : Exit → Act → World → Prop} {c : Code} (J : Nat → Act → World → Prop) (zero : ∀ a w, ¬ J 0 a w) (round : ∀ n a w, J (n + 1) a w → c.wp P (Exit.then (J n) Q) a w) {n : Nat} {a : Act} {w : World} (h₀ : J n a w) : (Code.loop c).wp P Q a w := by
  intro b k cs
  have key : ∀ n a w, J n a w → ∃ e a' w', Q e a' w' ∧ Arrives P (lone (b.at a (.code c :: .inLoop c :: k)) cs w) b k cs e a' w' := by
    intro n
    induction n with
    | zero => intro a w h; exact absurd h (zero a w)
    | succ n ih =>
      intro a w hI
      obtain ⟨e, a₁, w₁, hq, harr⟩ := round n a w hI b (.inLoop c :: k) cs
      cases e with
      | normal =>
        obtain ⟨e₂, a₂, w₂, hq₂, harr₂⟩ := ih a₁ w₁ hq
        exact ⟨e₂, a₂, w₂, hq₂, .of_steps (Steps.trans harr (.one step_inLoop)) harr₂⟩
      | exit id => exact ⟨_, a₁, w₁, hq, .pass (x := .inLoop c) rfl (fun _ _ => .inl (by simp)) harr⟩
      | goto l => exact ⟨_, a₁, w₁, hq, .pass (x := .inLoop c) rfl (fun _ _ => .inl (by simp)) harr⟩
      | ret => exact ⟨_, a₁, w₁, hq, .pass (x := .inLoop c) rfl (fun _ _ => .inl (by simp)) harr⟩
      | panic ch => exact ⟨_, a₁, w₁, hq, .pass (x := .inLoop c) rfl (fun _ _ => .inl (by simp)) harr⟩
      | outgrown => exact ⟨_, a₁, w₁, hq, .pass (x := .inLoop c) rfl (fun _ _ => .inl (by simp)) harr⟩
  obtain ⟨e, a', w', hq, harr⟩ := key n a w h₀
  exact ⟨e, a', w', hq, .of_steps (.one step_loop) harr⟩

def exitOf : AEx → Exit
  | .normal => .normal
  | .exit i => .exit i
  | .ret => .ret

section
variable {P : Program} {call : CallA} {nt : Nat} {A : Nat → Prop}
/-- A text is right: where it comes to something, that is what a run comes to. -/
def EvOk (P : Program) (call : CallA) (nt : Nat) (A : Nat → Prop) (c : Code) : Prop :=
  ∀ (tm : TM) (h : AH) (r : Ren) (K : Nat → Prop) (a : Act) (w : World) (outs : List (AEx × St)) (Q : Exit → Act → World → Prop), (ev P call nt c).run tm h = some outs → StR P A K nt r tm h a w →
    (∀ s ∈ outs, ∀ r' K' a' w', StR P A K' nt r' s.2.1 s.2.2 a' w' → Ext r A K h w.heap r' A K' s.2.2 w'.heap → Q (exitOf s.1) a' w') → c.wp P Q a w

theorem one_some {α : Type} {a : α} {l : List α} (h : one a = some l) : l = [a] := by
  unfold one at h
  exact (Option.some.inj h).symm

theorem loop_ok {c : Code} (ih : EvOk P call nt A c) {Q : Exit → Act → World → Prop} {n : Nat} {tm : TM} {h : AH} {r : Ren} {K : Nat → Prop} {a : Act} {w : World} {outs : List (AEx × St)}
    (he : loopN (ev P call nt c) n tm h = some outs) (S : StR P A K nt r tm h a w) (hq : ∀ s ∈ outs, ∀ r' K' a' w', StR P A K' nt r' s.2.1 s.2.2 a' w' → Ext r A K h w.heap r' A K' s.2.2 w'.heap → Q (exitOf s.1) a' w') : (Code.loop c).wp P Q a w := by
  refine wp_loop_n (fun n a w => ∃ tm h r K outs, loopN (ev P call nt c) n tm h = some outs ∧ StR P A K nt r tm h a w ∧ (∀ s ∈ outs, ∀ r' K' a' w', StR P A K' nt r' s.2.1 s.2.2 a' w' → Ext r A K h w.heap r' A K' s.2.2 w'.heap → Q (exitOf s.1) a' w'))
    (fun a w ⟨tm, h, r, K, outs, he, _⟩ => by cases he) (fun n a w ⟨tm, h, r, K, outs, he, S, hq⟩ => ?_) (n := n) ⟨tm, h, r, K, outs, he, S, hq⟩
  have he' : bindO ((ev P call nt c).run tm h) (fun x => match x.1 with
    | .normal => loopN (ev P call nt c) n x.2.1 x.2.2
    | e => one (e, x.2.1, x.2.2)) = some outs := he
  obtain ⟨l, h1, h2⟩ := bindO_some he'
  refine ih tm h r K a w l _ h1 S (fun s hs r' K' a' w' S' E => ?_)
  obtain ⟨k, hk, hsub⟩ := h2 s hs
  obtain ⟨e, tm', h'⟩ := s
  cases e with
  | normal => exact ⟨tm', h', r', K', k, hk, S', fun s hs r2 K2 a2 w2 S2 E2 => hq s (hsub s hs) r2 K2 a2 w2 S2 (E.trans E2)⟩
  | exit i =>
    have := one_some hk
    exact hq (.exit i, tm', h') (hsub _ (by rw [this]; exact List.mem_singleton.2 rfl)) r' K' a' w' S' E
  | ret =>
    have := one_some hk
    exact hq (.ret, tm', h') (hsub _ (by rw [this]; exact List.mem_singleton.2 rfl)) r' K' a' w' S' E

theorem ev_loop (c : Code) : ev P call nt (.loop c) = ⟨loopN (ev P call nt c) 1000000⟩ := rfl
theorem ev_ok (hcall : CallOk P A call) (hm : P.follows .mixedOrders = true) : ∀ (c : Code), EvOk P call nt A c := by
  intro c
  induction c with
  | skip =>
    intro tm h r K a w outs Q he S hq
    have := one_some he
    exact wp_skip (hq (.normal, tm, h) (by rw [this]; exact List.mem_singleton.2 rfl) r K a w S (Ext.refl _ _ _ _ _))
  | region id ops draw =>
    intro tm h r K a w outs Q he S hq
    cases draw with
    | false =>
      have he' : bindO ((evOps P call nt ops ops.toList).run tm h) (fun x => one (AEx.normal, x.1, x.2)) = some outs := he
      obtain ⟨l, h1, h2⟩ := bindO_some he'
      refine wp_region ?_
      rw [List.range_eq_range']
      have := evOps_ok (Q := Q) hcall ops.toList 0 (by simp) tm h r K a w l h1 S (fun s hs r' K' a' w' S' E => by
        obtain ⟨k, hk, hsub⟩ := h2 s hs
        have e := one_some hk
        exact hq (.normal, s.1, s.2) (hsub _ (by rw [e]; exact List.mem_singleton.2 rfl)) r' K' a' w' S' E)
      simpa using this
    | true =>
      have he' : bindO ((evDraw P call nt ops).run tm h) (fun x => one (AEx.normal, x.1, x.2)) = some outs := he
      obtain ⟨l, h1, h2⟩ := bindO_some he'
      exact evDraw_ok hcall hm h1 S (fun s hs r' K' a' w' S' E => by
        obtain ⟨k, hk, hsub⟩ := h2 s hs
        have e := one_some hk
        exact hq (.normal, s.1, s.2) (hsub _ (by rw [e]; exact List.mem_singleton.2 rfl)) r' K' a' w' S' E)
  | seq x y ihx ihy =>
    intro tm h r K a w outs Q he S hq
    have he' : bindO ((ev P call nt x).run tm h) (fun s => match s.1 with
      | .normal => (ev P call nt y).run s.2.1 s.2.2
      | e => one (e, s.2.1, s.2.2)) = some outs := he
    obtain ⟨l, h1, h2⟩ := bindO_some he'
    refine wp_seq (ihx tm h r K a w l _ h1 S (fun s hs r' K' a' w' S' E => ?_))
    obtain ⟨k, hk, hsub⟩ := h2 s hs
    obtain ⟨e, tm', h'⟩ := s
    cases e with
    | normal => exact ihy tm' h' r' K' a' w' k Q hk S' (fun s hs r2 K2 a2 w2 S2 E2 => hq s (hsub s hs) r2 K2 a2 w2 S2 (E.trans E2))
    | exit i =>
      have := one_some hk
      exact hq (.exit i, tm', h') (hsub _ (by rw [this]; exact List.mem_singleton.2 rfl)) r' K' a' w' S' E
    | ret =>
      have := one_some hk
      exact hq (.ret, tm', h') (hsub _ (by rw [this]; exact List.mem_singleton.2 rfl)) r' K' a' w' S' E
  | cond c x y ihx ihy =>
    intro tm h r K a w outs Q he S hq
    have he' : (match operand tm c with
      | some (.bool true) => (ev P call nt x).run tm h
      | some (.bool false) => (ev P call nt y).run tm h
      | _ => none) = some outs := he
    cases ho : operand tm c with
    | none => rw [ho] at he'; cases he'
    | some v =>
      have hv := operand_V S.tms ho
      rw [ho] at he'
      generalize hae : a.eval c = vv at hv
      cases hv with
      | bool t =>
        cases t with
        | true => exact wp_cond_true hae (ihx tm h r K a w outs Q he' S hq)
        | false => exact wp_cond_false hae (ihy tm h r K a w outs Q he' S hq)
      | _ => cases he'
  | block id c ih =>
    intro tm h r K a w outs Q he S hq
    have he' : bindO ((ev P call nt c).run tm h) (fun s => match s.1 with
      | .exit i => bif Nat.beq i id then one (.normal, s.2.1, s.2.2) else one (.exit i, s.2.1, s.2.2)
      | e => one (e, s.2.1, s.2.2)) = some outs := he
    obtain ⟨l, h1, h2⟩ := bindO_some he'
    refine wp_block (ih tm h r K a w l _ h1 S (fun s hs r' K' a' w' S' E => ?_))
    obtain ⟨k, hk, hsub⟩ := h2 s hs
    obtain ⟨e, tm', h'⟩ := s
    cases e with
    | normal =>
      have := one_some hk
      exact hq (.normal, tm', h') (hsub _ (by rw [this]; exact List.mem_singleton.2 rfl)) r' K' a' w' S' E
    | ret =>
      have := one_some hk
      exact hq (.ret, tm', h') (hsub _ (by rw [this]; exact List.mem_singleton.2 rfl)) r' K' a' w' S' E
    | exit i =>
      have hk' : (bif Nat.beq i id then one (AEx.normal, tm', h') else one (AEx.exit i, tm', h')) = some k := hk
      show (if i = id then Q .normal a' w' else Q (.exit i) a' w')
      cases hb : Nat.beq i id with
      | true =>
        rw [hb] at hk'
        have := one_some hk'
        rw [if_pos (Nat.eq_of_beq_eq_true hb)]
        exact hq (.normal, tm', h') (hsub _ (by rw [this]; exact List.mem_singleton.2 rfl)) r' K' a' w' S' E
      | false =>
        rw [hb] at hk'
        have := one_some hk'
        rw [if_neg (Nat.ne_of_beq_eq_false hb)]
        exact hq (.exit i, tm', h') (hsub _ (by rw [this]; exact List.mem_singleton.2 rfl)) r' K' a' w' S' E
  | loop c ih =>
    intro tm h r K a w outs Q he S hq
    rw [ev_loop] at he
    dsimp only at he
    exact loop_ok ih he S hq
  | rangeFunc f ps x y ihx ihy =>
    intro tm h r K a w outs Q he S hq
    have he' : (none : Outs (AEx × St)) = some outs := he
    cases he'
  | exit id =>
    intro tm h r K a w outs Q he S hq
    have := one_some he
    exact wp_exit (hq (.exit id, tm, h) (by rw [this]; exact List.mem_singleton.2 rfl) r K a w S (Ext.refl _ _ _ _ _))
  | scope c ih =>
    intro tm h r K a w outs Q he S hq
    have he' : (ev P call nt c).run tm h = some outs := he
    refine wp_scope_straight (ih tm h r K a w outs _ he' S (fun s hs r' K' a' w' S' E => ?_))
    have := hq s hs r' K' a' w' S' E
    obtain ⟨e, tm', h'⟩ := s
    cases e <;> exact this
  | label l =>
    intro tm h r K a w outs Q he S hq
    have := one_some he
    exact wp_label (hq (.normal, tm, h) (by rw [this]; exact List.mem_singleton.2 rfl) r K a w S (Ext.refl _ _ _ _ _))
  | goto l =>
    intro tm h r K a w outs Q he S hq
    have he' : (none : Outs (AEx × St)) = some outs := he
    cases he'
  | ret =>
    intro tm h r K a w outs Q he S hq
    have := one_some he
    exact wp_ret (hq (.ret, tm, h) (by rw [this]; exact List.mem_singleton.2 rfl) r K a w S (Ext.refl _ _ _ _ _))
  | refuse s =>
    intro tm h r K a w outs Q he S hq
    have he' : (none : Outs (AEx × St)) = some outs := he
    cases he'

/-! ### Results, arguments -/
theorem loadAt_ptr {P : Program} {t : TypeId} {v y : Value} {w : World} (h : (Instr.loadAt t v).run P w = .ok y w) : (do loadVar t (← asAddr v) : Sem Value).run P w = .ok y w := by
  cases v with
  | pointer a =>
    cases a with
    | some a => exact h
    | none => simp [Instr.loadAt, Instr.sureAddr, stuck] at h
  | _ => simp [Instr.loadAt, Instr.sureAddr, stuck] at h

def resF (tmps : Array Value) : ResultVar → Sem Value
  | .tmp t => pure (tmps.getD t undef)
  | .cell x t => do loadVar t (← asAddr (tmps.getD x undef))
theorem results_resF (fn : Func) (tmps : Array Value) : results fn tmps = (do
  let vs ← fn.results.mapM (resF tmps)
  pure (if h : vs.size = 1 then vs[0] else .tuple vs)) := by
  unfold results
  congr 1
theorem results_run {r : Ren} {K : Nat → Prop} {h : AH} {tm : TM} {a : Act} {w : World} (S : StR P A K nt r tm h a w) : ∀ (l : List ResultVar) (vs : List AV), resultsA P h tm l = some vs →
    ∃ us : List Value, (l.mapM (resF a.tmps)).run P w = .ok us w ∧ VS w.heap r K A vs us
  | [], vs, he => by
    cases he
    exact ⟨[], by simp, rfl, fun i a v ha hv => by simp at ha⟩
  | x :: l, vs, he => by
    simp only [resultsA] at he
    cases h1 : resultA P h tm x with
    | none => simp [h1] at he
    | some v =>
      cases h2 : resultsA P h tm l with
      | none => simp [h1, h2] at he
      | some vs' =>
        simp [h1, h2] at he
        subst he
        obtain ⟨us, h3, h4⟩ := results_run S l vs' h2
        have hx : ∃ u, (resF a.tmps x).run P w = .ok u w ∧ V w.heap r K A v u := by
          cases x with
          | tmp t =>
            obtain ⟨u, g1, g2⟩ := S.tms t v h1
            exact ⟨u, by simp [resF, g1], g2⟩
          | cell x t =>
            simp only [resultA] at h1
            cases hx : tm.get x with
            | none => simp [hx] at h1
            | some p =>
              simp only [hx] at h1
              obtain ⟨u, g1, g2⟩ := S.tms x p hx
              obtain ⟨y, g3, g4⟩ := loadA_ok w S.rel h1 g2
              refine ⟨y, ?_, g4⟩
              have e : a.tmps.getD x undef = u := by simp [g1]
              show (do loadVar t (← asAddr (a.tmps.getD x undef)) : Sem Value).run P w = _
              rw [e]
              exact loadAt_ptr g3
        obtain ⟨u, g1, g2⟩ := hx
        refine ⟨u :: us, ?_, ⟨by simp [h4.1], fun i p q hp hq => ?_⟩⟩
        · rw [List.mapM_cons, Sem.run_bind, g1]
          show Sem.run P (List.mapM _ l >>= fun us => pure (u :: us)) w = _
          rw [Sem.run_bind, h3]
          rfl
        · cases i with
          | zero => simp at hp hq; subst hp; subst hq; exact g2
          | succ i => exact h4.2 i p q (by simpa using hp) (by simpa using hq)
theorem results_ok {r : Ren} {K : Nat → Prop} {h : AH} {tm : TM} {a : Act} {w : World} (S : StR P A K nt r tm h a w) {fn : Func} {vs : List AV} (he : resultsA P h tm fn.results.toList = some vs) :
    ∃ u, (results fn a.tmps).run P w = .ok u w ∧ V w.heap r K A (packA vs) u := by
  obtain ⟨us, h1, h2⟩ := results_run S _ vs he
  refine ⟨if h : us.toArray.size = 1 then us.toArray[0] else .tuple us.toArray, ?_, ?_⟩
  · rw [results_resF, Array.mapM_eq_mapM_toList, map_eq_pure_bind, Sem.run_bind, Sem.run_bind, h1]
    rfl
  · match vs, us, h2 with
    | [v], [u], h2 => exact h2.2 0 v u rfl rfl
    | [], [], h2 => exact .tuple _ _ rfl (fun i a v ha hv => by simp at ha)
    | v1 :: v2 :: l, u1 :: u2 :: m, h2 => exact .tuple _ _ (by simpa using h2.1) (fun i a v ha hv => h2.2 i a v ha (by simpa using hv))
    | [], _ :: _, h2 => exact absurd h2.1 (by simp)
    | _ :: _, [], h2 => exact absurd h2.1 (by simp)
    | [_], _ :: _ :: _, h2 => exact absurd h2.1 (by simp)
    | _ :: _ :: _, [_], h2 => exact absurd h2.1 (by simp)

theorem argsT_eq {β : Type} : ∀ (l : List AV) (t : TM) (i : Nat) (c : TM → β), argsT l t i c = c (argsT l t i (fun t => t))
  | [], t, i, c => rfl
  | v :: l, t, i, c => by
    show AV.force v (fun v => t.putK (some v) (pathOf i) fun t => argsT l t (Nat.succ i) c) = c (AV.force v (fun v => t.putK (some v) (pathOf i) fun t => argsT l t (Nat.succ i) fun t => t))
    rw [AV.force_eq, AV.force_eq, T.put_k, T.put_k, argsT_eq l]
theorem argsT_get (m : Nat) : ∀ (l : List AV) (t : TM) (i : Nat), (argsT l t i (fun t => t)).get m = if i ≤ m ∧ m < i + l.length then l[m - i]? else t.get m
  | [], t, i => by
    show t.get m = _
    rw [if_neg]
    rintro ⟨h1, h2⟩
    simp at h2
    omega
  | v :: l, t, i => by
    show (AV.force v (fun v => t.putK (some v) (pathOf i) fun t => argsT l t (Nat.succ i) fun t => t)).get m = _
    rw [AV.force_eq, T.put_k, argsT_get m l, T.get_put]
    by_cases h1 : m = i
    · subst h1
      rw [if_neg (by omega), if_pos rfl, if_pos (by simp)]
      simp
    · rw [if_neg h1]
      by_cases h2 : i ≤ m ∧ m < i + (v :: l).length
      · have h3 : (v :: l).length = l.length + 1 := rfl
        rw [if_pos h2, if_pos (by omega)]
        have e : m - i = (m - Nat.succ i) + 1 := by omega
        rw [e, List.getElem?_cons_succ]
      · have h3 : (v :: l).length = l.length + 1 := rfl
        rw [if_neg h2, if_neg (by omega)]

/-- A function's text is right. -/
theorem bodyA_ok (hcall : CallOk P A call) (hm : P.follows .mixedOrders = true) {f : FuncId} {args : List AV} {h : AH} {outs : List (AV × AH)} (he : (bodyA P call f).run args h = some outs)
    {r : Ren} {K : Nat → Prop} {w : World} {vargs : Array Value} (hw : ioW w = r.io) (R : Rel P r A K h w.heap) (hv : VS w.heap r K A args vargs.toList) :
    Calls P f vargs w fun e w' => ∃ v', e = .returned v' ∧ ioW w' = ioW w ∧ Good P r A K h w.heap outs v' w'.heap := by
  unfold bodyA at he
  cases hf : P.funcs[f]? with
  | none => rw [hf] at he; cases he
  | some fn =>
    rw [hf] at he
    simp only at he
    cases hb : fn.body with
    | none => rw [hb] at he; cases he
    | some c =>
      rw [hb] at he
      simp only at he
      cases hl : Nat.ble args.length fn.ntmps with
      | false => rw [hl] at he; cases he
      | true =>
        rw [hl] at he
        simp only [cond_true] at he
        rw [argsT_eq] at he
        obtain ⟨l, h1, h2⟩ := bindO_some he
        have hlen : args.length ≤ fn.ntmps := Nat.le_of_ble_eq_true hl
        have hsz : vargs.size = args.length := by have := hv.1; simp at this; omega
        have S : StR P A K fn.ntmps r (argsT args .nil 0 fun t => t) h { tmps := vargs ++ Array.replicate (fn.ntmps - vargs.size) undef, defers := [] } w := by
          refine ⟨R, fun t v ht => ?_, by simp; omega, rfl, hw⟩
          rw [argsT_get] at ht
          simp only [Nat.zero_le, Nat.zero_add, true_and, Nat.sub_zero] at ht
          by_cases hlt : t < args.length
          · rw [if_pos hlt] at ht
            have hx : vargs[t]? = some (vargs[t]'(by omega)) := Array.getElem?_eq_getElem (by omega)
            refine ⟨vargs[t]'(by omega), ?_, hv.2 t v _ ht (by simpa using hx)⟩
            rw [Array.getElem?_append_left (by omega)]
            exact hx
          · rw [if_neg hlt, T.get_nil] at ht; cases ht
        refine calls_of_wp hf hb (ev_ok hcall hm c _ h r K _ w l _ h1 S (fun s hs r' K' a' w' S' E => ?_))
        obtain ⟨k, hk, hsub⟩ := h2 s hs
        obtain ⟨e, tm', h'⟩ := s
        have fin : (match resultsA P h' tm' fn.results.toList with
            | some vs => one (packA vs, h')
            | none => none) = some k → a'.defers = [] ∧ ∃ v, (results fn a'.tmps).run P w' = .ok v w' ∧ ∃ v', Ending.returned v = .returned v' ∧ ioW w' = ioW w ∧ Good P r A K h w.heap outs v' w'.heap := by
          intro hk
          cases hr : resultsA P h' tm' fn.results.toList with
          | none => rw [hr] at hk; cases hk
          | some vs =>
            rw [hr] at hk
            have e := one_some hk
            obtain ⟨u, g1, g2⟩ := results_ok S' hr
            exact ⟨S'.defers, u, g1, u, rfl, S'.io.trans (E.io.trans hw.symm), packA vs, h', r', K', hsub _ (by rw [e]; exact List.mem_singleton.2 rfl), S'.rel, E, g2⟩
        cases e with
        | normal => exact fin hk
        | ret => exact fin hk
        | exit i => cases hk

/-- What is known of calls. -/
def SumOk (P : Program) (A : Nat → Prop) (sum : FuncId → List AV → Option AV) : Prop := CallOk P A (fun f args h => match sum f args with
  | some v => one (v, h)
  | none => none)
theorem callA_ok {sum : FuncId → List AV → Option AV} (hs : SumOk P A sum) (hm : P.follows .mixedOrders = true) : ∀ (k : Nat), CallOk P A (callA P sum k)
  | 0 => fun f args h outs he => by cases he
  | k + 1 => fun f args h outs he r K w vargs hw R hv => by
    have he' : (match sum f args with
      | some v => one (v, h)
      | none => (bodyA P (callA P sum k) f).run args h) = some outs := he
    cases hsm : sum f args with
    | some v =>
      rw [hsm] at he'
      exact hs f args h outs (by simp only [hsm]; exact he') r K w vargs hw R hv
    | none =>
      rw [hsm] at he'
      exact bodyA_ok (callA_ok hs hm k) hm he' hw R hv
end
end Go.Proofs.YtmeianaaiiiinaaGreat.Ev
