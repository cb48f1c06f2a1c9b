/- What calls of builtin functions come to; operations one after the other. -/
import Derived.Test.YtmeianaaiiiinaaGreatEvP
namespace Go.Proofs.YtmeianaaiiiinaaGreat.Ev
open Go
set_option linter.unusedVariables false
set_option linter.unusedSimpArgs false
set_option linter.all false
section
variable {P : Program} {r : Ren} {A K : Nat → Prop} {h : AH}

theorem VS.one {H : Array Obj} {K : Nat → Prop} {x : AV} {vs : Array Value} (hv : VS H r K A [x] vs.toList) : ∃ v, vs = #[v] ∧ V H r K A x v := by
  have hl := hv.1
  obtain ⟨⟨l⟩⟩ := vs
  · exact absurd hl (by simp)
  · rename_i v l
    cases l with
    | cons a b => simp at hl
    | nil => exact ⟨v, rfl, hv.2 0 x v rfl rfl⟩
theorem VS.two {H : Array Obj} {K : Nat → Prop} {x y : AV} {vs : Array Value} (hv : VS H r K A [x, y] vs.toList) : ∃ v u, vs = #[v, u] ∧ V H r K A x v ∧ V H r K A y u := by
  have hl := hv.1
  obtain ⟨l⟩ := vs
  match l, hl, hv with
  | [v, u], _, hv => exact ⟨v, u, rfl, hv.2 0 x v rfl rfl, hv.2 1 y u rfl rfl⟩
  | [], hl, _ => simp at hl
  | [_], hl, _ => simp at hl
  | _ :: _ :: _ :: _, hl, _ => simp at hl
theorem VS.more {H : Array Obj} {K : Nat → Prop} {x : AV} {xs : List AV} {vs : Array Value} (hv : VS H r K A (x :: xs) vs.toList) : ∃ v us, vs.toList = v :: us ∧ V H r K A x v ∧ VS H r K A xs us := by
  have hl := hv.1
  cases he : vs.toList with
  | nil => rw [he] at hl; simp at hl
  | cons v us =>
    rw [he] at hv
    exact ⟨v, us, rfl, hv.2 0 x v rfl rfl, by have := hv.1; simpa using this, fun i a b ha hb => hv.2 (i + 1) a b (by simpa using ha) (by simpa using hb)⟩

theorem capBA_ok (w : World) {ts : List TypeId} {t : TypeId} {K : Nat → Prop} {x y : AV} {vx : Value} (hl : capBA P t x = some y) (hx : V w.heap r K A x vx) (ty : TypeId) :
    ∃ v, (Builtin.cap_ (t :: ts).toArray ty #[vx]).run P w = .ok v w ∧ V w.heap r K A y v := by
  unfold capBA at hl
  split at hl
  · rename_i e hu; cases hl; cases hx; exact ⟨_, by simp [Builtin.cap_, run_underlying hu]; rfl, .int _ _⟩
  · rename_i e id off n c hu; cases hl; cases hx; exact ⟨_, by simp [Builtin.cap_, run_underlying hu]; rfl, .int _ _⟩
  · cases hl

theorem builtinA_ok (w : World) (R : Rel P r A K h w.heap) {b : Builtin} {ts : Array TypeId} {args : List AV} {vargs : Array Value} {res : AV × AH} (hb : builtinA P h b ts.toList args = some res) (hv : VS w.heap r K A args vargs.toList) (ty : TypeId) (consts : Array Bool) :
    OpOk P r A K h w (builtin b ts ty consts vargs) [res] := by
  have hts : ts = ts.toList.toArray := by simp
  unfold builtinA at hb
  split at hb
  · rename_i x
    obtain ⟨v, rfl, hx⟩ := hv.one
    split at hb
    · rename_i t tl he
      cases hl : lenBA P h t x with
      | none => simp [hl] at hb
      | some y =>
        simp [hl] at hb
        subst hb
        obtain ⟨u, h1, h2⟩ := lenBA_ok (ts := tl) w R hl hx ty
        rw [← he, ← hts] at h1
        exact OpOk.val R h1 h2 rfl
    · cases hb
  · rename_i x
    obtain ⟨v, rfl, hx⟩ := hv.one
    split at hb
    · rename_i t tl he
      cases hl : capBA P t x with
      | none => simp [hl] at hb
      | some y =>
        simp [hl] at hb
        subst hb
        obtain ⟨u, h1, h2⟩ := capBA_ok (ts := tl) w hl hx ty
        rw [← he, ← hts] at h1
        exact OpOk.val R h1 h2 rfl
    · cases hb
  · obtain ⟨v, u, rfl, hx, hy⟩ := hv.two
    have := appendA_ok w R hb hx hy ty
    rw [← hts] at this
    exact OpOk.put this
  · obtain ⟨v, u, rfl, hx, hy⟩ := hv.two
    have := copyA_ok w R hb hx hy ty
    rw [← hts] at this
    exact OpOk.put this
  · obtain ⟨v, rfl, hx⟩ := hv.one
    have := clearA_ok w R hb hx ty
    rw [← hts] at this
    exact OpOk.put this
  · rename_i x l
    obtain ⟨v, us, he, hx, hl⟩ := hv.more
    cases hf : foldA max2A x l with
    | none => simp [hf] at hb
    | some z =>
      simp [hf] at hb
      subst hb
      obtain ⟨q, h1, h2⟩ := foldA_ok (P := P) (g := Builtin.max2) w (fun x y z vx vy hm hx hy => max2A_ok w hm hx hy) l us x z v hf hx hl
      exact OpOk.val R (by simp [Builtin.max_, he, h1]) h2 rfl
  · rename_i x l
    obtain ⟨v, us, he, hx, hl⟩ := hv.more
    cases hf : foldA min2A x l with
    | none => simp [hf] at hb
    | some z =>
      simp [hf] at hb
      subst hb
      obtain ⟨q, h1, h2⟩ := foldA_ok (P := P) (g := Builtin.min2) w (fun x y z vx vy hm hx hy => min2A_ok w hm hx hy) l us x z v hf hx hl
      exact OpOk.val R (by simp [Builtin.min_, he, h1]) h2 rfl
  · cases hb

/-- What a call of a Go function may come to. -/
def CallOk (P : Program) (A : Nat → Prop) (call : CallA) : Prop :=
  ∀ (f : FuncId) (args : List AV) (h : AH) (outs : List (AV × AH)), call f args h = some outs → ∀ (r : Ren) (K : Nat → Prop) (w : World) (vargs : Array Value), ioW w = r.io → Rel P r A K h w.heap → VS w.heap r K A args vargs.toList →
    Calls P f vargs w fun e w' => ∃ v', e = .returned v' ∧ ioW w' = ioW w ∧ Good P r A K h w.heap outs v' w'.heap

/-- What an operation needs, calls included: for each of its outcomes, what comes next holds. -/
theorem opC_ok {call : CallA} (hcall : CallOk P A call) (w : World) (hw : ioW w = r.io) (R : Rel P r A K h w.heap) {tm : TM} {a : Act} (ht : TMR w.heap r K A tm a.tmps) (o : Oper) {outs : List (AV × AH)} (ho : (opC P call o.op).run tm h = some outs)
    (next : Act → World → Prop) (Q : Exit → Act → World → Prop) (hn : ∀ v' w', ioW w' = ioW w → Good P r A K h w.heap outs v' w'.heap → next (a.put o.dst v') w') : o.wp P a w next Q := by
  have done : OpOk P r A K h w (execOp a.eval o) outs → o.wp P a w next Q := fun ⟨nx, v', w', h1, h2, hio, h3⟩ => by
    unfold Oper.wp
    rw [h1]
    rcases h2 with rfl | ⟨rfl, rfl⟩
    · exact hn _ _ hio h3
    · exact hn _ _ hio h3
  obtain ⟨dst, op, type, pos, after, guard⟩ := o
  cases op
  case call c =>
    obtain ⟨callee, args, argTypes⟩ := c
    simp only [opC, opCall] at ho
    cases callee with
    | builtin b =>
      simp only at ho
      cases hx : operands tm args.toList with
      | none => simp [hx] at ho
      | some vs =>
        simp only [hx] at ho
        obtain ⟨res, h1, rfl⟩ := val2_some ho
        have hv := operands_VS ht hx
        rw [← map_toList] at hv
        refine done ?_
        have := builtinA_ok w R h1 hv type (args.map fun | .const _ => true | _ => false)
        exact this
    | value f =>
      simp only at ho
      cases hx : operands tm args.toList with
      | none => simp [hx] at ho
      | some vs =>
        simp only [hx] at ho
        obtain ⟨fv, h1, h2⟩ := on1_some ho
        have hv := operands_VS ht hx
        have hf := operand_V ht h1
        unfold callC at h2
        split at h2
        · rename_i fn first captured
          split at h2
          · rename_i g
            split at h2
            · rename_i hen
              unfold Oper.wp
              generalize hfe : a.eval f = vf at hf
              cases hf with
              | func _ _ _ v1 v2 l1 l2 e1 e2 =>
                have hfirst : VS w.heap r K A first v1.toList := ⟨by simpa using l1, fun i x y hx hy => e1 i x y hx (by simpa using hy)⟩
                have hcapt : VS w.heap r K A captured v2.toList := ⟨by simpa using l2, fun i x y hx hy => e2 i x y hx (by simpa using hy)⟩
                have hall : VS w.heap r K A (first ++ vs ++ captured) (v1 ++ args.map a.eval ++ v2).toList := by
                  simp only [Array.toList_append, map_toList]
                  exact (hfirst.append hv).append hcapt
                have hc := hcall g _ h outs h2 r K w _ hw R hall
                have hrun : (execOp a.eval ⟨dst, .call ⟨.value f, args, argTypes⟩, type, pos, after, guard⟩).run P w = .ok (.enter g (v1 ++ args.map a.eval ++ v2)) w := by
                  unfold enterB at hen
                  split at hen
                  · rename_i fn' hfn
                    simp only [Bool.and_eq_true, Bool.not_eq_true'] at hen
                    have hb : ¬ fn'.body = none := fun hbo => by simp [hbo] at hen
                    have hnm : ¬ fn'.name = "runtime.NumGoroutine" := fun e => by simp [e] at hen
                    simp [execOp, resolve, hfe, Deferred.ofValue, invoke, callFunc, hfn, hnm, hb]
                  · cases hen
                rw [hrun]
                show Calls P g _ w _
                refine hc.mono ?_
                rintro e w' ⟨v', rfl, hio, hg⟩
                exact hn v' w' hio hg
            · cases h2
          · cases h2
        · cases h2
    | invoke recv m => simp at ho
  all_goals exact done (opA_ok w R ht _ ho)

/-- The temporaries, the heap and the world belong together. -/
structure StR (P : Program) (A K : Nat → Prop) (nt : Nat) (r : Ren) (tm : TM) (h : AH) (a : Act) (w : World) : Prop where
  rel : Rel P r A K h w.heap
  tms : TMR w.heap r K A tm a.tmps
  size : a.tmps.size = nt
  defers : a.defers = []
  io : ioW w = r.io
theorem StR.put {nt : Nat} {tm : TM} {a : Act} {w : World} (S : StR P A K nt r tm h a w) {h' : AH} {r' : Ren} {K' : Nat → Prop} {w' : World} {v : AV} {v' : Value} {d : Nat} (hd : d < nt) (hio : ioW w' = ioW w) (R' : Rel P r' A K' h' w'.heap) (E : Ext r A K h w.heap r' A K' h' w'.heap) (hv : V w'.heap r' K' A v v') :
    StR P A K' nt r' (tm.put d (some v)) h' (a.put (some d) v') w' :=
  ⟨R', (S.tms.through E S.rel).put (by rw [S.size]; exact hd) hv, by simp [Act.put, S.size], S.defers, hio.trans (S.io.trans E.io.symm)⟩
theorem StR.keep {nt : Nat} {tm : TM} {a : Act} {w : World} (S : StR P A K nt r tm h a w) {h' : AH} {r' : Ren} {K' : Nat → Prop} {w' : World} (hio : ioW w' = ioW w) (R' : Rel P r' A K' h' w'.heap) (E : Ext r A K h w.heap r' A K' h' w'.heap) (v' : Value) :
    StR P A K' nt r' tm h' (a.put none v') w' := ⟨R', S.tms.through E S.rel, S.size, S.defers, hio.trans (S.io.trans E.io.symm)⟩

theorem putA_some {β : Type} {nt : Nat} {tm : TM} {d : Option Tmp} {v : AV} {c : TM → Outs β} {outs : List β} (hp : putA nt tm d v c = some outs) :
    (d = none ∧ c tm = some outs) ∨ ∃ t, d = some t ∧ t < nt ∧ c (tm.put t (some v)) = some outs := by
  unfold putA at hp
  cases d with
  | none => exact .inl ⟨rfl, hp⟩
  | some t =>
    simp only at hp
    cases hb : Nat.blt t nt with
    | false => rw [hb] at hp; cases hp
    | true =>
      rw [hb] at hp
      simp only [cond_true, AV.force_eq, T.put_k] at hp
      exact .inr ⟨t, rfl, by simpa using hb, hp⟩
theorem guardA_ok {nt : Nat} {tm : TM} {a : Act} {w : World} (S : StR P A K nt r tm h a w) {ops : Array Oper} {j : Nat} {want b : Bool} (hg : guardA ops tm j want = some b) : (yielded ops a.tmps j == some want) = b := by
  unfold guardA at hg
  unfold yielded
  cases hp : ops[j]? with
  | none => simp [hp] at hg
  | some p =>
    simp only [hp] at hg
    cases hd : p.dst with
    | none => simp [hd] at hg
    | some d =>
      simp only [hd] at hg
      cases hx : tm.get d with
      | none => simp [hx] at hg
      | some x =>
        obtain ⟨v, h1, h2⟩ := S.tms d x hx
        simp only [hx] at hg
        simp only [Option.bind_some, hd, h1]
        cases h2 with
        | bool q => cases q <;> cases want <;> simp at hg <;> subst hg <;> rfl
        | _ => simp at hg; subst hg; rfl

/-- Operations, one after the other, in the order of the text. -/
theorem evOps_ok {call : CallA} (hcall : CallOk P A call) {nt : Nat} {ops : Array Oper} {Q : Exit → Act → World → Prop} : ∀ (l : List Oper) (i : Nat), ops.toList.drop i = l → ∀ (tm : TM) (h : AH) (r : Ren) (K : Nat → Prop) (a : Act) (w : World) (outs : List St),
    (evOps P call nt ops l).run tm h = some outs → StR P A K nt r tm h a w →
    (∀ s ∈ outs, ∀ r' K' a' w', StR P A K' nt r' s.1 s.2 a' w' → Ext r A K h w.heap r' A K' s.2 w'.heap → Q .normal a' w') → wpOps P ops Q (List.range' i l.length) a w
  | [], i, hl, tm, h, r, K, a, w, outs, he, S, hq => by
    have : outs = [(tm, h)] := by
      have : some [(tm, h)] = some outs := he
      simpa using this.symm
    subst this
    exact hq (tm, h) (List.mem_singleton.2 rfl) r K a w S (Ext.refl _ _ _ _ _)
  | o :: l, i, hl, tm, h, r, K, a, w, outs, he, S, hq => by
    have hoi : ops[i]? = some o := by
      have := congrArg (fun l => l[0]?) hl
      simpa using this
    have hl' : ops.toList.drop (i + 1) = l := by
      have := congrArg List.tail hl
      simpa using this
    have he' : (opStep P call nt ops o (evOps P call nt ops l)).run tm h = some outs := he
    -- the operation is wanted
    have run : bindO ((opC P call o.op).run tm h) (fun x => putA nt tm o.dst x.1 fun tm => x.2.force fun h => (evOps P call nt ops l).run tm h) = some outs → o.wp P a w (wpOps P ops Q (List.range' (i + 1) l.length)) Q := by
      intro hb
      obtain ⟨l1, h1, h2⟩ := bindO_some hb
      refine opC_ok hcall w S.io S.rel S.tms o h1 _ _ (fun v' w' hio hgood => ?_)
      obtain ⟨v, h', r', K', hm, R', E, hv⟩ := hgood
      obtain ⟨k, hk, hsub⟩ := h2 (v, h') hm
      rcases putA_some hk with ⟨hd, hc⟩ | ⟨t, hd, hlt, hc⟩
      · rw [AH.force_eq] at hc
        rw [hd]
        exact evOps_ok hcall l (i + 1) hl' tm h' r' K' _ w' k hc (S.keep hio R' E v') (fun s hs r2 K2 a2 w2 S2 E2 => hq s (hsub s hs) r2 K2 a2 w2 S2 (E.trans E2))
      · rw [AH.force_eq] at hc
        rw [hd]
        exact evOps_ok hcall l (i + 1) hl' _ h' r' K' _ w' k hc (S.put hlt hio R' E hv) (fun s hs r2 K2 a2 w2 S2 E2 => hq s (hsub s hs) r2 K2 a2 w2 S2 (E.trans E2))
    have skip : putA nt tm o.dst .undef (fun tm => (evOps P call nt ops l).run tm h) = some outs → wpOps P ops Q (List.range' (i + 1) l.length) (a.put o.dst undef) w := by
      intro hk
      rcases putA_some hk with ⟨hd, hc⟩ | ⟨t, hd, hlt, hc⟩
      · rw [hd]
        exact evOps_ok hcall l (i + 1) hl' tm h r K _ w outs hc (S.keep rfl S.rel (Ext.refl _ _ _ _ _) _) hq
      · rw [hd]
        exact evOps_ok hcall l (i + 1) hl' _ h r K _ w outs hc (S.put hlt rfl S.rel (Ext.refl _ _ _ _ _) .undef) hq
    show wpOps P ops Q (i :: List.range' (i + 1) l.length) a w
    simp only [wpOps, hoi]
    obtain ⟨dst, op, type, pos, after, guard⟩ := o
    cases guard with
    | none =>
      have hw : Region.wanted ⟨dst, op, type, pos, after, none⟩ (yielded ops a.tmps) = true := rfl
      rw [if_pos hw]
      exact .inl (run he')
    | some g =>
      obtain ⟨j, want⟩ := g
      have he2 : (match guardA ops tm j want with
        | some true => bindO ((opC P call op).run tm h) fun (v, h) => putA nt tm dst v fun tm => h.force fun h => (evOps P call nt ops l).run tm h
        | some false => putA nt tm dst .undef fun tm => (evOps P call nt ops l).run tm h
        | none => none) = some outs := he'
      cases hg : guardA ops tm j want with
      | none => rw [hg] at he2; cases he2
      | some b =>
        rw [hg] at he2
        have hw : Region.wanted ⟨dst, op, type, pos, after, some (j, want)⟩ (yielded ops a.tmps) = b := guardA_ok S hg
        cases b with
        | true =>
          rw [if_pos hw]
          exact .inl (run he2)
        | false =>
          rw [if_neg (by rw [hw]; simp)]
          exact skip he2
end
end Go.Proofs.YtmeianaaiiiinaaGreat.Ev
