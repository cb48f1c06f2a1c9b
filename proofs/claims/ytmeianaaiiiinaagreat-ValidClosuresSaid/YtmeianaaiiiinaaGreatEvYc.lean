/- The logic, continued: regions that draw their order, where each operation leaves the heap as it is; calls that give new values among them. -/
import Derived.Test.YtmeianaaiiiinaaGreatEvWf
namespace Go.Proofs.YtmeianaaiiiinaaGreat.Ev
open Go
set_option linter.unusedVariables false
set_option linter.unusedSimpArgs false
set_option linter.all false
noncomputable section

/-- An operation gives a value and leaves the heap as it is. -/
def VOp (P : Program) (F : Fr) (ops : List Oper) (o : Oper) (h : AH) (tm : TM) (v : AV) : Prop :=
  ∀ (r : Ren) (A K : Nat → Prop) (a : Act) (w : World) (next : Act → World → Prop) (Q : Exit → Act → World → Prop), Rel P r A K h w.heap → TMR w.heap r K A (pickT tm (o.looksAt ops.toArray) .nil) a.tmps → At F r A K h w.heap → h.base = 0 → ioW w = r.io →
    (∀ v' w' r' A' K', ioW w' = r'.io → Rel P r' A' K' h w'.heap → Ext r A K h w.heap r' A' K' h w'.heap → At F r' A' K' h w'.heap → V w'.heap r' K' A' v v' → next (a.put o.dst v') w') → o.wp P a w next Q
section
variable {P : Program} {nt : Nat} {F : Fr}
theorem VOp.op {ops : List Oper} {o : Oper} {h : AH} {E : Env} {v : AV} (hs : (opC P call0 o.op).run (tmE E) h = some [(v, h)]) : VOp P F ops o h (tmE E) v := by
  intro r A K a w next Q R TS T hb hw hn
  rw [opC_congr (tm' := pickT (tmE E) (o.looksAt ops.toArray) .nil) (fun x hx => operand_pick hx)] at hs
  refine opC_ok (call0_ok P A) w hw R TS o hs next Q (fun v' w' hio hg => ?_)
  obtain ⟨u, h', r', K', hm, R', E', hv⟩ := hg
  obtain ⟨rfl, rfl⟩ : u = v ∧ h' = h := by simpa using hm
  exact hn v' w' r' A K' (hio.trans (hw.trans E'.io.symm)) R' E' (T.step (P := P) E') hv
theorem VOp.call {ops : List Oper} {dst : Option Tmp} {f : Operand} {args : Array Operand} {ats : Array TypeId} {ty : TypeId} {pos : String} {after : Array Edge} {guard : Option (Nat × Bool)} {E : Env} {h : AH} {g : FuncId} {vs : List AV} {v : AV}
    (hf : opE E f = some (.func (.func g) [] [])) (hen : enterB P g = true) (ha : opsE E args.toList = some vs) (hc : FnOk P g vs h (fun u h' => u = v ∧ h' = h)) : VOp P F ops ⟨dst, .call ⟨.value f, args, ats⟩, ty, pos, after, guard⟩ h (tmE E) v := by
  intro r A K a w next Q R TS T hb hw hn
  have hin : ∀ x ∈ (Op.call ⟨.value f, args, ats⟩).operands.toList, operand (tmE E) x = operand (pickT (tmE E) (Oper.looksAt ops.toArray ⟨dst, .call ⟨.value f, args, ats⟩, ty, pos, after, guard⟩) .nil) x := fun x hx => operand_pick (o := ⟨dst, .call ⟨.value f, args, ats⟩, ty, pos, after, guard⟩) hx
  have hfi : f ∈ (Op.call ⟨.value f, args, ats⟩).operands.toList := by
    show f ∈ (Call.operands _).toList
    unfold Call.operands
    simp
  have hai : ∀ x ∈ args.toList, x ∈ (Op.call ⟨.value f, args, ats⟩).operands.toList := fun x hx => by
    show x ∈ (Call.operands _).toList
    unfold Call.operands
    rw [Array.toList_append]
    exact List.mem_append.2 (.inr hx)
  have hf' : operand (pickT (tmE E) (Oper.looksAt ops.toArray ⟨dst, .call ⟨.value f, args, ats⟩, ty, pos, after, guard⟩) .nil) f = some (.func (.func g) [] []) := by
    rw [← hin f hfi, opE_eq]; exact hf
  have ha' : operands (pickT (tmE E) (Oper.looksAt ops.toArray ⟨dst, .call ⟨.value f, args, ats⟩, ty, pos, after, guard⟩) .nil) args.toList = some vs := by
    rw [← operands_congr (tm := tmE E) (fun x hx => hin x (hai x hx)), opsE_eq]; exact ha
  have hv := operands_VS TS ha'
  have hfv := operand_V TS hf'
  unfold Oper.wp
  generalize hfe : a.eval f = vf at hfv
  cases hfv with
  | func _ _ _ v1 v2 l1 l2 e1 e2 =>
    obtain rfl : v1 = #[] := Array.eq_empty_of_size_eq_zero (by simpa using l1.symm)
    obtain rfl : v2 = #[] := Array.eq_empty_of_size_eq_zero (by simpa using l2.symm)
    have hall : VS w.heap r K A vs (#[] ++ args.map a.eval ++ #[]).toList := by
      simp only [Array.toList_append, map_toList]
      simpa using hv
    have hrun : (execOp a.eval ⟨dst, .call ⟨.value f, args, ats⟩, ty, pos, after, guard⟩).run P w = .ok (.enter g (#[] ++ args.map a.eval ++ #[])) w := by
      unfold enterB at hen
      split at hen
      · rename_i fn' hfn
        simp only [Bool.and_eq_true, Bool.not_eq_true'] at hen
        have hb : ¬ fn'.body = none := fun hbo => by simp [hbo] at hen
        have hnm : ¬ fn'.name = "runtime.NumGoroutine" := fun e => by simp [e] at hen
        simp [execOp, resolve, hfe, Deferred.ofValue, invoke, callFunc, hfn, hnm, hb]
      · cases hen
    rw [hrun]
    show Calls P g _ w _
    refine (hc r A K w _ R hb hw hall).mono ?_
    rintro e w' ⟨v', u, h', r', A', K', rfl, ⟨rfl, rfl⟩, hR, hV, hT, hb', hio⟩
    exact hn v' w' r' A' K' hio hR hT.ext (T.call hT) hV

/-- A way through such a region's operations, in the order of the text. -/
def ChainV (P : Program) (nt : Nat) (F : Fr) (ops : List Oper) (h : AH) : List Oper → Env → Env → Prop
  | [], E, E' => E' = E
  | o :: l, E, E' => dstB nt o.dst = true ∧
      ((guardE ops E o.guard = some true ∧ ∃ v, VOp P F ops o h (tmE E) v ∧ ChainV P nt F ops h l (putE E o.dst v) E') ∨
       (guardE ops E o.guard = some false ∧ ChainV P nt F ops h l (putE E o.dst .undef) E'))
theorem ChainV.seq {ops : List Oper} {h : AH} : ∀ (l : List Oper) (E E' : Env), ChainV P nt F ops h l E E' → ∃ (EE : Nat → Env) (vv : Nat → AV), EE 0 = E ∧ EE l.length = E' ∧ ∀ (j : Nat) o, l[j]? = some o →
      dstB nt o.dst = true ∧ EE (j + 1) = putE (EE j) o.dst (vv j) ∧ ((guardE ops (EE j) o.guard = some true ∧ VOp P F ops o h (tmE (EE j)) (vv j)) ∨ (guardE ops (EE j) o.guard = some false ∧ vv j = .undef))
  | [], E, E', hc => ⟨fun _ => E, fun _ => .undef, rfl, by exact hc.symm, fun j o ho => by simp at ho⟩
  | o :: l, E, E', ⟨hd, hc⟩ => by
    have key : ∀ v, ChainV P nt F ops h l (putE E o.dst v) E' → ((guardE ops E o.guard = some true ∧ VOp P F ops o h (tmE E) v) ∨ (guardE ops E o.guard = some false ∧ v = .undef)) → ∃ (EE : Nat → Env) (vv : Nat → AV), EE 0 = E ∧ EE (o :: l).length = E' ∧ ∀ (j : Nat) o', (o :: l)[j]? = some o' →
      dstB nt o'.dst = true ∧ EE (j + 1) = putE (EE j) o'.dst (vv j) ∧ ((guardE ops (EE j) o'.guard = some true ∧ VOp P F ops o' h (tmE (EE j)) (vv j)) ∨ (guardE ops (EE j) o'.guard = some false ∧ vv j = .undef)) := fun v hc2 hg => by
      obtain ⟨EE, vv, h1, h2, h3⟩ := ChainV.seq l _ E' hc2
      refine ⟨fun j => match j with
        | 0 => E
        | j + 1 => EE j, fun j => match j with
        | 0 => v
        | j + 1 => vv j, rfl, h2, fun j p hp => ?_⟩
      cases j with
      | zero =>
        have : o = p := by simpa using hp
        subst this
        exact ⟨hd, h1, hg⟩
      | succ j => exact h3 j p (by simpa using hp)
    rcases hc with ⟨hg, v, hv, hc2⟩ | ⟨hg, hc2⟩
    · exact key v hc2 (.inl ⟨hg, hv⟩)
    · exact key .undef hc2 (.inr ⟨hg, rfl⟩)
open Classical in
/-- What stands at a temporary behind the first n operations, those of X alone. -/
def valX (ops : List Oper) (E0 : Env) (vv : Nat → AV) (X : Nat → Prop) (t : Tmp) : Nat → Option AV
  | 0 => getL E0 t
  | n + 1 => if X n ∧ (ops[n]?).bind (·.dst) = some t then some (vv n) else valX ops E0 vv X t n
theorem valX_succ {ops : List Oper} {E0 : Env} {vv : Nat → AV} {X : Nat → Prop} {t : Tmp} (n : Nat) (hx : X n) (hd : (ops[n]?).bind (·.dst) = some t) : valX ops E0 vv X t (n + 1) = some (vv n) := by
  simp only [valX]; rw [if_pos ⟨hx, hd⟩]
theorem valX_skip {ops : List Oper} {E0 : Env} {vv : Nat → AV} {X : Nat → Prop} {t : Tmp} (n : Nat) (hd : ¬ (X n ∧ (ops[n]?).bind (·.dst) = some t)) : valX ops E0 vv X t (n + 1) = valX ops E0 vv X t n := by
  simp only [valX]; rw [if_neg hd]
theorem valX_congr {ops : List Oper} {E0 : Env} {vv : Nat → AV} {X Y : Nat → Prop} {t : Tmp} : ∀ (n : Nat), (∀ k, k < n → (ops[k]?).bind (·.dst) = some t → (X k ↔ Y k)) → valX ops E0 vv X t n = valX ops E0 vv Y t n
  | 0, _ => rfl
  | n + 1, h => by
    have ih := valX_congr (E0 := E0) (vv := vv) n (fun k hk => h k (by omega))
    by_cases hd : (ops[n]?).bind (·.dst) = some t
    · have := h n (by omega) hd
      by_cases hx : X n
      · rw [valX_succ n hx hd, valX_succ n (this.1 hx) hd]
      · rw [valX_skip n (fun h => hx h.1), valX_skip n (fun h => hx (this.2 h.1)), ih]
    · rw [valX_skip n (fun h => hd h.2), valX_skip n (fun h => hd h.2), ih]
theorem valX_more {ops : List Oper} {E0 : Env} {vv : Nat → AV} {X : Nat → Prop} {t : Tmp} {i : Nat} : ∀ (n : Nat), i ≤ n → (∀ k, i ≤ k → k < n → X k → (ops[k]?).bind (·.dst) ≠ some t) → valX ops E0 vv X t n = valX ops E0 vv X t i
  | 0, hi, _ => by rw [show i = 0 by omega]
  | n + 1, hi, h => by
    by_cases e : i = n + 1
    · rw [e]
    · rw [valX_skip n (fun ⟨h1, h2⟩ => h n (by omega) (by omega) h1 h2)]
      exact valX_more n (by omega) (fun k h1 h2 => h k h1 (by omega))
theorem valX_all {ops : List Oper} {E0 : Env} {vv : Nat → AV} {EE : Nat → Env} (h0 : EE 0 = E0) (hstep : ∀ (j : Nat) o, ops[j]? = some o → EE (j + 1) = putE (EE j) o.dst (vv j)) (t : Tmp) : ∀ n, n ≤ ops.length → valX ops E0 vv (fun _ => True) t n = getL (EE n) t
  | 0, _ => by rw [h0]; rfl
  | n + 1, hn => by
    have ho : ops[n]? = some ops[n] := List.getElem?_eq_getElem (by omega)
    have ih := valX_all h0 hstep t n (by omega)
    rw [hstep n _ ho]
    by_cases hd : (ops[n]).dst = some t
    · rw [valX_succ n trivial (by rw [ho]; exact hd), hd]
      exact (getL_same t (vv n) _).symm
    · rw [valX_skip n (fun h => hd (by rw [ho] at h; exact h.2)), ih]
      cases hdd : (ops[n]).dst with
      | none => rfl
      | some d => exact (getL_other d t (vv n) _ (fun e => hd (by rw [hdd, e]))).symm
/-- How things stand while such a region runs. -/
structure VInv (P : Program) (nt : Nat) (F : Fr) (ops : List Oper) (E0 : Env) (vv : Nat → AV) (h : AH) (X : Nat → Prop) (r : Ren) (A K : Nat → Prop) (a : Act) (w : World) : Prop where
  rel : Rel P r A K h w.heap
  tms : ∀ t u, valX ops E0 vv X t ops.length = some u → ∃ x, a.tmps[t]? = some x ∧ V w.heap r K A u x
  size : a.tmps.size = nt
  defers : a.defers = []
  at_ : At F r A K h w.heap
  io : ioW w = r.io
theorem drawV_go {ops : List Oper} {ms : List Nat} {E0 : Env} {EE : Nat → Env} {vv : Nat → AV} {h : AH} (hb : h.base = 0) (ST : Stat ops.toArray ms) (h0 : EE 0 = E0)
    (hall : ∀ (j : Nat) o, ops[j]? = some o → dstB nt o.dst = true ∧ EE (j + 1) = putE (EE j) o.dst (vv j) ∧ ((guardE ops (EE j) o.guard = some true ∧ VOp P F ops o h (tmE (EE j)) (vv j)) ∨ (guardE ops (EE j) o.guard = some false ∧ vv j = .undef)))
    {Q : Exit → Act → World → Prop} (hfin : ∀ X r A K a w, (∀ k, k < ops.length → X k) → VInv P nt F ops E0 vv h X r A K a w → Q .normal a w) :
    ∀ (fuel : Nat) (listed : Array Bool) (a : Act) (w : World), listed.size = ops.length → unl ops.length listed ≤ fuel → Closed ms (LX listed) → (∃ r A K, VInv P nt F ops E0 vv h (LX listed) r A K a w) → wpAny P .any ops.toArray Q fuel listed a w
  | 0, listed, a, w, hs, hu, hc, ⟨r, A, K, I⟩ => by
    have hall' : ∀ k, k < ops.length → LX listed k := fun k hk => by
      have h0 : (List.range ops.length).filter (fun i => !(listed.getD i false)) = [] := List.eq_nil_of_length_eq_zero (by unfold unl at hu; omega)
      rw [List.filter_eq_nil_iff] at h0
      have := h0 k (List.mem_range.2 hk)
      rw [← getD_true]
      simpa using this
    refine ⟨?_, hfin _ r A K a w hall' I⟩
    rw [List.eq_nil_iff_forall_not_mem]
    intro i hi
    obtain ⟨h1, ⟨o, ho⟩, _⟩ := ready_pre ST hc hi
    exact h1 (hall' i (by have := (Array.getElem?_eq_some_iff.1 ho).1; simpa using this))
  | fuel + 1, listed, a, w, hs, hu, hc, ⟨r, A, K, I⟩ => by
    refine ⟨fun hr => hfin _ r A K a w (fun k hk => ready_nil ST (by simpa using hs) hr k (by simpa using hk)) I, fun i hi => ?_⟩
    obtain ⟨hni, ⟨o, ho⟩, hpre⟩ := ready_pre ST hc hi
    have hin : i < ops.length := by have := (Array.getElem?_eq_some_iff.1 ho).1; simpa using this
    have hol : ops[i]? = some o := by simpa using ho
    have hset : ∀ k, LX (listed.setIfInBounds i true) k ↔ LX listed k ∨ k = i := LX_set (by omega)
    -- two operations without an order between them
    have cmp : ∀ k p, ops[k]? = some p → k ≠ i → cmpB ms k i = true → (LX listed k ∧ i < k → False) ∧ (k < i → LX listed k) := fun k p hp hne hcm => by
      have hp' : ops.toArray[k]? = some p := by simpa using hp
      unfold cmpB at hcm
      simp only [Bool.or_eq_true] at hcm
      refine ⟨fun ⟨hl, hlt⟩ => ?_, fun hlt => ?_⟩
      · rcases hcm with hcm | hcm
        · exact hni (hc k hl i hcm)
        · have := ST.lt i o ho k hcm; omega
      · rcases hcm with hcm | hcm
        · have := ST.lt k p hp' i hcm; omega
        · exact hpre k hcm
    have look : ∀ t, t ∈ o.looksAt ops.toArray → valX ops E0 vv (LX listed) t ops.length = getL (EE i) t := fun t ht => by
      have wr : ∀ k p, ops[k]? = some p → k ≠ i → p.dst = some t → cmpB ms k i = true := fun k p hp hne hd => by
        cases hcm : cmpB ms k i with
        | true => rfl
        | false =>
          have := ST.apart k i o p ho (by simpa using hp) hne hcm t hd
          exact absurd ht this.1
      rw [valX_more (i := i) ops.length (by omega) (fun k h1 h2 h3 h4 => by
        have hp : ops[k]? = some ops[k] := List.getElem?_eq_getElem h2
        rw [hp] at h4
        have hne : k ≠ i := fun e => hni (e ▸ h3)
        exact (cmp k _ hp hne (wr k _ hp hne (by simpa using h4))).1 ⟨h3, by omega⟩)]
      rw [valX_congr (Y := fun _ => True) i (fun k h1 h2 => by
        have hp : ops[k]? = some (ops[k]'(by omega)) := List.getElem?_eq_getElem (by omega)
        rw [hp] at h2
        have hne : k ≠ i := by omega
        exact ⟨fun _ => trivial, fun _ => (cmp k _ hp hne (wr k _ hp hne (by simpa using h2))).2 h1⟩)]
      exact valX_all h0 (fun j o hj => (hall j o hj).2.1) t i (by omega)
    have TS : TMR w.heap r K A (pickT (tmE (EE i)) (o.looksAt ops.toArray) .nil) a.tmps := fun t u ht => by
      rw [pickT_get] at ht
      by_cases hm : t ∈ o.looksAt ops.toArray
      · rw [if_pos hm, tmE_get, ← look t hm] at ht
        exact I.tms t u ht
      · rw [if_neg hm, T.get_nil] at ht; cases ht
    have next : ∀ (v' : Value) (w' : World) r' A' K', ioW w' = r'.io → Rel P r' A' K' h w'.heap → Ext r A K h w.heap r' A' K' h w'.heap → At F r' A' K' h w'.heap → V w'.heap r' K' A' (vv i) v' → wpAny P .any ops.toArray Q fuel (listed.setIfInBounds i true) (a.put o.dst v') w' := by
      intro v' w' r' A' K' hio R' E' T' hV
      refine drawV_go hb ST h0 hall hfin fuel _ _ w' (by rw [Array.size_setIfInBounds]; exact hs) ?_ ?_ ⟨r', A', K', ⟨R', fun t u ht => ?_, ?_, ?_, T', hio⟩⟩
      · have : unl ops.length (listed.setIfInBounds i true) < unl ops.length listed := by
          refine filter_lt (fun x hx => ?_) _ ⟨i, List.mem_range.2 hin, ?_, ?_⟩
          · cases h : listed.getD x false with
            | false => rfl
            | true =>
              have := getD_true.2 ((hset x).2 (.inl (getD_true.1 h)))
              rw [this] at hx; cases hx
          · cases h : listed.getD i false with
            | false => rfl
            | true => exact absurd (getD_true.1 h) hni
          · rw [getD_true.2 ((hset i).2 (.inr rfl))]; rfl
        omega
      · intro j hj k hk
        rw [hset] at hj ⊢
        rcases hj with hj | hj
        · exact .inl (hc j hj k hk)
        · subst hj; exact .inl (hpre k hk)
      · have e : LX (listed.setIfInBounds i true) = fun k => LX listed k ∨ k = i := funext fun k => propext (hset k)
        rw [e] at ht
        by_cases hd : o.dst = some t
        · have hbig : ∀ k, i + 1 ≤ k → k < ops.length → (LX listed k ∨ k = i) → (ops[k]?).bind (·.dst) ≠ some t := fun k h1 h2 h3 h4 => by
            have hp : ops[k]? = some ops[k] := List.getElem?_eq_getElem h2
            rw [hp] at h4
            have hl : LX listed k := h3.resolve_right (by omega)
            have hne : k ≠ i := by omega
            have hcm : cmpB ms k i = true := by
              cases hcm : cmpB ms k i with
              | true => rfl
              | false =>
                have := (ST.apart k i o ops[k] ho (by simpa using hp) hne hcm t (by simpa using h4)).2
                exact absurd hd this
            exact (cmp k _ hp hne hcm).1 ⟨hl, by omega⟩
          rw [valX_more (i := i + 1) ops.length (by omega) hbig] at ht
          rw [valX_succ i (.inr rfl) (by rw [hol]; exact hd)] at ht
          have hu : vv i = u := Option.some.inj ht
          subst hu
          have hdb := (hall i o hol).1
          rw [hd] at hdb
          refine ⟨v', ?_, hV⟩
          rw [hd]
          show (a.tmps.setIfInBounds t v')[t]? = some v'
          rw [Array.getElem?_setIfInBounds_self_of_lt (by rw [I.size]; simpa [dstB] using hdb)]
        · rw [valX_congr (Y := LX listed) ops.length (fun k h1 h2 => by
            refine ⟨fun h => ?_, .inl⟩
            rcases h with h | rfl
            · exact h
            · rw [hol] at h2
              exact absurd h2 hd)] at ht
          obtain ⟨x, h1, h2⟩ := I.tms t u ht
          refine ⟨x, ?_, h2.through E' I.rel⟩
          cases hdd : o.dst with
          | none => exact h1
          | some d =>
            show (a.tmps.setIfInBounds d v')[t]? = some x
            rw [Array.getElem?_setIfInBounds_ne (fun e => hd (by rw [hdd, e]))]
            exact h1
      · cases o.dst <;> simp [Act.put, I.size]
      · cases o.dst <;> exact I.defers
    have S : StR P A K nt r (pickT (tmE (EE i)) (o.looksAt ops.toArray) .nil) h a w := ⟨I.rel, TS, I.size, I.defers, I.io⟩
    unfold wpOp
    rw [ho]
    simp only
    have guard : ∀ b, guardE ops (EE i) o.guard = some b → Region.wanted o (yielded ops.toArray a.tmps) = b := fun b hg => by
      unfold Region.wanted
      cases hgd : o.guard with
      | none =>
        rw [hgd] at hg
        cases hg; rfl
      | some gw =>
        obtain ⟨g, want⟩ := gw
        rw [hgd] at hg
        have h1 : guardA ops.toArray (tmE (EE i)) g want = some b := by
          unfold guardA
          unfold guardE at hg
          simp only [List.getElem?_toArray]
          cases hp : ops[g]? with
          | none => simp [hp] at hg
          | some p =>
            simp only [hp] at hg ⊢
            cases hd : p.dst with
            | none => simp [hd] at hg
            | some d =>
              simp only [hd] at hg ⊢
              rw [tmE_get]
              cases hx : getL (EE i) d with
              | none => simp [hx] at hg
              | some x =>
                simp only [hx] at hg ⊢
                cases x with
                | bool q => cases q <;> cases want <;> simp_all
                | _ => simpa using hg
        rw [guardA_pick hgd] at h1
        exact guardA_ok S h1
    rcases (hall i o hol).2.2 with ⟨hg, hv⟩ | ⟨hg, hv⟩
    · rw [if_pos (guard true hg)]
      exact .inl (hv r A K a w _ Q I.rel TS I.at_ hb I.io next)
    · rw [if_neg (by rw [guard false hg]; simp)]
      exact next _ w r A K I.io I.rel (Ext.refl _ _ _ _ _) I.at_ (by rw [hv]; exact .undef)
/-- What is shown of the rest of such a region. -/
def DV (P : Program) (nt : Nat) (F : Fr) (ops : List Oper) (l : List Oper) (Q : Env → Prop) (E : Env) (h : AH) : Prop := ∃ E', ChainV P nt F ops h l E E' ∧ Q E'
theorem AW.drawV {id : Nat} {ops : List Oper} {Q : AEx → Env → AH → Prop} {E : Env} {h : AH} (hm : P.follows .mixedOrders = true) (hst : statB ops.toArray (masksOf ops.toArray) = true)
    (hc : DV P nt F ops ops (fun E' => Q .normal E' h) E h) : AW P nt F (.region id ops.toArray true) Q E h := by
  obtain ⟨E', h1, h2⟩ := hc
  intro r A K a w S T hb
  obtain ⟨EE, vv, g0, g1, g2⟩ := h1.seq
  refine wp_region_any hm ?_
  have hs0 : (Array.replicate ops.toArray.size false).size = ops.length := by simp
  have hno : ∀ k, ¬ LX (Array.replicate ops.toArray.size false) k := fun k hk => by
    unfold LX at hk
    rw [Array.getElem?_replicate] at hk
    split at hk <;> cases hk
  refine drawV_go hb (statB_ok hst) g0 g2 (fun X r A K a w hX I => ?_) ops.toArray.size _ a _ hs0 ?_ (fun j hj => absurd hj (hno j)) ⟨r, A, K, S.rel, fun t u ht => ?_, S.size, S.defers, T, S.io⟩
  · refine ⟨.normal, E', h, r, A, K, rfl, h2, ⟨I.rel, fun t u ht => ?_, I.size, I.defers, I.io⟩, I.at_, hb⟩
    rw [tmE_get] at ht
    refine I.tms t u ?_
    rw [valX_congr (Y := fun _ => True) ops.length (fun k hk _ => ⟨fun _ => trivial, fun _ => hX k hk⟩), valX_all g0 (fun j o hj => (g2 j o hj).2.1) t ops.length (Nat.le_refl _), g1]
    exact ht
  · unfold unl
    exact Nat.le_trans (List.length_filter_le _ _) (by simp)
  · rw [valX_more (i := 0) ops.length (Nat.zero_le _) (fun k _ _ hk => absurd hk (hno k))] at ht
    exact S.tms t u (by rw [tmE_get]; exact ht)
theorem DV.nil {ops : List Oper} {Q : Env → Prop} {E : Env} {h : AH} (hq : Q E) : DV P nt F ops [] Q E h := ⟨E, rfl, hq⟩
theorem DV.do {ops : List Oper} {o : Oper} {l : List Oper} {Q : Env → Prop} {E : Env} {h : AH} {v : AV} (hg : guardE ops E o.guard = some true) (hd : dstB nt o.dst = true) (hs : (opC P call0 o.op).run (tmE E) h = some [(v, h)])
    (k : DV P nt F ops l Q (putE E o.dst v) h) : DV P nt F ops (o :: l) Q E h := by
  obtain ⟨E', h1, h2⟩ := k
  exact ⟨E', ⟨hd, .inl ⟨hg, v, VOp.op hs, h1⟩⟩, h2⟩
theorem DV.no {ops : List Oper} {o : Oper} {l : List Oper} {Q : Env → Prop} {E : Env} {h : AH} (hg : guardE ops E o.guard = some false) (hd : dstB nt o.dst = true)
    (k : DV P nt F ops l Q (putE E o.dst .undef) h) : DV P nt F ops (o :: l) Q E h := by
  obtain ⟨E', h1, h2⟩ := k
  exact ⟨E', ⟨hd, .inr ⟨hg, h1⟩⟩, h2⟩
theorem DV.call {ops : List Oper} {dst : Option Tmp} {f : Operand} {args : Array Operand} {ats : Array TypeId} {ty : TypeId} {pos : String} {after : Array Edge} {guard : Option (Nat × Bool)} {l : List Oper} {Q : Env → Prop} {E : Env} {h : AH} {g : FuncId} {vs : List AV} (v : AV)
    (hg : guardE ops E guard = some true) (hf : opE E f = some (.func (.func g) [] [])) (hen : enterB P g = true) (ha : opsE E args.toList = some vs) (hd : dstB nt dst = true) (hc : FnOk P g vs h (fun u h' => u = v ∧ h' = h))
    (k : DV P nt F ops l Q (putE E dst v) h) : DV P nt F ops (⟨dst, .call ⟨.value f, args, ats⟩, ty, pos, after, guard⟩ :: l) Q E h := by
  obtain ⟨E', h1, h2⟩ := k
  exact ⟨E', ⟨hd, .inl ⟨hg, v, VOp.call hf hen ha hc, h1⟩⟩, h2⟩
theorem PureOk.val {f : FuncId} {args : List AV} {v : AV} (hp : PureOk P f args (fun u => u = v)) (hl : ∀ a ∈ args, Low 0 a) (h : AH) : FnOk P f args h (fun u h' => u = v ∧ h' = h) :=
  (hp.fn hl h).mono (fun u h' hu => ⟨hu.2.1, hu.1⟩)
end
end
end Go.Proofs.YtmeianaaiiiinaaGreat.Ev
