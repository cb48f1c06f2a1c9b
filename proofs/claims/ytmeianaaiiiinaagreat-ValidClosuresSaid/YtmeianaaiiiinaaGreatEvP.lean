/- What each operation comes to, that is no call of a Go function. -/
import Derived.Test.YtmeianaaiiiinaaGreatEvO
namespace Go.Proofs.YtmeianaaiiiinaaGreat.Ev
open Go
set_option linter.unusedVariables false
set_option linter.unusedSimpArgs false
set_option linter.all false
/-- An operation's run, and what may come out. -/
def OpOk (P : Program) (r : Ren) (A K : Nat → Prop) (h : AH) (w : World) (s : Sem Next) (outs : List (AV × AH)) : Prop :=
  ∃ nx v' w', s.run P w = .ok nx w' ∧ (nx = .value v' ∨ (nx = .skip ∧ v' = undef)) ∧ ioW w' = ioW w ∧ Good P r A K h w.heap outs v' w'.heap
section
variable {P : Program} {r : Ren} {A K : Nat → Prop} {h : AH}

theorem on1_some {tm : TM} {x : Operand} {f : AV → Outs (AV × AH)} {outs : List (AV × AH)} (ho : on1 tm x f = some outs) : ∃ v, operand tm x = some v ∧ f v = some outs := by
  unfold on1 at ho
  cases hx : operand tm x with
  | none => simp [hx] at ho
  | some v => simp only [hx] at ho; exact ⟨v, rfl, ho⟩
theorem on2_some {tm : TM} {x y : Operand} {f : AV → AV → Outs (AV × AH)} {outs : List (AV × AH)} (ho : on2 tm x y f = some outs) : ∃ u v, operand tm x = some u ∧ operand tm y = some v ∧ f u v = some outs := by
  unfold on2 at ho
  cases hx : operand tm x with
  | none => simp [hx] at ho
  | some u =>
    simp only [hx] at ho
    cases hy : operand tm y with
    | none => simp [hy] at ho
    | some v => simp only [hy] at ho; exact ⟨u, v, rfl, rfl, ho⟩
theorem on3_some {tm : TM} {x y z : Operand} {f : AV → AV → AV → Outs (AV × AH)} {outs : List (AV × AH)} (ho : on3 tm x y z f = some outs) :
    ∃ u v s, operand tm x = some u ∧ operand tm y = some v ∧ operand tm z = some s ∧ f u v s = some outs := by
  unfold on3 at ho
  cases hx : operand tm x with
  | none => simp [hx] at ho
  | some u =>
    simp only [hx] at ho
    cases hy : operand tm y with
    | none => simp [hy] at ho
    | some v =>
      simp only [hy] at ho
      cases hz : operand tm z with
      | none => simp [hz] at ho
      | some s => simp only [hz] at ho; exact ⟨u, v, s, rfl, rfl, rfl, ho⟩
theorem val1_some {x : Option AV} {outs : List (AV × AH)} (ho : val1 h x = some outs) : ∃ v, x = some v ∧ outs = [(v, h)] := by
  cases x with
  | none => simp [val1] at ho
  | some v => simp [val1, one] at ho; exact ⟨v, rfl, ho.symm⟩
theorem val2_some {x : Option (AV × AH)} {outs : List (AV × AH)} (ho : val2 x = some outs) : ∃ v, x = some v ∧ outs = [v] := by
  cases x with
  | none => simp [val2] at ho
  | some v => simp [val2, one] at ho; exact ⟨v, rfl, ho.symm⟩
theorem val3_some {x : Option AH} {outs : List (AV × AH)} (ho : val3 x = some outs) : ∃ h', x = some h' ∧ outs = [(.undef, h')] := by
  cases x with
  | none => simp [val3] at ho
  | some v => simp [val3, one] at ho; exact ⟨v, rfl, ho.symm⟩
theorem V.undef {H : Array Obj} {K : Nat → Prop} : V H r K A AV.undef undef := .tuple _ _ rfl (fun i a v ha hv => by simp at ha)

/-- A value that comes out, and the world stays. -/
theorem OpOk.val {w : World} (R : Rel P r A K h w.heap) {s : Sem Value} {x : AV} {outs : List (AV × AH)} {v : Value} (h1 : s.run P w = .ok v w) (h2 : V w.heap r K A x v) (ho : outs = [(x, h)]) :
    OpOk P r A K h w (do pure (.value (← s)) : Sem Next) outs := by
  subst ho
  exact ⟨.value v, v, w, by simp [h1], .inl rfl, rfl, Good.same R h2⟩
/-- A value and a world that come out. -/
theorem OpOk.put {w : World} {s : Sem Value} {outs : List (AV × AH)} (hh : ∃ y w', s.run P w = .ok y w' ∧ ioW w' = ioW w ∧ Good P r A K h w.heap outs y w'.heap) : OpOk P r A K h w (do pure (.value (← s)) : Sem Next) outs := by
  obtain ⟨y, w', h1, h2⟩ := hh
  exact ⟨.value y, y, w', by simp [h1], .inl rfl, h2⟩
/-- A world that comes out. -/
theorem OpOk.unit {w : World} {s : Sem Unit} {outs : List (AV × AH)} {h' : AH} (hh : ∃ w', s.run P w = .ok () w' ∧ ioW w' = ioW w ∧ Rel P r A K h' w'.heap ∧ Ext r A K h w.heap r A K h' w'.heap) (ho : outs = [(.undef, h')]) :
    OpOk P r A K h w (do s; pure .skip : Sem Next) outs := by
  subst ho
  obtain ⟨w', h1, hio, h2, h3⟩ := hh
  exact ⟨.skip, undef, w', by simp [h1], .inr ⟨rfl, rfl⟩, hio, _, _, _, _, List.mem_singleton.2 rfl, h2, h3, .undef⟩

theorem map_toList {α β : Type} (f : α → β) (l : Array α) : (l.map f).toList = l.toList.map f := by simp
set_option maxHeartbeats 4000000 in
theorem opA_ok (w : World) (R : Rel P r A K h w.heap) {tm : TM} {a : Act} (ht : TMR w.heap r K A tm a.tmps) (o : Oper) {outs : List (AV × AH)} (ho : (opA P o.op).run tm h = some outs) : OpOk P r A K h w (execOp a.eval o) outs := by
  obtain ⟨dst, op, type, pos, after, guard⟩ := o
  cases op <;> simp only [opA] at ho
  case move x =>
    obtain ⟨v, h1, h2⟩ := val1_some ho
    subst h2
    exact ⟨.value (a.eval x), a.eval x, w, by simp [execOp], .inl rfl, rfl, Good.same R (operand_V ht h1)⟩
  case assign x =>
    obtain ⟨v, h1, h2⟩ := val1_some ho
    subst h2
    exact ⟨.value (a.eval x), a.eval x, w, by simp [execOp], .inl rfl, rfl, Good.same R (operand_V ht h1)⟩
  case pick c x y =>
    unfold opPick at ho
    split at ho
    · rename_i hc
      obtain ⟨v, h1, h2⟩ := val1_some ho
      subst h2
      have hcv := operand_V ht hc
      generalize hce : a.eval c = vc at hcv
      cases hcv
      exact ⟨.value (a.eval x), a.eval x, w, by simp [execOp, hce, asBool], .inl rfl, rfl, Good.same R (operand_V ht h1)⟩
    · rename_i hc
      obtain ⟨v, h1, h2⟩ := val1_some ho
      subst h2
      have hcv := operand_V ht hc
      generalize hce : a.eval c = vc at hcv
      cases hcv
      exact ⟨.value (a.eval y), a.eval y, w, by simp [execOp, hce, asBool], .inl rfl, rfl, Good.same R (operand_V ht h1)⟩
    · cases ho
  case alloc e =>
    have := opAlloc_ok w R ho
    exact OpOk.put this
  case box e x =>
    unfold opBox at ho
    cases hx : operand tm x with
    | none => simp [hx] at ho
    | some v =>
      simp only [hx, one] at ho
      cases ho
      exact OpOk.put (opBox_ok w R (operand_V ht hx))
  case build t ps =>
    unfold opBuild at ho
    cases hx : operands tm (ps.toList.map (·.2)) with
    | none => simp [hx] at ho
    | some vs =>
      simp only [hx] at ho
      obtain ⟨v, h1, h2⟩ := val1_some ho
      have hp := parts_V ht hx
      have e : (ps.map fun (i, x) => (i, a.eval x)).toList = ps.toList.map fun (i, x) => (i, a.eval x) := map_toList _ _
      obtain ⟨y, h3, h4⟩ := buildA_ok (vparts := ps.map fun (i, x) => (i, a.eval x)) w h1 (by rw [e]; exact hp.1) (by rw [e]; exact hp.2)
      exact OpOk.val R h3 h4 h2
  case buildSlice t n ps =>
    unfold opBuildSlice at ho
    cases hx : operands tm (ps.toList.map (·.2)) with
    | none => simp [hx] at ho
    | some vs =>
      simp only [hx] at ho
      obtain ⟨v, h1, h2⟩ := val2_some ho
      subst h2
      have hp := parts_V ht hx
      have e : (ps.map fun (i, x) => (i, a.eval x)).toList = ps.toList.map fun (i, x) => (i, a.eval x) := map_toList _ _
      exact OpOk.put (buildSliceA_ok (vparts := ps.map fun (i, x) => (i, a.eval x)) w R h1 (by rw [e]; exact hp.1) (by rw [e]; exact hp.2))
  case load t x =>
    obtain ⟨v, h1, h2⟩ := on1_some ho
    obtain ⟨u, h3, h4⟩ := val1_some h2
    obtain ⟨y, h5, h6⟩ := loadA_ok w R h3 (operand_V ht h1)
    exact OpOk.val R h5 h6 h4
  case store t x y =>
    obtain ⟨u, v, h1, h2, h3⟩ := on2_some ho
    obtain ⟨h', h4, h5⟩ := val3_some h3
    exact OpOk.unit (storeA_ok w R h4 (operand_V ht h1) (operand_V ht h2)) h5
  case nilCheck x =>
    obtain ⟨v, h1, h2⟩ := on1_some ho
    have hv := operand_V ht h1
    unfold nilCheckA at h2
    split at h2
    · simp [one] at h2; subst h2
      generalize hxe : a.eval x = vx at hv
      cases hv with
      | ptr _ _ hi => exact ⟨_, _, w, by simp [execOp, hxe], .inl rfl, rfl, Good.same R (.ptr _ _ hi)⟩
    · simp [one] at h2; subst h2
      generalize hxe : a.eval x = vx at hv
      cases hv with
      | rptr _ _ b o hA hc hh => exact ⟨_, _, w, by simp [execOp, hxe], .inl rfl, rfl, Good.same R (.rptr _ _ b o hA hc hh)⟩
    · cases h2
  case binOp op t x y yt =>
    obtain ⟨u, v, h1, h2, h3⟩ := on2_some ho
    obtain ⟨z, h4, h5⟩ := val1_some h3
    obtain ⟨q, h6, h7⟩ := binA_ok w x y h4 (operand_V ht h1) (operand_V ht h2)
    exact OpOk.val R h6 h7 h5
  case unOp op t x =>
    obtain ⟨v, h1, h2⟩ := on1_some ho
    obtain ⟨z, h4, h5⟩ := val1_some h2
    obtain ⟨q, h6, h7⟩ := unA_ok (P := P) w h4 (operand_V ht h1)
    exact OpOk.val R h6 h7 h5
  case convert s d x =>
    obtain ⟨v, h1, h2⟩ := on1_some ho
    obtain ⟨z, h4, h5⟩ := val1_some h2
    obtain ⟨q, h6, h7⟩ := convA_ok w h4 (operand_V ht h1)
    exact OpOk.val R h6 h7 h5
  case makeFunc fn fs cs =>
    unfold opMakeFunc at ho
    cases h1 : operands tm fs.toList with
    | none => simp [h1] at ho
    | some vf =>
      cases h2 : operands tm cs.toList with
      | none => simp [h1, h2] at ho
      | some vc =>
        simp [h1, h2, one] at ho
        subst ho
        have v1 := operands_VS ht h1
        have v2 := operands_VS ht h2
        refine ⟨.value (.func fn (fs.map a.eval) (cs.map a.eval)), _, w, by simp [execOp, Instr.makeFunc], .inl rfl, rfl, Good.same R (.func fn vf vc _ _ (by have := v1.1; simpa using this) (by have := v2.1; simpa using this)
          (fun i x v hx hv => v1.2 i x v hx (by simpa using hv)) (fun i x v hx hv => v2.2 i x v hx (by simpa using hv)))⟩
  case makeMap t rs =>
    have hmk : ∀ s : Sem Value, s.run P w = .ok (.map (some w.heap.size)) { w with heap := w.heap.push (.map #[] 0) } → OpOk P r A K h w (do pure (.value (← s)) : Sem Next) [(.map h.next, h.new (.mp [] 0))] := by
      intro s hs
      have hr := rel_new (o := .mp [] 0) (x := .map #[] 0) R 0 (.mp _ _ _ rfl (fun i e m he hm => by simp at he))
      refine ⟨.value (.map (some w.heap.size)), _, { w with heap := w.heap.push (.map #[] 0) }, by simp [hs], .inl rfl, rfl, _, _, _, _, List.mem_singleton.2 rfl, hr.1, hr.2, ?_⟩
      have := V.map (H := w.heap.push (.map #[] 0)) (r := r.upd h.next w.heap.size 0) (K := Kn K h.next) (A := A) h.next (.inr rfl)
      rw [(r.upd_at _ _ _).1] at this
      exact this
    unfold opMakeMap at ho
    cases rs with
    | none =>
      simp [one] at ho
      subst ho
      exact hmk (Instr.makeMap t none) (by simp [Instr.makeMap])
    | some x =>
      simp only at ho
      split at ho
      · rename_i k e hu
        split at ho
        · rename_i k n hx
          simp [one] at ho
          subst ho
          have hv := operand_V ht hx
          have : (execOp a.eval ⟨dst, .makeMap t (some x), type, pos, after, guard⟩) = (do pure (.value (← Instr.makeMap t (some (a.eval x)))) : Sem Next) := rfl
          rw [this]
          generalize hxe : a.eval x = vx at hv
          cases hv
          exact hmk _ (by simp [Instr.makeMap, run_underlying hu, asInt, asIntOf])
        · cases ho
      · cases ho
  case makeSlice t l c =>
    obtain ⟨u, v, h1, h2, h3⟩ := on2_some ho
    obtain ⟨z, h4, h5⟩ := val2_some h3
    subst h5
    exact OpOk.put (makeSliceA_ok w R h4 (operand_V ht h1) (operand_V ht h2))
  case slice t x lo hi mx =>
    unfold opSlice at ho
    cases h1 : operand tm x with
    | none => simp [h1] at ho
    | some vx =>
      simp only [h1] at ho
      cases h2 : optOp tm lo with
      | none => simp [h2] at ho
      | some vlo =>
        simp only [h2] at ho
        cases h3 : optOp tm hi with
        | none => simp [h3] at ho
        | some vhi =>
          simp only [h3] at ho
          cases h4 : optOp tm mx with
          | none => simp [h4] at ho
          | some vmx =>
            simp only [h4] at ho
            obtain ⟨z, h5, h6⟩ := val1_some ho
            obtain ⟨q, h7, h8⟩ := sliceA_ok (P := P) w h5 (operand_V ht h1) (optOp_V ht h2) (optOp_V ht h3) (optOp_V ht h4)
            exact OpOk.val R h7 h8 h6
  case fieldAddr s x f =>
    obtain ⟨v, h1, h2⟩ := on1_some ho
    obtain ⟨z, h4, h5⟩ := val1_some h2
    obtain ⟨q, h6, h7⟩ := fieldAddrA_ok w h4 (operand_V ht h1)
    exact OpOk.val R h6 h7 h5
  case field s x f =>
    obtain ⟨v, h1, h2⟩ := on1_some ho
    obtain ⟨z, h4, h5⟩ := val1_some h2
    obtain ⟨q, h6, h7⟩ := fieldA_ok w h4 (operand_V ht h1)
    exact OpOk.val R h6 h7 h5
  case indexAddr t x i =>
    obtain ⟨u, v, h1, h2, h3⟩ := on2_some ho
    obtain ⟨z, h4, h5⟩ := val1_some h3
    obtain ⟨q, h6, h7⟩ := indexAddrA_ok w h4 (operand_V ht h1) (operand_V ht h2)
    exact OpOk.val R h6 h7 h5
  case index t x i =>
    obtain ⟨u, v, h1, h2, h3⟩ := on2_some ho
    obtain ⟨z, h4, h5⟩ := val1_some h3
    obtain ⟨q, h6, h7⟩ := indexA_ok w h4 (operand_V ht h1) (operand_V ht h2)
    exact OpOk.val R h6 h7 h5
  case lookup t x i ok =>
    obtain ⟨u, v, h1, h2, h3⟩ := on2_some ho
    obtain ⟨z, h4, h5⟩ := val1_some h3
    obtain ⟨q, h6, h7⟩ := lookupA_ok w R h4 (operand_V ht h1) (operand_V ht h2)
    exact OpOk.val R h6 h7 h5
  case mapUpdate t m k v =>
    obtain ⟨u, s, q, h1, h2, h3, h4⟩ := on3_some ho
    obtain ⟨h', h5, h6⟩ := val3_some h4
    exact OpOk.unit (mapUpdateA_ok w R h5 (operand_V ht h1) (operand_V ht h2) (operand_V ht h3)) h6
  case insert t m k v =>
    obtain ⟨u, s, q, h1, h2, h3, h4⟩ := on3_some ho
    obtain ⟨h', h5, h6⟩ := val3_some h4
    exact OpOk.unit (mapUpdateA_ok w R h5 (operand_V ht h1) (operand_V ht h2) (operand_V ht h3)) h6
  case mapEntry t m k =>
    obtain ⟨u, v, h1, h2, h3⟩ := on2_some ho
    obtain ⟨z, h4, h5⟩ := val2_some h3
    subst h5
    exact OpOk.put (mapEntryA_ok w R h4 (operand_V ht h1) (operand_V ht h2))
  case entryStore t m s v =>
    obtain ⟨u, q, z, h1, h2, h3, h4⟩ := on3_some ho
    obtain ⟨h', h5, h6⟩ := val3_some h4
    exact OpOk.unit (entryStoreA_ok w R h5 (operand_V ht h1) (operand_V ht h2) (operand_V ht h3)) h6
  case range t x =>
    obtain ⟨v, h1, h2⟩ := on1_some ho
    obtain ⟨z, h4, h5⟩ := val2_some h2
    subst h5
    exact OpOk.put (rangeA_ok w R h4 (operand_V ht h1))
  case next it s =>
    cases s with
    | true => cases ho
    | false =>
      obtain ⟨v, h1, h2⟩ := on1_some ho
      exact OpOk.put (nextA_ok w R h2 (operand_V ht h1) type)
  case entry it =>
    obtain ⟨v, h1, h2⟩ := on1_some ho
    obtain ⟨z, h4, h5⟩ := val1_some h2
    obtain ⟨q, h6, h7⟩ := entryA_ok w R h4 (operand_V ht h1)
    exact OpOk.val R h6 h7 h5
  case extract x i =>
    obtain ⟨v, h1, h2⟩ := on1_some ho
    have hv := operand_V ht h1
    unfold extractA at h2
    split at h2
    · rename_i vs
      obtain ⟨z, h4, h5⟩ := val1_some h2
      have : (execOp a.eval ⟨dst, .extract x i, type, pos, after, guard⟩) = (do pure (.value (← Instr.extract (a.eval x) i)) : Sem Next) := rfl
      rw [this]
      generalize hxe : a.eval x = vx at hv
      cases hv with
      | tuple _ us hl hh =>
        have hi := (List.getElem?_eq_some_iff.1 h4).1
        have hg : us[i]? = some us[i] := by rw [Array.getElem?_eq_getElem]
        exact OpOk.val R (v := us[i]) (by simp [Instr.extract, hg]) (hh i z _ h4 hg) h5
    · cases h2
  all_goals (cases ho)
end
end Go.Proofs.YtmeianaaiiiinaaGreat.Ev
