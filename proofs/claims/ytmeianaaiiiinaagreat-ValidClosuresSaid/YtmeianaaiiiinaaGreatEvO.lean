/- What the steps of a range over a map come to. -/
import Derived.Test.YtmeianaaiiiinaaGreatEvN
namespace Go.Proofs.YtmeianaaiiiinaaGreat.Ev
open Go
set_option linter.unusedVariables false
set_option linter.unusedSimpArgs false
set_option linter.all false
section
variable {P : Program} {r : Ren} {A K : Nat → Prop} {h : AH}

theorem ES.filter {H : Array Obj} {K : Nat → Prop} (p : Nat → Bool) : ∀ (es : List (AV × AV × Nat)) (ms : List MapEntry), ES H r K A es ms → ES H r K A (es.filter fun e => p e.2.2) (ms.filter fun m => p m.born)
  | [], [], h => h
  | [], m :: ms, h => by have := h.1; simp at this
  | e :: es, [], h => by have := h.1; simp at this
  | e :: es, m :: ms, h => by
    have h0 := h.2 0 e m rfl rfl
    have ih := ES.filter p es ms h.tail
    simp only [List.filter_cons, h0.2.2]
    cases p m.born with
    | false => simpa using ih
    | true =>
      simp only [if_true]
      refine ⟨by simp [ih.1], fun i a b ha hb => ?_⟩
      cases i with
      | zero => simp at ha hb; subst ha; subst hb; exact h0
      | succ i => exact ih.2 i a b (by simpa using ha) (by simpa using hb)
theorem ES.append {H : Array Obj} {K : Nat → Prop} {es fs : List (AV × AV × Nat)} {ms ns : List MapEntry} (h1 : ES H r K A es ms) (h2 : ES H r K A fs ns) : ES H r K A (es ++ fs) (ms ++ ns) := by
  refine ⟨by simp [h1.1, h2.1], fun i a b ha hb => ?_⟩
  rw [List.getElem?_append] at ha hb
  have hl := h1.1
  by_cases c : i < es.length
  · rw [if_pos c] at ha
    rw [if_pos (by omega)] at hb
    exact h1.2 i a b ha hb
  · rw [if_neg c] at ha
    rw [if_neg (by omega)] at hb
    exact h2.2 _ a b ha (by rw [hl]; exact hb)

theorem iter_block {w : World} (R : Rel P r A K h w.heap) {id : Nat} {m : Option Nat} {since k : Nat} {seen : List Nat} (hg : h.get id = some (.miter m since seen k)) :
    w.heap[r.blk id]? = some (.mapIter (m.map r.blk) since seen.toArray k) ∧ ∀ i, m = some i → K i := by
  obtain ⟨ob, hob, hO⟩ := R.ob id _ hg
  cases hO with
  | miter _ _ _ _ hi => exact ⟨hob, hi⟩
theorem V.flag {H : Array Obj} {K : Nat → Prop} (b : Bool) : V H r K A (.tuple [.bool b]) (.tuple #[.bool b]) :=
  .tuple _ _ rfl (fun i a v ha hv => by
    cases i with
    | zero => simp at ha hv; subst ha; subst hv; exact .bool b
    | succ i => simp at ha)
theorem V.step {H : Array Obj} {K : Nat → Prop} {a b : AV} {x y : Value} (h1 : V H r K A a x) (h2 : V H r K A b y) : V H r K A (.tuple [.bool true, a, b]) (.tuple #[.bool true, x, y]) :=
  .tuple _ _ rfl (fun i c v hc hv => by
    rcases i with _ | _ | _ | i
    · simp at hc hv; subst hc; subst hv; exact .bool true
    · simp at hc hv; subst hc; subst hv; exact h1
    · simp at hc hv; subst hc; subst hv; exact h2
    · simp at hc)

/-- A choice among n things, n not 0, takes one of them. -/
theorem run_pick (w : World) (n : Nat) (hn : 0 < n) : ∃ k w', (choose (.mapNext n)).run P w = .ok k w' ∧ k < n ∧ w'.heap = w.heap ∧ ioW w' = ioW w := by
  by_cases c : n ≤ 1
  · refine ⟨0, w, ?_, hn, rfl, rfl⟩
    simp [Question.forced, c]
  · refine ⟨w.tape w.drawn (.mapNext n) % n, { w with drawn := w.drawn + 1 }, ?_, Nat.mod_lt _ hn, rfl, rfl⟩
    simp [Question.forced, c, Question.cut]

theorem isEmpty_eq {α β : Type} (a : Array α) (l : List β) (h : l.length = a.size) : a.isEmpty = l.isEmpty := by
  cases l with
  | nil =>
    have : a.size = 0 := by simpa using h.symm
    simp [Array.isEmpty, this]
  | cons x l =>
    have : a.size ≠ 0 := by simp at h; omega
    simp [Array.isEmpty, this]
theorem nextA_ok (w : World) (R : Rel P r A K h w.heap) {x : AV} {vx : Value} {outs : List (AV × AH)} (hn : nextA h x = some outs) (hx : V w.heap r K A x vx) (ty : TypeId) :
    ∃ y w', (Instr.next vx false ty).run P w = .ok y w' ∧ ioW w' = ioW w ∧ Good P r A K h w.heap outs y w'.heap := by
  unfold nextA at hn
  split at hn
  · rename_i id
    cases hx with
    | ptr _ _ hid =>
      split at hn
      · -- over no map
        rename_i since seen k hg
        obtain ⟨hb, _⟩ := iter_block (w := w) R hg
        have hget := run_getObj' (P := P) w hb (by simp)
        cases hn
        exact ⟨.tuple #[.bool false], w, by simp [Instr.next, hget], rfl, Good.same R (.flag false)⟩
      · rename_i m since seen last hg
        obtain ⟨hb, hmi⟩ := iter_block (w := w) R hg
        have hget := run_getObj' (P := P) w hb (by simp)
        split at hn
        · rename_i es c hgm
          obtain ⟨ms, hbm, hes⟩ := map_block (w := w) R hgm
          have hgetm := run_getObj' (P := P) w hbm (by simp)
          have hl := hes.1
          simp only [Array.length_toList] at hl
          split at hn
          · cases hn
          · rename_i hcond
            have hall : (ms.all fun e => decide (last ≤ e.born)) = es.all fun e => decide (last ≤ e.2.2) := by
              rw [← Array.all_toList, Bool.eq_iff_iff, List.all_eq_true, List.all_eq_true]
              constructor
              · intro hh e he
                obtain ⟨i, hi, e1⟩ := List.getElem_of_mem he
                have := hes.2 i e ms.toList[i] (by rw [List.getElem?_eq_getElem hi, e1]) (List.getElem?_eq_getElem (by have := hes.1; omega))
                rw [this.2.2]
                exact hh _ (List.getElem_mem _)
              · intro hh e he
                obtain ⟨i, hi, e1⟩ := List.getElem_of_mem he
                have hi' : i < es.length := by have := hes.1; omega
                have := hes.2 i es[i] e (List.getElem?_eq_getElem hi') (by rw [List.getElem?_eq_getElem hi, e1])
                rw [← this.2.2]
                exact hh _ (List.getElem_mem _)
            have hemp : ms.isEmpty = es.isEmpty := isEmpty_eq ms es hl
            have hcond' : (!seen.toArray.isEmpty && !ms.isEmpty && ms.all fun e => decide (last ≤ e.born)) = false := by
              rw [hall, hemp]
              simpa using hcond
            let left := es.filter fun e => !seen.contains e.2.2
            let old := left.filter fun e => decide (e.2.2 < since)
            let new := left.filter fun e => decide (since ≤ e.2.2)
            let vleft := ms.filter fun e => !seen.toArray.contains e.born
            let vold := vleft.filter fun e => decide (e.born < since)
            let vnew := vleft.filter fun e => decide (since ≤ e.born)
            have hleft : ES w.heap r K A left vleft.toList := by
              have e1 : vleft.toList = ms.toList.filter fun e => !seen.contains e.born := by
                simp only [vleft, Array.toList_filter, List.contains_toArray]
              rw [e1]
              exact ES.filter (fun b => !seen.contains b) es ms.toList hes
            have hold : ES w.heap r K A old vold.toList := by
              have := ES.filter (fun b => decide (b < since)) left vleft.toList hleft
              simpa [vold] using this
            have hnew : ES w.heap r K A new vnew.toList := by
              have := ES.filter (fun b => decide (since ≤ b)) left vleft.toList hleft
              simpa [vnew] using this
            have hboth : ES w.heap r K A (old ++ new) (vold ++ vnew).toList := by
              rw [Array.toList_append]; exact hold.append hnew
            have hoe : vold.isEmpty = old.isEmpty := isEmpty_eq vold old (by have := hold.1; simpa using this)
            let cands : Array (Option MapEntry) := (if vold.isEmpty then #[none] else #[]) ++ (vold ++ vnew).map some
            have hpos : 0 < cands.size := by
              simp only [cands, Array.size_append, Array.size_map]
              by_cases e : vold.isEmpty = true
              · rw [if_pos e]; simp; omega
              · have : vold.size ≠ 0 := fun h0 => e (by simp [Array.isEmpty, h0])
                rw [if_neg e]; simp; omega
            cases hn
            obtain ⟨q, w1, hq, hlt, hw1, hio1⟩ := run_pick (P := P) w cands.size hpos
            have hR1 : Rel P r A K h w1.heap := hw1 ▸ R
            have hcand : cands[q]? = some cands[q] := by rw [Array.getElem?_eq_getElem]
            have hc2 : (!seen.toArray.isEmpty && !ms.isEmpty && ms.all fun x => decide (x.born ≥ last)) = false := hcond'
            have hgetm1 : ∀ w2 : World, w2.heap = w.heap → (getObj (r.blk m)).run P w2 = .ok (.map ms c) w2 := fun w2 e => run_getObj' w2 (by rw [e]; exact hbm) (by simp)
            have hrun : ∀ (y : Value) (w2 : World), (match cands[q] with
                | some e => (do setObj (r.blk id) (.mapIter (some (r.blk m)) since (seen.toArray.push e.born) c); pure (.tuple #[.bool true, e.key, e.val]) : Sem Value)
                | none => pure (.tuple #[.bool false])).run P w1 = .ok y w2 → (Instr.next (.pointer (some ⟨r.blk id, 0, none⟩)) false ty).run P w = .ok y w2 := by
              intro y w2 hm
              simp only [Instr.next, Sem.run_bind, hget, Result.andThen_ok, Option.map_some, hgetm, hc2, Bool.false_eq_true, if_false, Sem.run_pure]
              have hq' : (choose (.mapNext ((if vold.isEmpty = true then #[none] else #[]) ++ (vold ++ vnew).map some).size)).run P w = .ok q w1 := hq
              erw [hq']
              simp only [Result.andThen_ok]
              erw [hcand]
              cases hcq : cands[q] with
              | none => rw [hcq] at hm; exact hm
              | some e => rw [hcq] at hm; exact hm
            have hsz : cands.size = (if vold.isEmpty then 1 else 0) + (vold.size + vnew.size) := by
              simp only [cands, Array.size_append, Array.size_map]
              by_cases e : vold.isEmpty = true
              · rw [if_pos e, if_pos e]; rfl
              · rw [if_neg e, if_neg e]; rfl
            -- which one it is
            have hwhich : (cands[q] = none ∧ old.isEmpty = true) ∨ ∃ e ev, cands[q] = some e ∧ ev ∈ old ++ new ∧ V w.heap r K A ev.1 e.key ∧ V w.heap r K A ev.2.1 e.val ∧ ev.2.2 = e.born := by
              have hget2 : ∀ i (hi : i < (vold ++ vnew).size), ∃ ev, ev ∈ old ++ new ∧ V w.heap r K A ev.1 (vold ++ vnew)[i].key ∧ V w.heap r K A ev.2.1 (vold ++ vnew)[i].val ∧ ev.2.2 = (vold ++ vnew)[i].born := by
                intro i hi
                have hi2 : i < (old ++ new).length := by have := hboth.1; rw [this]; simpa using hi
                have := hboth.2 i (old ++ new)[i] (vold ++ vnew)[i] (List.getElem?_eq_getElem hi2) (by rw [Array.getElem?_toList, Array.getElem?_eq_getElem hi])
                exact ⟨_, List.getElem_mem hi2, this⟩
              have hlt' := hlt
              by_cases e : vold.isEmpty = true
              · have hce : cands = #[none] ++ (vold ++ vnew).map some := by simp only [cands]; rw [if_pos e]
                cases q with
                | zero => exact .inl ⟨by simp [hce], by rw [← hoe]; exact e⟩
                | succ q =>
                  have hq2 : q < (vold ++ vnew).size := by rw [hsz, if_pos e] at hlt'; simp; omega
                  obtain ⟨ev, h1, h2⟩ := hget2 q hq2
                  refine .inr ⟨(vold ++ vnew)[q], ev, ?_, h1, h2⟩
                  have : cands[q + 1]? = some (some (vold ++ vnew)[q]) := by
                    rw [hce, Array.getElem?_append_right (by simp)]
                    show ((vold ++ vnew).map some)[q + 1 - 1]? = _
                    rw [Nat.add_sub_cancel, Array.getElem?_map, Array.getElem?_eq_getElem hq2]
                    rfl
                  rw [this] at hcand
                  exact (Option.some.inj hcand).symm
              · have hce : cands = (vold ++ vnew).map some := by simp only [cands]; rw [if_neg e]; simp
                have hq2 : q < (vold ++ vnew).size := by rw [hsz, if_neg e] at hlt'; simp; omega
                obtain ⟨ev, h1, h2⟩ := hget2 q hq2
                refine .inr ⟨(vold ++ vnew)[q], ev, ?_, h1, h2⟩
                have : cands[q]? = some (some (vold ++ vnew)[q]) := by
                  rw [hce, Array.getElem?_map, Array.getElem?_eq_getElem hq2]
                  rfl
                rw [this] at hcand
                exact (Option.some.inj hcand).symm
            rcases hwhich with ⟨hno, hoe2⟩ | ⟨e, ev, hyes, hmem, hV1, hV2, hborn⟩
            · rw [hno] at hrun
              refine ⟨.tuple #[.bool false], w1, hrun _ _ (by simp), hio1, AV.tuple [.bool false], h, r, K, ?_, hw1 ▸ R, by rw [hw1]; exact Ext.refl _ _ _ _ _, .flag false⟩
              have : old.isEmpty = true := hoe2
              rw [if_pos this]
              exact List.mem_append.2 (.inl (List.mem_singleton.2 rfl))
            · rw [hyes] at hrun
              have hb1 : w1.heap[r.blk id]? = some (.mapIter (Option.map r.blk (some m)) since seen.toArray last) := by rw [hw1]; exact hb
              have hrel := rel_set (x' := .mapIter (some (r.blk m)) since (seen.toArray.push e.born) c) (o' := .miter (some m) since (seen ++ [ev.2.2]) c) R hg (by
                have e2 : seen.toArray.push e.born = (seen ++ [ev.2.2]).toArray := by rw [hborn]; simp
                rw [e2]
                exact .miter (some m) since (seen ++ [ev.2.2]) c hmi)
              have hlt := R.lt id _ hg
              have hkeep : ∀ ob b, A b → (w.heap.setIfInBounds (r.blk id) ob)[b]? = w.heap[b]? := fun ob b hb => set_ne (fun e => hlt.2.2 (e ▸ hb))
              refine ⟨.tuple #[.bool true, e.key, e.val], { w1 with heap := w1.heap.setIfInBounds (r.blk id) (.mapIter (some (r.blk m)) since (seen.toArray.push e.born) c) }, hrun _ _ ?_, hio1, _, _, r, K, List.mem_append.2 (.inr (List.mem_map.2 ⟨ev, hmem, rfl⟩)), ?_, ?_, ?_⟩
              · simp [run_setObj' (P := P) w1 hb1 (by simp)]
              · show Rel P r A K _ (w1.heap.setIfInBounds _ _)
                rw [hw1]; exact hrel.1
              · show Ext r A K h w.heap r A K _ (w1.heap.setIfInBounds _ _)
                rw [hw1]; exact hrel.2
              · show V (w1.heap.setIfInBounds _ _) r K A _ _
                rw [hw1]
                exact .step (hV1.ext (fun _ h => h) (fun _ _ => ⟨rfl, rfl⟩) (fun _ h => h) (hkeep _)) (hV2.ext (fun _ h => h) (fun _ _ => ⟨rfl, rfl⟩) (fun _ h => h) (hkeep _))
        · cases hn
      · cases hn
  · cases hn

theorem findBorn_ok {H : Array Obj} {K : Nat → Prop} (s : Nat) : ∀ (es : List (AV × AV × Nat)) (ms : List MapEntry) (k v : AV), ES H r K A es ms → findBorn es s = some (k, v) → ∃ m, ms.find? (fun e => e.born == s) = some m ∧ V H r K A k m.key ∧ V H r K A v m.val
  | [], ms, k, v, hes, hb => by simp [findBorn] at hb
  | (k', v', b) :: es, ms, k, v, hes, hb => by
    cases ms with
    | nil => have := hes.1; simp at this
    | cons m ms =>
      have h0 := hes.2 0 (k', v', b) m rfl rfl
      simp only at h0
      simp only [findBorn] at hb
      by_cases c : b = s
      · rw [if_pos c] at hb
        cases hb
        have : m.born = s := by omega
        exact ⟨m, by simp [List.find?_cons, this], h0.1, h0.2.1⟩
      · rw [if_neg c] at hb
        obtain ⟨m', h1, h2⟩ := findBorn_ok s es ms k v hes.tail hb
        have hne : (m.born == s) = false := by
          have : ¬ m.born = s := by omega
          simp [this]
        exact ⟨m', by simp [List.find?_cons, hne, h1], h2⟩
theorem entryA_ok (w : World) (R : Rel P r A K h w.heap) {x y : AV} {vx : Value} (hn : entryA h x = some y) (hx : V w.heap r K A x vx) :
    ∃ v, (Instr.entry vx).run P w = .ok v w ∧ V w.heap r K A y v := by
  unfold entryA at hn
  split at hn
  · rename_i id
    cases hx with
    | ptr _ _ hid =>
      split at hn
      · rename_i m since seen stepped hg
        obtain ⟨hb, hmi⟩ := iter_block (w := w) R hg
        have hget := run_getObj' (P := P) w hb (by simp)
        split at hn
        · rename_i es c s hgm hlast
          obtain ⟨ms, hbm, hes⟩ := map_block (w := w) R hgm
          have hgetm := run_getObj' (P := P) w hbm (by simp)
          by_cases hc : c = stepped
          · rw [if_pos hc] at hn
            cases hf : findBorn es s with
            | none => simp [hf] at hn
            | some p =>
              obtain ⟨k, v⟩ := p
              simp only [hf] at hn
              cases hn
              obtain ⟨e, h1, h2, h3⟩ := findBorn_ok s es ms.toList k v hes hf
              have hfind : ms.find? (fun e => e.born == s) = some e := by
                rw [← h1, ← List.find?_toArray, Array.toArray_toList]
              have hback : seen.toArray.back? = some s := by
                rw [List.back?_toArray]; exact hlast
              refine ⟨.tuple #[e.key, e.val], ?_, h2.pair h3⟩
              subst hc
              simp [Instr.entry, hget, hback, hgetm, hfind]
          · rw [if_neg hc] at hn; cases hn
        · cases hn
      · cases hn
  · cases hn
end
end Go.Proofs.YtmeianaaiiiinaaGreat.Ev
