/- What entries of maps and ranges over maps come to; len and cap. -/
import Derived.Test.YtmeianaaiiiinaaGreatEvM
namespace Go.Proofs.YtmeianaaiiiinaaGreat.Ev
open Go
set_option linter.unusedVariables false
set_option linter.unusedSimpArgs false
set_option linter.all false
section
variable {P : Program} {r : Ren} {A K : Nat → Prop} {h : AH}

theorem goodSet {w : World} {v : AV} {v' : Value} {h' : AH} {H' : Array Obj} (hr : Rel P r A K h' H' ∧ Ext r A K h w.heap r A K h' H') (hv : V H' r K A v v') : Good P r A K h w.heap [(v, h')] v' H' :=
  ⟨v, h', r, K, List.mem_singleton.2 rfl, hr.1, hr.2, hv⟩

theorem mapEntryA_ok (w : World) (R : Rel P r A K h w.heap) {t : TypeId} {m k : AV} {vm vk : Value} {res : AV × AH} (hu : mapEntryA P h t m k = some res) (hm : V w.heap r K A m vm) (hk : V w.heap r K A k vk) :
    ∃ y w', (Instr.mapEntry t vm vk).run P w = .ok y w' ∧ ioW w' = ioW w ∧ Good P r A K h w.heap [res] y w'.heap := by
  unfold mapEntryA at hu
  split at hu
  · rename_i kt et id hut
    cases hm with
    | map _ hid =>
      cases hg : h.get id with
      | none => simp [hg] at hu
      | some o =>
        cases o with
        | mp es c =>
          simp only [hg] at hu
          by_cases hkf : keyFits P kt k = true
          · rw [if_pos hkf] at hu
            obtain ⟨ms, hb, hes⟩ := map_block (w := w) R hg
            have hck : (Instr.checkKey false 10000 kt vk).run P w = .ok () w := ckA_ok w 9984 16 kt k vk false hkf hk
            have hget := run_getObj' (P := P) w hb (by simp)
            have hlt := R.lt id _ hg
            have hkeep : ∀ ob b, A b → (w.heap.setIfInBounds (r.blk id) ob)[b]? = w.heap[b]? := fun ob b hb => set_ne (fun e => hlt.2.2 (e ▸ hb))
            have hud : ∃ d, P.underlying kt = some d := by
              unfold keyFits ckA at hkf
              cases hd : P.underlying kt with
              | none => simp [hd] at hkf
              | some d => exact ⟨d, rfl⟩
            obtain ⟨d, hud⟩ := hud
            have hl := hes.1
            simp only [Array.length_toList] at hl
            have ext : ∀ ob {a v}, V w.heap r K A a v → V (w.heap.setIfInBounds (r.blk id) ob) r K A a v := fun ob {a v} hv => hv.ext (fun _ h => h) (fun _ _ => ⟨rfl, rfl⟩) (fun _ h => h) (hkeep _)
            cases hfi : findA P kt k es 0 with
            | none => simp [hfi] at hu
            | some res =>
              simp only [hfi] at hu
              obtain ⟨res', hrun, hfr⟩ := findKey_ok w hud hk hes hfi
              cases res with
              | none =>
                simp only at hu
                cases hz : zeroOf P et with
                | none => simp [hz] at hu
                | some z =>
                  simp only [hz] at hu
                  cases hu
                  obtain ⟨zv, hz1, hz2⟩ := zeroOf_V (r := r) (A := A) (K := K) w hz
                  cases res' with
                  | some p => exact hfr.elim
                  | none =>
                    have hrel := rel_set (x' := .map (ms.push { key := vk, val := zv, born := c }) (c + 1)) (o' := .mp (es ++ [(k, z, c)]) (c + 1)) R hg (.mp _ _ _ (by simp [hl]) (fun i e m he hm => by
                      rw [List.getElem?_append] at he
                      rw [Array.getElem?_push] at hm
                      by_cases c1 : i < es.length
                      · rw [if_pos c1] at he
                        rw [if_neg (by omega)] at hm
                        have := hes.2 i e m he (by simpa using hm)
                        exact ⟨ext _ this.1, ext _ this.2.1, this.2.2⟩
                      · rw [if_neg c1] at he
                        have hi := (List.getElem?_eq_some_iff.1 he).1
                        simp at hi
                        have hi2 : i = ms.size := by omega
                        rw [if_pos hi2] at hm
                        have hz : i - es.length = 0 := by omega
                        rw [hz] at he
                        simp at he hm
                        subst he; subst hm
                        exact ⟨ext _ hk, ext _ hz2, rfl⟩))
                    refine ⟨.tuple #[zv, .int .i64 (c : Int)], { w with heap := w.heap.setIfInBounds (r.blk id) (.map (ms.push { key := vk, val := zv, born := c }) (c + 1)) }, ?_, rfl, goodSet hrel (V.pair (ext _ hz2) (.int _ _))⟩
                    simp [Instr.mapEntry, run_underlying hut, hget, hck, hrun, hz1, run_setObj' (P := P) w hb (by simp), goInt]
              | some p =>
                obtain ⟨i, v⟩ := p
                simp only at hu
                cases hei : es[i]? with
                | none => simp [hei] at hu
                | some e =>
                  obtain ⟨k', v', b'⟩ := e
                  simp only [hei] at hu
                  by_cases hsa : sameA k' k = true
                  · rw [if_pos hsa] at hu
                    cases hu
                    cases res' with
                    | none => exact hfr.elim
                    | some q =>
                      obtain ⟨j, v''⟩ := q
                      obtain ⟨hij, hv⟩ := hfr
                      subst hij
                      have hil := (List.getElem?_eq_some_iff.1 hei).1
                      have hmi : ms[i]? = some ms[i] := by rw [Array.getElem?_eq_getElem]
                      have hold := hes.2 i _ ms[i] hei (by simpa using hmi)
                      simp only at hold
                      obtain ⟨hkk, hbits⟩ := sameA_bits hsa hold.1 hk 9999
                      have hrel := rel_set (x' := .map (ms.modify i fun e => { e with key := vk }) c) (o' := .mp es c) R hg (.mp _ _ _ (by simp [hl]) (fun q e m he hm => by
                        rw [Array.getElem?_modify] at hm
                        by_cases c1 : q = i
                        · subst c1
                          rw [hei] at he
                          simp only [if_true, hmi, Option.map_some] at hm
                          cases he; cases hm
                          simp only
                          subst hkk
                          exact ⟨ext _ hk, ext _ hold.2.1, hold.2.2⟩
                        · rw [if_neg (fun e => c1 e.symm)] at hm
                          have := hes.2 q e m he (by simpa using hm)
                          exact ⟨ext _ this.1, ext _ this.2.1, this.2.2⟩))
                      refine ⟨.tuple #[v'', .int .i64 (b' : Int)], { w with heap := w.heap.setIfInBounds (r.blk id) (.map (ms.modify i fun e => { e with key := vk }) c) }, ?_, rfl, goodSet hrel (V.pair (ext _ hv) (.int _ _))⟩
                      simp [Instr.mapEntry, run_underlying hut, hget, hck, hrun, hmi, run_keyThatStays (P := P) w hbits, run_setObj' (P := P) w hb (by simp), goInt, hold.2.2]
                  · rw [if_neg hsa] at hu; cases hu
          · rw [if_neg hkf] at hu; cases hu
        | _ => simp [hg] at hu
  · cases hu

theorem bornIdx_ok {H : Array Obj} {K : Nat → Prop} (s : Int) : ∀ (es : List (AV × AV × Nat)) (ms : List MapEntry) (i j : Nat), ES H r K A es ms → bornIdx es s i = some j → i ≤ j ∧ ms.findIdx? (fun e => (e.born : Int) == s) = some (j - i) ∧ j - i < es.length
  | [], ms, i, j, hes, hb => by simp [bornIdx] at hb
  | (k, v, b) :: es, ms, i, j, hes, hb => by
    cases ms with
    | nil => have := hes.1; simp at this
    | cons m ms =>
      have h0 := hes.2 0 (k, v, b) m rfl rfl
      simp only at h0
      simp only [bornIdx] at hb
      by_cases c : (b : Int) = s
      · rw [if_pos c] at hb
        cases hb
        have : (m.born : Int) = s := by omega
        simp [List.findIdx?_cons, this]
      · rw [if_neg c] at hb
        obtain ⟨h1, h2, h3⟩ := bornIdx_ok s es ms (i + 1) j hes.tail hb
        have hne : ¬ (m.born : Int) = s := by omega
        refine ⟨by omega, ?_, by simp; omega⟩
        simp [List.findIdx?_cons, hne, h2]
        omega
theorem entryStoreA_ok (w : World) (R : Rel P r A K h w.heap) {t : TypeId} {m s x : AV} {vm vs vx : Value} {h' : AH} (hu : entryStoreA h m s x = some h') (hm : V w.heap r K A m vm) (hs : V w.heap r K A s vs) (hx : V w.heap r K A x vx) :
    ∃ w', (Instr.entryStore t vm vs vx).run P w = .ok () w' ∧ ioW w' = ioW w ∧ Rel P r A K h' w'.heap ∧ Ext r A K h w.heap r A K h' w'.heap := by
  unfold entryStoreA at hu
  split at hu
  · rename_i id sk s
    cases hm with
    | map _ hid =>
      cases hs
      cases hg : h.get id with
      | none => simp [hg] at hu
      | some o =>
        cases o with
        | mp es c =>
          simp only [hg] at hu
          cases hbi : bornIdx es s 0 with
          | none => simp [hbi] at hu
          | some i =>
            simp only [hbi] at hu
            cases hu
            obtain ⟨ms, hb, hes⟩ := map_block (w := w) R hg
            have hget := run_getObj' (P := P) w hb (by simp)
            have hlt := R.lt id _ hg
            have hkeep : ∀ ob b, A b → (w.heap.setIfInBounds (r.blk id) ob)[b]? = w.heap[b]? := fun ob b hb => set_ne (fun e => hlt.2.2 (e ▸ hb))
            have ext : ∀ ob {a v}, V w.heap r K A a v → V (w.heap.setIfInBounds (r.blk id) ob) r K A a v := fun ob {a v} hv => hv.ext (fun _ h => h) (fun _ _ => ⟨rfl, rfl⟩) (fun _ h => h) (hkeep _)
            obtain ⟨_, hfi, hil⟩ := bornIdx_ok s es ms.toList 0 i hes hbi
            rw [Nat.sub_zero] at hfi hil
            have hl := hes.1
            simp only [Array.length_toList] at hl
            have hrel := rel_set (x' := .map (ms.modify i fun e => { e with val := vx }) c) (o' := .mp (setEntry es i x) c) R hg (.mp _ _ _ (by rw [setEntry_length]; simp [hl]) (fun q e m he hm => by
              rw [setEntry_get] at he
              rw [Array.getElem?_modify] at hm
              by_cases c1 : q = i
              · subst c1
                have hmi : ms[q]? = some ms[q] := by rw [Array.getElem?_eq_getElem]
                have hei : es[q]? = some es[q] := List.getElem?_eq_getElem hil
                have hold := hes.2 q _ ms[q] hei (by simpa using hmi)
                simp only [if_true, hei, Option.map_some] at he
                simp only [if_true, hmi, Option.map_some] at hm
                cases he; cases hm
                exact ⟨ext _ hold.1, ext _ hx, hold.2.2⟩
              · rw [if_neg c1] at he
                rw [if_neg (fun e => c1 e.symm)] at hm
                have := hes.2 q e m he (by simpa using hm)
                exact ⟨ext _ this.1, ext _ this.2.1, this.2.2⟩))
            refine ⟨{ w with heap := w.heap.setIfInBounds (r.blk id) (.map (ms.modify i fun e => { e with val := vx }) c) }, ?_, rfl, hrel.1, hrel.2⟩
            have hfi' : ms.findIdx? (fun e => (e.born : Int) == s) = some i := by
              rw [← hfi, ← List.findIdx?_toArray, Array.toArray_toList]
            simp [Instr.entryStore, hget, asInt, asIntOf, hfi', run_setObj' (P := P) w hb (by simp)]
        | _ => simp [hg] at hu
  · cases hu

theorem iter_new (w : World) (R : Rel P r A K h w.heap) (m : Option Nat) (c : Nat) (hm : ∀ id, m = some id → K id) :
    Good P r A K h w.heap [(.ptr h.next 0, h.new (.miter m c [] c))] (.pointer (some ⟨w.heap.size, 0, none⟩)) (w.heap.push (.mapIter (m.map r.blk) c #[] c)) := by
  have e : m.map (r.upd h.next w.heap.size 0).blk = m.map r.blk := by
    cases m with
    | none => rfl
    | some i => simp [(r.upd_old R.kn w.heap.size 0 i (hm i rfl)).1]
  have hr := rel_new (o := .miter m c [] c) (x := .mapIter (m.map r.blk) c #[] c) R 0 (by rw [← e]; exact .miter m c [] c (fun i hi => .inl (hm i hi)))
  refine ⟨_, _, _, _, List.mem_singleton.2 rfl, hr.1, hr.2, ?_⟩
  have := V.ptr (H := w.heap.push (.mapIter (m.map r.blk) c #[] c)) (r := r.upd h.next w.heap.size 0) (K := Kn K h.next) (A := A) h.next 0 (.inr rfl)
  rw [(r.upd_at _ _ _).1] at this
  exact this
theorem rangeA_ok (w : World) (R : Rel P r A K h w.heap) {t : TypeId} {x : AV} {vx : Value} {res : AV × AH} (hu : rangeA P h t x = some res) (hx : V w.heap r K A x vx) :
    ∃ y w', (Instr.range t vx).run P w = .ok y w' ∧ ioW w' = ioW w ∧ Good P r A K h w.heap [res] y w'.heap := by
  unfold rangeA at hu
  split at hu
  · rename_i k e hut
    cases hu
    cases hx
    refine ⟨_, { w with heap := w.heap.push (.mapIter none 0 #[] 0) }, ?_, rfl, iter_new w R none 0 (by simp)⟩
    simp [Instr.range, run_underlying hut]
  · rename_i k e id hut
    cases hx with
    | map _ hid =>
      cases hg : h.get id with
      | none => simp [hg] at hu
      | some o =>
        cases o with
        | mp es c =>
          simp only [hg] at hu
          cases hu
          obtain ⟨ms, hb, hes⟩ := map_block (w := w) R hg
          have hget := run_getObj' (P := P) w hb (by simp)
          refine ⟨_, { w with heap := w.heap.push (.mapIter (some (r.blk id)) c #[] c) }, ?_, rfl, iter_new w R (some id) c (fun i hi => by cases hi; exact hid)⟩
          simp [Instr.range, run_underlying hut, hget]
        | _ => simp [hg] at hu
  · cases hu

theorem lenBA_ok (w : World) (R : Rel P r A K h w.heap) {ts : List TypeId} {t : TypeId} {x y : AV} {vx : Value} (hl : lenBA P h t x = some y) (hx : V w.heap r K A x vx) (ty : TypeId) :
    ∃ v, (Builtin.len_ (t :: ts).toArray ty #[vx]).run P w = .ok v w ∧ V w.heap r K A y v := by
  unfold lenBA at hl
  split at hl
  · rename_i s hu; cases hl; cases hx; exact ⟨_, by simp [Builtin.len_, run_underlying hu]; rfl, .int _ _⟩
  · rename_i n e hu; cases hl; exact ⟨_, by cases hx <;> (simp [Builtin.len_, run_underlying hu]; rfl), .int _ _⟩
  · rename_i e hu; cases hl; cases hx; exact ⟨_, by simp [Builtin.len_, run_underlying hu]; rfl, .int _ _⟩
  · rename_i e id off n c hu; cases hl; cases hx; exact ⟨_, by simp [Builtin.len_, run_underlying hu]; rfl, .int _ _⟩
  · rename_i e n cells ex hu
    cases hl
    cases hx with
    | view0 _ _ a cap hx => exact ⟨_, by simp [Builtin.len_, run_underlying hu]; rfl, .int _ _⟩
    | view _ _ _ b o cap hn hx hA hc hh => exact ⟨_, by simp [Builtin.len_, run_underlying hu]; rfl, .int _ _⟩
  · rename_i k e hu; cases hl; cases hx; exact ⟨_, by simp [Builtin.len_, run_underlying hu]; rfl, .int _ _⟩
  · rename_i k e id hu
    cases hx with
    | map _ hid =>
      cases hg : h.get id with
      | none => simp [hg] at hl
      | some o =>
        cases o with
        | mp es c =>
          simp only [hg] at hl
          cases hl
          obtain ⟨ms, hb, hes⟩ := map_block (w := w) R hg
          have hget := run_getObj' (P := P) w hb (by simp)
          have hlen := hes.1
          simp only [Array.length_toList] at hlen
          exact ⟨_, by simp [Builtin.len_, run_underlying hu, hget]; rw [← hlen]; rfl, .int _ _⟩
        | _ => simp [hg] at hl
  · cases hl
end
end Go.Proofs.YtmeianaaiiiinaaGreat.Ev
