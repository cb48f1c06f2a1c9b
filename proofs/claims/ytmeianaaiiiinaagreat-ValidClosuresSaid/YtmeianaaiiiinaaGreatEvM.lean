/- What operations on maps come to. -/
import Derived.Test.YtmeianaaiiiinaaGreatEvK
namespace Go.Proofs.YtmeianaaiiiinaaGreat.Ev
open Go
set_option linter.unusedVariables false
set_option linter.unusedSimpArgs false
set_option linter.all false
section
variable {P : Program} {r : Ren} {A K : Nat → Prop} {h : AH}

theorem map_block {w : World} (R : Rel P r A K h w.heap) {id : Nat} {es : List (AV × AV × Nat)} {c : Nat} (hg : h.get id = some (.mp es c)) : ∃ ms : Array MapEntry, w.heap[r.blk id]? = some (.map ms c) ∧ ES w.heap r K A es ms.toList := by
  obtain ⟨ob, hob, hO⟩ := R.ob id _ hg
  cases hO with
  | mp _ _ ms hl hh => exact ⟨ms, hob, by simpa using hl, fun i e m he hm => hh i e m he (by simpa using hm)⟩
theorem run_getObj' (w : World) {b : Nat} {o : Obj} (hb : w.heap[b]? = some o) (hc : ∀ c e f, o ≠ .cells c e f) : (getObj b).run P w = .ok o w := by
  unfold getObj
  simp only [Sem.run, hb]
theorem run_setObj' (w : World) {b : Nat} {o : Obj} (hb : w.heap[b]? = some o) (hc : ∀ c e f, o ≠ .cells c e f) (x : Obj) : (setObj b x).run P w = .ok () { w with heap := w.heap.setIfInBounds b x } := by
  unfold setObj
  simp only [Sem.run, hb]
theorem run_newObj' (w : World) (x : Obj) : (newObj x).run P w = .ok w.heap.size { w with heap := w.heap.push x } := rfl

/-- The entries of a map, nil included. -/
theorem mapOf_ok (w : World) (R : Rel P r A K h w.heap) {m : AV} {vm : Value} {es : List (AV × AV × Nat)} {c : Nat} (hm : mapOf h m = some (es, c)) (hv : V w.heap r K A m vm) :
    ∃ ms : Array MapEntry, ES w.heap r K A es ms.toList ∧ ((vm = .map none ∧ ms = #[]) ∨ ∃ b, vm = .map (some b) ∧ (getObj b).run P w = .ok (.map ms c) w) := by
  unfold mapOf at hm
  cases hv with
  | nilMap =>
    simp only at hm
    cases hm
    exact ⟨#[], ⟨rfl, fun i e m he hm => by simp at he⟩, .inl ⟨rfl, rfl⟩⟩
  | map id hi =>
    simp only at hm
    cases hg : h.get id with
    | none => simp [hg] at hm
    | some o =>
      cases o with
      | mp es' c' =>
        simp [hg] at hm
        obtain ⟨rfl, rfl⟩ := hm
        obtain ⟨ms, h1, h2⟩ := map_block (w := w) R hg
        exact ⟨ms, h2, .inr ⟨_, rfl, run_getObj' w h1 (by simp)⟩⟩
      | _ => simp [hg] at hm
  | _ => simp at hm

theorem zeroOf_V (w : World) {t : TypeId} {z : AV} (hz : zeroOf P t = some z) {K : Nat → Prop} : ∃ v, (zeroValue t).run P w = .ok v w ∧ V w.heap r K A z v := by
  obtain ⟨v, h1, h2⟩ := run_zeroValue' hz w
  exact ⟨v, h1, ofZero_V h2⟩
theorem V.pair {H : Array Obj} {K : Nat → Prop} {a b : AV} {x y : Value} (h1 : V H r K A a x) (h2 : V H r K A b y) : V H r K A (.tuple [a, b]) (.tuple #[x, y]) :=
  .tuple _ _ rfl (fun i c v hc hv => by
    rcases i with _ | _ | i
    · simp at hc hv; subst hc; subst hv; exact h1
    · simp at hc hv; subst hc; subst hv; exact h2
    · simp at hc)

theorem lookupA_ok (w : World) (R : Rel P r A K h w.heap) {t : TypeId} {m k x : AV} {vm vk : Value} {ok : Bool} (hl : lookupA P h t m k ok = some x) (hm : V w.heap r K A m vm) (hk : V w.heap r K A k vk) :
    ∃ v, (Instr.lookup t vm vk ok).run P w = .ok v w ∧ V w.heap r K A x v := by
  unfold lookupA at hl
  split at hl
  · rename_i kt et hu
    cases hmo : mapOf h m with
    | none => simp [hmo] at hl
    | some p =>
      obtain ⟨es, c⟩ := p
      simp only [hmo] at hl
      by_cases hkf : keyFits P kt k = true
      · rw [if_pos hkf] at hl
        obtain ⟨ms, hes, hcase⟩ := mapOf_ok w R hmo hm
        have hck : ∀ em, (Instr.checkKey em 10000 kt vk).run P w = .ok () w := fun em => ckA_ok w 9984 16 kt k vk em hkf hk
        cases hfi : findA P kt k es 0 with
        | none => simp [hfi] at hl
        | some res =>
          have hud : ∃ d, P.underlying kt = some d := by
            unfold keyFits ckA at hkf
            cases hd : P.underlying kt with
            | none => simp [hd] at hkf
            | some d => exact ⟨d, rfl⟩
          obtain ⟨d, hud⟩ := hud
          obtain ⟨res', hrun, hfr⟩ := findKey_ok w hud hk hes hfi
          cases res with
          | none =>
            simp only [hfi] at hl
            cases hz : zeroOf P et with
            | none => simp [hz] at hl
            | some z =>
              simp only [hz] at hl
              obtain ⟨zv, hz1, hz2⟩ := zeroOf_V (r := r) (A := A) (K := K) w hz
              cases res' with
              | some p => exact hfr.elim
              | none =>
                have hrun2 : (Instr.lookup t vm vk ok).run P w = .ok (if ok = true then .tuple #[zv, .bool false] else zv) w := by
                  rcases hcase with ⟨rfl, rfl⟩ | ⟨b, rfl, hg⟩
                  · simp [Instr.lookup, run_underlying hu, hck, hz1]
                    simp at hrun
                    simp [hrun, hz1]
                  · simp [Instr.lookup, run_underlying hu, hg, hck, hrun, hz1]
                cases ok with
                | true => simp at hl; subst hl; exact ⟨_, hrun2, hz2.pair (.bool false)⟩
                | false => simp at hl; subst hl; exact ⟨_, hrun2, hz2⟩
          | some p =>
            obtain ⟨i, v⟩ := p
            simp only [hfi] at hl
            cases res' with
            | none => exact hfr.elim
            | some q =>
              obtain ⟨j, v'⟩ := q
              obtain ⟨rfl, hv⟩ := hfr
              have hrun2 : (Instr.lookup t vm vk ok).run P w = .ok (if ok = true then .tuple #[v', .bool true] else v') w := by
                rcases hcase with ⟨rfl, rfl⟩ | ⟨b, rfl, hg⟩
                · simp [Instr.lookup, run_underlying hu, hck]
                  simp at hrun
                  simp [hrun]
                · simp [Instr.lookup, run_underlying hu, hg, hck, hrun]
              cases ok with
              | true => simp at hl; subst hl; exact ⟨_, hrun2, hv.pair (.bool true)⟩
              | false => simp at hl; subst hl; exact ⟨_, hrun2, hv⟩
      · rw [if_neg hkf] at hl; cases hl
  · cases hl

theorem sameCell_eq {a b : AV} (hs : sameCell a b = true) : a = b ∧ ((∃ x, a = .bool x) ∨ (∃ k n, a = .int k n) ∨ ∃ s, a = .str s) := by
  unfold sameCell at hs
  split at hs
  · rename_i x y
    have : x = y := by simpa using hs
    subst this; exact ⟨rfl, .inl ⟨_, rfl⟩⟩
  · rename_i k x l y
    have : k = l ∧ x = y := by simpa using hs
    obtain ⟨rfl, rfl⟩ := this
    exact ⟨rfl, .inr (.inl ⟨_, _, rfl⟩)⟩
  · rename_i x y
    have : x = y := by
      unfold strEq at hs
      rw [bytesEq_iff] at hs
      have h1 : x.data.toList = y.data.toList := by simpa using hs
      have h2 : x.data = y.data := Array.toList_inj.1 h1
      cases x; cases y; simp_all
    subst this; exact ⟨rfl, .inr (.inr ⟨_, rfl⟩)⟩
  · cases hs
theorem bytes_self (s : ByteArray) : (s == s) = true := by
  rw [← strEq_beq]
  unfold strEq
  rw [bytesEq_iff]
  simp
theorem sameCell_bits {H : Array Obj} {K : Nat → Prop} {a b : AV} {x y : Value} (hs : sameCell a b = true) (hx : V H r K A a x) (hy : V H r K A b y) (n : Nat) : Instr.sameBits n x y = true := by
  obtain ⟨rfl, hc⟩ := sameCell_eq hs
  rcases hc with ⟨b, rfl⟩ | ⟨k, m, rfl⟩ | ⟨s, rfl⟩ <;> cases hx <;> cases hy <;> cases n <;> simp [Instr.sameBits, bytes_self]
theorem sameCells_bits {H : Array Obj} {K : Nat → Prop} : ∀ (x y : List AV) (vx vy : List Value), sameCells x y = true → VS H r K A x vx → VS H r K A y vy → x = y ∧ vx.length = vy.length ∧ ∀ n, (vx.zip vy).all (fun (a, b) => Instr.sameBits n a b) = true
  | [], [], vx, vy, _, h1, h2 => by
    have e1 : vx = [] := List.eq_nil_of_length_eq_zero h1.1.symm
    have e2 : vy = [] := List.eq_nil_of_length_eq_zero h2.1.symm
    subst e1; subst e2
    exact ⟨rfl, rfl, fun n => rfl⟩
  | [], _ :: _, _, _, hs, _, _ => by simp [sameCells] at hs
  | _ :: _, [], _, _, hs, _, _ => by simp [sameCells] at hs
  | a :: x, b :: y, vx, vy, hs, h1, h2 => by
    simp only [sameCells, Bool.and_eq_true] at hs
    cases vx with
    | nil => have := h1.1; simp at this
    | cons u vx =>
      cases vy with
      | nil => have := h2.1; simp at this
      | cons v vy =>
        have t1 : VS H r K A x vx := ⟨by have := h1.1; simpa using this, fun i p q hp hq => h1.2 (i + 1) p q (by simpa using hp) (by simpa using hq)⟩
        have t2 : VS H r K A y vy := ⟨by have := h2.1; simpa using this, fun i p q hp hq => h2.2 (i + 1) p q (by simpa using hp) (by simpa using hq)⟩
        obtain ⟨e, hl, hall⟩ := sameCells_bits x y vx vy hs.2 t1 t2
        have ec := (sameCell_eq hs.1).1
        subst ec; subst e
        refine ⟨rfl, by simp [hl], fun n => ?_⟩
        simp only [List.zip_cons_cons, List.all_cons, Bool.and_eq_true]
        exact ⟨sameCell_bits hs.1 (h1.2 0 _ u rfl rfl) (h2.2 0 _ v rfl rfl) n, hall n⟩
theorem sameA_bits {H : Array Obj} {K : Nat → Prop} {a b : AV} {x y : Value} (hs : sameA a b = true) (hx : V H r K A a x) (hy : V H r K A b y) (n : Nat) : a = b ∧ Instr.sameBits (n + 1) x y = true := by
  unfold sameA at hs
  split at hs
  · rename_i p q
    cases hx with
    | agg _ vs hl hh =>
      cases hy with
      | agg _ us hl2 hh2 =>
        obtain ⟨e, hll, hall⟩ := sameCells_bits p q vs.toList us.toList hs ⟨by simpa using hl, fun i a v ha hv => hh i a v ha (by simpa using hv)⟩ ⟨by simpa using hl2, fun i a v ha hv => hh2 i a v ha (by simpa using hv)⟩
        subst e
        refine ⟨rfl, ?_⟩
        have hsz : vs.size = us.size := by simpa using hll
        simp only [Instr.sameBits, hsz, BEq.rfl, Bool.true_and]
        exact hall n
  · exact ⟨(sameCell_eq hs).1, sameCell_bits hs hx hy _⟩

theorem setEntry_length : ∀ (es : List (AV × AV × Nat)) (i : Nat) (x : AV), (setEntry es i x).length = es.length
  | [], _, _ => rfl
  | _ :: _, 0, _ => rfl
  | e :: es, i + 1, x => by simp [setEntry, setEntry_length es i x]
theorem setEntry_get : ∀ (es : List (AV × AV × Nat)) (i j : Nat) (x : AV), (setEntry es i x)[j]? = if j = i then es[i]?.map (fun e => (e.1, x, e.2.2)) else es[j]?
  | [], i, j, x => by simp [setEntry]
  | (k, v, b) :: es, 0, j, x => by
    cases j with
    | zero => simp [setEntry]
    | succ j => simp [setEntry]
  | e :: es, i + 1, j, x => by
    cases j with
    | zero => simp [setEntry]
    | succ j => simp [setEntry, setEntry_get es i j x]
theorem run_keyThatStays (w : World) {old new : Value} (hs : Instr.sameBits 10000 old new = true) : (Instr.keyThatStays old new).run P w = .ok new w := by
  simp [Instr.keyThatStays, hs]

theorem mapUpdateA_ok (w : World) (R : Rel P r A K h w.heap) {t : TypeId} {m k x : AV} {vm vk vx : Value} {h' : AH} (hu : mapUpdateA P h t m k x = some h') (hm : V w.heap r K A m vm) (hk : V w.heap r K A k vk) (hx : V w.heap r K A x vx) :
    ∃ w', (Instr.mapUpdate t vm vk vx).run P w = .ok () w' ∧ ioW w' = ioW w ∧ Rel P r A K h' w'.heap ∧ Ext r A K h w.heap r A K h' w'.heap := by
  unfold mapUpdateA at hu
  split at hu
  · rename_i kt et id hut
    cases hm with
    | map _ hid =>
      cases hg : h.get id with
      | none => simp [hg] at hu
      | some o =>
        cases o with
        | mp es c =>
          simp only [hg] at hu
          by_cases hkf : keyFits P kt k = true
          · rw [if_pos hkf] at hu
            obtain ⟨ms, hb, hes⟩ := map_block (w := w) R hg
            have hck : (Instr.checkKey false 10000 kt vk).run P w = .ok () w := ckA_ok w 9984 16 kt k vk false hkf hk
            have hget := run_getObj' (P := P) w hb (by simp)
            have hlt := R.lt id _ hg
            have hkeep : ∀ ob b, A b → (w.heap.setIfInBounds (r.blk id) ob)[b]? = w.heap[b]? := fun ob b hb => set_ne (fun e => hlt.2.2 (e ▸ hb))
            have hud : ∃ d, P.underlying kt = some d := by
              unfold keyFits ckA at hkf
              cases hd : P.underlying kt with
              | none => simp [hd] at hkf
              | some d => exact ⟨d, rfl⟩
            obtain ⟨d, hud⟩ := hud
            cases hfi : findA P kt k es 0 with
            | none => simp [hfi] at hu
            | some res =>
              simp only [hfi] at hu
              obtain ⟨res', hrun, hfr⟩ := findKey_ok w hud hk hes hfi
              cases res with
              | none =>
                simp only at hu
                cases hu
                cases res' with
                | some p => exact hfr.elim
                | none =>
                  have hrel := rel_set (x' := .map (ms.push { key := vk, val := vx, born := c }) (c + 1)) (o' := .mp (es ++ [(k, x, c)]) (c + 1)) R hg (.mp _ _ _ (by have := hes.1; simp at this; simp [this]) (fun i e m he hm => by
                    have hl := hes.1
                    simp only [Array.length_toList] at hl
                    rw [List.getElem?_append] at he
                    rw [Array.getElem?_push] at hm
                    by_cases c1 : i < es.length
                    · rw [if_pos c1] at he
                      rw [if_neg (by omega)] at hm
                      have := hes.2 i e m he (by simpa using hm)
                      exact ⟨this.1.ext (fun _ h => h) (fun _ _ => ⟨rfl, rfl⟩) (fun _ h => h) (hkeep _), this.2.1.ext (fun _ h => h) (fun _ _ => ⟨rfl, rfl⟩) (fun _ h => h) (hkeep _), this.2.2⟩
                    · rw [if_neg c1] at he
                      have hi := (List.getElem?_eq_some_iff.1 he).1
                      simp at hi
                      have hi2 : i = ms.size := by omega
                      rw [if_pos hi2] at hm
                      have hz : i - es.length = 0 := by omega
                      rw [hz] at he
                      simp at he hm
                      subst he; subst hm
                      exact ⟨hk.ext (fun _ h => h) (fun _ _ => ⟨rfl, rfl⟩) (fun _ h => h) (hkeep _), hx.ext (fun _ h => h) (fun _ _ => ⟨rfl, rfl⟩) (fun _ h => h) (hkeep _), rfl⟩))
                  refine ⟨{ w with heap := w.heap.setIfInBounds (r.blk id) (.map (ms.push { key := vk, val := vx, born := c }) (c + 1)) }, ?_, rfl, hrel.1, hrel.2⟩
                  simp [Instr.mapUpdate, run_underlying hut, hget, hck, hrun, run_setObj' (P := P) w hb (by simp)]
              | some p =>
                obtain ⟨i, v⟩ := p
                simp only at hu
                cases hei : es[i]? with
                | none => simp [hei] at hu
                | some e =>
                  obtain ⟨k', v', b'⟩ := e
                  simp only [hei] at hu
                  by_cases hsa : sameA k' k = true
                  · rw [if_pos hsa] at hu
                    cases hu
                    cases res' with
                    | none => exact hfr.elim
                    | some q =>
                      obtain ⟨j, v''⟩ := q
                      obtain ⟨hij, hv⟩ := hfr
                      subst hij
                      have hil := (List.getElem?_eq_some_iff.1 hei).1
                      have hl := hes.1
                      simp only [Array.length_toList] at hl
                      have hmi : ms[i]? = some ms[i] := by rw [Array.getElem?_eq_getElem]
                      have hold := hes.2 i _ ms[i] hei (by simpa using hmi)
                      obtain ⟨hkk, hbits⟩ := sameA_bits hsa hold.1 hk 9999
                      have hrel := rel_set (x' := .map (ms.modify i fun e => { e with key := vk, val := vx }) c) (o' := .mp (setEntry es i x) c) R hg (.mp _ _ _ (by rw [setEntry_length]; simp [hl]) (fun q e m he hm => by
                        rw [setEntry_get] at he
                        rw [Array.getElem?_modify] at hm
                        by_cases c1 : q = i
                        · subst c1
                          simp only [if_true, hei, Option.map_some] at he
                          simp only [if_true, hmi, Option.map_some] at hm
                          cases he; cases hm
                          simp only at hold ⊢
                          subst hkk
                          exact ⟨hk.ext (fun _ h => h) (fun _ _ => ⟨rfl, rfl⟩) (fun _ h => h) (hkeep _), hx.ext (fun _ h => h) (fun _ _ => ⟨rfl, rfl⟩) (fun _ h => h) (hkeep _), hold.2.2⟩
                        · rw [if_neg c1] at he
                          rw [if_neg (fun e => c1 e.symm)] at hm
                          have := hes.2 q e m he (by simpa using hm)
                          exact ⟨this.1.ext (fun _ h => h) (fun _ _ => ⟨rfl, rfl⟩) (fun _ h => h) (hkeep _), this.2.1.ext (fun _ h => h) (fun _ _ => ⟨rfl, rfl⟩) (fun _ h => h) (hkeep _), this.2.2⟩))
                      refine ⟨{ w with heap := w.heap.setIfInBounds (r.blk id) (.map (ms.modify i fun e => { e with key := vk, val := vx }) c) }, ?_, rfl, hrel.1, hrel.2⟩
                      simp [Instr.mapUpdate, run_underlying hut, hget, hck, hrun, hmi, run_keyThatStays (P := P) w hbits, run_setObj' (P := P) w hb (by simp)]
                  · rw [if_neg hsa] at hu; cases hu
          · rw [if_neg hkf] at hu; cases hu
        | _ => simp [hg] at hu
  · cases hu
end
end Go.Proofs.YtmeianaaiiiinaaGreat.Ev
