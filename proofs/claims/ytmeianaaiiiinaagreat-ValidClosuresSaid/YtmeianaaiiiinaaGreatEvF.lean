/- What addresses of fields and elements, parts, new variables, structs and slices come to. -/
import Derived.Test.YtmeianaaiiiinaaGreatEvE
namespace Go.Proofs.YtmeianaaiiiinaaGreat.Ev
open Go
set_option linter.unusedVariables false
set_option linter.unusedSimpArgs false
set_option linter.all false

/-- What an operation may come to. -/
def Good (P : Program) (r : Ren) (A K : Nat → Prop) (h : AH) (H : Array Obj) (outs : List (AV × AH)) (v' : Value) (H' : Array Obj) : Prop :=
  ∃ v h' r' K', (v, h') ∈ outs ∧ Rel P r' A K' h' H' ∧ Ext r A K h H r' A K' h' H' ∧ V H' r' K' A v v'

section
variable {P : Program} {r : Ren} {A K : Nat → Prop} {h : AH}

theorem Good.same {H : Array Obj} (R : Rel P r A K h H) {v : AV} {v' : Value} (hv : V H r K A v v') : Good P r A K h H [(v, h)] v' H :=
  ⟨v, h, r, K, List.mem_singleton.2 rfl, R, Ext.refl _ _ _ _ _, hv⟩

theorem addr_add (b o n : Nat) : (⟨b, o, none⟩ : Addr).add n = ⟨b, o + n, none⟩ := by
  unfold Addr.add
  by_cases e : n = 0 <;> simp [e]

theorem addrAdd_ok (w : World) {a x : AV} {v : Value} {n : Nat} (ha : addrAdd a n = some x) (hv : V w.heap r K A a v) :
    ∃ b o, v = .pointer (some ⟨b, o, none⟩) ∧ V w.heap r K A x (.pointer (some ⟨b, o + n, none⟩)) := by
  unfold addrAdd at ha
  cases hv with
  | ptr id off hi => cases ha; exact ⟨_, _, rfl, .ptr id (off + n) hi⟩
  | rptr cells off b o hA hc hh => cases ha; exact ⟨b, o + off, rfl, by rw [Nat.add_assoc]; exact .rptr cells (off + n) b o hA hc hh⟩
  | _ => cases ha

theorem fieldAddrA_ok (w : World) {s : TypeId} {a x : AV} {v : Value} {f : Nat} (ha : fieldAddrA P s a f = some x) (hv : V w.heap r K A a v) :
    ∃ y, (Instr.fieldAt s v f).run P w = .ok y w ∧ V w.heap r K A x y := by
  unfold fieldAddrA at ha
  split at ha
  · rename_i fields hu
    split at ha
    · rename_i fl hf
      split at ha
      · cases ha
      · rename_i sz hne hs
        obtain ⟨b, o, rfl, hx⟩ := addrAdd_ok w ha hv
        refine ⟨_, ?_, hx⟩
        have hsz : sz ≠ 0 := fun e => hne e
        simp [Instr.fieldAt, run_underlying hu, hf, Instr.sureAddr, fieldPlace, run_sizeOf' hs, hsz, addr_add]
      · cases ha
    · cases ha
  · cases ha

theorem part_ok (w : World) {t : TypeId} {cs : List AV} {vs : Array Value} {off : Nat} {x : AV} {K : Nat → Prop} (hp : partA P t cs off = some x) (hl : cs.length = vs.size)
    (hv : ∀ (i : Nat) a v, cs[i]? = some a → vs[i]? = some v → V w.heap r K A a v) : ∃ y, (part t vs off).run P w = .ok y w ∧ V w.heap r K A x y := by
  rcases part_get hp with ⟨ha, hx⟩ | ⟨n, ha, hs, hle, rfl⟩
  · have hi := (List.getElem?_eq_some_iff.1 hx).1
    have hg : vs[off]? = some vs[off] := by rw [Array.getElem?_eq_getElem]
    refine ⟨vs[off], ?_, hv off x _ hx hg⟩
    simp [part, run_isAgg ha, hg]
  · refine ⟨.agg (vs.extract off (off + n)), ?_, .agg _ _ (by simp; omega) (fun i a v ha' hv' => ?_)⟩
    · simp [part, run_isAgg ha, run_sizeOf' hs]
    · rw [take_drop_get] at ha'
      by_cases c : i < n
      · rw [if_pos c] at ha'
        refine hv (off + i) a v ha' ?_
        rw [Array.getElem?_extract] at hv'
        split at hv'
        · exact hv'
        · cases hv'
      · rw [if_neg c] at ha'; cases ha'

theorem fieldA_ok (w : World) {s : TypeId} {a x : AV} {v : Value} {f : Nat} (ha : fieldA P s a f = some x) (hv : V w.heap r K A a v) :
    ∃ y, (Instr.field s v f).run P w = .ok y w ∧ V w.heap r K A x y := by
  unfold fieldA at ha
  split at ha
  · rename_i fields hu
    split at ha
    · rename_i fl hf
      cases hv with
      | agg cs vs hl hh =>
        obtain ⟨y, h1, h2⟩ := part_ok w ha hl hh
        exact ⟨y, by simp [Instr.field, run_underlying hu, hf, asAgg, h1], h2⟩
      | _ => cases ha
    · cases ha
  · cases ha

theorem indexAddrA_ok (w : World) {t : TypeId} {a i x : AV} {v vi : Value} (ha : indexAddrA P t a i = some x) (hv : V w.heap r K A a v) (hi : V w.heap r K A i vi) :
    ∃ y, (Instr.indexAt t v vi).run P w = .ok y w ∧ V w.heap r K A x y := by
  unfold indexAddrA at ha
  cases hi with
  | int k n =>
    simp only at ha
    split at ha
    · rename_i e hu
      cases hs : szOf P e with
      | none => simp [hs] at ha
      | some sz =>
        simp only [hs] at ha
        cases hv with
        | slice id off len cap hid hcap =>
          simp only at ha
          by_cases c : 0 ≤ n ∧ n < (len : Int)
          · rw [if_pos c] at ha
            cases ha
            refine ⟨_, ?_, .ptr id (off + n.toNat * sz) hid⟩
            simp [Instr.indexAt, asIntOf, run_underlying hu, c, run_sizeOf' hs, addr_add]
          · rw [if_neg c] at ha; cases ha
        | view0 cells ex b cap hx =>
          simp only at ha
          have : ¬ (0 ≤ n ∧ n < ((0 : Nat) : Int)) := by omega
          rw [if_neg this] at ha; cases ha
        | view len cells ex b o cap hn hx hA hc hh =>
          simp only at ha
          by_cases c : 0 ≤ n ∧ n < (len : Int)
          · rw [if_pos c] at ha
            cases ha
            refine ⟨_, ?_, .rptr cells (n.toNat * sz) b o hA hc hh⟩
            simp [Instr.indexAt, asIntOf, run_underlying hu, c, run_sizeOf' hs, addr_add]
          · rw [if_neg c] at ha; cases ha
        | _ => cases ha
    · rename_i len e hu
      cases hs : szOf P e with
      | none => simp [hs] at ha
      | some sz =>
        simp only [hs] at ha
        by_cases c : 0 ≤ n ∧ n < (len : Int)
        · rw [if_pos c] at ha
          obtain ⟨b, o, rfl, hx⟩ := addrAdd_ok w ha hv
          exact ⟨_, by simp [Instr.indexAt, asIntOf, run_underlying hu, Instr.sureAddr, c, run_sizeOf' hs, addr_add], hx⟩
        · rw [if_neg c] at ha; cases ha
    · cases ha
  | _ => cases ha

theorem indexA_ok (w : World) {t : TypeId} {a i x : AV} {v vi : Value} (ha : indexA P t a i = some x) (hv : V w.heap r K A a v) (hi : V w.heap r K A i vi) :
    ∃ y, (Instr.index t v vi).run P w = .ok y w ∧ V w.heap r K A x y := by
  unfold indexA at ha
  cases hi with
  | int k n =>
    simp only at ha
    split at ha
    · rename_i len e hu
      cases hv with
      | agg cs vs hl hh =>
        simp only at ha
        cases hs : szOf P e with
        | none => simp [hs] at ha
        | some sz =>
          simp only [hs] at ha
          by_cases c : 0 ≤ n ∧ n < (len : Int)
          · rw [if_pos c] at ha
            obtain ⟨y, h1, h2⟩ := part_ok w ha hl hh
            exact ⟨y, by simp [Instr.index, asIntOf, run_underlying hu, c, run_sizeOf' hs, h1], h2⟩
          · rw [if_neg c] at ha; cases ha
      | _ => cases ha
    · rename_i hu
      cases hv with
      | str s =>
        simp only at ha
        by_cases c : 0 ≤ n
        · rw [if_pos c] at ha
          cases hb : s.data.toList[n.toNat]? with
          | none => simp [hb] at ha
          | some b =>
            simp only [hb] at ha
            cases ha
            have hb' : s[n.toNat]? = some b := by
              rw [Array.getElem?_toList] at hb
              obtain ⟨hlt, e⟩ := Array.getElem?_eq_some_iff.1 hb
              have hlt' : n.toNat < s.size := hlt
              rw [getElem?_pos s n.toNat hlt']
              exact congrArg some e
            exact ⟨_, by simp [Instr.index, asIntOf, run_underlying hu, c, hb'], .int .u8 b.toNat⟩
        · rw [if_neg c] at ha; cases ha
      | _ => cases ha
    · cases ha
  | _ => cases ha

/-! ### New variables, structs, slices -/
theorem V.cells_row {H : Array Obj} (R : Rel P r A K h H) {a : AV} {v : Value} (hv : V H r K A a v) (e : TypeId) (b c : Nat) (id : Nat) :
    O P (H.push (.cells v.cells e)) (r.upd h.next b c) (Kn K h.next) A id (.row e a.cells false) (.cells v.cells e) := by
  have hc := hv.cells
  exact .row e _ false _ (by have := hc.1; simp at this; omega) (fun _ => by have := hc.1; simp at this; omega) (fun h0 => by cases h0) (fun i x y hx hy => (hc.2 i x y hx (by simpa using hy)).push R _ _ _)

theorem opAlloc_ok (w : World) (R : Rel P r A K h w.heap) {e : TypeId} {outs : List (AV × AH)} (ho : opAlloc P h e = some outs) :
    ∃ v w', (Instr.alloc e true (.tuple #[])).run P w = .ok v w' ∧ ioW w' = ioW w ∧ Good P r A K h w.heap outs v w'.heap := by
  unfold opAlloc at ho
  cases hz : zeroOf P e with
  | none => simp [hz] at ho
  | some z =>
    simp only [hz, one] at ho
    cases ho
    obtain ⟨zv, h1, h2⟩ := run_zeroValue' hz w
    have hv : V w.heap r K A z zv := ofZero_V h2
    have hr := rel_new R 0 (hv.cells_row R e w.heap.size 0 h.next)
    refine ⟨.pointer (some ⟨w.heap.size, 0, none⟩), { w with heap := w.heap.push (.cells zv.cells e) }, ?_, rfl, _, _, _, _, List.mem_singleton.2 rfl, hr.1, hr.2, ?_⟩
    · simp [Instr.alloc, h1, newVar, newRow]
    · have := V.ptr (H := w.heap.push (.cells zv.cells e)) (r := r.upd h.next w.heap.size 0) (K := Kn K h.next) (A := A) h.next 0 (.inr rfl)
      rw [(r.upd_at _ _ _).1] at this
      exact this

theorem opBox_ok (w : World) (R : Rel P r A K h w.heap) {e : TypeId} {x : AV} {v : Value} (hv : V w.heap r K A x v) :
    ∃ y w', (Instr.box e v).run P w = .ok y w' ∧ ioW w' = ioW w ∧ Good P r A K h w.heap [(.ptr h.next 0, h.new (.row e x.cells false))] y w'.heap := by
  have hr := rel_new R 0 (hv.cells_row R e w.heap.size 0 h.next)
  refine ⟨.pointer (some ⟨w.heap.size, 0, none⟩), { w with heap := w.heap.push (.cells v.cells e) }, ?_, rfl, _, _, _, _, List.mem_singleton.2 rfl, hr.1, hr.2, ?_⟩
  · simp [Instr.box, newVar, newRow]
  · have := V.ptr (H := w.heap.push (.cells v.cells e)) (r := r.upd h.next w.heap.size 0) (K := Kn K h.next) (A := A) h.next 0 (.inr rfl)
    rw [(r.upd_at _ _ _).1] at this
    exact this

theorem foldl_set (new : List Value) : ∀ (cs : Array Value) (off k : Nat), off + k + new.length ≤ cs.size →
    ((new.zipIdx k).foldl (fun cs (c, j) => cs.setIfInBounds (off + j) c) cs).toList = cs.toList.take (off + k) ++ new ++ cs.toList.drop (off + k + new.length) := by
  induction new with
  | nil => intro cs off k h; simp
  | cons v new ih =>
    intro cs off k h
    simp only [List.zipIdx_cons, List.foldl_cons]
    rw [ih (cs.setIfInBounds (off + k) v) off (k + 1) (by simp at h ⊢; omega)]
    simp only [List.length_cons] at h
    have hl : off + k < cs.toList.length := by simp; omega
    apply List.ext_getElem?
    intro i
    have e1 : (cs.setIfInBounds (off + k) v).toList = cs.toList.set (off + k) v := by simp
    rw [e1]
    have h1 : off + (k + 1) + new.length ≤ (cs.toList.set (off + k) v).length := by simp; omega
    have h2 : off + k + (v :: new).length ≤ cs.toList.length := by simp; omega
    rw [splice_get h1, splice_get h2]
    by_cases c1 : i < off + k
    · have : i < off + (k + 1) := by omega
      rw [if_pos this, if_pos c1, List.getElem?_set_ne (by omega)]
    · by_cases c2 : i = off + k
      · subst c2
        rw [if_pos (by omega), if_neg c1, if_pos (by simp), List.getElem?_set_self hl]
        simp
      · rw [if_neg (by omega), if_neg c1]
        by_cases c3 : i < off + (k + 1) + new.length
        · rw [if_pos c3, if_pos (by simp; omega)]
          have : i - (off + k) = (i - (off + (k + 1))) + 1 := by omega
          rw [this, List.getElem?_cons_succ]
        · rw [if_neg c3, if_neg (by simp; omega), List.getElem?_set_ne (by omega)]

/-- The parts of a literal. -/
theorem fill_ok {H : Array Obj} {K : Nat → Prop} {place place' : Nat → Option (Nat × Nat)} (hpl : ∀ i p, place i = some p → place' i = some p) : ∀ (parts : List (Nat × AV)) (vparts : List (Nat × Value)) (cs : List AV) (vs : Array Value) (res : List AV),
    fillA place cs parts = some res → parts.length = vparts.length → (∀ (i : Nat) a v, parts[i]? = some a → vparts[i]? = some v → a.1 = v.1 ∧ V H r K A a.2 v.2) → VS H r K A cs vs.toList →
    ∃ out, Instr.fill place' vs vparts = some out ∧ VS H r K A res out.toList
  | [], vparts, cs, vs, res, hf, hl, hp, hc => by
    cases vparts with
    | nil => cases hf; exact ⟨vs, rfl, hc⟩
    | cons x l => simp at hl
  | (i, a) :: parts, vparts, cs, vs, res, hf, hl, hp, hc => by
    cases vparts with
    | nil => simp at hl
    | cons y l =>
      obtain ⟨j, v⟩ := y
      have h0 := hp 0 (i, a) (j, v) rfl rfl
      simp only at h0
      obtain ⟨rfl, hv⟩ := h0
      simp only [fillA] at hf
      cases hq : place i with
      | none => simp [hq] at hf
      | some p =>
        obtain ⟨off, size⟩ := p
        simp only [hq] at hf
        by_cases c : a.cells.length = size ∧ off + size ≤ cs.length
        · rw [if_pos c] at hf
          have hcells := hv.cells
          have hlen : a.cells.length = v.cells.size := by have := hcells.1; simpa using this
          have hvs : cs.length = vs.size := by have := hc.1; simpa using this
          have hle : off + a.cells.length ≤ cs.length := by omega
          have hput : VS H r K A (putCells cs off a.cells) (v.cells.zipIdx.foldl (fun cs (c, j) => cs.setIfInBounds (off + j) c) vs).toList := by
            have e : (v.cells.zipIdx.foldl (fun cs (c, j) => cs.setIfInBounds (off + j) c) vs) = ((v.cells.toList.zipIdx 0).foldl (fun cs (c, j) => cs.setIfInBounds (off + j) c) vs) := by
              rw [← Array.foldl_toList, Array.toList_zipIdx]
            rw [e, foldl_set v.cells.toList vs off 0 (by simp; omega)]
            simp only [Nat.add_zero]
            refine ⟨by rw [putCells_length hle]; simp; omega, fun k x y hx hy => ?_⟩
            rw [putCells_get hle] at hx
            rw [splice_get (by simp; omega)] at hy
            by_cases c1 : k < off
            · rw [if_pos c1] at hx hy
              exact hc.2 k x y hx hy
            · rw [if_neg c1] at hx hy
              by_cases c2 : k < off + a.cells.length
              · rw [if_pos c2] at hx
                rw [if_pos (by simp; omega)] at hy
                exact hcells.2 _ x y hx hy
              · rw [if_neg c2] at hx
                rw [if_neg (by simp; omega)] at hy
                exact hc.2 k x y hx hy
          obtain ⟨out, h1, h2⟩ := fill_ok hpl parts l _ _ res hf (by simpa using hl) (fun k x y hx hy => hp (k + 1) x y (by simpa using hx) (by simpa using hy)) hput
          refine ⟨out, ?_, h2⟩
          unfold Instr.fill
          simp only [hpl i _ hq]
          have hn1 : ¬ (v.cells.size ≠ size ∨ off + v.cells.size > vs.size) := by omega
          have hn2 : ¬ ((v.cells.size ≠ size) ∨ (off + v.cells.size > vs.size)) := hn1
          have hb : (decide (v.cells.size ≠ size) || decide (off + v.cells.size > vs.size)) = false := by
            simp; omega
          first
            | (rw [if_neg hn1]; exact h1)
            | (simp only [hb]; exact h1)
            | (rw [if_neg (by simpa using hn1)]; exact h1)
        · rw [if_neg c] at hf; cases hf
end
end Go.Proofs.YtmeianaaiiiinaaGreat.Ev
