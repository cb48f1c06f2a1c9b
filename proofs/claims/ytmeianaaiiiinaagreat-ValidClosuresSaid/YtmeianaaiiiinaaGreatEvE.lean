/- What loads, stores and addresses come to. -/
import Derived.Test.YtmeianaaiiiinaaGreatEvD
import Derived.Laws.AppendOwn
import Derived.Laws.CopyRow
namespace Go.Proofs.YtmeianaaiiiinaaGreat.Ev
open Go
set_option linter.unusedVariables false
set_option linter.unusedSimpArgs false
set_option linter.all false

theorem run_isAgg {P : Program} {t : TypeId} {b : Bool} (h : aggB P t = some b) (w : World) : (isAgg t).run P w = .ok b w := by
  unfold aggB at h
  unfold isAgg
  cases hu : P.underlying t with
  | none => simp [hu] at h
  | some d =>
    simp only [hu] at h
    simp only [Sem.run_bind, run_underlying hu, Result.andThen_ok]
    cases d <;> simp at h <;> subst h <;> rfl
theorem szOf_info {P : Program} {t : TypeId} {n : Nat} (h : szOf P t = some n) : ∃ i, P.info? t = some i ∧ i.size = n := by
  unfold szOf at h
  cases hi : P.info? t with
  | none => simp [hi] at h
  | some i => simp [hi] at h; exact ⟨i, rfl, h⟩
theorem run_sizeOf' {P : Program} {t : TypeId} {n : Nat} (h : szOf P t = some n) (w : World) : (sizeOf t).run P w = .ok n w := by
  obtain ⟨i, hi, hn⟩ := szOf_info h
  simp [sizeOf, typeInfo, hi, hn]
theorem bytesOf_info {P : Program} {t : TypeId} {n : Nat} (h : bytesOf P t = some n) : ∃ i, P.info? t = some i ∧ i.bytes = n := by
  unfold bytesOf at h
  cases hi : P.info? t with
  | none => simp [hi] at h
  | some i => simp [hi] at h; exact ⟨i, rfl, h⟩
theorem zeroOf_info {P : Program} {t : TypeId} {z : AV} (h : zeroOf P t = some z) : ∃ i v, P.info? t = some i ∧ i.zero = some v ∧ ofZero v = some z := by
  unfold zeroOf at h
  cases hi : P.info? t with
  | none => simp [hi] at h
  | some i =>
    simp [hi] at h
    cases hz : i.zero with
    | none => simp [hz] at h
    | some v => simp [hz] at h; exact ⟨i, v, rfl, hz, h⟩
theorem run_zeroValue' {P : Program} {t : TypeId} {z : AV} (h : zeroOf P t = some z) (w : World) : ∃ v, (zeroValue t).run P w = .ok v w ∧ ofZero v = some z := by
  obtain ⟨i, v, hi, hz, ho⟩ := zeroOf_info h
  exact ⟨v, by simp [zeroValue, typeInfo, hi, hz], ho⟩

section
variable {P : Program} {r : Ren} {A K : Nat → Prop} {h : AH} {H : Array Obj}

theorem V.one {a : AV} {v : Value} (hv : V H r K A a v) (h1 : a.oneB = true) : v.oneCell' = true := by
  cases hv <;> first | rfl | (simp [AV.oneB] at h1)
/-- A value's cells. -/
theorem V.cells {a : AV} {v : Value} (hv : V H r K A a v) : VS H r K A a.cells v.cells.toList := by
  have hs : ∀ {a : AV} {v : Value}, V H r K A a v → VS H r K A [a] [v] := fun hv => ⟨rfl, fun i x y hx hy => by
    cases i with
    | zero => simp at hx hy; subst hx; subst hy; exact hv
    | succ i => simp at hx⟩
  cases hv with
  | agg cs vs hl hh => exact ⟨by simpa [AV.cells, Value.cells] using hl, fun i x y hx hy => hh i x y (by simpa [AV.cells] using hx) (by simpa [Value.cells] using hy)⟩
  | bool b => exact hs (.bool b)
  | int k n => exact hs (.int k n)
  | str s => exact hs (.str s)
  | nilPtr => exact hs .nilPtr
  | nilSlice => exact hs .nilSlice
  | nilMap => exact hs .nilMap
  | nilFunc => exact hs .nilFunc
  | nilIface => exact hs .nilIface
  | tuple cs vs hl hh => exact hs (.tuple cs vs hl hh)
  | ptr id off hi => exact hs (.ptr id off hi)
  | rptr cells off b o hA hc hh => exact hs (.rptr cells off b o hA hc hh)
  | slice id off len cap hi hc => exact hs (.slice id off len cap hi hc)
  | view0 cells ex a cap hx => exact hs (.view0 cells ex a cap hx)
  | view n cells ex b o cap hn hx hA hc hh => exact hs (.view n cells ex b o cap hn hx hA hc hh)
  | map id hi => exact hs (.map id hi)
  | func fn f c vf vc hf hc h1 h2 => exact hs (.func fn f c vf vc hf hc h1 h2)
  | iface t a v hh => exact hs (.iface t a v hh)

/-- A part of a list of cells, where each cell can be read. -/
theorem part_get {t : TypeId} {cs : List AV} {off : Nat} {x : AV} (hp : partA P t cs off = some x) :
    (aggB P t = some false ∧ cs[off]? = some x) ∨ (∃ n, aggB P t = some true ∧ szOf P t = some n ∧ off + n ≤ cs.length ∧ x = .agg ((cs.drop off).take n)) := by
  unfold partA at hp
  cases ha : aggB P t with
  | none => simp [ha] at hp
  | some b =>
    cases b with
    | false => simp [ha] at hp; exact .inl ⟨rfl, hp⟩
    | true =>
      simp only [ha] at hp
      cases hs : szOf P t with
      | none => simp [hs] at hp
      | some n =>
        simp only [hs] at hp
        by_cases hle : off + n ≤ cs.length
        · simp [hle] at hp; exact .inr ⟨n, rfl, rfl, hle, hp.symm⟩
        · simp [hle] at hp

theorem take_drop_get {α : Type} (l : List α) (off n i : Nat) : ((l.drop off).take n)[i]? = if i < n then l[off + i]? else none := by
  rw [List.getElem?_take]
  by_cases h : i < n
  · simp [h, List.getElem?_drop]
  · simp [h]

/-- A load at a place where the cells stand. -/
theorem load_at (w : World) {t : TypeId} {cs : List AV} {off b o : Nat} {x : AV} (hp : partA P t cs off = some x)
    (hc : ∀ (i : Nat) a, cs[i]? = some a → ∃ v, cellH w.heap b (o + i) = some v) (hv : ∀ (i : Nat) a v, cs[i]? = some a → cellH w.heap b (o + i) = some v → V H r K A a v) :
    ∃ v, (Instr.loadAt t (.pointer (some ⟨b, o + off, none⟩))).run P w = .ok v w ∧ V H r K A x v := by
  have hadd : ∀ i, (⟨b, o + off, none⟩ : Addr).add i = ⟨b, o + off + i, none⟩ := fun i => by
    unfold Addr.add
    by_cases e : i = 0 <;> simp [e]
  rcases part_get hp with ⟨ha, hx⟩ | ⟨n, ha, hs, hle, rfl⟩
  · obtain ⟨v, h1⟩ := hc off x hx
    refine ⟨v, ?_, hv off x v hx h1⟩
    simp [Instr.loadAt, Instr.sureAddr, loadVar, run_isAgg ha, cell_eq, h1]
  · have hget : ∀ i, i < n → ∃ a, cs[off + i]? = some a := fun i hi => ⟨cs[off + i], by rw [List.getElem?_eq_getElem]⟩
    let f : Nat → Value := fun i => (cellH w.heap b (o + off + i)).getD undef
    have hf : ∀ i, i < n → cellH w.heap b (o + off + i) = some (f i) := fun i hi => by
      obtain ⟨a, ha⟩ := hget i hi
      obtain ⟨v, hv⟩ := hc (off + i) a ha
      have e : o + (off + i) = o + off + i := by omega
      rw [e] at hv
      simp [f, hv]
    have hld : (loadCells ⟨b, o + off, none⟩ n).run P w = .ok ((List.range n).map f).toArray w := by
      have hlen : ((List.range n).map f).length = n := by simp
      have := run_loadCells_list (P := P) w ⟨b, o + off, none⟩ ((List.range n).map f) (fun j v hj => by
        rw [hadd, cell_eq]
        rw [List.getElem?_map] at hj
        cases hr : (List.range n)[j]? with
        | none => simp [hr] at hj
        | some k =>
          simp [hr] at hj
          obtain ⟨hk, e⟩ := List.getElem?_eq_some_iff.1 hr
          simp at hk e
          subst e
          rw [hf j hk, hj])
      rw [hlen] at this
      exact this
    refine ⟨.agg ((List.range n).map f).toArray, ?_, .agg _ _ (by simp; omega) (fun i a v ha hv' => ?_)⟩
    · simp [Instr.loadAt, Instr.sureAddr, loadVar, run_isAgg ha, run_sizeOf' hs, hld]
    · rw [take_drop_get] at ha
      by_cases hi : i < n
      · rw [if_pos hi] at ha
        have e : o + (off + i) = o + off + i := by omega
        have h2 := hf i hi
        rw [← e] at h2
        have : v = f i := by simpa [hi] using hv'.symm
        rw [this]
        exact hv (off + i) a (f i) ha h2
      · rw [if_neg hi] at ha; cases ha

theorem rowOf_get {id : Nat} {cells : List AV} (hr : rowOf h id = some cells) : ∃ e op, h.get id = some (.row e cells op) := by
  unfold rowOf at hr
  split at hr
  · rename_i e c op hg; cases hr; exact ⟨e, op, hg⟩
  · cases hr

theorem loadA_ok (w : World) (R : Rel P r A K h w.heap) {t : TypeId} {av x : AV} {v : Value} (hl : loadA P h t av = some x) (hv : V w.heap r K A av v) :
    ∃ y, (Instr.loadAt t v).run P w = .ok y w ∧ V w.heap r K A x y := by
  unfold loadA at hl
  cases hv with
  | ptr id off hi =>
    simp only at hl
    cases hr : rowOf h id with
    | none => simp [hr] at hl
    | some cells =>
      simp only [hr] at hl
      obtain ⟨e, op, hg⟩ := rowOf_get hr
      obtain ⟨ob, hob, hO⟩ := R.ob id _ hg
      cases hO with
      | row _ _ _ cs hlen hc ho hh =>
        have hcell : ∀ o, cellH w.heap (r.blk id) o = cs[o]? := fun o => by simp [cellH, hob]
        have := load_at (H := w.heap) (r := r) (K := K) (A := A) (b := r.blk id) (o := 0) w hl (fun i a ha => by
          rw [hcell]
          have hi := (List.getElem?_eq_some_iff.1 ha).1
          exact ⟨cs[0 + i], by rw [Array.getElem?_eq_getElem]⟩) (fun i a v ha hv => by
          rw [hcell, Nat.zero_add] at hv
          exact hh i a v ha hv)
        rw [Nat.zero_add] at this
        exact this
  | rptr cells off b o hA hc hh => exact load_at w hl hc hh
  | _ => simp at hl

/-- A whole row's new cells: what is stored, in its place. -/
theorem putCells_get {cells new : List AV} {off i : Nat} (hle : off + new.length ≤ cells.length) :
    (putCells cells off new)[i]? = if i < off then cells[i]? else if i < off + new.length then new[i - off]? else cells[i]? := by
  unfold putCells
  rw [List.getElem?_append, List.length_append, List.length_take, List.getElem?_append, List.length_take, List.getElem?_take, List.getElem?_drop]
  have hm : min off cells.length = off := by omega
  rw [hm]
  by_cases h1 : i < off
  · have : i < off + new.length := by omega
    simp [h1, this]
  · by_cases h2 : i < off + new.length
    · simp [h1, h2]
    · simp [h1, h2]
      congr 1
      omega
theorem putCells_length {cells new : List AV} {off : Nat} (hle : off + new.length ≤ cells.length) : (putCells cells off new).length = cells.length := by
  unfold putCells
  simp only [List.length_append, List.length_take, List.length_drop]
  omega
theorem splice_get {α : Type} {cells new : List α} {off i : Nat} (hle : off + new.length ≤ cells.length) :
    (cells.take off ++ new ++ cells.drop (off + new.length))[i]? = if i < off then cells[i]? else if i < off + new.length then new[i - off]? else cells[i]? := by
  rw [List.getElem?_append, List.length_append, List.length_take, List.getElem?_append, List.length_take, List.getElem?_take, List.getElem?_drop]
  have hm : min off cells.length = off := by omega
  rw [hm]
  by_cases h1 : i < off
  · have : i < off + new.length := by omega
    simp [h1, this]
  · by_cases h2 : i < off + new.length
    · simp [h1, h2]
    · simp [h1, h2]
      congr 1
      omega

theorem setRow_heap_eq (w : World) (g : Nat) (old cs : Array Value) (e : TypeId) (hg : w.heap[g]? = some (.cells old e (0, 0))) : (w.setRow g cs).heap = w.heap.setIfInBounds g (.cells cs e (0, 0)) := by
  apply Array.ext_getElem?
  intro i
  by_cases hi : i = g
  · subst hi
    rw [setRow_heap w i old cs e (0, 0) hg]
    rw [Array.getElem?_setIfInBounds_self_of_lt (Array.getElem?_eq_some_iff.1 hg).1]
  · rw [setRow_other w g i cs hi, Array.getElem?_setIfInBounds_ne (fun e => hi e.symm)]

/-- Cells stored in a row of the run's own. -/
theorem row_put (w : World) (R : Rel P r A K h w.heap) {id : Nat} {e : TypeId} {cells new : List AV} {op : Bool} {vs : List Value} {off : Nat} (hg : h.get id = some (.row e cells op))
    (hle : off + new.length ≤ cells.length) (hvs : VS w.heap r K A new vs) (h1 : new.all AV.oneB = true) :
    ∃ w', (storeCells ⟨r.blk id, off, none⟩ vs).run P w = .ok () w' ∧ ioW w' = ioW w ∧ Rel P r A K (h.set id (.row e (putCells cells off new) op)) w'.heap ∧
      Ext r A K h w.heap r A K (h.set id (.row e (putCells cells off new) op)) w'.heap := by
  obtain ⟨ob, hob, hO⟩ := R.ob id _ hg
  cases hO with
  | row _ _ _ cs hlen hc ho hh =>
    have hvl : new.length = vs.length := hvs.1
    have hones : ∀ v ∈ vs, v.oneCell' = true := fun v hv => by
      obtain ⟨i, hi, e⟩ := List.getElem_of_mem hv
      have ha : new[i]? = some new[i] := List.getElem?_eq_getElem (by omega)
      have := hvs.2 i new[i] v ha (by rw [List.getElem?_eq_getElem hi, e])
      exact this.one (List.all_eq_true.1 h1 _ (List.getElem_mem _))
    have hst := run_storeCells_at P (r.blk id) off e vs 0 cs w hob (by rw [← hvl]; omega) hones
    rw [Nat.add_zero] at hst
    have hheap := setRow_heap_eq w (r.blk id) cs (cs.toList.take off ++ vs ++ cs.toList.drop (off + vs.length)).toArray e hob
    have hsize : (cs.toList.take off ++ vs ++ cs.toList.drop (off + vs.length)).toArray.size = cs.size := by
      simp; omega
    have hlt := R.lt id _ hg
    have hrel := rel_set (x' := .cells (cs.toList.take off ++ vs ++ cs.toList.drop (off + vs.length)).toArray e (0, 0)) (o' := .row e (putCells cells off new) op) R hg (.row e _ op _ (by rw [putCells_length hle, hsize]; exact hlen) (fun h0 => by rw [putCells_length hle, hsize]; exact hc h0) (fun h0 => by rw [hsize]; exact ho h0) (fun i a v ha hv => by
      have hk : ∀ b, A b → (w.heap.setIfInBounds (r.blk id) (.cells (cs.toList.take off ++ vs ++ cs.toList.drop (off + vs.length)).toArray e (0, 0)))[b]? = w.heap[b]? := fun b hb => set_ne (fun e => hlt.2.2 (e ▸ hb))
      have : V w.heap r K A a v := by
        rw [putCells_get hle] at ha
        rw [List.getElem?_toArray, splice_get (by rw [← hvl]; simp; omega)] at hv
        by_cases c1 : i < off
        · rw [if_pos c1] at ha hv
          exact hh i a v ha (by simpa using hv)
        · rw [if_neg c1] at ha hv
          by_cases c2 : i < off + new.length
          · rw [if_pos c2] at ha
            rw [if_pos (by omega)] at hv
            exact hvs.2 _ a v ha hv
          · rw [if_neg c2] at ha
            rw [if_neg (by omega)] at hv
            exact hh i a v ha (by simpa using hv)
      exact this.ext (fun _ h => h) (fun _ _ => ⟨rfl, rfl⟩) (fun _ h => h) hk))
    refine ⟨_, hst, rfl, ?_, ?_⟩
    · rw [hheap]; exact hrel.1
    · rw [hheap]; exact hrel.2

theorem storeA_ok (w : World) (R : Rel P r A K h w.heap) {t : TypeId} {a x : AV} {va vx : Value} {h' : AH} (hs : storeA P h t a x = some h') (hva : V w.heap r K A a va) (hvx : V w.heap r K A x vx) :
    ∃ w', (Instr.storeAt t va vx).run P w = .ok () w' ∧ ioW w' = ioW w ∧ Rel P r A K h' w'.heap ∧ Ext r A K h w.heap r A K h' w'.heap := by
  unfold storeA at hs
  cases hva with
  | ptr id off hi =>
    simp only at hs
    cases hg : h.get id with
    | none => simp [hg] at hs
    | some o =>
      cases o with
      | row e cells op =>
        simp only [hg] at hs
        cases hz : szOf P t with
        | none => simp [hz] at hs
        | some n =>
          simp only [hz] at hs
          by_cases hc : x.cells.length = n ∧ off + n ≤ cells.length ∧ x.cells.all AV.oneB = true
          · rw [if_pos hc] at hs
            cases hs
            have hcells := hvx.cells
            obtain ⟨w', h1, hio, h2, h3⟩ := row_put w R hg (by rw [hc.1]; exact hc.2.1) hcells hc.2.2
            refine ⟨w', ?_, hio, h2, h3⟩
            have hsz : vx.cells.size = n := by have := hcells.1; simp at this; omega
            simp [Instr.storeAt, Instr.sureAddr, storeVar, run_sizeOf' hz, hsz, h1]
          · rw [if_neg hc] at hs; cases hs
      | _ => simp [hg] at hs
  | _ => simp at hs
end
end Go.Proofs.YtmeianaaiiiinaaGreat.Ev
