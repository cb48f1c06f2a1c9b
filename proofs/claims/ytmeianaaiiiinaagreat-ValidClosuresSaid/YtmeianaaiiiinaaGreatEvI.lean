/- What append, copy and clear come to. -/
import Derived.Test.YtmeianaaiiiinaaGreatEvH
namespace Go.Proofs.YtmeianaaiiiinaaGreat.Ev
open Go
set_option linter.unusedVariables false
set_option linter.unusedSimpArgs false
set_option linter.all false
section
variable {P : Program} {r : Ren} {A K : Nat → Prop} {h : AH}

theorem lenA_ok (w : World) {K : Nat → Prop} {x : AV} {v : Value} {n : Nat} (hl : lenA x = some n) (hx : V w.heap r K A x v) : (Builtin.lenOf v).run P w = .ok n w := by
  unfold lenA at hl
  cases hx <;> simp at hl <;> subst hl <;> simp [Builtin.lenOf]
theorem row_cells {w : World} (R : Rel P r A K h w.heap) {id : Nat} {e : TypeId} {cells : List AV} {op : Bool} (hg : h.get id = some (.row e cells op)) :
    ∃ cs : Array Value, w.heap[r.blk id]? = some (.cells cs e (0, 0)) ∧ cells.length ≤ cs.size ∧ (op = false → cs.size = cells.length) ∧ (op = true → ∃ sz, szOf P e = some sz ∧ cs.size = r.cap id * sz) ∧
      ∀ (i : Nat) a v, cells[i]? = some a → cs[i]? = some v → V w.heap r K A a v := by
  obtain ⟨ob, hob, hO⟩ := R.ob id _ hg
  cases hO with
  | row _ _ _ cs hl hc ho hh => exact ⟨cs, hob, hl, hc, ho, hh⟩
/-- Cells that are read one after the other. -/
theorem load_list (w : World) {K : Nat → Prop} {cells : List AV} {b o n : Nat} (hn : n ≤ cells.length) (hc : ∀ (i : Nat) a, cells[i]? = some a → ∃ v, cellH w.heap b (o + i) = some v)
    (hh : ∀ (i : Nat) a v, cells[i]? = some a → cellH w.heap b (o + i) = some v → V w.heap r K A a v) :
    ∃ vs : List Value, (∀ w' : World, w'.heap = w.heap → (loadCells ⟨b, o, none⟩ n).run P w' = .ok vs.toArray w') ∧ VS w.heap r K A (cells.take n) vs := by
  let f : Nat → Value := fun i => (cellH w.heap b (o + i)).getD undef
  have hf : ∀ i, i < n → cellH w.heap b (o + i) = some (f i) := fun i hi => by
    obtain ⟨v, hv⟩ := hc i cells[i] (List.getElem?_eq_getElem (by omega))
    simp [f, hv]
  have hlen : ((List.range n).map f).length = n := by simp
  have := fun (w' : World) (hw : w'.heap = w.heap) => run_loadCells_list (P := P) w' ⟨b, o, none⟩ ((List.range n).map f) (fun j v hj => by
    rw [addr_add, cell_eq, hw]
    rw [List.getElem?_map] at hj
    cases hr : (List.range n)[j]? with
    | none => simp [hr] at hj
    | some k =>
      simp [hr] at hj
      obtain ⟨hk, e⟩ := List.getElem?_eq_some_iff.1 hr
      simp at hk e
      subst e
      rw [hf j hk, hj])
  rw [hlen] at this
  refine ⟨(List.range n).map f, this, by simp; omega, fun i a v ha hv => ?_⟩
  rw [List.getElem?_take] at ha
  by_cases hi : i < n
  · rw [if_pos hi] at ha
    have : v = f i := by simpa [hi] using hv.symm
    rw [this]
    exact hh i a (f i) ha (hf i hi)
  · rw [if_neg hi] at ha; cases ha
theorem VS.nil {H : Array Obj} {K : Nat → Prop} : VS H r K A [] [] := ⟨rfl, fun i a v ha hv => by simp at ha⟩
theorem take_zero_eq {α : Type} (l : List α) (n : Nat) (h : n = 0) : l.take n = [] := by subst h; rfl

theorem firstA_ok (w : World) (R : Rel P r A K h w.heap) {x : AV} {v : Value} {sz n : Nat} {new : List AV} (hf : firstA h sz n x = some new) (hx : V w.heap r K A x v) :
    ∃ vs : List Value, (∀ w' : World, w'.heap = w.heap → (Builtin.firstCells sz n v).run P w' = .ok vs.toArray w') ∧ VS w.heap r K A new vs ∧ new.length = n * sz := by
  unfold firstA at hf
  cases hx with
  | nilSlice =>
    simp only at hf
    by_cases c : n = 0
    · rw [if_pos c] at hf
      cases hf
      subst c
      exact ⟨[], fun w' _ => by simp [Builtin.firstCells], .nil, by simp⟩
    · rw [if_neg c] at hf; cases hf
  | view0 cells ex a cap hx =>
    simp only at hf
    by_cases c : n ≤ 0 ∧ n * sz ≤ cells.length
    · rw [if_pos c] at hf
      cases hf
      have e : n = 0 := by omega
      subst e
      rw [take_zero_eq _ _ (by simp)]
      refine ⟨[], fun w' _ => ?_, .nil, by simp⟩
      cases a with
      | none => simp [Builtin.firstCells]
      | some a => simp [Builtin.firstCells, loadCells, loadCellsFrom]
    · rw [if_neg c] at hf; cases hf
  | view m cells ex b o cap hn hx hA hc hh =>
    simp only at hf
    by_cases c : n ≤ m ∧ n * sz ≤ cells.length
    · rw [if_pos c] at hf
      cases hf
      obtain ⟨vs, h1, h2⟩ := load_list (P := P) (n := n * sz) w c.2 hc hh
      exact ⟨vs, fun w' hw => by simp [Builtin.firstCells, h1 w' hw], h2, by rw [List.length_take]; omega⟩
    · rw [if_neg c] at hf; cases hf
  | slice id off len cap hid hcap =>
    simp only at hf
    cases hr : rowOf h id with
    | none => simp [hr] at hf
    | some cells =>
      simp only [hr] at hf
      obtain ⟨e, op, hg⟩ := rowOf_get hr
      obtain ⟨cs, hob, hl, _, _, hh⟩ := row_cells (w := w) R hg
      by_cases c : n ≤ len ∧ off + n * sz ≤ cells.length
      · rw [if_pos c] at hf
        cases hf
        have hcell : ∀ o, cellH w.heap (r.blk id) o = cs[o]? := fun o => by simp [cellH, hob]
        obtain ⟨vs, h1, h2⟩ := load_list (P := P) (n := n * sz) (b := r.blk id) (o := off) (cells := cells.drop off) w (by simp; omega) (fun i a ha => by
          rw [List.getElem?_drop] at ha
          have := (List.getElem?_eq_some_iff.1 ha).1
          exact ⟨cs[off + i], by rw [hcell, Array.getElem?_eq_getElem]⟩) (fun i a v ha hv => by
          rw [List.getElem?_drop] at ha
          rw [hcell] at hv
          exact hh _ a v ha hv)
        exact ⟨vs, fun w' hw => by simp [Builtin.firstCells, h1 w' hw], h2, by rw [List.length_take, List.length_drop]; omega⟩
      · rw [if_neg c] at hf; cases hf
  | str s =>
    simp only at hf
    by_cases c : n ≤ s.size ∧ sz = 1
    · rw [if_pos c] at hf
      cases hf
      have hsl : s.data.toList.length = s.size := by rw [Array.length_toList]; rfl
      refine ⟨((s.data.toList.take n).map fun b => .int .u8 b.toNat), fun w' _ => ?_, ⟨by simp, fun i a v ha hv => ?_⟩, by simp only [List.length_map, List.length_take, hsl, c.2]; omega⟩
      · simp only [Builtin.firstCells, Sem.run_pure]
        congr 1
        have : (s.extract 0 n).data = (s.data.toList.take n).toArray := by
          rw [ByteArray.data_extract]
          apply Array.ext'
          simp
        rw [this]
        simp
      · rw [List.getElem?_map] at ha hv
        cases hb : (s.data.toList.take n)[i]? with
        | none => simp [hb] at ha
        | some b =>
          simp [hb] at ha hv
          subst ha
          subst hv
          exact .int .u8 _
    · rw [if_neg c] at hf; cases hf
  | _ => simp at hf

theorem VS.append {H : Array Obj} {K : Nat → Prop} {a b : List AV} {u v : List Value} (h1 : VS H r K A a u) (h2 : VS H r K A b v) : VS H r K A (a ++ b) (u ++ v) := by
  refine ⟨by simp [h1.1, h2.1], fun i x y hx hy => ?_⟩
  rw [List.getElem?_append] at hx hy
  have hl := h1.1
  by_cases c : i < a.length
  · rw [if_pos c] at hx
    rw [if_pos (by omega)] at hy
    exact h1.2 i x y hx hy
  · rw [if_neg c] at hx
    rw [if_neg (by omega)] at hy
    exact h2.2 _ x y hx (by rw [hl]; exact hy)

/-- Append where there is no room: a new row. -/
theorem run_grow (w : World) {t tx e : TypeId} {d : TypeDesc} {i : TypeInfo} {z : Value} (hu : P.underlying t = some (.slice e)) (hux : P.underlying tx = some d) (hd : ∀ k, d ≠ .int k) (hi : P.info? e = some i) (hz : i.zero = some z)
    {base : Option Addr} {sl sc n : Nat} {vx : Value} {old new : List Value} (hlx : (Builtin.lenOf vx).run P w = .ok n w) (hno : sc < sl + n) (hb : i.bytes ≤ 65536) (hs : sl + n ≤ 1048576)
    (hold : (Builtin.firstCells i.size sl (.slice base sl sc)).run P w.drew = .ok old.toArray w.drew) (hnew : (Builtin.firstCells i.size n vx).run P w.drew = .ok new.toArray w.drew) (ty : TypeId) :
    ∃ c, sl + n ≤ c ∧ (Builtin.append_ #[t, tx] ty #[.slice base sl sc, vx]).run P w =
      .ok (.slice (some ⟨w.heap.size, 0, none⟩) (sl + n) c) (w.drew.alloc (.cells (old.toArray ++ (new.toArray ++ Builtin.zeroCells z.cells (c - (sl + n)))) e)) := by
  have hzeros : (match d with | .int _ => true | _ => false) = false := by
    cases d <;> first | rfl | exact absurd rfl (hd _)
  have hn1 : ¬ sl + n ≤ sc := by omega
  have hn2 : ¬ ((9223372036854775807 : Int) < (sl : Int) + (n : Int) ∧ i.bytes = 0) := by omega
  have hcap : Builtin.nextslicecap (sl + n) sc ≤ 2 * (sl + n) := nextslicecap_le hno
  have hn3 : ¬ (281474976710656 < Builtin.nextslicecap (sl + n) sc * i.bytes) := by
    have : Builtin.nextslicecap (sl + n) sc * i.bytes ≤ (2 * 1048576) * 65536 := Nat.mul_le_mul (by omega) hb
    omega
  refine ⟨(Question.appendCap (sl + n) sc e).cut (w.tape w.drawn (.appendCap (sl + n) sc e)), by simp [Question.cut], ?_⟩
  simp [Builtin.append_, run_underlying hu, run_underlying hux, sizeOf, typeInfo, hi, hlx, hn1, zeroValue, hz, Question.forced, newRow, hn3]
  rw [if_neg hn2]
  simp [hold, hnew]

/-- A new row that may bear more. -/
theorem new_open (w : World) (R : Rel P r A K h w.heap) {e : TypeId} {sz : Nat} (hs : szOf P e = some sz) {cells : List AV} {vs : List Value} (hc : VS w.heap r K A cells vs) {cs : Array Value} (hcs : ∃ rest, cs.toList = vs ++ rest) {n c : Nat} (hn : n ≤ c) (hsz : cs.size = c * sz) :
    Good P r A K h w.heap [(.slice h.next 0 n (.rest 0), h.new (.row e cells true))] (.slice (some ⟨w.heap.size, 0, none⟩) n c) (w.heap.push (.cells cs e)) := by
  obtain ⟨rest, hrest⟩ := hcs
  have hl : cells.length ≤ cs.size := by
    have h1 := hc.1
    have : cs.size = (vs ++ rest).length := by rw [← hrest]; simp
    rw [this, List.length_append]; omega
  have hr := rel_new (o := .row e cells true) (x := .cells cs e) R c (.row e _ true _ hl (fun h0 => by cases h0) (fun _ => ⟨sz, hs, by rw [(r.upd_at _ _ _).2]; exact hsz⟩) (fun i x y hx hy => by
    have hi := (List.getElem?_eq_some_iff.1 hx).1
    rw [← Array.getElem?_toList, hrest, List.getElem?_append_left (by have := hc.1; omega)] at hy
    exact (hc.2 i x y hx hy).push R _ _ _))
  refine ⟨_, _, _, _, List.mem_singleton.2 rfl, hr.1, hr.2, ?_⟩
  have := V.slice (H := w.heap.push (.cells cs e)) (r := r.upd h.next w.heap.size c) (K := Kn K h.next) (A := A) h.next 0 n (.rest 0) (.inr rfl) (by simp only [capOf]; rw [(r.upd_at _ _ _).2]; omega)
  rw [(r.upd_at _ _ _).1] at this
  simp only [capOf, (r.upd_at _ _ _).2] at this
  exact this

theorem zero_size {z : AV} {zv : Value} {e : TypeId} {i : TypeInfo} (hz : zeroOf P e = some z) (hi : P.info? e = some i) (hzv : i.zero = some zv) (hsz : z.cells.length = i.size) (n : Nat) : (Builtin.zeroCells zv.cells n).size = n * i.size := by
  obtain ⟨i', v', hi', hz', ho⟩ := zeroOf_info hz
  rw [hi] at hi'
  cases hi'
  rw [hzv] at hz'
  cases hz'
  have hV : V #[] ⟨fun _ => 0, fun _ => 0, (default, #[])⟩ (fun _ => False) (fun _ => False) z zv := ofZero_V ho
  have := hV.cells.1
  rw [size_zeroCells]
  simp at this
  rw [← this, hsz]

theorem Rel.same {H : Array Obj} {H' : Array Obj} (e : H' = H) (R : Rel P r A K h H) : Rel P r A K h H' := e ▸ R

theorem appendTo_ok (w : World) (R : Rel P r A K h w.heap) {t tx e : TypeId} {d : TypeDesc} (hu : P.underlying t = some (.slice e)) (hux : P.underlying tx = some d) (hd0 : ∀ k, d ≠ .int k) {sz b : Nat} {z : AV} (hsz : szOf P e = some sz) (hby : bytesOf P e = some b) (hz : zeroOf P e = some z)
    {s x : AV} {vs vx : Value} {sl n : Nat} {new : List AV} {res : AV × AH} (hls : lenA s = some sl) (hlx : lenA x = some n) (hb : b ≤ 65536) (hle : sl + n ≤ 1048576) (hzl : z.cells.length = sz) (hf : firstA h sz n x = some new) (ha : appendTo h e sz n new s = some res)
    (hs : V w.heap r K A s vs) (hx : V w.heap r K A x vx) (ty : TypeId) :
    ∃ y w', (Builtin.append_ #[t, tx] ty #[vs, vx]).run P w = .ok y w' ∧ ioW w' = ioW w ∧ Good P r A K h w.heap [res] y w'.heap := by
  obtain ⟨i, hi, hisz⟩ := szOf_info hsz
  obtain ⟨i', hi', hib⟩ := bytesOf_info hby
  rw [hi] at hi'; cases hi'
  obtain ⟨i', zv, hi', hzv, _⟩ := zeroOf_info hz
  rw [hi] at hi'; cases hi'
  subst hisz
  have hlenx := lenA_ok (P := P) w hlx hx
  obtain ⟨newv, hn1, hn2, hnew⟩ := firstA_ok (P := P) w R hf hx
  have hnl : newv.length = n * i.size := by have := hn2.1; omega
  have hzeros : (match d with | .int _ => true | _ => false) = false := by
    cases d <;> first | rfl | exact absurd rfl (hd0 _)
  -- a new row
  have grow : ∀ (base : Option Addr) (sc : Nat) (old : List AV) (oldv : List Value), vs = .slice base sl sc → sc < sl + n → VS w.heap r K A old oldv → oldv.length = sl * i.size →
      (Builtin.firstCells i.size sl (.slice base sl sc)).run P w.drew = .ok oldv.toArray w.drew →
      ∃ y w', (Builtin.append_ #[t, tx] ty #[vs, vx]).run P w = .ok y w' ∧ w'.heap.size = w.heap.size + 1 ∧ ioW w' = ioW w ∧ Good P r A K h w.heap [(.slice h.next 0 (sl + n) (.rest 0), h.new (.row e (old ++ new) true))] y w'.heap := by
    intro base sc old oldv hvs hno hold hol hrun
    subst hvs
    obtain ⟨c, hc, hrun2⟩ := run_grow (P := P) w hu hux hd0 hi hzv hlenx hno (by omega) hle hrun (hn1 w.drew rfl) ty
    refine ⟨_, _, hrun2, by simp, rfl, ?_⟩
    refine new_open w R hsz (hold.append hn2) ⟨(Builtin.zeroCells zv.cells (c - (sl + n))).toList, by simp⟩ hc ?_
    simp only [Array.size_append, List.size_toArray, zero_size hz hi hzv hzl, hol, hnl]
    rw [← Nat.add_mul, ← Nat.add_mul]
    congr 1
    omega
  unfold appendTo at ha
  cases hs with
  | nilSlice =>
    simp [lenA] at hls
    subst hls
    simp only at ha
    by_cases c : n = 0
    · rw [if_pos c] at ha
      cases ha
      subst c
      refine ⟨.slice none 0 0, w, ?_, rfl, Good.same R .nilSlice⟩
      simp [Builtin.append_, run_underlying hu, run_underlying hux, sizeOf, typeInfo, hi, hlenx, hn1 w rfl]
    · rw [if_neg c] at ha
      cases ha
      obtain ⟨y, w', h1, _, h2⟩ := grow none 0 [] [] rfl (by omega) .nil (by simp) (by simp [Builtin.firstCells])
      refine ⟨y, w', h1, ?_⟩
      simpa using h2
  | view0 cells ex a cap hxx =>
    simp [lenA] at hls
    subst hls
    simp only at ha
    by_cases c : ex = true ∧ n ≠ 0
    · rw [if_pos c] at ha
      have e0 := hxx c.1
      subst e0
      cases hfo : firstA h i.size 0 (.view 0 cells ex) with
      | none => simp [hfo] at ha
      | some old =>
        simp only [hfo] at ha
        cases ha
        obtain ⟨ov, ho1, ho2, ho3⟩ := firstA_ok (P := P) w R hfo (.view0 cells ex a 0 hxx)
        obtain ⟨y, w', h1, _, h2⟩ := grow a 0 old ov rfl (by omega) ho2 (by have := ho2.1; omega) (ho1 w.drew rfl)
        exact ⟨y, w', h1, h2⟩
    · rw [if_neg c] at ha; cases ha
  | view m cells ex b o cap hnc hxx hA hc hh =>
    simp [lenA] at hls
    subst hls
    simp only at ha
    by_cases c : ex = true ∧ n ≠ 0
    · rw [if_pos c] at ha
      have e0 := hxx c.1
      subst e0
      cases hfo : firstA h i.size cap (.view cap cells ex) with
      | none => simp [hfo] at ha
      | some old =>
        simp only [hfo] at ha
        cases ha
        obtain ⟨ov, ho1, ho2, ho3⟩ := firstA_ok (P := P) w R hfo (.view cap cells ex b o cap hnc hxx hA hc hh)
        obtain ⟨y, w', h1, _, h2⟩ := grow _ _ old ov rfl (by omega) ho2 (by have := ho2.1; omega) (ho1 w.drew rfl)
        exact ⟨y, w', h1, h2⟩
    · rw [if_neg c] at ha; cases ha
  | slice id off len cap hid hcap =>
    simp [lenA] at hls
    subst hls
    have room : ∀ (sc : Nat), capOf r id cap = sc → len + n ≤ sc → ∀ w' u, (storeCells ⟨r.blk id, off + len * i.size, none⟩ newv).run P w = .ok u w' →
        (Builtin.append_ #[t, tx] ty #[.slice (some ⟨r.blk id, off, none⟩) len (capOf r id cap), vx]).run P w = .ok (.slice (some ⟨r.blk id, off, none⟩) (len + n) sc) w' := by
      intro sc hsc hroom w' u hst
      rw [hsc]
      simp [Builtin.append_, run_underlying hu, run_underlying hux, sizeOf, typeInfo, hi, hlenx, hn1 w rfl, hroom, addr_add, hst]
    cases cap with
    | known c =>
      simp only at ha
      by_cases hroom : len + n ≤ c
      · rw [if_pos hroom] at ha
        cases hg : h.get id with
        | none => simp [hg] at ha
        | some ob =>
          cases ob with
          | row e' cells op =>
            simp only [hg] at ha
            by_cases hc : off + (len + n) * i.size ≤ cells.length ∧ new.all AV.oneB = true ∧ new.length = n * i.size
            · rw [if_pos hc] at ha
              cases ha
              obtain ⟨w', h1, hio, h2, h3⟩ := row_put (off := off + len * i.size) w R hg (by rw [hnew]; have := hc.1; rw [Nat.add_mul] at this; omega) hn2 hc.2.1
              exact ⟨_, w', room c rfl hroom w' () h1, hio, _, _, _, _, List.mem_singleton.2 rfl, h2, h3, .slice id off (len + n) (.known c) hid hroom⟩
            · rw [if_neg hc] at ha; cases ha
          | _ => simp [hg] at ha
      · rw [if_neg hroom] at ha
        cases hfo : firstA h i.size len (.slice id off len (.known c)) with
        | none => simp [hfo] at ha
        | some old =>
          simp only [hfo] at ha
          cases ha
          obtain ⟨ov, ho1, ho2, ho3⟩ := firstA_ok (P := P) w R hfo (.slice id off len (.known c) hid hcap)
          obtain ⟨y, w', h1, _, h2⟩ := grow _ _ old ov rfl (by simp only [capOf]; omega) ho2 (by have := ho2.1; omega) (ho1 w.drew rfl)
          exact ⟨y, w', h1, h2⟩
    | rest k =>
      simp only at ha
      cases off with
      | succ off => simp at ha
      | zero =>
        cases k with
        | succ k => simp at ha
        | zero =>
          simp only at ha
          cases hg : h.get id with
          | none => simp [hg] at ha
          | some ob =>
            cases ob with
            | row e' cells op =>
              cases op with
              | false => simp [hg] at ha
              | true =>
                simp only [hg] at ha
                by_cases hc : e' = e ∧ cells.length = len * i.size ∧ new.all AV.oneB = true ∧ new.length = n * i.size
                · rw [if_pos hc] at ha
                  cases ha
                  obtain ⟨rfl, hcl, hones, _⟩ := hc
                  obtain ⟨cs, hob, hl, _, ho, hh⟩ := row_cells (w := w) R hg
                  obtain ⟨sz', hsz', hcs⟩ := ho rfl
                  rw [hsz] at hsz'
                  cases hsz'
                  have hcap0 : capOf r id (.rest 0) = r.cap id := rfl
                  by_cases hroom : len + n ≤ r.cap id
                  · -- in place
                    have hvl : new.length = newv.length := hn2.1
                    have hon : ∀ v ∈ newv, v.oneCell' = true := fun v hv => by
                      obtain ⟨j, hj, e⟩ := List.getElem_of_mem hv
                      have ha : new[j]? = some new[j] := List.getElem?_eq_getElem (by omega)
                      have := hn2.2 j new[j] v ha (by rw [List.getElem?_eq_getElem hj, e])
                      exact this.one (List.all_eq_true.1 hones _ (List.getElem_mem _))
                    have hfit : 0 + len * i.size + newv.length ≤ cs.size := by
                      rw [hnl, hcs, Nat.zero_add, ← Nat.add_mul]; exact Nat.mul_le_mul_right _ hroom
                    have hst := run_storeCells_at P (r.blk id) (0 + len * i.size) e' newv 0 cs w hob (by omega) hon
                    rw [Nat.add_zero] at hst
                    have hheap := setRow_heap_eq w (r.blk id) cs (cs.toList.take (0 + len * i.size) ++ newv ++ cs.toList.drop (0 + len * i.size + newv.length)).toArray e' hob
                    have hsize : (cs.toList.take (0 + len * i.size) ++ newv ++ cs.toList.drop (0 + len * i.size + newv.length)).toArray.size = cs.size := by
                      simp; omega
                    have hlt := R.lt id _ hg
                    have hk : ∀ b, A b → (w.heap.setIfInBounds (r.blk id) (.cells (cs.toList.take (0 + len * i.size) ++ newv ++ cs.toList.drop (0 + len * i.size + newv.length)).toArray e' (0, 0)))[b]? = w.heap[b]? := fun b hb => set_ne (fun e => hlt.2.2 (e ▸ hb))
                    have hrel := rel_move (x' := .cells (cs.toList.take (0 + len * i.size) ++ newv ++ cs.toList.drop (0 + len * i.size + newv.length)).toArray e' (0, 0)) (o' := .row e' (cells ++ new) true) R hg
                      (.row e' _ true _ (by rw [hsize, hcs, List.length_append, hcl, hnew, ← Nat.add_mul]; exact Nat.mul_le_mul_right _ hroom) (fun h0 => by cases h0) (fun _ => ⟨i.size, hsz, by rw [hsize, (r.upd_at _ _ _).2]; exact hcs⟩) (fun j a v ha hv => by
                        have : V w.heap r K A a v := by
                          rw [List.getElem?_toArray, splice_get (by simp; omega)] at hv
                          rw [List.getElem?_append] at ha
                          by_cases c1 : j < cells.length
                          · rw [if_pos c1] at ha
                            rw [if_pos (by omega)] at hv
                            exact hh j a v ha (by simpa using hv)
                          · rw [if_neg c1] at ha
                            have := (List.getElem?_eq_some_iff.1 ha).1
                            rw [if_neg (by omega), if_pos (by omega)] at hv
                            exact hn2.2 _ a v ha (by rw [← hv]; congr 1; omega)
                        exact this.ext (fun _ h => .inl h) (r.upd_old R.kn _ _) (fun _ h => h) hk))
                    refine ⟨_, _, room (r.cap id) hcap0 hroom _ () (by exact hst), (by exact rfl), _, _, _, _, List.mem_singleton.2 rfl, by rw [hheap]; exact hrel.1, by rw [hheap]; exact hrel.2, ?_⟩
                    have := V.slice (H := (w.setRow (r.blk id) (cs.toList.take (0 + len * i.size) ++ newv ++ cs.toList.drop (0 + len * i.size + newv.length)).toArray).heap) (r := r.upd h.next (r.blk id) (r.cap id)) (K := Kn K h.next) (A := A) h.next 0 (len + n) (.rest 0) (.inr rfl) (by simp only [capOf]; rw [(r.upd_at _ _ _).2]; omega)
                    rw [(r.upd_at _ _ _).1] at this
                    simp only [capOf, (r.upd_at _ _ _).2] at this
                    exact this
                  · -- a new row
                    have hfo : firstA h i.size len (.slice id 0 len (.rest 0)) = some cells := by
                      have hro : rowOf h id = some cells := by simp [rowOf, hg]
                      simp only [firstA, hro]
                      rw [if_pos ⟨Nat.le_refl _, by omega⟩, List.drop_zero, ← hcl, List.take_length]
                    obtain ⟨ov, ho1, ho2, ho3⟩ := firstA_ok (P := P) w R hfo (.slice id 0 len (.rest 0) hid hcap)
                    have hd := rel_drop R id
                    have hno : capOf r id (.rest 0) < len + n := by rw [hcap0]; omega
                    obtain ⟨c, hcc, hrun2⟩ := run_grow (P := P) w hu hux hd0 hi hzv hlenx hno (by omega) hle (ho1 w.drew rfl) (hn1 w.drew rfl) ty
                    refine ⟨_, _, hrun2, ?_⟩
                    have hnd : (h.drop id).next = h.next := rfl
                    have hg2 := new_open (h := h.drop id) w hd.1 hsz (cells := cells ++ new) (vs := ov ++ newv) (ho2.append hn2) (cs := (ov.toArray ++ (newv.toArray ++ Builtin.zeroCells zv.cells (c - (len + n))))) ⟨(Builtin.zeroCells zv.cells (c - (len + n))).toList, by simp⟩ hcc (by
                      simp only [Array.size_append, List.size_toArray, zero_size hz hi hzv hzl, hnl]
                      have : ov.length = len * i.size := by have := ho2.1; omega
                      rw [this, ← Nat.add_mul, ← Nat.add_mul]
                      congr 1
                      omega)
                    obtain ⟨v1, h1, r1, K1, hm, hR, hE, hV⟩ := hg2
                    exact ⟨rfl, v1, h1, r1, K1, hm, hR, hd.2.trans hE, hV⟩
                · rw [if_neg hc] at ha; cases ha
            | _ => simp [hg] at ha
  | _ => simp at ha
theorem appendA_ok (w : World) (R : Rel P r A K h w.heap) {ts : List TypeId} {s x : AV} {vs vx : Value} {res : AV × AH} (ha : appendA P h ts s x = some res) (hs : V w.heap r K A s vs) (hx : V w.heap r K A x vx) (ty : TypeId) :
    ∃ y w', (Builtin.append_ ts.toArray ty #[vs, vx]).run P w = .ok y w' ∧ ioW w' = ioW w ∧ Good P r A K h w.heap [res] y w'.heap := by
  unfold appendA at ha
  split at ha
  · rename_i sT xT
    split at ha
    · cases ha
    · rename_i e d hne hu hux
      have hd : ∀ k, d ≠ .int k := fun k hk => hne k hk
      split at ha
      · rename_i sz b z hsz hby hz
        split at ha
        · rename_i sl n hls hlx
          by_cases c : b ≤ 65536 ∧ sl + n ≤ 1048576 ∧ z.cells.length = sz
          · rw [if_pos c] at ha
            cases hf : firstA h sz n x with
            | none => simp [hf] at ha
            | some new =>
              simp only [hf] at ha
              exact appendTo_ok w R hu hux hd hsz hby hz hls hlx c.1 c.2.1 c.2.2 hf ha hs hx ty
          · rw [if_neg c] at ha; cases ha
        · cases ha
      · cases ha
    · cases ha
  · cases ha

theorem copyA_ok (w : World) (R : Rel P r A K h w.heap) {ts : List TypeId} {d x : AV} {vd vx : Value} {res : AV × AH} (ha : copyA P h ts d x = some res) (hd : V w.heap r K A d vd) (hx : V w.heap r K A x vx) (ty : TypeId) :
    ∃ y w', (Builtin.copy_ ts.toArray ty #[vd, vx]).run P w = .ok y w' ∧ ioW w' = ioW w ∧ Good P r A K h w.heap [res] y w'.heap := by
  unfold copyA at ha
  split at ha
  · rename_i dT rest
    split at ha
    · rename_i e hu
      split at ha
      · rename_i sz dl xl hsz hdl hxl
        have hlx := lenA_ok (P := P) w hxl hx
        cases hf : firstA h sz (Nat.min xl dl) x with
        | none => simp [hf] at ha
        | some new =>
          simp only [hf] at ha
          obtain ⟨vs, h1, h2, h3⟩ := firstA_ok (P := P) w R hf hx
          cases hd with
          | nilSlice =>
            simp only at ha
            cases ha
            simp [lenA] at hdl
            subst hdl
            refine ⟨.int .i64 0, w, ?_, rfl, Good.same R (.int _ _)⟩
            have : xl.min 0 = 0 := Nat.min_zero xl
            rw [this] at h1
            simp [Builtin.copy_, run_underlying hu, run_sizeOf' hsz, hlx, this, h1 w rfl, goInt]
          | slice id off len cap hid hcap =>
            simp [lenA] at hdl
            subst hdl
            simp only at ha
            cases hg : h.get id with
            | none => simp [hg] at ha
            | some ob =>
              cases ob with
              | row e' cells op =>
                simp only [hg] at ha
                by_cases c : off + new.length ≤ cells.length ∧ new.all AV.oneB = true
                · rw [if_pos c] at ha
                  cases ha
                  obtain ⟨w', g1, hio, g2, g3⟩ := row_put w R hg c.1 h2 c.2
                  refine ⟨_, w', ?_, hio, _, _, _, _, List.mem_singleton.2 rfl, g2, g3, .int _ _⟩
                  simp [Builtin.copy_, run_underlying hu, run_sizeOf' hsz, hlx, h1 w rfl, g1, goInt]
                · rw [if_neg c] at ha; cases ha
              | _ => simp [hg] at ha
          | _ => simp at ha
      · cases ha
    · cases ha
  · cases ha

theorem rep_zero (z : AV) (zv : Value) (w : World) {K : Nat → Prop} (hz : VS w.heap r K A z.cells zv.cells.toList) (n : Nat) : VS w.heap r K A (repCells z.cells n) (Builtin.zeroCells zv.cells n).toList := by
  have h1 : zv.cells.size = z.cells.length := by have := hz.1; simpa using this.symm
  have := rep_VS (n := n) (m := n * zv.cells.size) hz rfl (by rw [h1])
  exact this

theorem clearA_ok (w : World) (R : Rel P r A K h w.heap) {ts : List TypeId} {d : AV} {vd : Value} {res : AV × AH} (ha : clearA P h ts d = some res) (hd : V w.heap r K A d vd) (ty : TypeId) :
    ∃ y w', (Builtin.clear_ ts.toArray ty #[vd]).run P w = .ok y w' ∧ ioW w' = ioW w ∧ Good P r A K h w.heap [res] y w'.heap := by
  have hun : ∀ {H K}, V H r K A AV.undef (.tuple #[]) := .tuple _ _ rfl (fun i a v ha hv => by simp at ha)
  unfold clearA at ha
  split at ha
  · rename_i dT rest
    split at ha
    · rename_i e hu
      cases hd with
      | nilSlice =>
        simp only at ha
        cases ha
        exact ⟨_, w, by simp [Builtin.clear_, run_underlying hu], rfl, Good.same R hun⟩
      | view0 cells ex a cap hx =>
        simp only at ha
        cases ha
        refine ⟨_, w, ?_, rfl, Good.same R hun⟩
        cases a <;> simp [Builtin.clear_, run_underlying hu]
      | slice id off len cap hid hcap =>
        simp only at ha
        by_cases c0 : len = 0
        · rw [if_pos c0] at ha
          cases ha
          subst c0
          exact ⟨_, w, by simp [Builtin.clear_, run_underlying hu], rfl, Good.same R hun⟩
        · rw [if_neg c0] at ha
          split at ha
          · rename_i sz z e' cells op hsz hz hg
            by_cases c : z.cells.length = sz ∧ off + len * sz ≤ cells.length ∧ z.cells.all AV.oneB = true
            · rw [if_pos c] at ha
              cases ha
              obtain ⟨zv, k1, k2⟩ := run_zeroValue' hz w
              have hV : V w.heap r K A z zv := ofZero_V k2
              have hrep := rep_zero (A := A) z zv w hV.cells len
              have hl : (repCells z.cells len).length = len * sz := by rw [repCells_length, c.1]
              have hall : (repCells z.cells len).all AV.oneB = true := by
                have : ∀ n, (repCells z.cells n).all AV.oneB = true := by
                  intro n
                  induction n with
                  | zero => rfl
                  | succ n ih => simp only [repCells, List.all_append, ih, c.2.2, Bool.and_self]
                exact this len
              obtain ⟨w', g1, hio, g2, g3⟩ := row_put (off := off) w R hg (by rw [hl]; exact c.2.1) hrep hall
              refine ⟨_, w', ?_, hio, _, _, _, _, List.mem_singleton.2 rfl, g2, g3, hun⟩
              cases len with
              | zero => exact absurd rfl c0
              | succ len => simp [Builtin.clear_, run_underlying hu, k1, g1]
            · rw [if_neg c] at ha; cases ha
          · cases ha
      | view n cells ex b o cap hn hx hA hc hh =>
        cases n with
        | zero =>
          simp only at ha
          cases ha
          exact ⟨_, w, by simp [Builtin.clear_, run_underlying hu], rfl, Good.same R hun⟩
        | succ n => simp at ha
      | _ => simp at ha
    · cases ha
  · cases ha
end
end Go.Proofs.YtmeianaaiiiinaaGreat.Ev
