/- What literals, make and slice expressions come to. -/
import Derived.Test.YtmeianaaiiiinaaGreatEvF
import Derived.Laws.Tables
namespace Go.Proofs.YtmeianaaiiiinaaGreat.Ev
open Go
set_option linter.unusedVariables false
set_option linter.unusedSimpArgs false
set_option linter.all false
section
variable {P : Program} {r : Ren} {A K : Nat → Prop} {h : AH}

theorem range0 {α : Type} (f : Nat → α) : (Array.range 0).map f = #[] := Array.eq_empty_of_size_eq_zero (by simp)
theorem fieldPlaces_ok : ∀ {fs : List Field} {places : List (Nat × Nat)}, fieldPlaces P fs = some places → fs.mapM (fun f => (P.info? f.type).map fun i => (f.offset, i.size)) = some places
  | [], places, hp => by cases hp; rfl
  | f :: fs, places, hp => by
    simp only [fieldPlaces] at hp
    cases hs : szOf P f.type with
    | none => simp [hs] at hp
    | some n =>
      cases hr : fieldPlaces P fs with
      | none => simp [hs, hr] at hp
      | some rest =>
        simp [hs, hr] at hp
        subst hp
        obtain ⟨i, hi, hn⟩ := szOf_info hs
        simp [List.mapM_cons, hi, hn, fieldPlaces_ok hr]

theorem zip_parts : ∀ (ps : List (Nat × Operand)) (vs : List AV) (tm : TM), operands tm (ps.map (·.2)) = some vs → (zipParts ps vs).length = ps.length ∧ ∀ (i : Nat) a p, (zipParts ps vs)[i]? = some a → ps[i]? = some p → a.1 = p.1 ∧ vs[i]? = some a.2
  | [], vs, tm, ho => by cases ho; exact ⟨rfl, fun i a p ha hp => by simp at hp⟩
  | (j, x) :: ps, vs, tm, ho => by
    simp only [List.map_cons] at ho
    rw [operands_cons] at ho
    cases h1 : operand tm x with
    | none => simp [h1] at ho
    | some a =>
      cases h2 : operands tm (ps.map (·.2)) with
      | none => simp [h1, h2] at ho
      | some as =>
        simp [h1, h2] at ho
        subst ho
        have ih := zip_parts ps as tm h2
        refine ⟨by simp [zipParts, ih.1], fun i b p hb hp => ?_⟩
        cases i with
        | zero => simp [zipParts] at hb hp; subst hb; subst hp; exact ⟨rfl, rfl⟩
        | succ i => exact ih.2 i b p (by simpa [zipParts] using hb) (by simpa using hp)
theorem parts_V {H : Array Obj} {K : Nat → Prop} {tm : TM} {a : Act} (ht : TMR H r K A tm a.tmps) {ps : List (Nat × Operand)} {vs : List AV} (ho : operands tm (ps.map (·.2)) = some vs) :
    (zipParts ps vs).length = (ps.map fun (i, x) => (i, a.eval x)).length ∧
      ∀ (i : Nat) b v, (zipParts ps vs)[i]? = some b → (ps.map fun (i, x) => (i, a.eval x))[i]? = some v → b.1 = v.1 ∧ V H r K A b.2 v.2 := by
  have hz := zip_parts ps vs tm ho
  have hv := operands_VS ht ho
  refine ⟨by simp [hz.1], fun i b v hb hvv => ?_⟩
  rw [List.getElem?_map] at hvv
  cases hp : ps[i]? with
  | none => simp [hp] at hvv
  | some p =>
    obtain ⟨j, x⟩ := p
    simp [hp] at hvv
    subst hvv
    have := hz.2 i b (j, x) hb hp
    exact ⟨this.1, hv.2 i b.2 (a.eval x) this.2 (by simp [hp])⟩

theorem buildA_ok (w : World) {t : TypeId} {parts : List (Nat × AV)} {vparts : Array (Nat × Value)} {x : AV} (hb : buildA P t parts = some x) (hl : parts.length = vparts.toList.length)
    (hp : ∀ (i : Nat) a v, parts[i]? = some a → vparts.toList[i]? = some v → a.1 = v.1 ∧ V w.heap r K A a.2 v.2) :
    ∃ y, (Instr.build t vparts).run P w = .ok y w ∧ V w.heap r K A x y := by
  unfold buildA at hb
  cases hz : zeroOf P t with
  | none => simp [hz] at hb
  | some z =>
    simp only [hz] at hb
    obtain ⟨it, zv, hit, hzv, hoz⟩ := zeroOf_info hz
    have hV : V w.heap r K A z zv := ofZero_V hoz
    have hcells := hV.cells
    cases hu : P.underlying t with
    | none => simp [hu] at hb
    | some d =>
      cases d with
      | struct fields =>
        simp only [hu] at hb
        cases hf : fieldPlaces P fields.toList with
        | none => simp [hf] at hb
        | some places =>
          simp only [hf] at hb
          cases hfill : fillA (fun i => places[i]?) z.cells parts with
          | none => simp [hfill] at hb
          | some cs =>
            simp only [hfill] at hb
            cases hb
            obtain ⟨out, h1, h2⟩ := fill_ok (place' := fun i => places.toArray[i]?) (fun i p hip => by simpa using hip) parts vparts.toList z.cells zv.cells cs hfill hl hp hcells
            refine ⟨.agg out, run_build w t vparts out ?_, .agg _ _ (by have := h2.1; simpa using this) (fun i a v ha hv => h2.2 i a v ha (by simpa using hv))⟩
            simp only [Program.built, hit, hu, hzv, fieldPlaces_ok hf]
            exact h1
      | array n e =>
        simp only [hu] at hb
        cases hs : szOf P e with
        | none => simp [hs] at hb
        | some sz =>
          simp only [hs] at hb
          cases hfill : fillA (fun i => some (i * sz, sz)) z.cells parts with
          | none => simp [hfill] at hb
          | some cs =>
            simp only [hfill] at hb
            cases hb
            obtain ⟨ie, hie, hsz⟩ := szOf_info hs
            obtain ⟨out, h1, h2⟩ := fill_ok (place' := fun i => some (i * ie.size, ie.size)) (fun i p hip => by rw [hsz]; exact hip) parts vparts.toList z.cells zv.cells cs hfill hl hp hcells
            refine ⟨.agg out, run_build w t vparts out ?_, .agg _ _ (by have := h2.1; simpa using this) (fun i a v ha hv => h2.2 i a v ha (by simpa using hv))⟩
            simp only [Program.built, hit, hu, hzv, hie]
            exact h1
      | _ => simp [hu] at hb

theorem repCells_length (z : List AV) : ∀ n, (repCells z n).length = n * z.length
  | 0 => by simp [repCells]
  | n + 1 => by simp [repCells, repCells_length z n, Nat.succ_mul, Nat.add_comm]
theorem repCells_get (z : List AV) : ∀ n i, i < n * z.length → (repCells z n)[i]? = z[i % z.length]?
  | 0, i, hi => by omega
  | n + 1, i, hi => by
    simp only [repCells]
    rw [List.getElem?_append]
    by_cases c : i < z.length
    · rw [if_pos c, Nat.mod_eq_of_lt c]
    · rw [if_neg c, repCells_get z n (i - z.length) (by rw [Nat.succ_mul] at hi; omega)]
      congr 1
      rw [← Nat.mod_eq_sub_mod (by omega)]
/-- The cells of n zeros. -/
theorem rep_VS {H : Array Obj} {K : Nat → Prop} {z : AV} {zv : Value} {sz n m : Nat} (hz : VS H r K A z.cells zv.cells.toList) (hs : z.cells.length = sz) (hm : m = n * sz) :
    VS H r K A (repCells z.cells n) ((Array.range m).map (zv.cells[· % zv.cells.size]!)).toList := by
  subst hm
  have hzs : zv.cells.size = sz := by have := hz.1; simp at this; omega
  refine ⟨by rw [repCells_length]; simp [hs], fun i a v ha hv => ?_⟩
  have hi : i < n * z.cells.length := by
    have := (List.getElem?_eq_some_iff.1 ha).1
    rw [repCells_length] at this
    exact this
  rw [repCells_get _ _ _ hi] at ha
  rw [hs] at hi
  have hpos : 0 < sz := by
    cases sz with
    | zero => simp at hi
    | succ k => omega
  have hlt : i % sz < zv.cells.size := by rw [hzs]; exact Nat.mod_lt _ hpos
  have : v = zv.cells[i % sz]! := by
    simp [hi] at hv
    rw [← hv, hzs]
  refine hz.2 (i % sz) a v (by rw [hs] at ha; exact ha) ?_
  rw [this, Array.getElem?_toList, Array.getElem?_eq_getElem hlt]
  simp [getElem!_pos, hlt]

theorem new_row (w : World) (R : Rel P r A K h w.heap) (e : TypeId) {cells : List AV} {cs : Array Value} (hc : VS w.heap r K A cells cs.toList) (n c : Nat) (cap : Cap) (op : Bool) (k : Nat)
    (hcap : capOf (r.upd h.next w.heap.size k) h.next cap = c) (hn : n ≤ c) (hop : op = false) :
    Good P r A K h w.heap [(.slice h.next 0 n cap, h.new (.row e cells op))] (.slice (some ⟨w.heap.size, 0, none⟩) n c) (w.heap.push (.cells cs e)) := by
  subst hop
  have hl : cells.length = cs.size := by have := hc.1; simpa using this
  have hr := rel_new (o := .row e cells false) (x := .cells cs e) R k (.row e _ false _ (by omega) (fun _ => by omega) (fun h0 => by cases h0) (fun i x y hx hy => (hc.2 i x y hx (by simpa using hy)).push R _ _ _))
  refine ⟨_, _, _, _, List.mem_singleton.2 rfl, hr.1, hr.2, ?_⟩
  have := V.slice (H := w.heap.push (.cells cs e)) (r := r.upd h.next w.heap.size k) (K := Kn K h.next) (A := A) h.next 0 n cap (.inr rfl) (by rw [hcap]; exact hn)
  rw [(r.upd_at _ _ _).1, hcap] at this
  exact this

theorem buildSliceA_ok (w : World) (R : Rel P r A K h w.heap) {t : TypeId} {n : Nat} {parts : List (Nat × AV)} {vparts : Array (Nat × Value)} {x : AV × AH} (hb : buildSliceA P h t n parts = some x) (hl : parts.length = vparts.toList.length)
    (hp : ∀ (i : Nat) a v, parts[i]? = some a → vparts.toList[i]? = some v → a.1 = v.1 ∧ V w.heap r K A a.2 v.2) :
    ∃ y w', (Instr.buildSlice t n vparts).run P w = .ok y w' ∧ ioW w' = ioW w ∧ Good P r A K h w.heap [x] y w'.heap := by
  unfold buildSliceA at hb
  cases hu : P.underlying t with
  | none => simp [hu] at hb
  | some d =>
    cases d with
    | slice e =>
      simp only [hu] at hb
      cases hs : szOf P e with
      | none => simp [hs] at hb
      | some sz =>
        simp only [hs] at hb
        cases hz : zeroOf P e with
        | none => simp [hz] at hb
        | some z =>
          simp only [hz] at hb
          by_cases c : n * sz ≤ 16777216 ∧ z.cells.length = sz
          · rw [if_pos c] at hb
            cases hf : fillA (fun i => some (i * sz, sz)) (repCells z.cells n) parts with
            | none => simp [hf] at hb
            | some cs =>
              simp only [hf] at hb
              cases hb
              obtain ⟨zv, h1, h2⟩ := run_zeroValue' hz w
              have hV : V w.heap r K A z zv := ofZero_V h2
              have hrep : VS w.heap r K A (repCells z.cells n) ((Array.range (n * sz)).map (zv.cells[· % zv.cells.size]!)).toList := rep_VS hV.cells c.2 rfl
              obtain ⟨out, h3, h4⟩ := fill_ok (place' := fun i => some (i * sz, sz)) (fun i p hip => hip) parts vparts.toList _ _ cs hf hl hp hrep
              have hg := new_row w R e h4 n n (.known n) false 0 rfl (Nat.le_refl _) rfl
              refine ⟨_, { w with heap := w.heap.push (.cells out e) }, ?_, rfl, hg⟩
              have hle : ¬ 16777216 < n * sz := by omega
              by_cases hz0 : n * sz = 0
              · rw [hz0, range0] at h3
                simp [Instr.buildSlice, run_underlying hu, run_sizeOf' hs, hle, hz0, newRow, range0, h3]
              · simp [Instr.buildSlice, run_underlying hu, run_sizeOf' hs, hle, hz0, newRow, h1, h3]
          · rw [if_neg c] at hb; cases hb
    | _ => simp [hu] at hb

theorem wrap_small {n : Int} (h0 : 0 ≤ n) (h1 : n ≤ 1048576) : IntKind.i64.wrap n = n := by
  unfold IntKind.wrap
  simp [IntKind.bits, IntKind.signed]
  omega

theorem makeSliceA_ok (w : World) (R : Rel P r A K h w.heap) {t : TypeId} {l c : AV} {vl vc : Value} {x : AV × AH} (hb : makeSliceA P h t l c = some x) (hvl : V w.heap r K A l vl) (hvc : V w.heap r K A c vc) :
    ∃ y w', (Instr.makeSlice t vl vc).run P w = .ok y w' ∧ ioW w' = ioW w ∧ Good P r A K h w.heap [x] y w'.heap := by
  unfold makeSliceA at hb
  split at hb
  · rename_i e lk l ck c hu
    cases hvl
    cases hvc
    split at hb
    · rename_i sz b z hs hby hz
      by_cases hc : 0 ≤ l ∧ l ≤ c ∧ c ≤ 1048576 ∧ b ≤ 65536 ∧ z.cells.length = sz
      · rw [if_pos hc] at hb
        cases hb
        obtain ⟨c0, c1, c2, c3, c4⟩ := hc
        obtain ⟨zv, h1, h2⟩ := run_zeroValue' hz w
        have hV : V w.heap r K A z zv := ofZero_V h2
        obtain ⟨i, hi, hbi⟩ := bytesOf_info hby
        obtain ⟨i', hi', hsi⟩ := szOf_info hs
        rw [hi] at hi'
        cases hi'
        have hrep : VS w.heap r K A (repCells z.cells c.toNat) ((Array.range (c.toNat * sz)).map (zv.cells[· % zv.cells.size]!)).toList := rep_VS hV.cells c4 rfl
        have hg := new_row w R e hrep l.toNat c.toNat (.known c.toNat) false 0 rfl (by omega) rfl
        refine ⟨_, { w with heap := w.heap.push (.cells ((Array.range (c.toNat * sz)).map (zv.cells[· % zv.cells.size]!)) e) }, ?_, rfl, hg⟩
        have wl := wrap_small c0 (by omega : l ≤ 1048576)
        have wc := wrap_small (by omega : 0 ≤ c) c2
        have n1 : ¬ c < 0 := by omega
        have n2 : ¬ l < 0 := by omega
        have n3 : ¬ c < l := by omega
        have n4 : ¬ ((281474976710656 : Int) < (i.bytes : Int) * c) := by
          have hb1 : (i.bytes : Int) ≤ 65536 := by omega
          have : (i.bytes : Int) * c ≤ 65536 * 1048576 := Int.le_trans (Int.mul_le_mul_of_nonneg_right hb1 (by omega)) (Int.mul_le_mul_of_nonneg_left c2 (by omega))
          omega
        by_cases hn : c.toNat * sz = 0
        · rw [hn]
          simp [Instr.makeSlice, run_underlying hu, asInt, asIntOf, typeInfo, hi, sizeOf, wl, wc, n1, n2, n3, n4, hsi, hn, newRow, range0]
        · simp [Instr.makeSlice, run_underlying hu, asInt, asIntOf, typeInfo, hi, sizeOf, wl, wc, n1, n2, n3, n4, hsi, hn, newRow, h1]
      · rw [if_neg hc] at hb; cases hb
    · cases hb
  · cases hb
end
end Go.Proofs.YtmeianaaiiiinaaGreat.Ev
