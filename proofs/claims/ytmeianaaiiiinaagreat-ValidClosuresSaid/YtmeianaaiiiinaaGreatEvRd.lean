/- What is read in an argument stands for abstract values: strings, whole numbers, structs, slices of them. -/
import Derived.Test.YtmeianaaiiiinaaGreatEvWc
import Derived.Deep.Slices
import Derived.SizedLaws
import Derived.Test.YtmeianaaiiiinaaGreatEvWb
import Derived.Below
import Derived.ChangeOld
import Derived.ChangeFn
namespace Go.Proofs.YtmeianaaiiiinaaGreat.Ev
open Go
set_option linter.unusedVariables false
set_option linter.unusedSimpArgs false
set_option linter.all false
noncomputable section

/-- All that is there when the run begins. -/
def Old (w : World) : Nat → Prop := fun b => b < w.heap.size
theorem flatE_sub {α : Type} (enc : α → List AV) (k : Nat) (hk : ∀ x, (enc x).length = k) (l : List α) (j q : Nat) (hj : j < l.length) (hq : q < k) : (flatE enc l)[j * k + q]? = (enc l[j])[q]? := by
  rw [← List.getElem?_drop, flatE_drop enc k hk, List.drop_eq_getElem_cons hj]
  show (enc l[j] ++ flatE enc (l.drop (j + 1)))[q]? = _
  rw [List.getElem?_append_left (by rw [hk]; exact hq)]
theorem list_of {α : Type} {p : Nat → α → Prop} : ∀ (n : Nat), (∀ i, i < n → ∃ x, p i x) → ∃ l : List α, l.length = n ∧ ∀ (i : Nat) (h : i < l.length), p i l[i]
  | 0, _ => ⟨[], rfl, fun i h => absurd h (Nat.not_lt_zero _)⟩
  | n + 1, h => by
    obtain ⟨l, h1, h2⟩ := list_of n (fun i hi => h i (by omega))
    obtain ⟨x, hx⟩ := h n (by omega)
    refine ⟨l ++ [x], by simp [h1], fun i hi => ?_⟩
    by_cases hlt : i < l.length
    · rw [List.getElem_append_left hlt]
      exact h2 i hlt
    · have : i = l.length := by simp at hi; omega
      subst this
      simpa [h1] using hx
theorem weightsAll_mem {H : Type} {P : Program} {e : TypeId} {d : DataW H} {n : Nat} : ∀ {l : List (DataW H)}, d ∈ l → n ∈ d.weights P e → n ∈ DataW.weightsAll P e l
  | x :: l, h, hn => by
    simp only [DataW.weightsAll, List.mem_append]
    rcases List.mem_cons.1 h with rfl | h
    · exact .inl hn
    · exact .inr (weightsAll_mem h hn)

section
variable {H : Type} {enc0 : TypeId × Value → H} {P : Program} {w : World}
/-- What is read at a type stands for the code of something of which S holds. -/
def Reads (enc0 : TypeId × Value → H) (P : Program) (w : World) (t : TypeId) {α : Type} (enc : α → List AV) (S : α → Prop) : Prop :=
  ∀ (fuel : Nat) (cs : List Value) (d : DataW H) (ps : List MemPlace), DataW.trod enc0 P w 0 (fun _ => true) true fuel t cs = some (d, ps) → (∀ n ∈ d.weights P t, n ≤ reachBytes) →
    ∃ x : α, S x ∧ ∀ (r : Ren) (K : Nat → Prop), VS w.heap r K (Old w) (enc x) cs
theorem VS.single {H : Array Obj} {r : Ren} {K A : Nat → Prop} {a : AV} {v : Value} (h : V H r K A a v) : VS H r K A [a] [v] := by
  refine ⟨rfl, fun i b u hb hu => ?_⟩
  rcases i with _ | i
  · simp only [List.getElem?_cons_zero, Option.some.injEq] at hb hu
    subst hb; subst hu
    exact h
  · simp at hb

theorem Reads.str {t : TypeId} (ht : P.underlying t = some .string) : Reads enc0 P w t (fun s : ByteArray => [.str s]) (fun s => s.size ≤ reachBytes) := by
  intro fuel cs d ps h hw
  obtain ⟨s, rfl, hx, _⟩ := DataW.trod_string ht h
  obtain ⟨rfl, rfl⟩ := Prod.mk.inj hx
  exact ⟨s, by simpa using hw s.data.toList.length (by simp [DataW.weights]), fun r K => .single (.str s)⟩
theorem Reads.int {t : TypeId} {k : IntKind} (ht : P.underlying t = some (.int k)) : Reads enc0 P w t (fun n : Int => [.int k n]) (fun _ => True) := by
  intro fuel cs d ps h hw
  obtain ⟨n, rfl, hx, _⟩ := DataW.trod_int ht h
  exact ⟨n, trivial, fun r K => .single (.int k n)⟩
theorem Reads.imp {t : TypeId} {α β : Type} {enc : α → List AV} {S : α → Prop} {enc' : β → List AV} {S' : β → Prop} (h : Reads enc0 P w t enc S) (f : α → β) (hf : ∀ x, enc' (f x) = enc x) (hS : ∀ x, S x → S' (f x)) : Reads enc0 P w t enc' S' := by
  intro fuel cs d ps ht hw
  obtain ⟨x, h1, h2⟩ := h fuel cs d ps ht hw
  exact ⟨f x, hS x h1, fun r K => by rw [hf]; exact h2 r K⟩

theorem Reads.slice {t e : TypeId} {k b : Nat} {α : Type} {enc : α → List AV} {S : α → Prop} (ht : P.underlying t = some (.slice e)) (hk : P.cellsOf e = k) (hb : P.bytesOf e = b) (hpos : 0 < k) (hlen : ∀ x, (enc x).length = k)
    (he : Reads enc0 P w e enc S) : Reads enc0 P w t (fun l : List α => [.view l.length (flatE enc l) false]) (fun l => l.length * b ≤ reachBytes ∧ ∀ x ∈ l, S x) := by
  intro fuel cs d ps h hw
  rcases Deep.open_slice ht h with ⟨rfl, hx⟩ | ⟨a, len, cap, m, n, D, Pl, rfl, _, hl, hm, hmm, hx, hel⟩
  · exact ⟨[], ⟨by simp, fun x hx => by cases hx⟩, fun r K => .single (.view0 _ _ _ _ (fun h => by cases h))⟩
  · have hmc : m = cap := by simpa using hmm
    subst hmc
    obtain ⟨rfl, rfl⟩ := Prod.mk.inj hx
    simp only [DataW.weights, ht, List.mem_cons, List.mem_append] at hw
    have hall : ∀ i, i < len → ∀ n ∈ (D i).weights P e, n ≤ reachBytes := fun i hi n hn => hw n (.inr (.inl (weightsAll_mem (List.mem_map.2 ⟨i, List.mem_range.2 hi, rfl⟩) hn)))
    obtain ⟨l, hl1, hl2⟩ := list_of (p := fun i x => S x ∧ ∃ cs', w.cells? 0 (a.add (i * k)) k = some cs' ∧ ∀ (r : Ren) (K : Nat → Prop), VS w.heap r K (Old w) (enc x) cs') len (fun i hi => by
      obtain ⟨cs', h1, h2⟩ := hel i (by omega)
      obtain ⟨x, h3, h4⟩ := he n cs' (D i) (Pl i) h2 (hall i hi)
      exact ⟨x, h3, cs', by rw [← hk]; exact h1, h4⟩)
    refine ⟨l, ⟨?_, fun x hx => ?_⟩, fun r K => .single ?_⟩
    · have := hw _ (.inl rfl)
      rw [hb] at this
      refine Nat.le_trans (Nat.mul_le_mul_right b ?_) this
      simp [hl1]
    · obtain ⟨i, hi, rfl⟩ := List.getElem_of_mem hx
      exact (hl2 i hi).1
    · by_cases h0 : len = 0
      · have : l = [] := List.length_eq_zero_iff.1 (by omega)
        subst this
        subst h0
        exact .view0 _ _ _ _ (fun h => by cases h)
      · obtain ⟨cs0, hc0, _⟩ := (hl2 0 (by omega)).2
        rw [Nat.zero_mul] at hc0
        obtain ⟨_, hcl, hcc⟩ := World.cells?_some hc0
        have hsome : ∃ v, w.cell? a = some v := by
          have := hcc 0 hpos
          simp only [Addr.add] at this
          refine ⟨cs0[0]'(by omega), ?_⟩
          rw [← List.getElem?_eq_getElem (by omega : 0 < cs0.length), ← this]
          rfl
        obtain ⟨v0, hv0⟩ := hsome
        have ha : a.block < w.heap.size ∧ a.spot = none := by
          unfold World.cell? at hv0
          cases hh : w.heap[a.block]? with
          | none => rw [hh] at hv0; cases hv0
          | some o =>
            refine ⟨(Array.getElem?_eq_some_iff.1 hh).1, ?_⟩
            rw [hh] at hv0
            cases o with
            | cells c t f =>
              simp only at hv0
              cases hs : a.spot with
              | none => rfl
              | some s => rw [hs] at hv0; simp at hv0
            | _ => cases hv0
        obtain ⟨bl, off, spot⟩ := a
        obtain ⟨ha1, ha2⟩ := ha
        simp only at ha2
        subst ha2
        rw [hl1]
        have cell : ∀ i, i < len * k → ∃ (j : Nat) (hj : j < l.length) (q : Nat) (cs' : List Value), i = j * k + q ∧ q < k ∧ (∀ (r : Ren) (K : Nat → Prop), VS w.heap r K (Old w) (enc l[j]) cs') ∧ cellH w.heap bl (off + i) = cs'[q]? := fun i hi => by
          have hj : i / k < l.length := by rw [hl1]; exact (Nat.div_lt_iff_lt_mul hpos).2 hi
          have hq : i % k < k := Nat.mod_lt _ hpos
          have hi' : i = i / k * k + i % k := by rw [Nat.mul_comm]; exact (Nat.div_add_mod i k).symm
          obtain ⟨cs', h1, h2⟩ := (hl2 _ hj).2
          refine ⟨i / k, hj, i % k, cs', hi', hq, h2, ?_⟩
          obtain ⟨_, _, h3⟩ := World.cells?_some h1
          have h4 := h3 _ hq
          rw [WideShapes.add_plain, WideShapes.add_plain, Nat.add_assoc, ← hi', cell_eq] at h4
          exact h4
        have hfl := flatE_len enc k hlen l
        refine .view len (flatE enc l) false bl off _ hl (fun h => by cases h) ha1 (fun i a hi => ?_) (fun i a v hi hv => ?_)
        · have hlt : i < len * k := by rw [← hl1, ← hfl]; exact (List.getElem?_eq_some_iff.1 hi).1
          obtain ⟨j, hj, q, cs', h1, h2, h3, h4⟩ := cell i hlt
          have hcs := (h3 r K).1
          rw [hlen] at hcs
          exact ⟨cs'[q]'(by omega), by rw [h4]; exact List.getElem?_eq_getElem (by omega)⟩
        · have hlt : i < len * k := by rw [← hl1, ← hfl]; exact (List.getElem?_eq_some_iff.1 hi).1
          obtain ⟨j, hj, q, cs', h1, h2, h3, h4⟩ := cell i hlt
          subst h1
          rw [flatE_sub enc k hlen l j q hj h2] at hi
          exact (h3 r K).2 q a v hi (by rw [← h4]; exact hv)

theorem VS.drops {H : Array Obj} {r : Ren} {K A : Nat → Prop} {as bs : List AV} {vs : List Value} {n : Nat} (h1 : VS H r K A as (vs.take n)) (h2 : VS H r K A bs (vs.drop n)) : VS H r K A (as ++ bs) vs := by
  have := h1.append h2
  rwa [List.take_append_drop] at this
/-- A struct, field by field. -/
theorem Reads.struct2 {t t0 t1 : TypeId} {f0 f1 : Field} {k0 k1 : Nat} {α β : Type} {ea : α → List AV} {eb : β → List AV} {Sa : α → Prop} {Sb : β → Prop} (ht : P.underlying t = some (.struct #[f0, f1]))
    (hf : f0.type = t0 ∧ f0.offset = 0 ∧ P.cellsOf t0 = k0 ∧ f1.type = t1 ∧ f1.offset = k0 ∧ P.cellsOf t1 = k1 ∧ P.cellsOf t = k0 + k1)
    (h0 : Reads enc0 P w t0 ea Sa) (h1 : Reads enc0 P w t1 eb Sb) : Reads enc0 P w t (fun x : α × β => ea x.1 ++ eb x.2) (fun x => Sa x.1 ∧ Sb x.2) := by
  intro fuel cs d ps h hw
  obtain ⟨rfl, o0, c0, rfl, o1, c1, c⟩ := hf
  obtain ⟨xs, n, _, hx, hl, hn, hi⟩ := DataW.trod_struct ht h
  obtain ⟨rfl, rfl⟩ := Prod.mk.inj hx
  match xs, hn with
  | [y0, y1], _ =>
    have g0 := hi 0 f0 rfl
    have g1 := hi 1 f1 rfl
    simp only [DataW.weights, ht, List.map_cons, List.map_nil, DataW.weightsEach, List.mem_append, List.not_mem_nil, or_false] at hw
    obtain ⟨x0, s0, v0⟩ := h0 n _ y0.1 y0.2 g0 (fun m hm => hw m (.inl hm))
    obtain ⟨x1, s1, v1⟩ := h1 n _ y1.1 y1.2 g1 (fun m hm => hw m (.inr hm))
    refine ⟨(x0, x1), ⟨s0, s1⟩, fun r K => ?_⟩
    have w0 := v0 r K
    have w1 := v1 r K
    rw [o0, c0, List.drop_zero] at w0
    rw [o1, c1, List.take_of_length_le (by rw [List.length_drop, hl, c]; omega)] at w1
    exact VS.drops w0 w1
/-- A struct of one field. -/
theorem Reads.struct1 {t t0 : TypeId} {f0 : Field} {k0 : Nat} {α : Type} {ea : α → List AV} {Sa : α → Prop} (ht : P.underlying t = some (.struct #[f0])) (hf : f0.type = t0 ∧ f0.offset = 0 ∧ P.cellsOf t0 = k0 ∧ P.cellsOf t = k0)
    (h0 : Reads enc0 P w t0 ea Sa) : Reads enc0 P w t ea Sa := by
  intro fuel cs d ps h hw
  obtain ⟨rfl, o0, c0, c⟩ := hf
  obtain ⟨xs, n, _, hx, hl, hn, hi⟩ := DataW.trod_struct ht h
  obtain ⟨rfl, rfl⟩ := Prod.mk.inj hx
  match xs, hn with
  | [y0], _ =>
    have g0 := hi 0 f0 rfl
    simp only [DataW.weights, ht, List.map_cons, List.map_nil, DataW.weightsEach, List.mem_append, List.not_mem_nil, or_false] at hw
    obtain ⟨x0, s0, v0⟩ := h0 n _ y0.1 y0.2 g0 (fun m hm => hw m hm)
    refine ⟨x0, s0, fun r K => ?_⟩
    have w0 := v0 r K
    rwa [o0, c0, List.drop_zero, List.take_of_length_le (by rw [hl, c]; omega)] at w0
/-- A struct of five fields. -/
theorem Reads.struct5 {t t0 t1 t2 t3 t4 : TypeId} {f0 f1 f2 f3 f4 : Field} {k0 k1 k2 k3 k4 : Nat} {α0 α1 α2 α3 α4 : Type} {e0 : α0 → List AV} {e1 : α1 → List AV} {e2 : α2 → List AV} {e3 : α3 → List AV} {e4 : α4 → List AV}
    {S0 : α0 → Prop} {S1 : α1 → Prop} {S2 : α2 → Prop} {S3 : α3 → Prop} {S4 : α4 → Prop} (ht : P.underlying t = some (.struct #[f0, f1, f2, f3, f4]))
    (hf : (f0.type = t0 ∧ f0.offset = 0 ∧ P.cellsOf t0 = k0) ∧ (f1.type = t1 ∧ f1.offset = k0 ∧ P.cellsOf t1 = k1) ∧ (f2.type = t2 ∧ f2.offset = k0 + k1 ∧ P.cellsOf t2 = k2) ∧ (f3.type = t3 ∧ f3.offset = k0 + k1 + k2 ∧ P.cellsOf t3 = k3) ∧
      (f4.type = t4 ∧ f4.offset = k0 + k1 + k2 + k3 ∧ P.cellsOf t4 = k4) ∧ P.cellsOf t = k0 + k1 + k2 + k3 + k4)
    (h0 : Reads enc0 P w t0 e0 S0) (h1 : Reads enc0 P w t1 e1 S1) (h2 : Reads enc0 P w t2 e2 S2) (h3 : Reads enc0 P w t3 e3 S3) (h4 : Reads enc0 P w t4 e4 S4) :
    Reads enc0 P w t (fun x : α0 × α1 × α2 × α3 × α4 => e0 x.1 ++ (e1 x.2.1 ++ (e2 x.2.2.1 ++ (e3 x.2.2.2.1 ++ e4 x.2.2.2.2)))) (fun x => S0 x.1 ∧ S1 x.2.1 ∧ S2 x.2.2.1 ∧ S3 x.2.2.2.1 ∧ S4 x.2.2.2.2) := by
  intro fuel cs d ps h hw
  obtain ⟨⟨rfl, o0, c0⟩, ⟨rfl, o1, c1⟩, ⟨rfl, o2, c2⟩, ⟨rfl, o3, c3⟩, ⟨rfl, o4, c4⟩, c⟩ := hf
  obtain ⟨xs, n, _, hx, hl, hn, hi⟩ := DataW.trod_struct ht h
  obtain ⟨rfl, rfl⟩ := Prod.mk.inj hx
  match xs, hn with
  | [y0, y1, y2, y3, y4], _ =>
    have g0 := hi 0 f0 rfl
    have g1 := hi 1 f1 rfl
    have g2 := hi 2 f2 rfl
    have g3 := hi 3 f3 rfl
    have g4 := hi 4 f4 rfl
    simp only [DataW.weights, ht, List.map_cons, List.map_nil, DataW.weightsEach, List.mem_append, List.not_mem_nil, or_false] at hw
    obtain ⟨x0, s0, v0⟩ := h0 n _ y0.1 y0.2 g0 (fun m hm => hw m (.inl hm))
    obtain ⟨x1, s1, v1⟩ := h1 n _ y1.1 y1.2 g1 (fun m hm => hw m (.inr (.inl hm)))
    obtain ⟨x2, s2, v2⟩ := h2 n _ y2.1 y2.2 g2 (fun m hm => hw m (.inr (.inr (.inl hm))))
    obtain ⟨x3, s3, v3⟩ := h3 n _ y3.1 y3.2 g3 (fun m hm => hw m (.inr (.inr (.inr (.inl hm)))))
    obtain ⟨x4, s4, v4⟩ := h4 n _ y4.1 y4.2 g4 (fun m hm => hw m (.inr (.inr (.inr (.inr hm)))))
    refine ⟨(x0, x1, x2, x3, x4), ⟨s0, s1, s2, s3, s4⟩, fun r K => ?_⟩
    have w0 := v0 r K
    have w1 := v1 r K
    have w2 := v2 r K
    have w3 := v3 r K
    have w4 := v4 r K
    rw [o0, c0, List.drop_zero] at w0
    rw [o1, c1] at w1
    rw [o2, c2] at w2
    rw [o3, c3] at w3
    rw [o4, c4, List.take_of_length_le (by rw [List.length_drop, hl, c]; omega)] at w4
    refine VS.drops w0 (VS.drops w1 ?_)
    rw [List.drop_drop]
    refine VS.drops w2 ?_
    rw [List.drop_drop]
    refine VS.drops w3 ?_
    rw [List.drop_drop]
    exact w4
end
end
end Go.Proofs.YtmeianaaiiiinaaGreat.Ev
namespace Go.Proofs.YtmeianaaiiiinaaGreat.Ev
open Go
set_option linter.unusedVariables false
set_option linter.unusedSimpArgs false
noncomputable section

/-- A world that is as the first one outside the memory, with the second one's memory. -/
def asOf (W W' : World) : World := { W' with tape := W.tape }
theorem PureOk.row {P : Program} {f : FuncId} {args : List AV} {Q : AV → Prop} (hp : PureOk P f args Q) (W : World) (vargs : Array Value) (hv : ∀ (r : Ren) (K : Nat → Prop), VS W.heap r K (Old W) args vargs.toList) :
    Calls P f vargs W fun e W' => ∃ v v', e = .returned v' ∧ Q v ∧ (∃ r K A, V W'.heap r K A v v') ∧ RowKit.Below W.heap.size W (asOf W W') := by
  have R0 : Rel P ⟨fun _ => 0, fun _ => 0, ioW W⟩ (Old W) (fun _ => False) (hE [] 0) W.heap := ⟨fun id o ho => (by rw [hE_get] at ho; cases ho), fun id o ho => (by rw [hE_get] at ho; cases ho), fun id _ o _ ho => (by rw [hE_get] at ho; cases ho), fun b hb => hb, fun id hi => hi.elim⟩
  refine (hp ⟨fun _ => 0, fun _ => 0, ioW W⟩ (Old W) (fun _ => False) W vargs R0 rfl rfl (hv _ _)).mono ?_
  rintro e W' ⟨v', v, h', r', A', K', rfl, ⟨hq, _⟩, hR, hV, hT, _, hio⟩
  have e1 : ioW W' = ioW W := hio.trans hT.ext.io
  refine ⟨v, v', rfl, hq, ⟨r', K', A', hV⟩, ⟨congrArg Prod.fst e1, rfl, congrArg Prod.snd e1, hT.ext.size, fun k hk => hT.ext.keep k hk (fun id o ho => by rw [hE_get] at ho; cases ho)⟩⟩
section
open Go.RowKit
variable {H : Type} {enc : TypeId × Value → H} {P : Program}
theorem asOf_trod {W W' : World} {base : Nat} {spare : Nat → Bool} {held : Bool} {t : TypeId} {v : Value} {d : DataW H} {ps : List MemPlace} (h : DataW.Trod enc P (asOf W W') base spare held t v d ps) : DataW.Trod enc P W' base spare held t v d ps := DataW.Trod.of_heap (w := asOf W W') (w' := W') rfl h
theorem asOf_frame {W W' : World} (h : Below W.heap.size W (asOf W W')) (may : MemPlace → Prop) : W.keptBut W' may := h.frame may
end
end
end Go.Proofs.YtmeianaaiiiinaaGreat.Ev
