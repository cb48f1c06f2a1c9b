/- What slice expressions come to. -/
import Derived.Test.YtmeianaaiiiinaaGreatEvG
namespace Go.Proofs.YtmeianaaiiiinaaGreat.Ev
open Go
set_option linter.unusedVariables false
set_option linter.unusedSimpArgs false
set_option linter.all false
section
variable {P : Program} {r : Ren} {A K : Nat → Prop} {h : AH}

/-- Two options stand for each other. -/
def VO (H : Array Obj) (r : Ren) (K : Nat → Prop) (A : Nat → Prop) : Option AV → Option Value → Prop
  | none, none => True
  | some a, some v => V H r K A a v
  | _, _ => False
theorem optOp_V {H : Array Obj} {K : Nat → Prop} {tm : TM} {a : Act} (ht : TMR H r K A tm a.tmps) {x : Option Operand} {o : Option AV} (ho : optOp tm x = some o) : VO H r K A o (x.map a.eval) := by
  cases x with
  | none => simp [optOp] at ho; subst ho; trivial
  | some x =>
    simp only [optOp] at ho
    cases hx : operand tm x with
    | none => simp [hx] at ho
    | some v => simp [hx] at ho; subst ho; exact operand_V ht hx

theorem boundA_ok (w : World) {K : Nat → Prop} {v : AV} {vv : Value} {most n cap : Nat} (hb : boundA v most = some n) (hv : V w.heap r K A v vv) (hc : most ≤ cap) (code : BoundsCode) :
    (Instr.sliceBound vv cap code).run P w = .ok n w ∧ n ≤ most := by
  unfold boundA at hb
  cases hv with
  | int k i =>
    simp only at hb
    by_cases c : 0 ≤ i ∧ i ≤ (most : Int)
    · rw [if_pos c] at hb
      cases hb
      have c2 : 0 ≤ i ∧ i ≤ (cap : Int) := by omega
      exact ⟨by simp [Instr.sliceBound, asIntOf, c2], by omega⟩
    · rw [if_neg c] at hb; cases hb
  | _ => simp at hb

/-- The bounds of a slice expression without a third index. -/
theorem bounds_ok (w : World) {K : Nat → Prop} {lo hi : Option AV} {vlo vhi : Option Value} {len most cap n l : Nat} (s : Bool) (hh : optA hi len most = some n) (hl : optA lo 0 n = some l) (hlo : VO w.heap r K A lo vlo) (hhi : VO w.heap r K A hi vhi)
    (hm : most ≤ cap) : (Instr.sliceBounds s len cap vlo vhi none).run P w = .ok (l, n, cap) w ∧ l ≤ n ∧ (hi = none → n = len) ∧ (n ≤ most ∨ n = len) := by
  have h1 : ∃ c1 : BoundsCode, True := ⟨.index, trivial⟩
  cases hi with
  | none =>
    cases vhi with
    | some v => exact hhi.elim
    | none =>
      simp [optA] at hh
      subst hh
      cases lo with
      | none =>
        cases vlo with
        | some v => exact hlo.elim
        | none =>
          simp [optA] at hl
          subst hl
          exact ⟨by simp [Instr.sliceBounds], by omega, fun _ => rfl, .inr rfl⟩
      | some a =>
        cases vlo with
        | none => exact hlo.elim
        | some v =>
          have := boundA_ok (P := P) (cap := len) w (by simpa [optA] using hl) hlo (Nat.le_refl _) .sliceB
          exact ⟨by simp [Instr.sliceBounds, this.1], this.2, fun _ => rfl, .inr rfl⟩
  | some b =>
    cases vhi with
    | none => exact hhi.elim
    | some vb =>
      have hb := boundA_ok (P := P) w (by simpa [optA] using hh) hhi hm (if s then .sliceAcap else .sliceAlen)
      cases lo with
      | none =>
        cases vlo with
        | some v => exact hlo.elim
        | none =>
          simp [optA] at hl
          subst hl
          exact ⟨by simp [Instr.sliceBounds, hb.1], by omega, fun h => (by cases h), .inl hb.2⟩
      | some a =>
        cases vlo with
        | none => exact hlo.elim
        | some v =>
          have := boundA_ok (P := P) (cap := n) w (by simpa [optA] using hl) hlo (Nat.le_refl _) .sliceB
          exact ⟨by simp [Instr.sliceBounds, hb.1, this.1], this.2, fun h => (by cases h), .inl hb.2⟩
/-- The same with a third index (then the second one is there, or nothing comes out). -/
theorem bounds3_ok (w : World) {K : Nat → Prop} {lo : Option AV} {hi mx : AV} {vlo : Option Value} {vhi vmx : Value} {len most cap n l m : Nat} (s : Bool) (hmx : boundA mx most = some m) (hh : boundA hi m = some n) (hl : optA lo 0 n = some l)
    (hlo : VO w.heap r K A lo vlo) (hhi : V w.heap r K A hi vhi) (hmv : V w.heap r K A mx vmx) (hm : most ≤ cap) :
    (Instr.sliceBounds s len cap vlo (some vhi) (some vmx)).run P w = .ok (l, n, m) w ∧ l ≤ n ∧ n ≤ m ∧ m ≤ most := by
  have h3 := boundA_ok (P := P) w hmx hmv hm (if s then .slice3Acap else .slice3Alen)
  have h2 := boundA_ok (P := P) (cap := m) w hh hhi (Nat.le_refl _) .slice3B
  cases lo with
  | none =>
    cases vlo with
    | some v => exact hlo.elim
    | none =>
      simp [optA] at hl
      subst hl
      exact ⟨by simp [Instr.sliceBounds, h3.1, h2.1], by omega, h2.2, h3.2⟩
  | some a =>
    cases vlo with
    | none => exact hlo.elim
    | some v =>
      have := boundA_ok (P := P) (cap := n) w (by simpa [optA] using hl) hlo (Nat.le_refl _) .slice3C
      exact ⟨by simp [Instr.sliceBounds, h3.1, h2.1, this.1], this.2, h2.2, h3.2⟩

/-- A part of cells that don't change any more, as a slice. -/
theorem view_part (w : World) {K : Nat → Prop} {cells : List AV} {b o off k n cap : Nat} {ex : Bool} {a : Option Addr} (hA : A b) (hc : ∀ (i : Nat) a, cells[i]? = some a → ∃ v, cellH w.heap b (o + i) = some v)
    (hh : ∀ (i : Nat) a v, cells[i]? = some a → cellH w.heap b (o + i) = some v → V w.heap r K A a v) (hn : n ≤ cap) (hx : ex = true → cap = n) (ha : 0 < n → a = some ⟨b, o + off, none⟩) :
    V w.heap r K A (.view n ((cells.drop off).take k) ex) (.slice a n cap) := by
  by_cases h0 : n = 0
  · subst h0; exact .view0 _ _ _ _ hx
  · rw [ha (by omega)]
    refine .view n _ ex b (o + off) cap hn hx hA (fun i a hi => ?_) (fun i a v hi hv => ?_)
    · rw [take_drop_get] at hi
      by_cases c : i < k
      · rw [if_pos c] at hi
        obtain ⟨v, hv⟩ := hc _ a hi
        exact ⟨v, by rw [← hv]; congr 1; omega⟩
      · rw [if_neg c] at hi; cases hi
    · rw [take_drop_get] at hi
      by_cases c : i < k
      · rw [if_pos c] at hi
        exact hh _ a v hi (by rw [← hv]; congr 1; omega)
      · rw [if_neg c] at hi; cases hi

theorem optA_some {o : Option AV} {d most n : Nat} (h : optA o d most = some n) (hd : d ≤ most) : n ≤ most := by
  cases o with
  | none => simp [optA] at h; omega
  | some v =>
    simp only [optA, boundA] at h
    split at h
    · split at h
      · cases h; omega
      · cases h
    · cases h

theorem bnds_ok (w : World) {K : Nat → Prop} {lo hi : Option AV} {vlo vhi : Option Value} {len most cap n l : Nat} (s : Bool) (hb : bnds len most lo hi = some (l, n)) (hlo : VO w.heap r K A lo vlo) (hhi : VO w.heap r K A hi vhi)
    (hm : most ≤ cap) (hl : len ≤ most) : (Instr.sliceBounds s len cap vlo vhi none).run P w = .ok (l, n, cap) w ∧ l ≤ n ∧ n ≤ most := by
  unfold bnds at hb
  cases h1 : optA hi len most with
  | none => simp [h1] at hb
  | some k =>
    simp only [h1] at hb
    cases h2 : optA lo 0 k with
    | none => simp [h2] at hb
    | some j =>
      simp only [h2] at hb
      cases hb
      have := bounds_ok (P := P) w s h1 h2 hlo hhi hm
      exact ⟨this.1, this.2.1, optA_some h1 hl⟩
theorem bnds3_ok (w : World) {K : Nat → Prop} {lo : Option AV} {hi mx : AV} {vlo : Option Value} {vhi vmx : Value} {len most cap n l m : Nat} (s : Bool) (hb : bnds3 most lo hi mx = some (l, n, m))
    (hlo : VO w.heap r K A lo vlo) (hhi : V w.heap r K A hi vhi) (hmv : V w.heap r K A mx vmx) (hm : most ≤ cap) :
    (Instr.sliceBounds s len cap vlo (some vhi) (some vmx)).run P w = .ok (l, n, m) w ∧ l ≤ n ∧ n ≤ m ∧ m ≤ most := by
  unfold bnds3 at hb
  cases h0 : boundA mx most with
  | none => simp [h0] at hb
  | some j =>
    simp only [h0] at hb
    cases h1 : boundA hi j with
    | none => simp [h1] at hb
    | some k =>
      simp only [h1] at hb
      cases h2 : optA lo 0 k with
      | none => simp [h2] at hb
      | some i =>
        simp only [h2] at hb
        cases hb
        exact bounds3_ok (P := P) w s h0 h1 h2 hlo hhi hmv hm

theorem sliceSl_ok (w : World) {t e : TypeId} {sz : Nat} (hu : P.underlying t = some (.slice e)) (hsz : szOf P e = some sz) {x y : AV} {lo hi mx : Option AV} {vx : Value} {vlo vhi vmx : Option Value} (hs : sliceSl sz x lo hi mx = some y)
    (hx : V w.heap r K A x vx) (hlo : VO w.heap r K A lo vlo) (hhi : VO w.heap r K A hi vhi) (hmx : VO w.heap r K A mx vmx) :
    ∃ v, (Instr.sliceAt t vx vlo vhi vmx).run P w = .ok v w ∧ V w.heap r K A y v := by
  have hrun : ∀ (a : Option Addr) (len cap l n m : Nat), (Instr.sliceBounds true len cap vlo vhi vmx).run P w = .ok (l, n, m) w →
      (Instr.sliceAt t (.slice a len cap) vlo vhi vmx).run P w = .ok (.slice (if m = l then a else a.map (·.add (l * sz))) (n - l) (m - l)) w := fun a len cap l n m hb => by
    simp [Instr.sliceAt, Instr.slice, run_underlying hu, hb, run_sizeOf' hsz]
  unfold sliceSl at hs
  cases mx with
  | none =>
    cases vmx with
    | some m => exact hmx.elim
    | none =>
      simp only at hs
      cases hx with
      | nilSlice =>
        simp only at hs
        cases hb : bnds 0 0 lo hi with
        | none => simp [hb] at hs
        | some p =>
          obtain ⟨l, n⟩ := p
          simp only [hb] at hs
          cases hs
          have h1 := bnds_ok (P := P) (cap := 0) w true hb hlo hhi (Nat.le_refl _) (Nat.le_refl _)
          have e1 : n = 0 := by omega
          have e2 : l = 0 := by omega
          subst e1; subst e2
          refine ⟨_, hrun none 0 0 0 0 0 h1.1, ?_⟩
          simp
          exact .nilSlice
      | view0 cells ex a cap hx =>
        simp only at hs
        cases hb : bnds 0 0 lo hi with
        | none => simp [hb] at hs
        | some p =>
          obtain ⟨l, n⟩ := p
          simp only [hb] at hs
          cases hs
          have h1 := bnds_ok (P := P) (cap := cap) w true hb hlo hhi (Nat.zero_le _) (Nat.le_refl _)
          have e1 : n = 0 := by omega
          have e2 : l = 0 := by omega
          subst e1; subst e2
          refine ⟨_, hrun a 0 cap 0 0 cap h1.1, ?_⟩
          exact .view0 _ _ _ _ (fun he => by simp [beq_tf] at he; simp [hx he])
      | view len cells ex b o cap hn hx hA hc hh =>
        simp only at hs
        cases hb : bnds len len lo hi with
        | none => simp [hb] at hs
        | some p =>
          obtain ⟨l, n⟩ := p
          simp only [hb] at hs
          cases hs
          have h1 := bnds_ok (P := P) (cap := cap) w true hb hlo hhi hn (Nat.le_refl _)
          refine ⟨_, hrun (some ⟨b, o, none⟩) len cap l n cap h1.1, view_part w hA hc hh (by omega) (fun he => ?_) (fun hpos => ?_)⟩
          · simp [beq_tf] at he
            have := hx he.1
            omega
          · have : cap ≠ l := by omega
            rw [if_neg this]
            simp [addr_add]
      | slice id off len cap hid hcap =>
        cases cap with
        | known c =>
          simp only at hs
          cases hb : bnds len c lo hi with
          | none => simp [hb] at hs
          | some p =>
            obtain ⟨l, n⟩ := p
            simp only [hb] at hs
            cases hs
            have h1 := bnds_ok (P := P) (cap := c) w true hb hlo hhi (Nat.le_refl _) hcap
            refine ⟨_, hrun _ len c l n c h1.1, ?_⟩
            have := V.slice (H := w.heap) (r := r) (K := K) (A := A) id (if c = l then off else off + l * sz) (n - l) (.known (c - l)) hid (by simp only [capOf]; omega)
            by_cases e : c = l
            · simp only [e, if_true] at this ⊢
              exact this
            · simp only [e, if_false] at this ⊢
              simpa [addr_add, capOf] using this
        | rest k =>
          simp only at hs
          cases hb : bnds len len lo hi with
          | none => simp [hb] at hs
          | some p =>
            obtain ⟨l, n⟩ := p
            simp only [hb] at hs
            have h1 := bnds_ok (P := P) (cap := capOf r id (.rest k)) w true hb hlo hhi hcap (Nat.le_refl _)
            by_cases c : l < len
            · rw [if_pos c] at hs
              cases hs
              refine ⟨_, hrun _ len _ l n _ h1.1, ?_⟩
              have e : ¬ capOf r id (.rest k) = l := by omega
              rw [if_neg e]
              have e2 : capOf r id (.rest k) - l = capOf r id (.rest (k + l)) := by simp [capOf]; omega
              rw [e2]
              simp only [Option.map_some, addr_add]
              exact .slice id (off + l * sz) (n - l) (.rest (k + l)) hid (by rw [← e2]; omega)
            · rw [if_neg c] at hs
              cases hs
              have e : n - l = 0 := by omega
              refine ⟨_, hrun _ len _ l n _ h1.1, ?_⟩
              rw [e]
              exact .view0 _ _ _ _ (fun h => by cases h)
      | _ => simp at hs
  | some m =>
    cases vmx with
    | none => exact hmx.elim
    | some vm =>
      simp only at hs
      cases hi with
      | none => simp at hs
      | some hi =>
        cases vhi with
        | none => exact hhi.elim
        | some vhi =>
          simp only at hs
          cases hx with
          | nilSlice =>
            simp only at hs
            cases hb : bnds3 0 lo hi m with
            | none => simp [hb] at hs
            | some p =>
              obtain ⟨l, n, q⟩ := p
              simp only [hb] at hs
              cases hs
              have h1 := bnds3_ok (P := P) (len := 0) (cap := 0) w true hb hlo hhi hmx (Nat.le_refl _)
              have e1 : n = 0 := by omega
              have e2 : l = 0 := by omega
              have e3 : q = 0 := by omega
              subst e1; subst e2; subst e3
              refine ⟨_, hrun none 0 0 0 0 0 h1.1, ?_⟩
              simp
              exact .nilSlice
          | view0 cells ex a cap hx =>
            simp only at hs
            cases hb : bnds3 0 lo hi m with
            | none => simp [hb] at hs
            | some p =>
              obtain ⟨l, n, q⟩ := p
              simp only [hb] at hs
              cases hs
              have h1 := bnds3_ok (P := P) (len := 0) (cap := cap) w true hb hlo hhi hmx (Nat.zero_le _)
              have e1 : n = 0 := by omega
              have e2 : l = 0 := by omega
              have e3 : q = 0 := by omega
              subst e1; subst e2; subst e3
              exact ⟨_, hrun a 0 cap 0 0 0 h1.1, .view0 _ _ _ _ (fun _ => rfl)⟩
          | view len cells ex b o cap hn hx hA hc hh =>
            simp only at hs
            cases hb : bnds3 len lo hi m with
            | none => simp [hb] at hs
            | some p =>
              obtain ⟨l, n, q⟩ := p
              simp only [hb] at hs
              cases hs
              have h1 := bnds3_ok (P := P) (len := len) (cap := cap) w true hb hlo hhi hmx hn
              refine ⟨_, hrun (some ⟨b, o, none⟩) len cap l n q h1.1, view_part w hA hc hh (by omega) (fun he => ?_) (fun hpos => ?_)⟩
              · simp [beq_tf] at he
                omega
              · have : q ≠ l := by omega
                rw [if_neg this]
                simp [addr_add]
          | slice id off len cap hid hcap =>
            have hmost : (mostOf len cap) ≤ capOf r id cap := by
              cases cap with
              | known c => exact Nat.le_refl _
              | rest k => exact hcap
            simp only at hs
            cases hb : bnds3 (mostOf len cap) lo hi m with
            | none => simp [hb] at hs
            | some p =>
              obtain ⟨l, n, q⟩ := p
              simp only [hb] at hs
              cases hs
              have h1 := bnds3_ok (P := P) (len := len) (cap := capOf r id cap) w true hb hlo hhi hmx hmost
              refine ⟨_, hrun _ len _ l n q h1.1, ?_⟩
              have := V.slice (H := w.heap) (r := r) (K := K) (A := A) id (if q = l then off else off + l * sz) (n - l) (.known (q - l)) hid (by simp only [capOf]; omega)
              by_cases e : q = l
              · simp only [e, if_true] at this ⊢
                exact this
              · simp only [e, if_false] at this ⊢
                simpa [addr_add, capOf] using this
          | _ => simp at hs

theorem sliceA_ok (w : World) {t : TypeId} {x y : AV} {lo hi mx : Option AV} {vx : Value} {vlo vhi vmx : Option Value} (hs : sliceA P t x lo hi mx = some y) (hx : V w.heap r K A x vx)
    (hlo : VO w.heap r K A lo vlo) (hhi : VO w.heap r K A hi vhi) (hmx : VO w.heap r K A mx vmx) :
    ∃ v, (Instr.sliceAt t vx vlo vhi vmx).run P w = .ok v w ∧ V w.heap r K A y v := by
  unfold sliceA at hs
  cases hu : P.underlying t with
  | none => simp [hu] at hs
  | some d =>
    cases d with
    | string =>
      simp only [hu] at hs
      cases mx with
      | some m => simp at hs
      | none =>
        cases vmx with
        | some m => exact hmx.elim
        | none =>
          simp only at hs
          cases hx with
          | str s =>
            simp only at hs
            cases hb : bnds s.size s.size lo hi with
            | none => simp [hb] at hs
            | some p =>
              obtain ⟨l, n⟩ := p
              simp only [hb] at hs
              cases hs
              have h1 := bnds_ok (P := P) (cap := s.size) w false hb hlo hhi (Nat.le_refl _) (Nat.le_refl _)
              exact ⟨.string (s.extract l n), by simp [Instr.sliceAt, Instr.slice, run_underlying hu, h1.1], .str _⟩
          | _ => simp at hs
    | slice e =>
      simp only [hu] at hs
      cases hsz : szOf P e with
      | none => simp [hsz] at hs
      | some sz =>
        simp only [hsz] at hs
        exact sliceSl_ok w hu hsz hs hx hlo hhi hmx
    | array n e =>
      simp only [hu] at hs
      cases mx with
      | some m => simp at hs
      | none =>
        cases vmx with
        | some m => exact hmx.elim
        | none =>
          simp only at hs
          cases hsz : szOf P e with
          | none => simp [hsz] at hs
          | some sz =>
            simp only [hsz] at hs
            cases hb : bnds n n lo hi with
            | none => simp [hb] at hs
            | some p =>
              obtain ⟨l, m⟩ := p
              simp only [hb] at hs
              have h1 := bnds_ok (P := P) (cap := n) w false hb hlo hhi (Nat.le_refl _) (Nat.le_refl _)
              have hrun : ∀ (a : Addr), (Instr.sliceAt t (.pointer (some a)) vlo vhi none).run P w = .ok (.slice (some (if n = l then a else a.add (l * sz))) (m - l) (n - l)) w := fun a => by
                simp [Instr.sliceAt, run_underlying hu, Instr.sureAddr, h1.1, run_sizeOf' hsz]
              cases hx with
              | ptr id off hid =>
                simp only at hs
                cases hs
                refine ⟨_, hrun _, ?_⟩
                have := V.slice (H := w.heap) (r := r) (K := K) (A := A) id (if n = l then off else off + l * sz) (m - l) (.known (n - l)) hid (by simp only [capOf]; omega)
                by_cases e : n = l
                · simp only [e, if_true] at this ⊢
                  exact this
                · simp only [e, if_false] at this ⊢
                  simpa [addr_add, capOf] using this
              | rptr cells off b o hA hc hh =>
                simp only at hs
                cases hs
                refine ⟨_, hrun _, view_part w hA hc hh (by omega) (fun he => ?_) (fun hpos => ?_)⟩
                · simp [beq_tf] at he
                  omega
                · have : n ≠ l := by omega
                  rw [if_neg this, addr_add]
                  congr 2
                  omega
              | _ => simp at hs
    | _ => simp [hu] at hs
end
end Go.Proofs.YtmeianaaiiiinaaGreat.Ev
