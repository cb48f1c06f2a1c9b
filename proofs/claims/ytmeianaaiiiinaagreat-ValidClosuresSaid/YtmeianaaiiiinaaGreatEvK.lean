/- What operators come to: binary ones, unary ones, conversions, min and max, len and cap. -/
import Derived.Test.YtmeianaaiiiinaaGreatEvJ
namespace Go.Proofs.YtmeianaaiiiinaaGreat.Ev
open Go
set_option linter.unusedVariables false
set_option linter.unusedSimpArgs false
set_option linter.all false
section
variable {P : Program} {r : Ren} {A K : Nat → Prop} {h : AH}

/-- A value that is no number and no string. -/
def plainV : Value → Bool
  | .int _ _ | .float _ _ | .complex _ _ _ | .string _ => false
  | _ => true
theorem binOp_eql (t : TypeId) {vx : Value} (vy : Value) (hp : plainV vx = true) : binOp .eql t vx vy = (do pure (.bool (← Op.equal t vx vy))) := by
  cases vx <;> first | (simp [plainV] at hp; done) | rfl
theorem binOp_neq (t : TypeId) {vx : Value} (vy : Value) (hp : plainV vx = true) : binOp .neq t vx vy = (do pure (.bool (!(← Op.equal t vx vy)))) := by
  cases vx <;> first | (simp [plainV] at hp; done) | rfl
theorem run_eqGuard_of (w : World) (op : BinOp) (t : TypeId) (x y : Operand) {a b : Value} (h1 : a ≠ .nilIface) (h2 : (∀ cs, a ≠ .agg cs) ∨ P.eqGuardType P.depth t = false) : (eqGuard op t x y a b).run P w = .ok () w := by
  by_cases hagg : ∃ xs ys, a = .agg xs ∧ b = .agg ys
  · obtain ⟨xs, ys, rfl, rfl⟩ := hagg
    rcases h2 with h2 | h2
    · exact absurd rfl (h2 xs)
    · exact run_eqGuard_agg w op t x y xs ys h2
  · have : eqGuard op t x y a b = pure () := by
      unfold eqGuard
      cases op <;> try rfl
      all_goals
        cases a <;> try rfl
        · exact absurd rfl h1
        · cases b <;> try rfl
          exact absurd ⟨_, _, rfl, rfl⟩ hagg
    rw [this]; rfl
theorem eqlA_ok (w : World) {K : Nat → Prop} {t : TypeId} {x y : AV} {vx vy : Value} {b : Bool} (he : eqlA P t x y = some b) (hx : V w.heap r K A x vx) (hy : V w.heap r K A y vy) :
    (Op.equal t vx vy).run P w = .ok b w ∧ vx ≠ .nilIface ∧ ((∀ cs, vx ≠ .agg cs) ∨ P.eqGuardType P.depth t = false) := by
  have hq : ∀ {b}, eqInA P 16 t x y = some b → (Op.equal t vx vy).run P w = .ok b w := fun hb => eqInA_ok w 9984 16 t x y vx vy _ hb hx hy
  unfold eqlA at he
  cases hx with
  | agg cs vs hl hh =>
    simp only at he
    by_cases hg : P.eqGuardType P.depth t = false
    · rw [if_pos hg] at he
      exact ⟨hq he, by simp, .inr hg⟩
    · rw [if_neg hg] at he; cases he
  | nilIface => simp at he
  | _ => exact ⟨hq he, by simp, .inl (by simp)⟩
theorem eqlA_plain {K : Nat → Prop} {H : Array Obj} {t : TypeId} {x y : AV} {vx vy : Value} {b : Bool} (he : eqlA P t x y = some b) (hx : V H r K A x vx) (hy : V H r K A y vy) (hi : ∀ k n l m, x = .int k n → y ≠ .int l m) (hs : ∀ a b, x = .str a → y ≠ .str b) :
    plainV vx = true := by
  cases hx <;> try rfl
  · rename_i k n
    simp only [eqlA, eqInA] at he
    cases hu : P.underlying t with
    | none => simp [hu] at he
    | some d =>
      cases hy <;> first | exact absurd rfl (hi _ _ _ _ rfl) | (cases d <;> simp [hu] at he)
  · rename_i s
    simp only [eqlA, eqInA] at he
    cases hu : P.underlying t with
    | none => simp [hu] at he
    | some d =>
      cases hy <;> first | exact absurd rfl (hs _ _ rfl) | (cases d <;> simp [hu] at he)

theorem binA_ok (w : World) {K : Nat → Prop} {op : BinOp} {t : TypeId} {x y z : AV} {vx vy : Value} (ox oy : Operand) (hb : binA P op t x y = some z) (hx : V w.heap r K A x vx) (hy : V w.heap r K A y vy) :
    ∃ v, (do eqGuard op t ox oy vx vy; binOp op t vx vy : Sem Value).run P w = .ok v w ∧ V w.heap r K A z v := by
  have gen : (∀ k n l m, x = .int k n → y ≠ .int l m) → (∀ a b, x = .str a → y ≠ .str b) → eqOpA P op t x y = some z → ∃ v, (do eqGuard op t ox oy vx vy; binOp op t vx vy : Sem Value).run P w = .ok v w ∧ V w.heap r K A z v := by
    intro h1 h2 hb
    unfold eqOpA at hb
    have key : ∀ {b}, eqlA P t x y = some b → (Op.equal t vx vy).run P w = .ok b w ∧ (∀ op, (eqGuard op t ox oy vx vy).run P w = .ok () w) ∧ plainV vx = true := fun he => by
      obtain ⟨e1, e2, e3⟩ := eqlA_ok w he hx hy
      exact ⟨e1, fun op => run_eqGuard_of w op t ox oy e2 e3, eqlA_plain he hx hy h1 h2⟩
    cases op <;> try (simp at hb; done)
    · cases he : eqlA P t x y with
      | none => simp [he] at hb
      | some b =>
        simp only [he] at hb
        cases hb
        obtain ⟨e1, e2, e3⟩ := key he
        refine ⟨_, ?_, V.bool _⟩
        simp [e2, binOp_eql t vy e3, e1]
    · cases he : eqlA P t x y with
      | none => simp [he] at hb
      | some b =>
        simp only [he] at hb
        cases hb
        obtain ⟨e1, e2, e3⟩ := key he
        refine ⟨_, ?_, V.bool _⟩
        simp [e2, binOp_neq t vy e3, e1]
  unfold binA at hb
  cases hx with
  | int k a =>
    cases hy with
    | int l b =>
      simp only at hb
      have hg : (eqGuard op t ox oy (.int k a) (.int l b)).run P w = .ok () w := run_eqGuard_of w _ _ _ _ (by simp) (.inl (by simp))
      by_cases c : isShift op = true
      · simp only [c, if_true] at hb
        obtain ⟨v, h1, h2⟩ := shiftA_ok (P := P) (H := w.heap) (r := r) (A := A) (K := K) (l := l) (t := t) w hb
        exact ⟨v, by simp [hg, h1], h2⟩
      · simp only [c, if_false, Bool.false_eq_true] at hb
        by_cases e : k = l
        · subst e
          simp only [if_true] at hb
          obtain ⟨v, h1, h2⟩ := intArithA_ok (P := P) (H := w.heap) (r := r) (A := A) (K := K) (t := t) w hb (by simpa using c)
          exact ⟨v, by simp [hg, h1], h2⟩
        · simp [e] at hb
    | _ => exact gen (by simp) (by simp) hb
  | str a =>
    cases hy with
    | str b =>
      simp only at hb
      have hg : (eqGuard op t ox oy (.string a) (.string b)).run P w = .ok () w := run_eqGuard_of w _ _ _ _ (by simp) (.inl (by simp))
      obtain ⟨v, h1, h2⟩ := strOpA_ok (P := P) (H := w.heap) (r := r) (A := A) (K := K) (t := t) w hb
      exact ⟨v, by simp [hg, h1], h2⟩
    | _ => exact gen (by simp) (by simp) hb
  | _ => exact gen (by simp) (by simp) hb

theorem unA_ok (w : World) {K : Nat → Prop} {op : UnOp} {x z : AV} {vx : Value} (hu : unA op x = some z) (hx : V w.heap r K A x vx) : ∃ v, (Op.unary op vx).run P w = .ok v w ∧ V w.heap r K A z v := by
  unfold unA at hu
  cases op <;> cases hx <;> simp at hu <;> subst hu
  · exact ⟨_, rfl, by rw [Int.zero_sub]; exact .int _ _⟩
  · exact ⟨_, rfl, .bool _⟩
theorem convA_ok (w : World) {K : Nat → Prop} {s d : TypeId} {x z : AV} {vx : Value} (hc : convA P s d x = some z) (hx : V w.heap r K A x vx) : ∃ v, (convert s d vx).run P w = .ok v w ∧ V w.heap r K A z v := by
  unfold convA at hc
  split at hc
  · rename_i a k l n h1 h2
    cases hc
    cases hx
    refine ⟨_, ?_, .int _ _⟩
    simp [convert, run_underlying h1, run_underlying h2, Conv.intToInt]
  · rename_i a str h1 h2
    cases hc
    cases hx
    refine ⟨_, ?_, .str _⟩
    simp [convert, run_underlying h1, run_underlying h2]
  · cases hc
theorem max2A_ok (w : World) {K : Nat → Prop} {x y z : AV} {vx vy : Value} (hm : max2A x y = some z) (hx : V w.heap r K A x vx) (hy : V w.heap r K A y vy) : ∃ v, (Builtin.max2 vx vy).run P w = .ok v w ∧ V w.heap r K A z v := by
  unfold max2A at hm
  cases hx with
  | int k a =>
    cases hy with
    | int l b =>
      simp only at hm
      cases hm
      exact ⟨_, rfl, .int _ _⟩
    | _ => simp at hm
  | str a =>
    cases hy with
    | str b =>
      simp only at hm
      cases hm
      refine ⟨_, ?_, .str _⟩
      simp [Builtin.max2, Op.stringOp, asBool, strLt_iff]
    | _ => simp at hm
  | _ => simp at hm
theorem min2A_ok (w : World) {K : Nat → Prop} {x y z : AV} {vx vy : Value} (hm : min2A x y = some z) (hx : V w.heap r K A x vx) (hy : V w.heap r K A y vy) : ∃ v, (Builtin.min2 vx vy).run P w = .ok v w ∧ V w.heap r K A z v := by
  unfold min2A at hm
  cases hx with
  | int k a =>
    cases hy with
    | int l b =>
      simp only at hm
      cases hm
      exact ⟨_, rfl, .int _ _⟩
    | _ => simp at hm
  | str a =>
    cases hy with
    | str b =>
      simp only at hm
      cases hm
      refine ⟨_, ?_, .str _⟩
      simp [Builtin.min2, Op.stringOp, asBool, strLt_iff, strEq_iff]
    | _ => simp at hm
  | _ => simp at hm
theorem foldA_ok (w : World) {K : Nat → Prop} {f : AV → AV → Option AV} {g : Value → Value → Sem Value} (hf : ∀ x y z vx vy, f x y = some z → V w.heap r K A x vx → V w.heap r K A y vy → ∃ v, (g vx vy).run P w = .ok v w ∧ V w.heap r K A z v) :
    ∀ (l : List AV) (vl : List Value) (x z : AV) (vx : Value), foldA f x l = some z → V w.heap r K A x vx → VS w.heap r K A l vl → ∃ v, (vl.foldlM g vx).run P w = .ok v w ∧ V w.heap r K A z v
  | [], vl, x, z, vx, hz, hx, hl => by
    cases vl with
    | nil => simp [foldA] at hz; subst hz; exact ⟨vx, by simp, hx⟩
    | cons a b => have := hl.1; simp at this
  | y :: l, vl, x, z, vx, hz, hx, hl => by
    cases vl with
    | nil => have := hl.1; simp at this
    | cons vy vl =>
      simp only [foldA] at hz
      cases hq : f x y with
      | none => simp [hq] at hz
      | some u =>
        simp only [hq] at hz
        obtain ⟨v, h1, h2⟩ := hf x y u vx vy hq hx (hl.2 0 y vy rfl rfl)
        obtain ⟨v', h3, h4⟩ := foldA_ok w hf l vl u z v hz h2 ⟨by have := hl.1; simpa using this, fun i a b ha hb => hl.2 (i + 1) a b (by simpa using ha) (by simpa using hb)⟩
        exact ⟨v', by simp [List.foldlM_cons, h1, h3], h4⟩
end
end Go.Proofs.YtmeianaaiiiinaaGreat.Ev
namespace Go.Proofs.YtmeianaaiiiinaaGreat.Ev
open Go
set_option linter.unusedVariables false
set_option linter.unusedSimpArgs false
section
variable {P : Program} {r : Ren} {A K : Nat → Prop} {h : AH}

/-- A key that can be looked up. -/
def CkOk (P : Program) (w : World) (r : Ren) (K : Nat → Prop) (A : Nat → Prop) (d : Nat) (ck : TypeId → AV → Bool) : Prop :=
  ∀ (t : TypeId) (x : AV) (vx : Value) (em : Bool), ck t x = true → V w.heap r K A x vx → (Instr.checkKey em d t vx).run P w = .ok () w
theorem ckFields_ok (w : World) {K : Nat → Prop} {d : Nat} {ck : TypeId → AV → Bool} (hq : CkOk P w r K A d ck) {xs : List AV} {vx : Array Value} (hx : xs.length = vx.size)
    (hvx : ∀ (i : Nat) a v, xs[i]? = some a → vx[i]? = some v → V w.heap r K A a v) (em : Bool) : ∀ (fs : List Field), ckFields P ck xs fs = true →
    (forIn fs PUnit.unit fun f _ => (if f.name ≠ "_" then do
        Instr.checkKey em d f.type (← part f.type vx f.offset)
        pure (ForInStep.yield PUnit.unit)
      else pure (ForInStep.yield PUnit.unit) : Sem (ForInStep PUnit))).run P w = .ok PUnit.unit w
  | [], _ => by simp only [List.forIn_nil, Sem.run_pure]
  | f :: fs, he => by
    unfold ckFields at he
    by_cases hn : f.name ≠ "_"
    · rw [if_pos hn] at he
      cases h1 : partA P f.type xs f.offset with
      | none => simp [h1] at he
      | some a =>
        simp only [h1, Bool.and_eq_true] at he
        obtain ⟨va, p1, q1⟩ := part_ok w h1 hx hvx
        have := hq f.type a va em he.1 q1
        simp only [List.forIn_cons, Sem.run_bind, if_pos hn, p1, this, Result.andThen_ok, Sem.run_pure]
        exact ckFields_ok w hq hx hvx em fs he.2
    · rw [if_neg hn] at he
      simp only [List.forIn_cons, Sem.run_bind, if_neg hn, Result.andThen_ok, Sem.run_pure]
      exact ckFields_ok w hq hx hvx em fs he
theorem ckItems_ok (w : World) {K : Nat → Prop} {d : Nat} {ck : TypeId → AV → Bool} (hq : CkOk P w r K A d ck) {e : TypeId} {sz : Nat} (hsz : szOf P e = some sz) {xs : List AV} {vx : Array Value} (hx : xs.length = vx.size)
    (hvx : ∀ (i : Nat) a v, xs[i]? = some a → vx[i]? = some v → V w.heap r K A a v) (em : Bool) : ∀ (is : List Nat), ckItems P ck e sz xs is = true →
    (forIn is PUnit.unit fun i _ => (do Instr.checkKey em d e (← part e vx (i * (← sizeOf e))); pure (ForInStep.yield PUnit.unit) : Sem (ForInStep PUnit))).run P w = .ok PUnit.unit w
  | [], _ => by simp only [List.forIn_nil, Sem.run_pure]
  | i :: is, he => by
    unfold ckItems at he
    cases h1 : partA P e xs (i * sz) with
    | none => simp [h1] at he
    | some a =>
      simp only [h1, Bool.and_eq_true] at he
      obtain ⟨va, p1, q1⟩ := part_ok w h1 hx hvx
      have := hq e a va em he.1 q1
      simp only [List.forIn_cons, Sem.run_bind, run_sizeOf' hsz, p1, this, Result.andThen_ok, Sem.run_pure]
      exact ckItems_ok w hq hsz hx hvx em is he.2
theorem ckA_ok (w : World) {K : Nat → Prop} (m : Nat) : ∀ d, CkOk P w r K A (m + d) (ckA P d)
  | 0 => fun t x vx em he => by simp [ckA] at he
  | d + 1 => fun t x vx em he hx => by
    unfold ckA at he
    have ih : CkOk P w r K A (m + d) (ckA P d) := ckA_ok w m d
    cases hu : P.underlying t with
    | none => simp [hu] at he
    | some dsc =>
      simp only [hu] at he
      cases dsc with
      | bool => simp [← Nat.add_assoc, Instr.checkKey, run_underlying hu]
      | int k => simp [← Nat.add_assoc, Instr.checkKey, run_underlying hu]
      | string => simp [← Nat.add_assoc, Instr.checkKey, run_underlying hu]
      | struct fs =>
        cases hx with
        | agg xs vx hl hh =>
          simp only at he
          have := ckFields_ok w ih hl hh em fs.toList he
          simp only [← Nat.add_assoc, Instr.checkKey, Sem.run_bind, run_underlying hu, Result.andThen_ok]
          rw [← Array.forIn_toList]
          have e : m.add d = m + d := rfl
          rw [e, this]
          rfl
        | _ => simp at he
      | array n e =>
        cases hx with
        | agg xs vx hl hh =>
          simp only at he
          cases hsz : szOf P e with
          | none => simp [hsz] at he
          | some sz =>
            simp only [hsz] at he
            have := ckItems_ok w ih hsz hl hh em (List.range n) he
            simp only [← Nat.add_assoc, Instr.checkKey, Sem.run_bind, run_underlying hu, Result.andThen_ok]
            simp only [Std.Legacy.Range.forIn_eq_forIn_range', Std.Legacy.Range.size, Nat.sub_zero, Nat.add_one_sub_one, Nat.div_one]
            have e : m.add d = m + d := rfl
            rw [e, ← List.range_eq_range', this]
            rfl
        | _ => simp at he
      | _ => simp at he

/-- The answers of a search in a map. -/
def FR (w : World) (r : Ren) (K : Nat → Prop) (A : Nat → Prop) : Option (Nat × AV) → Option (Nat × Value) → Prop
  | none, none => True
  | some (i, a), some (j, v) => i = j ∧ V w.heap r K A a v
  | _, _ => False
/-- Entries stand for entries. -/
def ES (H : Array Obj) (r : Ren) (K : Nat → Prop) (A : Nat → Prop) (es : List (AV × AV × Nat)) (ms : List MapEntry) : Prop :=
  es.length = ms.length ∧ ∀ (i : Nat) e m, es[i]? = some e → ms[i]? = some m → V H r K A e.1 m.key ∧ V H r K A e.2.1 m.val ∧ e.2.2 = m.born
theorem ES.tail {H : Array Obj} {K : Nat → Prop} {e : AV × AV × Nat} {es : List (AV × AV × Nat)} {m : MapEntry} {ms : List MapEntry} (h : ES H r K A (e :: es) (m :: ms)) : ES H r K A es ms :=
  ⟨by have := h.1; simpa using this, fun i a b ha hb => h.2 (i + 1) a b (by simpa using ha) (by simpa using hb)⟩
theorem same_eq (w : World) {K : Nat → Prop} {d : Nat} {t : TypeId} {dsc : TypeDesc} (hu : P.underlying t = some dsc) {x y : AV} {vx vy : Value} {b c : Bool} (he : eqInA P (d + 1) t x y = some b) (hs : Instr.sameNow dsc vx vy = some c)
    (hx : V w.heap r K A x vx) (hy : V w.heap r K A y vy) : b = c := by
  unfold eqInA at he
  simp only [hu] at he
  unfold Instr.sameNow at hs
  split at hs
  · cases hx; cases hy
    rename_i k1 k2 a b' 
    simp only at he
    split at hs
    · rename_i e
      rw [if_pos e] at he
      cases he; cases hs; rfl
    · cases hs
  · cases hx; cases hy
    simp only at he
    cases he; cases hs
    exact strEq_beq _ _
  · cases hx; cases hy
    simp only at he
    cases he; cases hs; rfl
  · cases hs
theorem findNow_ok (w : World) {K : Nat → Prop} {kt : TypeId} {dsc : TypeDesc} (hu : P.underlying kt = some dsc) {k : AV} {vk : Value} (hk : V w.heap r K A k vk) : ∀ (es : List (AV × AV × Nat)) (ms : List MapEntry) (i : Nat) (res : Option (Nat × AV)) (res' : Option (Nat × Value)),
    ES w.heap r K A es ms → findA P kt k es i = some res → Instr.findNow dsc vk ms i = some res' → FR w r K A res res'
  | [], ms, i, res, res', hes, hf, hn => by
    cases ms with
    | nil => simp [findA] at hf; simp [Instr.findNow] at hn; subst hf; subst hn; trivial
    | cons m ms => have := hes.1; simp at this
  | (k', v, b) :: es, ms, i, res, res', hes, hf, hn => by
    cases ms with
    | nil => have := hes.1; simp at this
    | cons m ms =>
      have h0 := hes.2 0 (k', v, b) m rfl rfl
      simp only at h0
      simp only [findA, keyEq] at hf
      simp only [Instr.findNow] at hn
      cases hq : eqInA P 16 kt k k' with
      | none => simp [hq] at hf
      | some q =>
        cases hs : Instr.sameNow dsc vk m.key with
        | none => simp [hs] at hn
        | some c =>
          have := same_eq (P := P) (d := 15) w hu hq hs hk h0.1
          subst this
          cases q with
          | true => simp [hq] at hf; simp [hs] at hn; subst hf; subst hn; exact ⟨rfl, h0.2.1⟩
          | false =>
            simp only [hq] at hf
            simp only [hs] at hn
            exact findNow_ok w hu hk es ms (i + 1) res res' hes.tail hf hn
theorem findAsking_ok (w : World) {K : Nat → Prop} {kt : TypeId} {k : AV} {vk : Value} (hk : V w.heap r K A k vk) : ∀ (es : List (AV × AV × Nat)) (ms : List MapEntry) (i : Nat) (res : Option (Nat × AV)),
    ES w.heap r K A es ms → findA P kt k es i = some res → ∃ res', (Instr.findAsking kt vk ms i).run P w = .ok res' w ∧ FR w r K A res res'
  | [], ms, i, res, hes, hf => by
    cases ms with
    | nil => simp [findA] at hf; subst hf; exact ⟨none, by simp [Instr.findAsking], trivial⟩
    | cons m ms => have := hes.1; simp at this
  | (k', v, b) :: es, ms, i, res, hes, hf => by
    cases ms with
    | nil => have := hes.1; simp at this
    | cons m ms =>
      have h0 := hes.2 0 (k', v, b) m rfl rfl
      simp only at h0
      simp only [findA, keyEq] at hf
      cases hq : eqInA P 16 kt k k' with
      | none => simp [hq] at hf
      | some q =>
        have he : (Op.equal kt vk m.key).run P w = .ok q w := eqInA_ok w 9984 16 kt k k' vk m.key q hq hk h0.1
        cases q with
        | true => simp [hq] at hf; subst hf; exact ⟨some (i, m.val), by simp [Instr.findAsking, he], rfl, h0.2.1⟩
        | false =>
          simp only [hq] at hf
          obtain ⟨res', h1, h2⟩ := findAsking_ok w hk es ms (i + 1) res hes.tail hf
          exact ⟨res', by simp [Instr.findAsking, he, h1], h2⟩
theorem findKey_ok (w : World) {K : Nat → Prop} {kt : TypeId} {dsc : TypeDesc} (hu : P.underlying kt = some dsc) {k : AV} {vk : Value} (hk : V w.heap r K A k vk) {es : List (AV × AV × Nat)} {ms : List MapEntry} {res : Option (Nat × AV)} (hes : ES w.heap r K A es ms)
    (hf : findA P kt k es 0 = some res) : ∃ res', (Instr.findKey kt vk ms).run P w = .ok res' w ∧ FR w r K A res res' := by
  cases hn : Instr.findNow dsc vk ms 0 with
  | none =>
    obtain ⟨res', h1, h2⟩ := findAsking_ok w hk es ms 0 res hes hf
    exact ⟨res', by simp [Instr.findKey, run_underlying hu, hn, h1], h2⟩
  | some res' => exact ⟨res', by simp [Instr.findKey, run_underlying hu, hn], findNow_ok w hu hk es ms 0 res res' hes hf hn⟩
end
end Go.Proofs.YtmeianaaiiiinaaGreat.Ev
