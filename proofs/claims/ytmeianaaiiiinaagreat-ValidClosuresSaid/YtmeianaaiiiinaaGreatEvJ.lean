/- What operators come to: numbers, strings, equality. -/
import Derived.Test.YtmeianaaiiiinaaGreatEvI
import Derived.Laws.StructEq
import Derived.ChangeKeysEq
namespace Go.Proofs.YtmeianaaiiiinaaGreat.Ev
open Go
set_option linter.unusedVariables false
set_option linter.unusedSimpArgs false
set_option linter.all false

theorem bytesEq_iff : ∀ (x y : List UInt8), bytesEq x y = (x == y)
  | [], [] => rfl
  | [], _ :: _ => rfl
  | _ :: _, [] => rfl
  | a :: x, b :: y => by
    simp only [bytesEq, bytesEq_iff x y, beq_tf]
    have : (a :: x == b :: y) = (a == b && x == y) := rfl
    rw [this]
    congr 1
    by_cases h : a = b
    · simp [h]
    · have : ¬ a.toNat = b.toNat := fun e => h (UInt8.toNat_inj.1 e)
      simp [h, this]
theorem bytesLt_iff : ∀ (x y : List UInt8), bytesLt x y = Op.bytesLess x y
  | [], [] => rfl
  | _ :: _, [] => rfl
  | [], _ :: _ => rfl
  | a :: x, b :: y => by
    simp only [bytesLt, Op.bytesLess, bytesLt_iff x y, beq_tf]
    have h1 : Nat.blt a.toNat b.toNat = decide (a < b) := by
      rw [Bool.eq_iff_iff]
      simp [Nat.blt_eq, UInt8.lt_iff_toNat_lt]
    have h2 : decide (a.toNat = b.toNat) = (a == b) := by
      by_cases h : a = b
      · simp [h]
      · have : ¬ a.toNat = b.toNat := fun e => h (UInt8.toNat_inj.1 e)
        simp [h, this]
    rw [h1, h2]
theorem strEq_iff (a b : ByteArray) : strEq a b = (a.toList == b.toList) := by
  unfold strEq
  rw [bytesEq_iff, ByteArray.toList_eq, ByteArray.toList_eq]
theorem strEq_beq (a b : ByteArray) : strEq a b = (a == b) := by rw [strEq_iff, beq_toListBytes]
theorem strLt_iff (a b : ByteArray) : strLt a b = Op.bytesLess a.toList b.toList := by
  unfold strLt
  rw [bytesLt_iff, ByteArray.toList_eq, ByteArray.toList_eq]

section
variable {P : Program} {r : Ren} {A K : Nat → Prop} {h : AH}
theorem intArithA_ok (w : World) {H : Array Obj} {K : Nat → Prop} {op : BinOp} {k : IntKind} {t : TypeId} {a b : Int} {x : AV} (hi : intArithA op k a b = some x) (hs : isShift op = false) :
    ∃ v, (binOp op t (.int k a) (.int k b)).run P w = .ok v w ∧ V H r K A x v := by
  cases op <;> simp [intArithA, isShift] at hi hs
  all_goals first
    | (obtain ⟨h0, hi⟩ := hi; subst hi; refine ⟨_, ?_, V.int _ _⟩; simp [binOp, Op.intDiv, h0]; done)
    | (subst hi; refine ⟨_, ?_, V.int _ _⟩; simp [binOp, Op.intArith, Op.intBits]; done)
    | (subst hi; refine ⟨_, ?_, V.bool _⟩; simp [binOp, Op.intCmp]; done)
theorem shiftA_ok (w : World) {H : Array Obj} {K : Nat → Prop} {op : BinOp} {k l : IntKind} {t : TypeId} {a b : Int} {x : AV} (hi : shiftA op k a b = some x) :
    ∃ v, (binOp op t (.int k a) (.int l b)).run P w = .ok v w ∧ V H r K A x v := by
  unfold shiftA at hi
  by_cases c : b < 0
  · rw [if_pos c] at hi; cases hi
  · rw [if_neg c] at hi
    cases op <;> simp at hi <;> subst hi
    · exact ⟨_, by simp [binOp, Op.shift, c], .int _ _⟩
    · exact ⟨_, by simp [binOp, Op.shift, c], .int _ _⟩
theorem strOpA_ok (w : World) {H : Array Obj} {K : Nat → Prop} {op : BinOp} {t : TypeId} {a b : ByteArray} {x : AV} (hi : strOpA op a b = some x) :
    ∃ v, (binOp op t (.string a) (.string b)).run P w = .ok v w ∧ V H r K A x v := by
  cases op <;> simp [strOpA] at hi
  case add =>
    obtain ⟨h0, rfl⟩ := hi
    have : ¬ (9223372036854775807 < (a.size : Int) + (b.size : Int)) := by omega
    refine ⟨.string (a ++ b), ?_, .str _⟩
    simp [binOp, Op.stringOp, IntKind.max, IntKind.bits, IntKind.signed, this]
  all_goals (subst hi; refine ⟨_, ?_, V.bool _⟩; simp [binOp, Op.stringOp, strEq_iff, strLt_iff]; done)

/-- What two values' equality comes to. -/
def EqOk (P : Program) (w : World) (r : Ren) (K : Nat → Prop) (A : Nat → Prop) (d : Nat) (eq : TypeId → AV → AV → Option Bool) : Prop :=
  ∀ (t : TypeId) (x y : AV) (vx vy : Value) (b : Bool), eq t x y = some b → V w.heap r K A x vx → V w.heap r K A y vy → (Op.equalIn d t vx vy).run P w = .ok b w
theorem eqFieldsA_ok (w : World) {K : Nat → Prop} {d : Nat} {eq : TypeId → AV → AV → Option Bool} (hq : EqOk P w r K A d eq) {xs ys : List AV} {vx vy : Array Value} (hx : xs.length = vx.size) (hy : ys.length = vy.size)
    (hvx : ∀ (i : Nat) a v, xs[i]? = some a → vx[i]? = some v → V w.heap r K A a v) (hvy : ∀ (i : Nat) a v, ys[i]? = some a → vy[i]? = some v → V w.heap r K A a v) :
    ∀ (fs : List Field) (b : Bool), eqFieldsA P eq xs ys fs = some b → (Op.eqFields d vx vy fs).run P w = .ok b w
  | [], b, he => by simp [eqFieldsA] at he; subst he; simp [Op.eqFields]
  | f :: fs, b, he => by
    unfold eqFieldsA at he
    unfold Op.eqFields
    by_cases hn : f.name ≠ "_"
    · rw [if_pos hn] at he
      rw [if_pos hn]
      cases h1 : partA P f.type xs f.offset with
      | none => simp [h1] at he
      | some a =>
        simp only [h1] at he
        cases h2 : partA P f.type ys f.offset with
        | none => simp [h2] at he
        | some c =>
          simp only [h2] at he
          obtain ⟨va, p1, q1⟩ := part_ok w h1 hx hvx
          obtain ⟨vc, p2, q2⟩ := part_ok w h2 hy hvy
          cases h3 : eq f.type a c with
          | none => simp [h3] at he
          | some e =>
            have := hq f.type a c va vc e h3 q1 q2
            cases e with
            | false => simp [h3] at he; subst he; simp [p1, p2, this]
            | true =>
              simp only [h3] at he
              simp [p1, p2, this, eqFieldsA_ok w hq hx hy hvx hvy fs b he]
    · rw [if_neg hn] at he
      rw [if_neg hn]
      exact eqFieldsA_ok w hq hx hy hvx hvy fs b he
theorem eqItemsA_ok (w : World) {K : Nat → Prop} {d : Nat} {eq : TypeId → AV → AV → Option Bool} (hq : EqOk P w r K A d eq) {e : TypeId} {sz : Nat} {xs ys : List AV} {vx vy : Array Value} (hx : xs.length = vx.size) (hy : ys.length = vy.size)
    (hvx : ∀ (i : Nat) a v, xs[i]? = some a → vx[i]? = some v → V w.heap r K A a v) (hvy : ∀ (i : Nat) a v, ys[i]? = some a → vy[i]? = some v → V w.heap r K A a v) :
    ∀ (is : List Nat) (b : Bool), eqItemsA P eq e sz xs ys is = some b → (Op.eqItems d e sz vx vy is).run P w = .ok b w
  | [], b, he => by simp [eqItemsA] at he; subst he; simp [Op.eqItems]
  | i :: is, b, he => by
    unfold eqItemsA at he
    unfold Op.eqItems
    cases h1 : partA P e xs (i * sz) with
    | none => simp [h1] at he
    | some a =>
      simp only [h1] at he
      cases h2 : partA P e ys (i * sz) with
      | none => simp [h2] at he
      | some c =>
        simp only [h2] at he
        obtain ⟨va, p1, q1⟩ := part_ok w h1 hx hvx
        obtain ⟨vc, p2, q2⟩ := part_ok w h2 hy hvy
        cases h3 : eq e a c with
        | none => simp [h3] at he
        | some q =>
          have := hq e a c va vc q h3 q1 q2
          cases q with
          | false => simp [h3] at he; subst he; simp [p1, p2, this]
          | true =>
            simp only [h3] at he
            simp [p1, p2, this, eqItemsA_ok w hq hx hy hvx hvy is b he]
theorem eqInA_ok (w : World) {K : Nat → Prop} (m : Nat) : ∀ d, EqOk P w r K A (m + d) (eqInA P d)
  | 0 => fun t x y vx vy b he => by simp [eqInA] at he
  | d + 1 => fun t x y vx vy b he hx hy => by
    unfold eqInA at he
    have ih : EqOk P w r K A (m + d) (eqInA P d) := eqInA_ok w m d
    cases hu : P.underlying t with
    | none => simp [hu] at he
    | some dsc =>
      simp only [hu] at he
      cases dsc with
      | bool =>
        cases hx <;> try (simp at he; done)
        cases hy <;> try (simp at he; done)
        simp at he; subst he
        exact run_equalIn_bool' w (m + d) t _ _ hu
      | int k =>
        cases hx <;> try (simp at he; done)
        cases hy <;> try (simp at he; done)
        rename_i k1 a k2 c
        simp only at he
        by_cases hk : k1 = k2
        · rw [if_pos hk] at he
          subst hk
          cases he
          exact run_equalIn_int w (m + d) t k1 k a c hu
        · rw [if_neg hk] at he; cases he
      | string =>
        cases hx <;> try (simp at he; done)
        cases hy <;> try (simp at he; done)
        simp at he; subst he
        rw [strEq_iff]
        exact run_equalIn_string w (m + d) t _ _ hu
      | struct fs =>
        cases hx <;> try (simp at he; done)
        cases hy <;> try (simp at he; done)
        rename_i xs vx hlx hvx ys vy hly hvy
        simp only at he
        by_cases hs : P.stoodInHeld t = false
        · rw [if_pos hs] at he
          have hfs : P.fieldsOf t = fs := by simp [Program.fieldsOf, hu]
          rw [show m + (d + 1) = (m + d) + 1 by omega, run_equalIn_struct w (m + d) t vx vy (by rw [hfs]; exact hu) hs, hfs]
          exact eqFieldsA_ok w ih hlx hly hvx hvy fs.toList b he
        · rw [if_neg hs] at he; cases he
      | array n e =>
        cases hx <;> try (simp at he; done)
        cases hy <;> try (simp at he; done)
        rename_i xs vx hlx hvx ys vy hly hvy
        simp only at he
        cases hsz : szOf P e with
        | none => simp [hsz] at he
        | some sz =>
          simp only [hsz] at he
          obtain ⟨i, hi, hn⟩ := szOf_info hsz
          have hc : P.cellsOf e = sz := by simp [Program.cellsOf, hi, hn]
          rw [show m + (d + 1) = (m + d) + 1 by omega, run_equalIn_array w (m + d) vx vy hu hi, hc]
          exact eqItemsA_ok w ih hlx hly hvx hvy (List.range n) b he
      | pointer e =>
        cases hx with
        | nilPtr =>
          cases hy with
          | nilPtr =>
            simp only at he
            cases he
            simp [Op.equalIn, run_underlying hu]
          | ptr id off hi =>
            simp only at he
            cases he
            simp [Op.equalIn, run_underlying hu]
          | rptr cells off b0 o hA hc hh =>
            simp only at he
            cases he
            simp [Op.equalIn, run_underlying hu]
          | _ => simp at he
        | ptr id off hi =>
          cases hy with
          | nilPtr =>
            simp only at he
            cases he
            simp [Op.equalIn, run_underlying hu]
          | _ => simp at he
        | rptr cells off b0 o hA hc hh =>
          cases hy with
          | nilPtr =>
            simp only at he
            cases he
            simp [Op.equalIn, run_underlying hu]
          | _ => simp at he
        | _ => simp at he
      | slice e =>
        cases hx with
        | nilSlice =>
          cases hy with
          | nilSlice =>
            simp only at he
            cases he
            simp [Op.equalIn, run_underlying hu]
          | slice id off len cap hi hc =>
            simp only at he
            cases he
            simp [Op.equalIn, run_underlying hu]
          | view n cells ex b0 o cap hn hxx hA hc hh =>
            cases n with
            | zero => simp at he
            | succ n =>
              simp only at he
              cases he
              simp [Op.equalIn, run_underlying hu]
          | _ => simp at he
        | slice id off len cap hi hc =>
          cases hy with
          | nilSlice =>
            simp only at he
            cases he
            simp [Op.equalIn, run_underlying hu]
          | _ => simp at he
        | view n cells ex b0 o cap hn hxx hA hc hh =>
          cases hy with
          | nilSlice =>
            cases n with
            | zero => simp at he
            | succ n =>
              simp only at he
              cases he
              simp [Op.equalIn, run_underlying hu]
          | _ => simp at he
        | _ => simp at he
      | map k e =>
        cases hx with
        | nilMap =>
          cases hy with
          | nilMap =>
            simp only at he
            cases he
            simp [Op.equalIn, run_underlying hu]
          | map id hi =>
            simp only at he
            cases he
            simp [Op.equalIn, run_underlying hu]
          | _ => simp at he
        | map id hi =>
          cases hy with
          | nilMap =>
            simp only at he
            cases he
            simp [Op.equalIn, run_underlying hu]
          | _ => simp at he
        | _ => simp at he
      | func p q s =>
        cases hx with
        | nilFunc =>
          cases hy with
          | nilFunc =>
            simp only at he
            cases he
            simp [Op.equalIn, run_underlying hu]
          | func fn f c vf vc hf hc h1 h2 =>
            simp only at he
            cases he
            simp [Op.equalIn, run_underlying hu]
          | _ => simp at he
        | func fn f c vf vc hf hc h1 h2 =>
          cases hy with
          | nilFunc =>
            simp only at he
            cases he
            simp [Op.equalIn, run_underlying hu]
          | _ => simp at he
        | _ => simp at he
      | _ => simp at he
end
end Go.Proofs.YtmeianaaiiiinaaGreat.Ev
