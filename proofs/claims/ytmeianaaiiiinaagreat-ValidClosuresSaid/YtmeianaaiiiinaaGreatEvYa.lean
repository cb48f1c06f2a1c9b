/- What the evaluator is told of calls: strings.IndexByte, lexer.Name. -/
import Derived.Test.YtmeianaaiiiinaaGreatEvXb
namespace Go.Proofs.YtmeianaaiiiinaaGreat.Ev
open Go Go.Proofs
set_option linter.unusedVariables false
set_option linter.unusedSimpArgs false
set_option linter.all false
noncomputable section

def letB (n : Nat) : Bool := (Nat.ble 65 n && Nat.ble n 90) || (Nat.ble 97 n && Nat.ble n 122)
def digB (n : Nat) : Bool := (Nat.ble 48 n && Nat.ble n 57) || Nat.beq n 95
theorem cls_tab : (List.range 256).all (fun n => (((clsT.getD n 0 : Nat) : Int) != 3) == !letB n && ((((clsT.getD n 0 : Nat) : Int) != 4 && ((clsT.getD n 0 : Nat) : Int) != 5) || letB n) == (!digB n || letB n)) = true := by kernel_rfl
theorem cls_let (b : UInt8) : (((clsOf b : Nat) : Int) != 3) = !letB b.toNat := by
  have := List.all_eq_true.1 cls_tab b.toNat (List.mem_range.2 b.toNat_lt)
  simp only [Bool.and_eq_true, beq_iff_eq] at this
  exact this.1
theorem cls_dig (b : UInt8) (hl : letB b.toNat = false) : ((((clsOf b : Nat) : Int) != 4) && (((clsOf b : Nat) : Int) != 5)) = !digB b.toNat := by
  have := List.all_eq_true.1 cls_tab b.toNat (List.mem_range.2 b.toNat_lt)
  simp only [Bool.and_eq_true, beq_iff_eq] at this
  have h2 := this.2
  rw [hl, Bool.or_false, Bool.or_false] at h2
  exact h2
def nameF (l : List UInt8) : Bool → Bool :=
  List.rec (fun _ => true) (fun b _ ih first => bif letB b.toNat then ih false else bif first then false else bif digB b.toNat then ih false else false) l
theorem nameF_eq : ∀ (l : List UInt8) (first : Bool), nameF l first = nameGo first l
  | [], _ => rfl
  | b :: l, first => by
    have e : nameF (b :: l) first = bif letB b.toNat then nameF l false else bif first then false else bif digB b.toNat then nameF l false else false := rfl
    rw [e, nameGo, nameF_eq l false, cls_let]
    cases hl : letB b.toNat with
    | true => simp
    | false =>
      rw [cls_dig b hl]
      cases first <;> cases digB b.toNat <;> simp
def lenF (l : List UInt8) : Nat := List.rec 0 (fun _ _ ih => Nat.succ ih) l
theorem lenF_eq : ∀ (l : List UInt8), lenF l = l.length
  | [] => rfl
  | b :: l => by
    show Nat.succ (lenF l) = _
    rw [lenF_eq l]; rfl
def nameK (s : ByteArray) : Bool := nameF s.data.toList true && Nat.ble 1 (lenF s.data.toList) && Nat.ble (lenF s.data.toList) 24
theorem nameK_eq (s : ByteArray) : nameK s = nameB s := by
  unfold nameK nameB
  rw [nameF_eq, lenF_eq]
  have h1 : s.data.toList.length = s.size := by simp
  rw [h1]
  have h2 : Nat.ble 1 s.size = !strEq s ⟨#[]⟩ := by
    rw [strEq_dec]
    by_cases h : s = ⟨#[]⟩
    · subst h; rfl
    · have : s.size ≠ 0 := fun e => h (by
        obtain ⟨⟨l⟩⟩ := s
        simp [ByteArray.size] at e
        rw [e])
      have h3 : 1 ≤ s.size := by omega
      rw [Nat.ble_eq_true_of_le h3]
      simp [h]
  have h3 : Nat.ble s.size 24 = decide ((s.size : Int) ≤ 24) := by
    by_cases h : s.size ≤ 24
    · rw [Nat.ble_eq_true_of_le h]
      have : (s.size : Int) ≤ 24 := by omega
      simp [this]
    · have h' : Nat.ble s.size 24 = false := by
        cases e : Nat.ble s.size 24 with
        | false => rfl
        | true => exact absurd (Nat.le_of_ble_eq_true e) h
      have : ¬ (s.size : Int) ≤ 24 := by omega
      simp [h', this]
  rw [h2, h3]
/-- What is known of calls. -/
def sumX (f : FuncId) (args : List AV) : Option AV :=
  bif Nat.beq f 32 then (match args with
    | [.str s] => bif Nat.ble (lenF s.data.toList) 1000000 then some (.bool (nameK s)) else none
    | _ => none) else sumI f args
theorem sumX_fact : ∀ f args v, sumX f args = some v → PureOk Tryz.prog f args (fun u => u = v) ∧ (∀ a ∈ args, Low 0 a) ∧ Scal v := by
  intro f args v h
  unfold sumX at h
  cases hf : Nat.beq f 32 with
  | true =>
    rw [hf] at h
    have hf' := Nat.eq_of_beq_eq_true hf
    subst hf'
    simp only [cond_true] at h
    split at h
    · rename_i s
      cases hb : Nat.ble (lenF s.data.toList) 1000000 with
      | false => rw [hb] at h; cases h
      | true =>
        rw [hb] at h
        have h' : AV.bool (nameK s) = v := by simpa using h
        subst h'
        have := Nat.le_of_ble_eq_true hb
        rw [lenF_eq] at this
        have h1 : s.data.toList.length = s.size := by simp
        rw [nameK_eq]
        exact ⟨name_ok s (by omega), by simp; exact .str _, .bool _⟩
    · cases h
  | false =>
    rw [hf] at h
    simp only [cond_false] at h
    have h0 := h
    have hs : ∃ s c, args = [.str s, .int .u8 (.ofNat c)] ∧ v = .int .i64 (idxA c s.data.toList) := by
      unfold sumI at h
      cases hg : Nat.beq f 146 with
      | false => rw [hg] at h; cases h
      | true =>
        rw [hg] at h
        simp only [cond_true] at h
        split at h
        · rename_i s c
          cases hb : Nat.blt c 256 with
          | false => rw [hb] at h; cases h
          | true =>
            rw [hb] at h
            exact ⟨s, c, rfl, by simpa using h.symm⟩
        · cases h
    obtain ⟨s, c, rfl, rfl⟩ := hs
    refine ⟨(sumI_fn h0 (hE [] 0)).mono (fun u h' hu => ⟨hu.1, by rw [hu.1]; exact .int _ _⟩), fun a ha => ?_, .int _ _⟩
    simp only [List.mem_cons, List.not_mem_nil, or_false] at ha
    rcases ha with rfl | rfl
    · exact .str _
    · exact .int _ _
/-- Functions that range over maps: their outcomes are laid together. -/
def mrgX (f : FuncId) : Bool := Nat.beq f 21 || Nat.beq f 41 || Nat.beq f 52
def callX : CallA := callM Tryz.prog sumX mrgX 50
theorem callX_ok (A : Nat → Prop) : CallOk Tryz.prog A callX := callM_ok (callT_ok sumX_fact A) mixed 50
end
end Go.Proofs.YtmeianaaiiiinaaGreat.Ev
