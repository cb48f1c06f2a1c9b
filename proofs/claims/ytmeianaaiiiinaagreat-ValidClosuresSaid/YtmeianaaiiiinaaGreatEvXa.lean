/- From the evaluator, and from contracts of the library, to the logic; strings.IndexByte; the classes of bytes. -/
import Derived.Test.YtmeianaaiiiinaaGreatEvTy
import Derived.Test.YtmeianaaiiiinaaGreatShI
namespace Go.Proofs.YtmeianaaiiiinaaGreat.Ev
open Go Go.Proofs
set_option linter.unusedVariables false
set_option linter.unusedSimpArgs false
set_option linter.all false
noncomputable section

/-- What the evaluator says of a call. -/
theorem FnOk.of_call {P : Program} {call : CallA} (hc : ∀ A, CallOk P A call) {f : FuncId} {args : List AV} {h : AH} {outs : List (AV × AH)} (he : call f args h = some outs) : FnOk P f args h (fun v h' => (v, h') ∈ outs) := by
  intro r A K w vargs R hb hw hv
  refine (hc A f args h outs he r K w vargs hw R hv).mono ?_
  rintro e w' ⟨v', rfl, hio, v, h', r', K', hm, R', E, hV⟩
  exact ⟨v', v, h', r', A, K', rfl, hm, R', hV, ⟨E, fun b hb => .inl hb, R.kn, hb⟩, E.base.trans hb, hio.trans (hw.trans E.io.symm)⟩
/-- A contract that gives a value and leaves the world. -/
theorem FnOk.of_same {P : Program} {f : FuncId} {args : List AV} {h : AH} {res : AV} {v' : Value} (hv : ∀ (H : Array Obj) r K A, V H r K A res v')
    (hc : ∀ (H : Array Obj) r K A (w : World) (vargs : Array Value), VS H r K A args vargs.toList → Calls P f vargs w fun e w' => e = .returned v' ∧ w' = w) : FnOk P f args h (fun v h' => v = res ∧ h' = h) := by
  intro r A K w vargs R hb hw hvs
  refine (hc _ r K A w vargs hvs).mono ?_
  rintro e w' ⟨rfl, rfl⟩
  exact ⟨v', res, h, r, A, K, rfl, ⟨rfl, rfl⟩, R, hv _ _ _ _, At.refl R hb, hb, hw⟩

def idxA (c : Nat) (l : List UInt8) : Int :=
  List.rec (Int.negSucc 0) (fun b _ ih => bif Nat.beq b.toNat c then Int.ofNat 0 else Int.casesOn ih (fun n => Int.ofNat (Nat.succ n)) fun n => Int.negSucc n) l
theorem idxA_neg (c : Nat) : ∀ (l : List UInt8), idxA c l = -1 ∨ 0 ≤ idxA c l
  | [] => .inl rfl
  | b :: l => by
    have e : idxA c (b :: l) = bif Nat.beq b.toNat c then Int.ofNat 0 else Int.casesOn (idxA c l) (fun n => Int.ofNat (Nat.succ n)) fun n => Int.negSucc n := rfl
    rw [e]
    cases Nat.beq b.toNat c with
    | true => exact .inr (by simp)
    | false =>
      rcases idxA_neg c l with h | h
      · rw [h]; exact .inl rfl
      · cases hi : idxA c l with
        | ofNat n => exact .inr (Int.natCast_nonneg _)
        | negSucc n => rw [hi] at h; omega
theorem idxA_eq (c : Nat) (hc : c < 256) : ∀ (l : List UInt8), idxA c l = Lib.indexByte l c.toUInt8
  | [] => rfl
  | b :: l => by
    have e : idxA c (b :: l) = bif Nat.beq b.toNat c then Int.ofNat 0 else Int.casesOn (idxA c l) (fun n => Int.ofNat (Nat.succ n)) fun n => Int.negSucc n := rfl
    have hb : (b == c.toUInt8) = Nat.beq b.toNat c := by
      rw [beq_tf]
      have : (b = c.toUInt8) ↔ b.toNat = c := by
        constructor
        · rintro rfl; simp; omega
        · intro h; apply UInt8.toNat_inj.1; simp; omega
      by_cases h : b.toNat = c
      · simp [h, this.2 h]; exact hc
      · have h2 : ¬ b = c.toUInt8 := fun e => h (this.1 e)
        simp [h, h2]
    rw [e, Lib.indexByte, hb, ← idxA_eq c hc l]
    cases Nat.beq b.toNat c with
    | true => rfl
    | false =>
      rcases idxA_neg c l with h | h
      · rw [h]; rfl
      · cases hi : idxA c l with
        | ofNat n =>
          have h3 : ((Int.ofNat n == -1) = false) := rfl
          simp [h3]
        | negSucc n => rw [hi] at h; omega
/-- What is known of calls: strings.IndexByte. -/
def sumI (f : FuncId) (args : List AV) : Option AV :=
  bif Nat.beq f 146 then (match args with
    | [.str s, .int .u8 (.ofNat c)] => bif Nat.blt c 256 then some (.int .i64 (idxA c s.data.toList)) else none
    | _ => none) else none
theorem sumI_fn {f : FuncId} {args : List AV} {v : AV} (hs : sumI f args = some v) (h : AH) : FnOk Tryz.prog f args h (fun u h' => u = v ∧ h' = h) := by
  unfold sumI at hs
  cases hf : Nat.beq f 146 with
  | false => rw [hf] at hs; cases hs
  | true =>
    have hf' := Nat.eq_of_beq_eq_true hf
    subst hf'
    simp only [hf, cond_true] at hs
    split at hs
    · rename_i s c
      cases hc : Nat.blt c 256 with
      | false => rw [hc] at hs; cases hs
      | true =>
        rw [hc] at hs
        have hs' : AV.int .i64 (idxA c s.data.toList) = v := by simpa using hs
        subst hs'
        have hc' : c < 256 := by simpa using hc
        refine FnOk.of_same (v' := .int .i64 (Lib.indexByte s.data.toList c.toUInt8)) (fun _ _ _ _ => by rw [idxA_eq c hc']; exact .int _ _) (fun H r K A w vargs hv => ?_)
        obtain ⟨v1, v2, rfl, h1, h2⟩ := VS.two hv
        cases h1
        cases h2
        exact indexByte_calls s (.ofNat c) w
    · cases hs
theorem sumI_ok (A : Nat → Prop) : SumOk Tryz.prog A sumI := by
  intro f args h outs he r K w vargs hw R hv
  cases hs : sumI f args with
  | none => simp only [hs] at he; cases he
  | some v =>
    simp only [hs] at he
    have := one_some he
    subst this
    by_cases hf : f = 146
    · subst hf
      unfold sumI at hs
      simp only [beq_tf, decide_true, cond_true] at hs
      split at hs
      · rename_i s c
        cases hc : Nat.blt c 256 with
        | false => rw [hc] at hs; cases hs
        | true =>
          rw [hc] at hs
          have hs' : AV.int .i64 (idxA c s.data.toList) = v := by simpa using hs
          subst hs'
          have hc' : c < 256 := by simpa using hc
          obtain ⟨v1, v2, rfl, h1, h2⟩ := VS.two hv
          cases h1
          cases h2
          refine (indexByte_calls s (.ofNat c) w).mono ?_
          rintro e w' ⟨rfl, rfl⟩
          exact ⟨_, rfl, rfl, Good.same R (by rw [idxA_eq c hc']; exact .int _ _)⟩
      · cases hs
    · unfold sumI at hs
      rw [beq_tf, decide_eq_false hf] at hs
      cases hs
theorem mixed : Tryz.prog.follows .mixedOrders = true := by kernel_rfl
/-- The classes of bytes. -/
def clsT : List Nat := [0, 0, 0, 0, 0, 0, 0, 0, 0, 1, 1, 0, 0, 0, 0, 0, 0, 0, 0, 0, 0, 0, 0, 0, 0, 0, 0, 0, 0, 0, 0, 0, 1, 0, 7, 2, 0, 0, 0, 0, 6, 6, 0, 0, 6, 6, 6, 6, 4, 4, 4, 4, 4, 4, 4, 4, 4, 4, 6, 6, 6, 6, 6, 0, 0, 3, 3, 3, 3, 3, 3, 3, 3, 3, 3, 3, 3, 3, 3, 3, 3, 3, 3, 3, 3, 3, 3, 3, 3, 3, 3, 6, 0, 6, 0, 5, 0, 3, 3, 3, 3, 3, 3, 3, 3, 3, 3, 3, 3, 3, 3, 3, 3, 3, 3, 3, 3, 3, 3, 3, 3, 3, 3, 6, 0, 6, 0, 0, 0, 0, 0, 0, 0, 0, 0, 0, 0, 0, 0, 0, 0, 0, 0, 0, 0, 0, 0, 0, 0, 0, 0, 0, 0, 0, 0, 0, 0, 0, 0, 0, 0, 0, 0, 0, 0, 0, 0, 0, 0, 0, 0, 0, 0, 0, 0, 0, 0, 0, 0, 0, 0, 0, 0, 0, 0, 0, 0, 0, 0, 0, 0, 0, 0, 0, 0, 0, 0, 0, 0, 0, 0, 0, 0, 0, 0, 0, 0, 0, 0, 0, 0, 0, 0, 0, 0, 0, 0, 0, 0, 0, 0, 0, 0, 0, 0, 0, 0, 0, 0, 0, 0, 0, 0, 0, 0, 0, 0, 0, 0, 0, 0, 0, 0, 0, 0, 0, 0, 0, 0, 0, 0, 0, 0, 0, 0, 0]
def clsE (n : Nat) : AV := .int .u8 (.ofNat n)
def dropV (x : Outs (AV × AH)) : Option AV :=
  match x with
  | some [(v, _)] => some v
  | _ => none
theorem cls_ev : dropV (callA Tryz.prog sumI 5 66 [] (hE [] 0)) = some (.agg (List.map clsE clsT)) := by kernel_rfl
theorem clsT_len : clsT.length = 256 := by kernel_rfl
theorem clsT_lt : clsT.all (fun n => Nat.blt n 8) = true := by kernel_rfl
theorem classes_ok : PureOk Tryz.prog 66 [] (fun v => v = .agg (clsT.map clsE)) := by
  have h := cls_ev
  cases hc : callA Tryz.prog sumI 5 66 [] (hE [] 0) with
  | none => rw [hc] at h; cases h
  | some outs =>
    rw [hc] at h
    unfold dropV at h
    split at h
    · rename_i v h' e
      have e' : outs = [(v, h')] := by simpa using e
      have hv : v = .agg (clsT.map clsE) := by simpa using h
      subst e'
      refine (FnOk.of_call (fun A => callA_ok (sumI_ok A) mixed 5) hc).mono (fun u h2 hm => ?_)
      obtain ⟨rfl, rfl⟩ : u = v ∧ h2 = h' := by simpa using hm
      refine ⟨hv, ?_⟩
      rw [hv]
      refine .agg _ (fun a ha => ?_)
      obtain ⟨n, _, rfl⟩ := List.mem_map.1 ha
      exact .int _ _
    · cases h
end
end Go.Proofs.YtmeianaaiiiinaaGreat.Ev
