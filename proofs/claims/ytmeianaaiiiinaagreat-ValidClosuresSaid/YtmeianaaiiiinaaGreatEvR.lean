/- Regions that draw their order: what is known of the text; an operation sees only what it looks at. -/
import Derived.Test.YtmeianaaiiiinaaGreatEvQ
namespace Go.Proofs.YtmeianaaiiiinaaGreat.Ev
open Go
set_option linter.unusedVariables false
set_option linter.unusedSimpArgs false
set_option linter.all false

/-! ### What comes before -/
theorem bitB_eq (m i : Nat) : bitB m i = m.testBit i := by
  show Nat.beq ((m >>> i) % 2) 1 = _
  rw [Nat.testBit_eq_decide_div_mod_eq, Nat.shiftRight_eq_div_pow]
  rw [Bool.eq_iff_iff]
  simp
theorem maskGo (ms : List Nat) (i : Nat) : ∀ (l : List Edge) (s : Nat),
    (l.foldl (fun s e => bif Region.binds .any e then Nat.lor (Nat.lor s (Nat.pow 2 e.on)) (ms.getD e.on 0) else s) s).testBit i = true ↔
      s.testBit i = true ∨ ∃ e ∈ l, Region.binds .any e = true ∧ (i = e.on ∨ (ms.getD e.on 0).testBit i = true)
  | [], s => by simp
  | e :: l, s => by
    rw [List.foldl_cons, maskGo ms i l]
    cases hb : Region.binds .any e with
    | false =>
      simp only [cond_false]
      constructor
      · rintro (h | ⟨x, hx, h1, h2⟩)
        · exact .inl h
        · exact .inr ⟨x, List.mem_cons_of_mem _ hx, h1, h2⟩
      · rintro (h | ⟨x, hx, h1, h2⟩)
        · exact .inl h
        · rcases List.mem_cons.1 hx with rfl | hx
          · rw [hb] at h1; cases h1
          · exact .inr ⟨x, hx, h1, h2⟩
    | true =>
      simp only [cond_true]
      have e1 : (Nat.lor (Nat.lor s (Nat.pow 2 e.on)) (ms.getD e.on 0)).testBit i = true ↔ s.testBit i = true ∨ i = e.on ∨ (ms.getD e.on 0).testBit i = true := by
        show (s ||| 2 ^ e.on ||| ms.getD e.on 0).testBit i = true ↔ _
        rw [Nat.testBit_or, Nat.testBit_or, Nat.testBit_two_pow]
        simp only [Bool.or_eq_true, decide_eq_true_eq]
        constructor
        · rintro ((h | h) | h)
          · exact .inl h
          · exact .inr (.inl h.symm)
          · exact .inr (.inr h)
        · rintro (h | h | h)
          · exact .inl (.inl h)
          · exact .inl (.inr h.symm)
          · exact .inr h
      rw [e1]
      constructor
      · rintro ((h | h) | ⟨x, hx, h1, h2⟩)
        · exact .inl h
        · exact .inr ⟨e, by simp, hb, h⟩
        · exact .inr ⟨x, List.mem_cons_of_mem _ hx, h1, h2⟩
      · rintro (h | ⟨x, hx, h1, h2⟩)
        · exact .inl (.inl h)
        · rcases List.mem_cons.1 hx with rfl | hx
          · exact .inl (.inr h2)
          · exact .inr ⟨x, hx, h1, h2⟩

/-- What is known of the text of such a region. -/
structure Stat (ops : Array Oper) (ms : List Nat) : Prop where
  pre : ∀ j o, ops[j]? = some o → ∀ i, preB ms j i = true ↔ ∃ e ∈ o.after.toList, Region.binds .any e = true ∧ (i = e.on ∨ preB ms e.on i = true)
  back : ∀ (j : Nat) o e, ops[j]? = some o → e ∈ o.after.toList → Region.binds .any e = true → e.on < j
  apart : ∀ (i j : Nat) o p, ops[j]? = some o → ops[i]? = some p → i ≠ j → cmpB ms i j = false → ∀ d, p.dst = some d → d ∉ o.looksAt ops ∧ o.dst ≠ some d
theorem statB_ok {ops : Array Oper} {ms : List Nat} (h : statB ops ms = true) : Stat ops ms := by
  unfold statB at h
  rw [List.all_eq_true] at h
  have at_ : ∀ (j : Nat) o, ops[j]? = some o → ms.getD j 0 = maskOf ms o ∧ (∀ e ∈ o.after.toList, Region.binds .any e = true → e.on < j) ∧
      ∀ (i : Nat) p, ops[i]? = some p → i ≠ j → cmpB ms i j = false → statPair o p ops = true := by
    intro j o ho
    have hj : j < ops.size := (Array.getElem?_eq_some_iff.1 ho).1
    have := h j (List.mem_range.2 hj)
    rw [ho] at this
    simp only [Bool.and_eq_true] at this
    obtain ⟨⟨h1, h2⟩, h3⟩ := this
    refine ⟨Nat.eq_of_beq_eq_true h1, fun e he hb => ?_, fun i p hp hne hc => ?_⟩
    · rw [List.all_eq_true] at h2
      have := h2 e he
      simpa [hb] using this
    · rw [List.all_eq_true] at h3
      have hi : i < ops.size := (Array.getElem?_eq_some_iff.1 hp).1
      have := h3 i (List.mem_range.2 hi)
      rw [hp, hc] at this
      have hb : Nat.beq i j = false := by
        cases hh : Nat.beq i j with
        | false => rfl
        | true => exact absurd (Nat.eq_of_beq_eq_true hh) hne
      rw [hb] at this
      simpa using this
  refine ⟨fun j o ho i => ?_, fun j o e ho he hb => (at_ j o ho).2.1 e he hb, fun i j o p ho hp hne hc d hd => ?_⟩
  · unfold preB
    rw [(at_ j o ho).1, bitB_eq]
    unfold maskOf
    rw [maskGo]
    simp [bitB_eq]
  · have := (at_ j o ho).2.2 i p hp hne hc
    unfold statPair at this
    rw [hd] at this
    simp only [Bool.and_eq_true, Bool.not_eq_true'] at this
    refine ⟨fun hm => ?_, fun he => ?_⟩
    · rw [← memB_iff] at hm
      rw [hm] at this
      exact absurd this.1 (by simp)
    · rw [he] at this
      have h2 := this.2
      simp at h2

section
variable {ops : Array Oper} {ms : List Nat}
theorem Stat.lt (S : Stat ops ms) : ∀ (j : Nat) o, ops[j]? = some o → ∀ i, preB ms j i = true → i < j := by
  intro j
  induction j using Nat.strongRecOn with
  | ind j ih =>
    intro o ho i hi
    obtain ⟨e, he, hb, h⟩ := (S.pre j o ho i).1 hi
    have hlt := S.back j o e ho he hb
    rcases h with rfl | h
    · exact hlt
    · have hj : j < ops.size := (Array.getElem?_eq_some_iff.1 ho).1
      have hs : ∃ o', ops[e.on]? = some o' := ⟨ops[e.on]'(by omega), Array.getElem?_eq_getElem (by omega)⟩
      obtain ⟨o', ho'⟩ := hs
      exact Nat.lt_trans (ih e.on hlt o' ho' i h) hlt
theorem Stat.trans (S : Stat ops ms) : ∀ (j : Nat) o, ops[j]? = some o → ∀ i k, preB ms j i = true → preB ms i k = true → preB ms j k = true := by
  intro j
  induction j using Nat.strongRecOn with
  | ind j ih =>
    intro o ho i k hi hk
    obtain ⟨e, he, hb, h⟩ := (S.pre j o ho i).1 hi
    have hlt := S.back j o e ho he hb
    rcases h with rfl | h
    · exact (S.pre j o ho k).2 ⟨e, he, hb, .inr hk⟩
    · have hj : j < ops.size := (Array.getElem?_eq_some_iff.1 ho).1
      have hs : ∃ o', ops[e.on]? = some o' := ⟨ops[e.on]'(by omega), Array.getElem?_eq_getElem (by omega)⟩
      obtain ⟨o', ho'⟩ := hs
      exact (S.pre j o ho k).2 ⟨e, he, hb, .inr (ih e.on hlt o' ho' i k h hk)⟩
/-- The operations that are listed: with each, those that come before it. -/
def Closed (ms : List Nat) (X : Nat → Prop) : Prop := ∀ j, X j → ∀ i, preB ms j i = true → X i
def LX (listed : Array Bool) : Nat → Prop := fun i => listed[i]? = some true
theorem getD_true {listed : Array Bool} {i : Nat} : listed.getD i false = true ↔ LX listed i := by
  unfold LX
  rw [Array.getD_eq_getD_getElem?]
  cases h : listed[i]? with
  | none => simp
  | some b => simp
theorem ready_pre (S : Stat ops ms) {listed : Array Bool} (hc : Closed ms (LX listed)) {i : Nat} (hi : i ∈ Region.ready .any ops listed) :
    ¬ LX listed i ∧ (∃ o, ops[i]? = some o) ∧ ∀ k, preB ms i k = true → LX listed k := by
  obtain ⟨h0, o, ho, hall⟩ := mem_ready.1 hi
  refine ⟨fun h => ?_, ⟨o, ho⟩, fun k hk => ?_⟩
  · unfold LX at h
    rw [Array.getD_eq_getD_getElem?, h] at h0
    simp at h0
  · obtain ⟨e, he, hb, h⟩ := (S.pre i o ho k).1 hk
    have h1 := getD_true.1 (hall e (by simpa using he) hb)
    rcases h with rfl | h
    · exact h1
    · exact hc _ h1 k h
theorem LX_set {listed : Array Bool} {i : Nat} (hi : i < listed.size) (k : Nat) : LX (listed.setIfInBounds i true) k ↔ LX listed k ∨ k = i := by
  unfold LX
  by_cases e : k = i
  · subst e
    rw [Array.getElem?_setIfInBounds_self_of_lt hi]
    simp
  · rw [Array.getElem?_setIfInBounds_ne (fun h => e h.symm)]
    simp [e]
theorem ready_nil (S : Stat ops ms) {listed : Array Bool} (hs : listed.size = ops.size) (hr : Region.ready .any ops listed = []) : ∀ i, i < ops.size → LX listed i := by
  intro i
  induction i using Nat.strongRecOn with
  | ind i ih =>
    intro hi
    cases hb : listed[i]? with
    | none =>
      rw [Array.getElem?_eq_none_iff] at hb
      omega
    | some b =>
      cases b with
      | true => exact hb
      | false =>
        have : i ∈ Region.ready .any ops listed := by
          rw [mem_ready]
          have ho : ops[i]? = some ops[i] := Array.getElem?_eq_getElem hi
          refine ⟨by rw [Array.getD_eq_getD_getElem?, hb]; rfl, ops[i], ho, fun e he hbd => ?_⟩
          have hlt := S.back i _ e ho (by simpa using he) hbd
          exact getD_true.2 (ih e.on hlt (by omega))
        rw [hr] at this
        cases this
end

/-! ### What an operation sees -/
theorem operands_congr {tm tm' : TM} : ∀ {l : List Operand}, (∀ x ∈ l, operand tm x = operand tm' x) → operands tm l = operands tm' l
  | [], _ => rfl
  | x :: l, h => by
    rw [operands_cons, operands_cons, h x (by simp), operands_congr (fun y hy => h y (List.mem_cons_of_mem _ hy))]
theorem optOp_congr {tm tm' : TM} {x : Option Operand} (h : ∀ y, x = some y → operand tm y = operand tm' y) : optOp tm x = optOp tm' x := by
  cases x with
  | none => rfl
  | some y => simp [optOp, h y rfl]
theorem opC_congr {P : Program} {call : CallA} {tm tm' : TM} {op : Op} (h : ∀ x ∈ op.operands.toList, operand tm x = operand tm' x) (H : AH) :
    (opC P call op).run tm H = (opC P call op).run tm' H := by
  cases op
  case call c =>
    obtain ⟨callee, args, argTypes⟩ := c
    have ha : operands tm args.toList = operands tm' args.toList := operands_congr fun x hx => h x (by
      show x ∈ (Call.operands _).toList
      unfold Call.operands
      rw [Array.toList_append]
      exact List.mem_append.2 (.inr hx))
    cases callee with
    | builtin b => simp only [opC, opCall]; rw [ha]
    | value f =>
      have hf : operand tm f = operand tm' f := h f (by
        show f ∈ (Call.operands _).toList
        unfold Call.operands
        simp)
      simp only [opC, opCall]
      rw [ha]
      unfold on1
      rw [hf]
    | invoke r m => rfl
  case build t ps =>
    have : operands tm (ps.toList.map (·.2)) = operands tm' (ps.toList.map (·.2)) := operands_congr fun x hx => h x (by simpa [Op.operands] using hx)
    simp only [opC, opA, opBuild]; rw [this]
  case buildSlice t n ps =>
    have : operands tm (ps.toList.map (·.2)) = operands tm' (ps.toList.map (·.2)) := operands_congr fun x hx => h x (by simpa [Op.operands] using hx)
    simp only [opC, opA, opBuildSlice]; rw [this]
  case makeFunc fn fs cs =>
    have h1 : operands tm fs.toList = operands tm' fs.toList := operands_congr fun x hx => h x (by simp [Op.operands]; exact .inl (by simpa using hx))
    have h2 : operands tm cs.toList = operands tm' cs.toList := operands_congr fun x hx => h x (by simp [Op.operands]; exact .inr (by simpa using hx))
    simp only [opC, opA, opMakeFunc]; rw [h1, h2]
  case makeMap t r =>
    cases r with
    | none => rfl
    | some r =>
      have h1 : operand tm r = operand tm' r := h r (by simp [Op.operands])
      simp only [opC, opA, opMakeMap]; rw [h1]
  case slice t x lo hi mx =>
    have h1 : operand tm x = operand tm' x := h x (by simp [Op.operands])
    have h2 : optOp tm lo = optOp tm' lo := optOp_congr fun y hy => h y (by simp [Op.operands, hy])
    have h3 : optOp tm hi = optOp tm' hi := optOp_congr fun y hy => h y (by simp [Op.operands, hy])
    have h4 : optOp tm mx = optOp tm' mx := optOp_congr fun y hy => h y (by simp [Op.operands, hy])
    simp only [opC, opA, opSlice]; rw [h1, h2, h3, h4]
  case next it s => cases s <;> simp [opC, opA, on1, Op.operands] at h ⊢ <;> rw [h]
  all_goals first
    | rfl
    | (simp only [Op.operands, List.mem_cons, List.not_mem_nil, or_false, forall_eq_or_imp, forall_eq] at h
       simp only [opC, opA, opMove, opPick, opBox, on1, on2, on3]
       first
         | rw [h]
         | rw [h.1, h.2]
         | rw [h.1, h.2.1, h.2.2])
end Go.Proofs.YtmeianaaiiiinaaGreat.Ev
namespace Go.Proofs.YtmeianaaiiiinaaGreat.Ev
open Go
set_option linter.unusedVariables false
set_option linter.unusedSimpArgs false

/-! ### Objects laid over others -/
theorem layIdK_eq {β : Type} (it : Item) (id : Nat) (t : T AObj) (k : T AObj → β) : layIdK it id t k = k (layIdK it id t (fun t => t)) := by
  unfold layIdK
  cases it.touch id with
  | false => rfl
  | true => cases it.R.get id <;> simp only [cond_true] <;> rw [T.put_k, T.put_k]
theorem layIdK_get (it : Item) (id : Nat) (t : T AObj) (m : Nat) : (layIdK it id t (fun t => t)).get m = if m = id ∧ it.touch m = true then it.R.get m else t.get m := by
  unfold layIdK
  cases hh : it.touch id with
  | false =>
    simp only [cond_false]
    rw [if_neg]
    rintro ⟨rfl, h⟩
    rw [hh] at h; cases h
  | true =>
    simp only [cond_true]
    cases ho : it.R.get id <;> simp only [T.put_k] <;> rw [T.get_put] <;> by_cases e : m = id <;> simp [e, hh, ho]
theorem layNewK_eq {β : Type} (it : Item) : ∀ (n : Nat) (t : T AObj) (k : T AObj → β), layNewK it n t k = k (layNewK it n t (fun t => t))
  | 0, t, k => rfl
  | n + 1, t, k => by
    show layIdK it (it.c + n) t (fun t => layNewK it n t k) = k (layIdK it (it.c + n) t (fun t => layNewK it n t fun t => t))
    rw [layIdK_eq (k := fun t => layNewK it n t k), layIdK_eq (k := fun t => layNewK it n t fun t => t), layNewK_eq it n]
theorem layNewK_get (it : Item) (m : Nat) : ∀ (n : Nat) (t : T AObj), (layNewK it n t (fun t => t)).get m = if (it.c ≤ m ∧ m < it.c + n) ∧ it.touch m = true then it.R.get m else t.get m
  | 0, t => by
    show t.get m = _
    rw [if_neg]
    rintro ⟨⟨h1, h2⟩, _⟩
    omega
  | n + 1, t => by
    show (layIdK it (it.c + n) t (fun t => layNewK it n t fun t => t)).get m = _
    rw [layIdK_eq, layNewK_get it m n, layIdK_get]
    by_cases ht : it.touch m = true
    · by_cases e : m = it.c + n
      · subst e
        rw [if_pos (show it.c + n = it.c + n ∧ it.touch (it.c + n) = true from ⟨rfl, ht⟩)]
        rw [if_pos (show (it.c ≤ it.c + n ∧ it.c + n < it.c + (n + 1)) ∧ it.touch (it.c + n) = true from ⟨⟨by omega, by omega⟩, ht⟩)]
        split <;> rfl
      · rw [if_neg (show ¬ (m = it.c + n ∧ it.touch m = true) from fun h => e h.1)]
        by_cases hr : it.c ≤ m ∧ m < it.c + n
        · rw [if_pos ⟨hr, ht⟩, if_pos ⟨⟨hr.1, by omega⟩, ht⟩]
        · rw [if_neg (fun h => hr h.1), if_neg (fun h => hr ⟨h.1.1, by omega⟩)]
    · rw [if_neg (fun h => ht h.2), if_neg (fun h => ht h.2), if_neg (fun h => ht h.2)]
theorem layOldK_eq {β : Type} (it : Item) : ∀ (l : List Nat) (t : T AObj) (k : T AObj → β), layOldK it l t k = k (layOldK it l t (fun t => t))
  | [], t, k => rfl
  | id :: l, t, k => by
    show layIdK it id t (fun t => layOldK it l t k) = k (layIdK it id t (fun t => layOldK it l t fun t => t))
    rw [layIdK_eq (k := fun t => layOldK it l t k), layIdK_eq (k := fun t => layOldK it l t fun t => t), layOldK_eq it l]
theorem layOldK_get (it : Item) (m : Nat) : ∀ (l : List Nat) (t : T AObj), (layOldK it l t (fun t => t)).get m = if m ∈ l ∧ it.touch m = true then it.R.get m else t.get m
  | [], t => by
    show t.get m = _
    simp
  | id :: l, t => by
    show (layIdK it id t (fun t => layOldK it l t fun t => t)).get m = _
    rw [layIdK_eq, layOldK_get it m l, layIdK_get]
    by_cases ht : it.touch m = true
    · by_cases e : m = id
      · subst e
        simp [ht]
      · simp [ht, e]
    · simp [ht]
theorem touch_iff (it : Item) (m : Nat) : it.touch m = true ↔ (it.c ≤ m ∧ m < it.R.next) ∨ (m ∈ it.R.dirty ∧ (it.S.get m).isSome = true) := by
  unfold Item.touch
  rw [Bool.or_eq_true, Bool.and_eq_true, Bool.and_eq_true, memB_iff]
  simp
/-- What one operation leaves, upon what those before it have left. -/
noncomputable def layV (it : Item) (t : T AObj) : T AObj := layOldK it it.R.dirty (layNewK it (it.R.next - it.c) t (fun t => t)) (fun t => t)
theorem layV_get (it : Item) (t : T AObj) (m : Nat) : (layV it t).get m = if it.touch m = true then it.R.get m else t.get m := by
  unfold layV
  rw [layOldK_get, layNewK_get]
  by_cases ht : it.touch m = true
  · rcases (touch_iff it m).1 ht with h | h
    · by_cases hd : m ∈ it.R.dirty
      · simp [ht, hd]
      · rw [if_neg (fun h => hd h.1), if_pos ⟨⟨h.1, by omega⟩, ht⟩, if_pos ht]
    · rw [if_pos ⟨h.1, ht⟩, if_pos ht]
  · simp [ht]
noncomputable def curV (it : Item) (b : Bool) (cur : T AObj) : T AObj := bif b then it.R.objs else layV it cur
theorem curK_eq {β : Type} (it : Item) (b : Bool) (cur : T AObj) (k : T AObj → β) : curK it b cur k = k (curV it b cur) := by
  unfold curK curV layV
  cases b with
  | true => rfl
  | false =>
    simp only [cond_false]
    rw [layNewK_eq, layOldK_eq]
theorem objAt_nil (h0 : AH) (X : Nat → Bool) (id : Nat) : objAt h0 X [] id = h0.get id := rfl
theorem objAt_cons (h0 : AH) (X : Nat → Bool) (it : Item) (l : List Item) (id : Nat) : objAt h0 X (it :: l) id = bif X it.j && it.touch id then it.R.get id else objAt h0 X l id := rfl
theorem layAllK_eq {β : Type} (X : Nat → Bool) : ∀ (l : List Item) (t : T AObj) (k : T AObj → β), layAllK X l t k = k (layAllK X l t (fun t => t))
  | [], t, k => rfl
  | it :: l, t, k => by
    show layAllK X l t (fun t => bif X it.j then layNewK it (it.R.next - it.c) t fun t => layOldK it it.R.dirty t k else k t) =
      k (layAllK X l t (fun t => bif X it.j then layNewK it (it.R.next - it.c) t fun t => layOldK it it.R.dirty t fun t => t else t))
    rw [layAllK_eq X l, layAllK_eq X l (k := fun t => bif X it.j then layNewK it (it.R.next - it.c) t fun t => layOldK it it.R.dirty t fun t => t else t)]
    cases X it.j with
    | false => rfl
    | true =>
      simp only [cond_true]
      rw [layNewK_eq, layOldK_eq]
      rw [layNewK_eq (k := fun t => layOldK it it.R.dirty t fun t => t)]
theorem layAllK_get (h0 : AH) (X : Nat → Bool) (m : Nat) : ∀ (l : List Item), (layAllK X l h0.objs (fun t => t)).get m = objAt h0 X l m
  | [] => rfl
  | it :: l => by
    show (layAllK X l h0.objs (fun t => bif X it.j then layNewK it (it.R.next - it.c) t fun t => layOldK it it.R.dirty t fun t => t else t)).get m = _
    rw [layAllK_eq, objAt_cons, ← layAllK_get h0 X m l]
    cases X it.j with
    | false => rfl
    | true =>
      simp only [cond_true, Bool.true_and]
      rw [layNewK_eq]
      show (layV it _).get m = _
      rw [layV_get]
      cases it.touch m <;> rfl
theorem allX_iff (X : Nat → Bool) : ∀ (l : List Item), allX X l = true ↔ ∀ it ∈ l, X it.j = true
  | [] => by simp [allX]
  | it :: l => by
    show (bif X it.j then allX X l else false) = true ↔ _
    have := allX_iff X l
    cases h : X it.j with
    | false => simp [h]
    | true => simp [h, this]

/-! ### The data -/
/-- What stands before an operation. -/
structure Pt where
  tm : TM
  cur : T AObj
  items : List Item
  c : Nat
/-- What it came to. -/
structure Vl where
  b : Bool
  v : AV
  S : AH
  R : AH
def itemOf (D : Nat → Pt) (W : Nat → Vl) (j : Nat) : Item := ⟨j, (D j).c, (W j).S, (W j).R⟩
structure StepOk (P : Program) (call : CallA) (nt : Nat) (ops : Array Oper) (ms : List Nat) (h0 : AH) (o : Oper) (j : Nat) (d : Pt) (w : Vl) (d' : Pt) : Prop where
  snext : w.S.next = d.c
  sbase : w.S.base = d.c
  sdirty : w.S.dirty = []
  run : ((∀ g want, o.guard = some (g, want) → guardA ops d.tm g want = some true) ∧ (opC P call o.op).run d.tm w.S = some [(w.v, w.R)]) ∨
    ((∃ g want, o.guard = some (g, want) ∧ guardA ops d.tm g want = some false) ∧ w.v = .undef ∧ w.R = w.S ∧ w.b = false)
  sobj : (w.b = true ∧ (∀ it ∈ d.items, preB ms j it.j = true) ∧ w.S.objs = d.cur) ∨ (w.b = false ∧ ∀ id x, w.S.get id = some x → objAt h0 (preB ms j) d.items id = some x)
  tm : (o.dst = none ∧ d'.tm = d.tm) ∨ ∃ t, o.dst = some t ∧ t < nt ∧ d'.tm = d.tm.put t (some w.v)
  c : d'.c = w.R.next
  le : d.c ≤ w.R.next
  cur : d'.cur = curV ⟨j, d.c, w.S, w.R⟩ w.b d.cur
  items : d'.items = pushI w.b ⟨j, d.c, w.S, w.R⟩ d.items

theorem T.get_one {α : Type} (id : Nat) (v : Option α) (m : Nat) : ((T.nil : T α).put id v).get m = if m = id then v else none := by
  rw [T.get_put]
  split
  · rfl
  · exact T.get_nil m
theorem AH.get_nil (c : Nat) (m : Nat) (l : List Nat) (b : Nat) : (⟨.nil, c, b, l⟩ : AH).get m = none := T.get_nil m
theorem startK_some {β : Type} {h0 : AH} {cur : T AObj} {X : Nat → Bool} {items : List Item} {c : Nat} {d : Dom} : ∃ b S, (∀ k : Bool → AH → β, startK h0 cur X items c d k = k b S) ∧ S.next = c ∧ S.base = c ∧ S.dirty = [] ∧
    ((b = true ∧ (∀ it ∈ items, X it.j = true) ∧ S.objs = cur) ∨ (b = false ∧ ∀ id x, S.get id = some x → objAt h0 X items id = some x)) := by
  unfold startK
  cases d with
  | empty => exact ⟨false, _, fun k => rfl, rfl, rfl, rfl, .inr ⟨rfl, fun id x hx => by rw [AH.get_nil] at hx; cases hx⟩⟩
  | one id =>
    simp only [T.put_k]
    refine ⟨false, _, fun k => rfl, rfl, rfl, rfl, .inr ⟨rfl, fun m x hx => ?_⟩⟩
    have : (T.put .nil id (objAt h0 X items id)).get m = some x := hx
    rw [T.get_one] at this
    split at this
    · rename_i e; rw [e]; exact this
    · cases this
  | all =>
    simp only
    cases ha : allX X items with
    | true => exact ⟨true, _, fun k => rfl, rfl, rfl, rfl, .inl ⟨rfl, (allX_iff X items).1 ha, rfl⟩⟩
    | false =>
      refine ⟨false, _, fun k => layAllK_eq X items h0.objs _, rfl, rfl, rfl, .inr ⟨rfl, fun m x hx => ?_⟩⟩
      have : (layAllK X items h0.objs (fun t => t)).get m = some x := hx
      rw [layAllK_get] at this
      exact this
theorem putD_some {β : Type} {nt : Nat} {tm : TM} {d : Option Tmp} {v : AV} {c : TM → Option β} {out : β} (hp : putD nt tm d v c = some out) :
    (d = none ∧ c tm = some out) ∨ ∃ t, d = some t ∧ t < nt ∧ c (tm.put t (some v)) = some out := by
  unfold putD at hp
  cases d with
  | none => exact .inl ⟨rfl, hp⟩
  | some t =>
    simp only at hp
    cases hb : Nat.blt t nt with
    | false => rw [hb] at hp; cases hp
    | true =>
      rw [hb] at hp
      simp only [cond_true, AV.force_eq, T.put_k] at hp
      exact .inr ⟨t, rfl, by simpa using hb, hp⟩
section
variable {P : Program} {call : CallA} {nt : Nat} {ops : Array Oper} {ms : List Nat} {h0 : AH}
theorem drawPut_some {β : Type} {dst : Option Tmp} {j : Nat} {next : CloD β} {tm : TM} {cur : T AObj} {items : List Item} {c : Nat} {k : TM → T AObj → List Item → Nat → Option β} {b : Bool} {v : AV} {S R : AH} {out : β}
    (h : drawPut nt dst j next h0 tm cur items c k b v S R = some out) : ∃ d' : Pt, ((dst = none ∧ d'.tm = tm) ∨ ∃ t, dst = some t ∧ t < nt ∧ d'.tm = tm.put t (some v)) ∧ d'.c = R.next ∧ c ≤ R.next ∧ d'.cur = curV ⟨j, c, S, R⟩ b cur ∧
      d'.items = pushI b ⟨j, c, S, R⟩ items ∧ next.run h0 d'.tm d'.cur d'.items d'.c k = some out := by
  unfold drawPut at h
  have fin : ∀ tm', (forceN R.next fun c' => bif Nat.ble c c' then curK ⟨j, c, S, R⟩ b cur fun cur => next.run h0 tm' cur (pushI b ⟨j, c, S, R⟩ items) c' k else none) = some out →
      c ≤ R.next ∧ next.run h0 tm' (curV ⟨j, c, S, R⟩ b cur) (pushI b ⟨j, c, S, R⟩ items) R.next k = some out := by
    intro tm' h
    rw [forceN_eq, curK_eq] at h
    cases hb : Nat.ble c R.next with
    | false => rw [hb] at h; cases h
    | true => rw [hb] at h; exact ⟨Nat.le_of_ble_eq_true hb, h⟩
  rcases putD_some h with ⟨hd, h⟩ | ⟨t, hd, ht, h⟩
  · obtain ⟨h1, h2⟩ := fin _ h
    exact ⟨⟨tm, _, _, _⟩, .inl ⟨hd, rfl⟩, rfl, h1, rfl, rfl, h2⟩
  · obtain ⟨h1, h2⟩ := fin _ h
    exact ⟨⟨_, _, _, _⟩, .inr ⟨t, hd, ht, rfl⟩, rfl, h1, rfl, rfl, h2⟩
theorem drawRun_some {β : Type} {op : CloM} {run : Clo} {X : Nat → Bool} {cur : T AObj} {tm : TM} {items : List Item} {c : Nat} {k : Bool → AV → AH → AH → Option β} {out : β} (h : drawRun op run X h0 cur tm items c k = some out) :
    ∃ w : Vl, w.S.next = c ∧ w.S.base = c ∧ w.S.dirty = [] ∧ run.run tm w.S = some [(w.v, w.R)] ∧ ((w.b = true ∧ (∀ it ∈ items, X it.j = true) ∧ w.S.objs = cur) ∨ (w.b = false ∧ ∀ id x, w.S.get id = some x → objAt h0 X items id = some x)) ∧
      k w.b w.v w.S w.R = some out := by
  unfold drawRun at h
  obtain ⟨b, S, h1, h2, h3, h4, h5⟩ := startK_some (h0 := h0) (cur := cur) (X := X) (items := items) (c := c) (d := op.run tm) (β := Option β)
  rw [h1] at h
  split at h
  · rename_i v R hr
    rw [AH.force_eq] at h
    exact ⟨⟨b, v, S, R⟩, h2, h3, h4, hr, h5, h⟩
  · cases h
theorem drawStep_some {β : Type} {o : Oper} {j : Nat} {next : CloD β} {tm : TM} {cur : T AObj} {items : List Item} {c : Nat} {k : TM → T AObj → List Item → Nat → Option β} {out : β}
    (h : (drawStep P call nt ops ms o j next).run h0 tm cur items c k = some out) : ∃ w d', StepOk P call nt ops ms h0 o j ⟨tm, cur, items, c⟩ w d' ∧ next.run h0 d'.tm d'.cur d'.items d'.c k = some out := by
  obtain ⟨dst, op, type, pos, after, guard⟩ := o
  have go : (∀ g want, guard = some (g, want) → guardA ops tm g want = some true) → drawRun (domOf op) (opC P call op) (preB ms j) h0 cur tm items c (drawPut nt dst j next h0 tm cur items c k) = some out →
      ∃ w d', StepOk P call nt ops ms h0 ⟨dst, op, type, pos, after, guard⟩ j ⟨tm, cur, items, c⟩ w d' ∧ next.run h0 d'.tm d'.cur d'.items d'.c k = some out := by
    intro hg h
    obtain ⟨w, h1, h2, h3, h4, h5, h6⟩ := drawRun_some h
    obtain ⟨d', g1, g2, g3, g4, g5, g6⟩ := drawPut_some h6
    exact ⟨w, d', ⟨h1, h2, h3, .inl ⟨hg, h4⟩, h5, g1, g2, g3, g4, g5⟩, g6⟩
  cases guard with
  | none => exact go (fun g want e => by cases e) h
  | some gw =>
    obtain ⟨g, want⟩ := gw
    have h' : (match guardA ops tm g want with
      | some true => drawRun (domOf op) (opC P call op) (preB ms j) h0 cur tm items c (drawPut nt dst j next h0 tm cur items c k)
      | some false => drawPut nt dst j next h0 tm cur items c k false .undef ⟨.nil, c, c, []⟩ ⟨.nil, c, c, []⟩
      | none => none) = some out := h
    cases hg : guardA ops tm g want with
    | none => rw [hg] at h'; cases h'
    | some b =>
      rw [hg] at h'
      cases b with
      | true => exact go (fun g' want' e => by cases e; exact hg) h'
      | false =>
        obtain ⟨d', g1, g2, g3, g4, g5, g6⟩ := drawPut_some h'
        exact ⟨⟨false, .undef, ⟨.nil, c, c, []⟩, ⟨.nil, c, c, []⟩⟩, d', ⟨rfl, rfl, rfl, .inr ⟨⟨g, want, rfl, hg⟩, rfl, rfl, rfl⟩, .inr ⟨rfl, fun id x hx => by rw [AH.get_nil] at hx; cases hx⟩, g1, g2, g3, g4, g5⟩, g6⟩
theorem drawGo_some {β : Type} {k : TM → T AObj → List Item → Nat → Option β} {out : β} : ∀ (l : List Oper) (j : Nat) (d : Pt), (drawGo P call nt ops ms l j).run h0 d.tm d.cur d.items d.c k = some out →
    ∃ (D : Nat → Pt) (W : Nat → Vl), D j = d ∧ (∀ i (o : Oper), l[i]? = some o → StepOk P call nt ops ms h0 o (j + i) (D (j + i)) (W (j + i)) (D (j + i + 1))) ∧ k (D (j + l.length)).tm (D (j + l.length)).cur (D (j + l.length)).items (D (j + l.length)).c = some out
  | [], j, d, h => ⟨fun _ => d, fun _ => ⟨false, .undef, ⟨.nil, 0, 0, []⟩, ⟨.nil, 0, 0, []⟩⟩, rfl, fun i o ho => by simp at ho, h⟩
  | o :: l, j, d, h => by
    have h' : (drawStep P call nt ops ms o j (drawGo P call nt ops ms l (j + 1))).run h0 d.tm d.cur d.items d.c k = some out := by
      have e : (drawStep P call nt ops ms o j (forceN (Nat.succ j) fun j' => drawGo P call nt ops ms l j')).run h0 d.tm d.cur d.items d.c k = some out := h
      rw [forceN_eq] at e
      exact e
    obtain ⟨w, d', h1, h2⟩ := drawStep_some h'
    obtain ⟨D, W, g1, g2, g3⟩ := drawGo_some l (j + 1) d' h2
    refine ⟨fun i => if i ≤ j then d else D i, fun i => if i ≤ j then w else W i, by simp, fun i x hx => ?_, ?_⟩
    · cases i with
      | zero =>
        simp at hx
        subst hx
        simp only [Nat.add_zero, Nat.le_refl, if_true]
        rw [if_neg (by omega), g1]
        exact h1
      | succ i =>
        have hx' : l[i]? = some x := by simpa using hx
        have := g2 i x hx'
        simp only
        rw [if_neg (by omega), if_neg (by omega), if_neg (by omega)]
        rw [show j + (i + 1) = j + 1 + i from by omega]
        exact this
    · simp only
      rw [if_neg (by simp)]
      rw [show j + (o :: l).length = j + 1 + l.length from by simp; omega]
      exact g3
end
end Go.Proofs.YtmeianaaiiiinaaGreat.Ev
