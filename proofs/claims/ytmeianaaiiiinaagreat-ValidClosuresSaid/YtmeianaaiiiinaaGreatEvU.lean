/- Regions that draw their order: which operation left what. -/
import Derived.Test.YtmeianaaiiiinaaGreatEvR
namespace Go.Proofs.YtmeianaaiiiinaaGreat.Ev
open Go
set_option linter.unusedVariables false
set_option linter.unusedSimpArgs false
set_option linter.all false

noncomputable def tch (D : Nat → Pt) (W : Nat → Vl) (j id : Nat) : Bool := (itemOf D W j).touch id
/-- What the evaluator found of such a region. -/
structure Run (P : Program) (call : CallA) (nt : Nat) (ops : Array Oper) (ms : List Nat) (h0 : AH) (tm0 : TM) (D : Nat → Pt) (W : Nat → Vl) : Prop where
  st : Stat ops ms
  zero : D 0 = ⟨tm0, h0.objs, [], h0.next⟩
  step : ∀ j o, ops[j]? = some o → StepOk P call nt ops ms h0 o j (D j) (W j) (D (j + 1))
  dyn : dynB ms (D ops.size).items = true

theorem pushI_cases (b : Bool) (it : Item) (l : List Item) : pushI b it l = it :: l ∨ (pushI b it l = l ∧ b = false ∧ it.S.objs = .nil ∧ it.R.next = it.c ∧ it.R.dirty = []) := by
  unfold pushI
  cases b with
  | true => exact .inl rfl
  | false =>
    simp only
    cases ho : it.S.objs with
    | node l v r => exact .inl rfl
    | nil =>
      simp only
      cases hb : Nat.beq it.R.next it.c with
      | false => exact .inl rfl
      | true =>
        simp only [cond_true]
        cases hd : it.R.dirty with
        | nil => exact .inr (by refine ⟨?_, ?_, ?_, ?_, ?_⟩ <;> first | rfl | trivial | exact Nat.eq_of_beq_eq_true hb)
        | cons x l => exact .inl rfl

noncomputable def allR {α : Type} (p : α → Bool) (l : List α) : Bool := List.rec true (fun a _ ih => bif p a then ih else false) l
theorem allR_iff {α : Type} (p : α → Bool) : ∀ (l : List α), allR p l = true ↔ ∀ a ∈ l, p a = true
  | [] => by simp [allR]
  | a :: l => by
    show (bif p a then allR p l else false) = true ↔ _
    have := allR_iff p l
    cases h : p a with
    | false => simp [h]
    | true => simp [h, this]
theorem dynB_mem {ms : List Nat} {l : List Item} (h : dynB ms l = true) {a b : Item} (ha : a ∈ l) (hb : b ∈ l) : a.j = b.j ∨ cmpB ms a.j b.j = true ∨ ∀ id ∈ a.R.dirty, (a.S.get id).isSome = true → b.S.get id = none := by
  have h1 : allR (fun a => match a.R.dirty with
    | [] => true
    | _ => allR (dynPair ms a) l) l = true := h
  have h2 := (allR_iff _ l).1 h1 a ha
  cases hd : a.R.dirty with
  | nil => exact .inr (.inr fun id hm => by cases hm)
  | cons x r =>
    simp only [hd] at h2
    have h3 := (allR_iff _ l).1 h2 b hb
    unfold dynPair at h3
    rw [Bool.or_eq_true, Bool.or_eq_true] at h3
    rcases h3 with (h3 | h3) | h3
    · exact .inl (Nat.eq_of_beq_eq_true h3)
    · exact .inr (.inl h3)
    · refine .inr (.inr fun id hm hs => ?_)
      cases ho : b.S.objs with
      | nil =>
        show b.S.objs.get id = none
        rw [ho]; exact T.get_nil id
      | node l1 v1 r1 =>
        have h4 : allR (fun id => match a.S.get id with
          | none => true
          | some _ => match b.S.get id with
            | none => true
            | some _ => false) a.R.dirty = true := by
          simp only [ho] at h3
          exact h3
        have h5 := (allR_iff _ _).1 h4 id (hd ▸ hm)
        cases hA : a.S.get id with
        | none => rw [hA] at hs; cases hs
        | some o =>
          cases hB : b.S.get id with
          | none => rfl
          | some o2 => simp [hA, hB] at h5

section
variable {P : Program} {call : CallA} {nt : Nat} {ops : Array Oper} {ms : List Nat} {h0 : AH} {tm0 : TM} {D : Nat → Pt} {W : Nat → Vl}
theorem op_at {j : Nat} (h : j < ops.size) : ∃ o, ops[j]? = some o := ⟨ops[j], Array.getElem?_eq_getElem h⟩
theorem Run.next (R : Run P call nt ops ms h0 tm0 D W) {j : Nat} (h : j < ops.size) : (D (j + 1)).c = (W j).R.next ∧ (D j).c ≤ (W j).R.next := by
  obtain ⟨o, ho⟩ := op_at h
  exact ⟨(R.step j o ho).c, (R.step j o ho).le⟩
theorem Run.mono (R : Run P call nt ops ms h0 tm0 D W) : ∀ (k : Nat) {i : Nat}, i ≤ k → k ≤ ops.size → (D i).c ≤ (D k).c
  | 0, i, h, _ => by
    have : i = 0 := by omega
    rw [this]; exact Nat.le_refl _
  | k + 1, i, h, hk => by
    rcases Nat.lt_or_ge i (k + 1) with h1 | h1
    · have h2 := R.mono k (i := i) (by omega) (by omega)
      have h3 := R.next (j := k) (by omega)
      omega
    · have : i = k + 1 := by omega
      rw [this]; exact Nat.le_refl _
theorem Run.c0 (R : Run P call nt ops ms h0 tm0 D W) {k : Nat} (hk : k ≤ ops.size) : h0.next ≤ (D k).c := by
  have := R.mono k (i := 0) (by omega) hk
  rw [R.zero] at this
  exact this
theorem Run.nextLe (R : Run P call nt ops ms h0 tm0 D W) {m k : Nat} (h : m < k) (hk : k ≤ ops.size) : (W m).R.next ≤ (D k).c := by
  rw [← (R.next (j := m) (by omega)).1]
  exact R.mono k (by omega) hk
/-- The new numbers of two operations are not the same. -/
theorem Run.apart (R : Run P call nt ops ms h0 tm0 D W) {i j id : Nat} (hi : i < ops.size) (hj : j < ops.size) (h1 : (D i).c ≤ id) (h2 : id < (W i).R.next) (h3 : (D j).c ≤ id) (h4 : id < (W j).R.next) : i = j := by
  rcases Nat.lt_trichotomy i j with h | h | h
  · have := R.nextLe h (by omega); omega
  · exact h
  · have := R.nextLe h (by omega); omega
theorem Run.item_mem (R : Run P call nt ops ms h0 tm0 D W) : ∀ (k : Nat), k ≤ ops.size → ∀ it ∈ (D k).items, it.j < k ∧ it = itemOf D W it.j
  | 0, _, it, h => by rw [R.zero] at h; cases h
  | k + 1, hk, it, h => by
    obtain ⟨o, ho⟩ := op_at (ops := ops) (j := k) (by omega)
    rw [(R.step k o ho).items] at h
    have old : it ∈ (D k).items → it.j < k + 1 ∧ it = itemOf D W it.j := fun h => by
      obtain ⟨h1, h2⟩ := R.item_mem k (by omega) it h
      exact ⟨by omega, h2⟩
    rcases pushI_cases (W k).b ⟨k, (D k).c, (W k).S, (W k).R⟩ (D k).items with e | ⟨e, _⟩
    · rw [e] at h
      rcases List.mem_cons.1 h with rfl | h
      · exact ⟨Nat.lt_succ_self k, rfl⟩
      · exact old h
    · rw [e] at h; exact old h
theorem Run.mem_item (R : Run P call nt ops ms h0 tm0 D W) : ∀ (k : Nat), k ≤ ops.size → ∀ (m : Nat), m < k → itemOf D W m ∈ (D k).items ∨ ((W m).b = false ∧ (W m).S.objs = .nil ∧ (W m).R.next = (D m).c ∧ (W m).R.dirty = [])
  | 0, _, m, h => by omega
  | k + 1, hk, m, h => by
    obtain ⟨o, ho⟩ := op_at (ops := ops) (j := k) (by omega)
    rw [(R.step k o ho).items]
    by_cases e : m = k
    · subst e
      rcases pushI_cases (W m).b ⟨m, (D m).c, (W m).S, (W m).R⟩ (D m).items with e | ⟨e, h1, h2, h3, h4⟩
      · rw [e]; exact .inl (List.mem_cons_self ..)
      · exact .inr ⟨h1, h2, h3, h4⟩
    · rcases R.mem_item k (by omega) m (by omega) with h1 | h1
      · refine .inl ?_
        rcases pushI_cases (W k).b ⟨k, (D k).c, (W k).S, (W k).R⟩ (D k).items with e | ⟨e, _⟩
        · rw [e]; exact List.mem_cons_of_mem _ h1
        · rw [e]; exact h1
      · exact .inr h1
theorem quiet {m : Nat} (h : (W m).b = false ∧ (W m).S.objs = .nil ∧ (W m).R.next = (D m).c ∧ (W m).R.dirty = []) (id : Nat) : tch D W m id = false ∧ (W m).S.get id = none := by
  refine ⟨?_, ?_⟩
  · cases ht : tch D W m id with
    | false => rfl
    | true =>
      rcases (touch_iff _ _).1 ht with h1 | h1
      · have h2 : (D m).c ≤ id ∧ id < (W m).R.next := h1
        omega
      · have h2 : id ∈ (W m).R.dirty := h1.1
        rw [h.2.2.2] at h2; cases h2
  · show (W m).S.objs.get id = none
    rw [h.2.1]; exact T.get_nil id
theorem tch_iff (m id : Nat) : tch D W m id = true ↔ ((D m).c ≤ id ∧ id < (W m).R.next) ∨ (id ∈ (W m).R.dirty ∧ ((W m).S.get id).isSome = true) := touch_iff _ _
/-- What one changed, another that is not before or after it was not given. -/
theorem Run.dyn' (R : Run P call nt ops ms h0 tm0 D W) {i j : Nat} (hi : i < ops.size) (hj : j < ops.size) (hne : i ≠ j) (hc : cmpB ms i j = false) {id : Nat} (hd : id ∈ (W i).R.dirty) (hs : ((W i).S.get id).isSome = true) : (W j).S.get id = none := by
  rcases R.mem_item _ (Nat.le_refl _) i hi with h1 | h1
  · rcases R.mem_item _ (Nat.le_refl _) j hj with h2 | h2
    · rcases dynB_mem R.dyn h1 h2 with h | h | h
      · exact absurd h hne
      · have : cmpB ms i j = true := h
        rw [hc] at this; cases this
      · exact h id hd hs
    · exact (quiet h2 id).2
  · rw [(quiet (D := D) h1 id).2] at hs; cases hs

/-! ### The last that touched an object; the last that gave a temporary its value -/
open Classical in
/-- The object at a number after the listed ones among the first operations, and a bound of the numbers in it. -/
noncomputable def objN (h0 : AH) (D : Nat → Pt) (W : Nat → Vl) (X : Nat → Prop) (id : Nat) : Nat → Nat × Option AObj
  | 0 => (h0.next, h0.get id)
  | j + 1 => if X j ∧ tch D W j id = true then ((W j).R.next, (W j).R.get id) else objN h0 D W X id j
open Classical in
noncomputable def valN (ops : Array Oper) (tm0 : TM) (h0 : AH) (W : Nat → Vl) (X : Nat → Prop) (t : Tmp) : Nat → Nat × Option AV
  | 0 => (h0.next, tm0.get t)
  | j + 1 => if X j ∧ (ops[j]?).bind (·.dst) = some t then ((W j).R.next, some (W j).v) else valN ops tm0 h0 W X t j

theorem objN_congr {X Y : Nat → Prop} {id : Nat} : ∀ (n : Nat), (∀ k, k < n → tch D W k id = true → (X k ↔ Y k)) → objN h0 D W X id n = objN h0 D W Y id n
  | 0, _ => rfl
  | n + 1, h => by
    unfold objN
    rw [objN_congr n (fun k hk => h k (by omega))]
    by_cases ht : tch D W n id = true
    · have := h n (by omega) ht
      by_cases hx : X n
      · rw [if_pos ⟨hx, ht⟩, if_pos ⟨this.1 hx, ht⟩]
      · rw [if_neg (fun h => hx h.1), if_neg (fun h => hx (this.2 h.1))]
    · rw [if_neg (fun h => ht h.2), if_neg (fun h => ht h.2)]
theorem objN_more {X : Nat → Prop} {id i : Nat} : ∀ (n : Nat), i ≤ n → (∀ k, i ≤ k → k < n → X k → tch D W k id = false) → objN h0 D W X id n = objN h0 D W X id i
  | 0, h, _ => by
    have : i = 0 := by omega
    rw [this]
  | n + 1, h, hk => by
    rcases Nat.lt_or_ge i (n + 1) with h1 | h1
    · have := objN_more n (by omega) (fun k a b => hk k a (by omega))
      rw [← this]
      show objN h0 D W X id (n + 1) = objN h0 D W X id n
      rw [objN]
      rw [if_neg]
      rintro ⟨hx, ht⟩
      rw [hk n (by omega) (by omega) hx] at ht
      cases ht
    · have : i = n + 1 := by omega
      rw [this]
theorem objN_none {X : Nat → Prop} {id : Nat} (n : Nat) (h : ∀ k, k < n → X k → tch D W k id = false) : objN h0 D W X id n = (h0.next, h0.get id) :=
  objN_more n (Nat.zero_le _) (fun k _ hk hx => h k hk hx)
theorem objN_last {X : Nat → Prop} {id m n : Nat} (hm : m < n) (hx : X m) (ht : tch D W m id = true) (h : ∀ k, m < k → k < n → X k → tch D W k id = false) : objN h0 D W X id n = ((W m).R.next, (W m).R.get id) := by
  rw [objN_more n hm (fun k a b => h k (by omega) b)]
  rw [objN, if_pos ⟨hx, ht⟩]
theorem objN_cases {X : Nat → Prop} {id : Nat} : ∀ (n : Nat), (∀ k, k < n → X k → tch D W k id = false) ∨ ∃ m, m < n ∧ X m ∧ tch D W m id = true ∧ ∀ k, m < k → k < n → X k → tch D W k id = false
  | 0 => .inl fun k hk => by omega
  | n + 1 => by
    by_cases h : X n ∧ tch D W n id = true
    · exact .inr ⟨n, by omega, h.1, h.2, fun k a b => by omega⟩
    · have hn : X n → tch D W n id = false := fun hx => by
        cases ht : tch D W n id with
        | false => rfl
        | true => exact absurd ⟨hx, ht⟩ h
      rcases objN_cases (X := X) (id := id) n with h1 | ⟨m, h1, h2, h3, h4⟩
      · refine .inl fun k hk hx => ?_
        by_cases e : k = n
        · subst e; exact hn hx
        · exact h1 k (by omega) hx
      · refine .inr ⟨m, by omega, h2, h3, fun k a b hx => ?_⟩
        by_cases e : k = n
        · subst e; exact hn hx
        · exact h4 k a (by omega) hx
theorem valN_congr {X Y : Nat → Prop} {t : Tmp} : ∀ (n : Nat), (∀ k, k < n → (ops[k]?).bind (·.dst) = some t → (X k ↔ Y k)) → valN ops tm0 h0 W X t n = valN ops tm0 h0 W Y t n
  | 0, _ => rfl
  | n + 1, h => by
    unfold valN
    rw [valN_congr n (fun k hk => h k (by omega))]
    by_cases ht : (ops[n]?).bind (·.dst) = some t
    · have := h n (by omega) ht
      by_cases hx : X n
      · rw [if_pos ⟨hx, ht⟩, if_pos ⟨this.1 hx, ht⟩]
      · rw [if_neg (fun h => hx h.1), if_neg (fun h => hx (this.2 h.1))]
    · rw [if_neg (fun h => ht h.2), if_neg (fun h => ht h.2)]
theorem valN_more {X : Nat → Prop} {t : Tmp} {i : Nat} : ∀ (n : Nat), i ≤ n → (∀ k, i ≤ k → k < n → X k → (ops[k]?).bind (·.dst) ≠ some t) → valN ops tm0 h0 W X t n = valN ops tm0 h0 W X t i
  | 0, h, _ => by
    have : i = 0 := by omega
    rw [this]
  | n + 1, h, hk => by
    rcases Nat.lt_or_ge i (n + 1) with h1 | h1
    · have := valN_more n (by omega) (fun k a b => hk k a (by omega))
      rw [← this]
      rw [valN]
      rw [if_neg]
      rintro ⟨hx, ht⟩
      exact hk n (by omega) (by omega) hx ht
    · have : i = n + 1 := by omega
      rw [this]
theorem valN_last {X : Nat → Prop} {t : Tmp} {m n : Nat} (hm : m < n) (hx : X m) (ht : (ops[m]?).bind (·.dst) = some t) (h : ∀ k, m < k → k < n → X k → (ops[k]?).bind (·.dst) ≠ some t) : valN ops tm0 h0 W X t n = ((W m).R.next, some (W m).v) := by
  rw [valN_more n hm (fun k a b => h k (by omega) b)]
  rw [valN, if_pos ⟨hx, ht⟩]
theorem Run.objN_le (R : Run P call nt ops ms h0 tm0 D W) {X : Nat → Prop} {id : Nat} : ∀ (n : Nat), n ≤ ops.size → (objN h0 D W X id n).1 ≤ (D n).c
  | 0, _ => by rw [R.zero]; exact Nat.le_refl _
  | n + 1, hn => by
    rw [objN]
    split
    · rw [(R.next (j := n) (by omega)).1]; exact Nat.le_refl _
    · have := R.objN_le (X := X) (id := id) n (by omega)
      have h2 := R.mono (n + 1) (i := n) (by omega) hn
      omega
theorem Run.valN_le (R : Run P call nt ops ms h0 tm0 D W) {X : Nat → Prop} {t : Tmp} : ∀ (n : Nat), n ≤ ops.size → (valN ops tm0 h0 W X t n).1 ≤ (D n).c
  | 0, _ => by rw [R.zero]; exact Nat.le_refl _
  | n + 1, hn => by
    rw [valN]
    split
    · rw [(R.next (j := n) (by omega)).1]; exact Nat.le_refl _
    · have := R.valN_le (X := X) (t := t) n (by omega)
      have h2 := R.mono (n + 1) (i := n) (by omega) hn
      omega
theorem Run.tm_at (R : Run P call nt ops ms h0 tm0 D W) (t : Tmp) : ∀ (n : Nat), n ≤ ops.size → (D n).tm.get t = (valN ops tm0 h0 W (fun _ => True) t n).2
  | 0, _ => by rw [R.zero]; rfl
  | n + 1, hn => by
    obtain ⟨o, ho⟩ := op_at (ops := ops) (j := n) (by omega)
    rw [valN]
    have hd : (ops[n]?).bind (·.dst) = o.dst := by rw [ho]; rfl
    rw [hd]
    rcases (R.step n o ho).tm with ⟨h1, h2⟩ | ⟨d, h1, _, h2⟩
    · rw [h2, h1, if_neg (by rintro ⟨_, h⟩; cases h)]
      exact R.tm_at t n (by omega)
    · rw [h2, h1, T.get_put]
      by_cases e : t = d
      · subst e; simp
      · rw [if_neg e, if_neg (by rintro ⟨_, h⟩; cases h; exact e rfl)]
        exact R.tm_at t n (by omega)
theorem Run.objAt_at (R : Run P call nt ops ms h0 tm0 D W) (X : Nat → Bool) (id : Nat) : ∀ (n : Nat), n ≤ ops.size → objAt h0 X (D n).items id = (objN h0 D W (fun k => X k = true) id n).2
  | 0, _ => by rw [R.zero]; rfl
  | n + 1, hn => by
    obtain ⟨o, ho⟩ := op_at (ops := ops) (j := n) (by omega)
    rw [(R.step n o ho).items]
    rw [objN]
    have ih := R.objAt_at X id n (by omega)
    rcases pushI_cases (W n).b ⟨n, (D n).c, (W n).S, (W n).R⟩ (D n).items with e | ⟨e, h1, h2, h3, h4⟩
    · rw [e, objAt_cons]
      show (bif X n && tch D W n id then (W n).R.get id else _) = _
      rw [ih]
      cases X n <;> cases tch D W n id <;> simp
    · rw [e, ih, if_neg]
      rintro ⟨_, ht⟩
      rw [(quiet (W := W) (m := n) ⟨h1, h2, h3, h4⟩ id).1] at ht
      cases ht
/-- An operation left as it was what it did not touch. -/
def Left (D : Nat → Pt) (W : Nat → Vl) (m : Nat) : Prop := ∀ id, tch D W m id = false → (W m).R.get id = (W m).S.get id
theorem Run.cur_at (R : Run P call nt ops ms h0 tm0 D W) (id : Nat) : ∀ (n : Nat), n ≤ ops.size → (∀ m, m < n → itemOf D W m ∈ (D n).items → Left D W m) → (D n).cur.get id = (objN h0 D W (fun _ => True) id n).2
  | 0, _, _ => by rw [R.zero]; rfl
  | n + 1, hn, hl => by
    obtain ⟨o, ho⟩ := op_at (ops := ops) (j := n) (by omega)
    have S := R.step n o ho
    have keep : ∀ it, it ∈ (D n).items → it ∈ (D (n + 1)).items := fun it h => by
      rw [S.items]
      rcases pushI_cases (W n).b ⟨n, (D n).c, (W n).S, (W n).R⟩ (D n).items with e | ⟨e, _⟩
      · rw [e]; exact List.mem_cons_of_mem _ h
      · rw [e]; exact h
    have ih := R.cur_at id n (by omega) (fun m hm h => hl m (by omega) (keep _ h))
    rw [S.cur, objN]
    unfold curV
    cases hb : (W n).b with
    | true =>
      simp only [cond_true]
      have hS : (W n).S.objs = (D n).cur := by
        rcases S.sobj with ⟨_, _, h⟩ | ⟨h, _⟩
        · exact h
        · rw [hb] at h; cases h
      show (W n).R.get id = _
      by_cases ht : tch D W n id = true
      · rw [if_pos ⟨trivial, ht⟩]
      · rw [if_neg (fun h => ht h.2), ← ih]
        have hmem : itemOf D W n ∈ (D (n + 1)).items := by
          rw [S.items]
          rcases pushI_cases (W n).b ⟨n, (D n).c, (W n).S, (W n).R⟩ (D n).items with e | ⟨e, h1, _⟩
          · rw [e]; exact List.mem_cons_self ..
          · rw [hb] at h1; cases h1
        rw [hl n (by omega) hmem id (by simpa using ht)]
        show (W n).S.objs.get id = _
        rw [hS]
    | false =>
      simp only [cond_false]
      rw [layV_get]
      show (if tch D W n id = true then (W n).R.get id else _) = _
      by_cases ht : tch D W n id = true
      · rw [if_pos ht, if_pos ⟨trivial, ht⟩]
      · rw [if_neg ht, if_neg (fun h => ht h.2), ih]
/-- The objects that an operation is given are those that the ones before it have left. -/
theorem Run.given (R : Run P call nt ops ms h0 tm0 D W) {i : Nat} (hi : i < ops.size) (hl : ∀ m, preB ms i m = true → Left D W m) {id : Nat} {x : AObj} (hx : (W i).S.get id = some x) :
    (objN h0 D W (fun k => preB ms i k = true) id i).2 = some x := by
  obtain ⟨o, ho⟩ := op_at hi
  rcases (R.step i o ho).sobj with ⟨hb, hall, hS⟩ | ⟨hb, hS⟩
  · have hmem : ∀ m, m < i → itemOf D W m ∈ (D i).items → preB ms i m = true := fun m hm h => hall _ h
    have h1 : (D i).cur.get id = some x := by rw [← hS]; exact hx
    rw [R.cur_at id i (by omega) (fun m hm h => hl m (hmem m hm h))] at h1
    rw [← h1]
    refine congrArg Prod.snd (objN_congr i (fun k hk ht => ⟨fun _ => trivial, fun _ => ?_⟩))
    rcases R.mem_item i (by omega) k hk with h | h
    · exact hmem k hk h
    · rw [(quiet h id).1] at ht; cases ht
  · rw [← R.objAt_at (preB ms i) id i (by omega)]
    exact hS id x hx
end
end Go.Proofs.YtmeianaaiiiinaaGreat.Ev
