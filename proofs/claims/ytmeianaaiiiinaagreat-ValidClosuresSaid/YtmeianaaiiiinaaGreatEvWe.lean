/- The logic, continued: maps whose keys are strings. -/
import Derived.Test.YtmeianaaiiiinaaGreatEvWd
namespace Go.Proofs.YtmeianaaiiiinaaGreat.Ev
open Go
set_option linter.unusedVariables false
set_option linter.unusedSimpArgs false
set_option linter.all false
noncomputable section

theorem bytesEq_eq : ∀ (x y : List UInt8), bytesEq x y = true ↔ x = y
  | [], [] => by simp [bytesEq]
  | [], b :: y => by simp [bytesEq]
  | a :: x, [] => by simp [bytesEq]
  | a :: x, b :: y => by
    simp only [bytesEq, Bool.and_eq_true, bytesEq_eq x y, List.cons.injEq]
    constructor
    · rintro ⟨h, rfl⟩
      exact ⟨UInt8.toNat_inj.1 (Nat.eq_of_beq_eq_true h), rfl⟩
    · rintro ⟨rfl, rfl⟩
      exact ⟨by rw [beq_tf]; simp, rfl⟩
theorem strEq_eq {a b : ByteArray} : strEq a b = true ↔ a = b := by
  unfold strEq
  rw [bytesEq_eq]
  constructor
  · intro h
    obtain ⟨⟨a⟩⟩ := a
    obtain ⟨⟨b⟩⟩ := b
    simp at h
    rw [h]
  · rintro rfl; rfl
theorem strEq_self (a : ByteArray) : strEq a a = true := strEq_eq.2 rfl
theorem strEq_ne {a b : ByteArray} (h : a ≠ b) : strEq a b = false := by
  cases e : strEq a b with
  | false => rfl
  | true => exact absurd (strEq_eq.1 e) h
theorem strEq_dec (a b : ByteArray) : strEq a b = decide (a = b) := by
  by_cases h : a = b
  · simp [h, strEq_self]
  · simp [h, strEq_ne h]

/-- A map's entries. -/
abbrev Ents := List (ByteArray × AV × Nat)
def esS (l : Ents) : List (AV × AV × Nat) := l.map fun e => (.str e.1, e.2.1, e.2.2)
def lookK (k : ByteArray) : Ents → Option AV
  | [] => none
  | e :: l => if k = e.1 then some e.2.1 else lookK k l
/-- The entries behind a store: the old place, or a new entry with the clock's number. -/
def updK (k : ByteArray) (v : AV) (c : Nat) : Ents → Ents
  | [] => [(k, v, c)]
  | e :: l => if k = e.1 then (e.1, v, e.2.2) :: l else e :: updK k v c l
def hasK (k : ByteArray) : Ents → Bool
  | [] => false
  | e :: l => if k = e.1 then true else hasK k l
theorem lookK_upd (k : ByteArray) (v : AV) (c : Nat) (j : ByteArray) : ∀ (l : Ents), lookK j (updK k v c l) = if j = k then some v else lookK j l
  | [] => by
    simp only [updK, lookK]
  | e :: l => by
    unfold updK
    by_cases h : k = e.1
    · rw [if_pos h]
      simp only [lookK]
      by_cases h2 : j = e.1
      · simp [h2, h]
      · rw [if_neg h2, if_neg h2, if_neg (by rw [h]; exact h2)]
    · rw [if_neg h]
      simp only [lookK]
      by_cases h2 : j = e.1
      · rw [if_pos h2, if_pos h2, if_neg (by rw [h2]; exact fun e => h e.symm)]
      · rw [if_neg h2, if_neg h2, lookK_upd k v c j l]
theorem hasK_look (k : ByteArray) : ∀ (l : Ents), hasK k l = (lookK k l).isSome
  | [] => rfl
  | e :: l => by
    unfold hasK lookK
    by_cases h : k = e.1
    · simp [h]
    · rw [if_neg h, if_neg h, hasK_look k l]

/-- What is asked of a map's key type. -/
structure SKey (P : Program) (t kt et : TypeId) : Prop where
  u : P.underlying t = some (.map kt et)
  eq : ∀ a b, keyEq P kt (.str a) (.str b) = some (strEq a b)
  fits : ∀ a, keyFits P kt (.str a) = true
section
variable {P : Program} {t kt et : TypeId} {h : AH}
theorem findA_str (S : SKey P t kt et) (k : ByteArray) : ∀ (l : Ents) (i : Nat), (findA P kt (.str k) (esS l) i = some none ∧ lookK k l = none) ∨ ∃ j b, findA P kt (.str k) (esS l) i = some (some (i + j, (lookK k l).getD .undef)) ∧ l[j]? = some (k, (lookK k l).getD .undef, b) ∧ (lookK k l).isSome
  | [], i => .inl ⟨rfl, rfl⟩
  | e :: l, i => by
    have e1 : findA P kt (.str k) (esS (e :: l)) i = match keyEq P kt (.str k) (.str e.1) with
      | some true => some (some (i, e.2.1))
      | some false => findA P kt (.str k) (esS l) (i + 1)
      | none => none := rfl
    rw [e1, S.eq]
    by_cases hk : k = e.1
    · right
      refine ⟨0, e.2.2, ?_⟩
      have : lookK k (e :: l) = some e.2.1 := by simp [lookK, hk]
      rw [this, hk, strEq_self]
      exact ⟨rfl, rfl, rfl⟩
    · rw [strEq_ne hk]
      have e2 : lookK k (e :: l) = lookK k l := by simp [lookK, hk]
      rw [e2]
      rcases findA_str S k l (i + 1) with h1 | ⟨j, b, h1, h2, h3⟩
      · exact .inl h1
      · exact .inr ⟨j + 1, b, by simp only [h1]; congr 3; omega, by simpa using h2, h3⟩
theorem setEntry_str (k : ByteArray) (v : AV) (c : Nat) : ∀ (l : Ents) (j : Nat) (x : AV) (b : Nat), l[j]? = some (k, x, b) → (∀ i, i < j → ∀ e, l[i]? = some e → k ≠ e.1) → setEntry (esS l) j v = esS (updK k v c l)
  | e :: l, 0, x, b, h, _ => by
    have h' : e = (k, x, b) := by simpa using h
    subst h'
    simp [updK, setEntry, esS]
  | e :: l, j + 1, x, b, h, hn => by
    have hk : k ≠ e.1 := hn 0 (by omega) e rfl
    have ih := setEntry_str k v c l j x b (by simpa using h) (fun i hi e' he => hn (i + 1) (by omega) e' (by simpa using he))
    have e1 : esS (updK k v c (e :: l)) = (.str e.1, e.2.1, e.2.2) :: esS (updK k v c l) := by simp [updK, hk, esS]
    rw [e1, ← ih]
    rfl
theorem findA_first (S : SKey P t kt et) (k : ByteArray) : ∀ (l : Ents) (i j : Nat) (x : AV), findA P kt (.str k) (esS l) i = some (some (i + j, x)) → ∀ m, m < j → ∀ e, l[m]? = some e → k ≠ e.1
  | [], i, j, x, h => by cases h
  | e :: l, i, j, x, h => by
    have e1 : findA P kt (.str k) (esS (e :: l)) i = match keyEq P kt (.str k) (.str e.1) with
      | some true => some (some (i, e.2.1))
      | some false => findA P kt (.str k) (esS l) (i + 1)
      | none => none := rfl
    rw [e1, S.eq] at h
    by_cases hk : k = e.1
    · rw [hk, strEq_self] at h
      have : i = i + j := by
        have := Option.some.inj (Option.some.inj h)
        exact congrArg Prod.fst this
      intro m hm; omega
    · rw [strEq_ne hk] at h
      simp only at h
      intro m hm e' he
      cases m with
      | zero =>
        have : e = e' := by simpa using he
        rw [← this]; exact hk
      | succ m =>
        cases j with
        | zero => omega
        | succ j =>
          exact findA_first S k l (i + 1) j x (by rw [h]; congr 3; omega) m (by omega) e' (by simpa using he)
theorem updK_none (k : ByteArray) (v : AV) (c : Nat) : ∀ (l : Ents), lookK k l = none → esS (updK k v c l) = esS l ++ [(.str k, v, c)]
  | [], _ => rfl
  | e :: l, h => by
    unfold lookK at h
    by_cases hk : k = e.1
    · rw [if_pos hk] at h; cases h
    · rw [if_neg hk] at h
      have e1 : esS (updK k v c (e :: l)) = (.str e.1, e.2.1, e.2.2) :: esS (updK k v c l) := by simp [updK, hk, esS]
      rw [e1, updK_none k v c l h]
      rfl
/-- A look-up. -/
theorem lookup_str (S : SKey P t kt et) {id : Nat} {l : Ents} {c : Nat} (hg : h.get id = some (.mp (esS l) c)) (k : ByteArray) {z : AV} (hz : zeroOf P et = some z) :
    lookupA P h t (.map id) (.str k) false = some ((lookK k l).getD z) := by
  unfold lookupA mapOf
  rw [S.u]
  simp only [hg, S.fits, if_true]
  rcases findA_str S k l 0 with ⟨h1, h2⟩ | ⟨j, b, h1, h2, h3⟩
  · rw [h1, hz, h2]; rfl
  · rw [h1]
    obtain ⟨x, hx⟩ := Option.isSome_iff_exists.1 h3
    rw [hx]
    rfl
theorem lookup_ok_str (S : SKey P t kt et) {id : Nat} {l : Ents} {c : Nat} (hg : h.get id = some (.mp (esS l) c)) (k : ByteArray) {z : AV} (hz : zeroOf P et = some z) :
    lookupA P h t (.map id) (.str k) true = some (.tuple [(lookK k l).getD z, .bool (lookK k l).isSome]) := by
  unfold lookupA mapOf
  rw [S.u]
  simp only [hg, S.fits, if_true]
  rcases findA_str S k l 0 with ⟨h1, h2⟩ | ⟨j, b, h1, h2, h3⟩
  · rw [h1, hz, h2]; rfl
  · rw [h1]
    obtain ⟨x, hx⟩ := Option.isSome_iff_exists.1 h3
    rw [hx]
    rfl
/-- A store; the clock goes on where the key is new. -/
def clkK (k : ByteArray) (l : Ents) (c : Nat) : Nat := if (lookK k l).isSome then c else c + 1
theorem update_str (S : SKey P t kt et) {id : Nat} {l : Ents} {c : Nat} (hg : h.get id = some (.mp (esS l) c)) (k : ByteArray) (v : AV) :
    mapUpdateA P h t (.map id) (.str k) v = some (h.set id (.mp (esS (updK k v c l)) (clkK k l c))) := by
  unfold mapUpdateA clkK
  rw [S.u]
  simp only [hg, S.fits, if_true]
  rcases findA_str S k l 0 with ⟨h1, h2⟩ | ⟨j, b, h1, h2, h3⟩
  · rw [h1, h2, updK_none k v c l h2]; rfl
  · rw [h1]
    have hj : (esS l)[0 + j]? = some (.str k, (lookK k l).getD .undef, b) := by
      rw [Nat.zero_add]
      unfold esS
      rw [List.getElem?_map, h2]
      rfl
    simp only [hj]
    have hs : sameA (.str k) (.str k) = true := strEq_self k
    rw [hs]
    simp only [if_true]
    rw [h3, Nat.zero_add]
    simp only [if_true]
    rw [setEntry_str k v c l j _ b h2 (findA_first S k l 0 j _ h1)]
end
end
end Go.Proofs.YtmeianaaiiiinaaGreat.Ev
