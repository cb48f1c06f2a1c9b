/- Plain definitions on lists: the length of a longest common subsequence, the matching that it gives, and the merge of two lists over a base. -/
namespace Go.Proofs.Ytebhophblgpjeaa.Seq

section
variable {α : Type} [DecidableEq α]

/-- One row of lengths: for x ahead of a list whose row is r. -/
def lcsRow (x : α) : List α → List Nat → List Nat
  | y :: ys, r => (if x = y then (r.drop 1).headD 0 + 1 else max (r.headD 0) ((lcsRow x ys (r.drop 1)).headD 0)) :: lcsRow x ys (r.drop 1)
  | [], _ => [0]

/-- The lengths for a list and each tail of another one. -/
def lcsRows : List α → List α → List Nat
  | [], ys => List.replicate (ys.length + 1) 0
  | x :: xs, ys => lcsRow x ys (lcsRows xs ys)

/-- The length of a longest common subsequence. -/
def lcs (a b : List α) : Nat := (lcsRows a b).headD 0

/-- The pairs of places that are matched, from the places i and k on; n bounds the steps. -/
def mtFrom : Nat → List α → List α → Nat → Nat → List (Nat × Nat)
  | 0, _, _, _, _ => []
  | _ + 1, [], _, _, _ => []
  | _ + 1, _ :: _, [], _, _ => []
  | n + 1, x :: xs, y :: ys, i, k =>
    if x = y then (i, k) :: mtFrom n xs ys (i + 1) (k + 1)
    else if lcs xs (y :: ys) = lcs (x :: xs) (y :: ys) then mtFrom n xs (y :: ys) (i + 1) k
    else mtFrom n (x :: xs) ys i (k + 1)

def mt (a b : List α) : List (Nat × Nat) := mtFrom (a.length + b.length) a b 0 0

def isShort (l : List α) : Bool := decide (l.length ≤ 2000)

def commonV (a b : List α) : List α :=
  if isShort a && isShort b then (mt a b).filterMap (fun p => a[p.1]?) else []

/-- The places that both lists keep. -/
def stables (m n : List (Nat × Nat)) : List (Nat × Nat × Nat) :=
  m.filterMap fun p => (n.find? (fun q => q.1 == p.1)).map fun q => (p.1, p.2, q.2)

/-- The merged chunk. -/
def chunk (b o t : List α) : Option (List α) :=
  if o = b then some t else if t = b then some o else if t = o then some o else none

def cutOf (l : List α) (i j : Nat) : List α := (l.drop i).take (j - i)

def mergeGo (base ours theirs : List α) : List (Nat × Nat × Nat) → Nat → Nat → Nat → List α → Option (List α)
  | [], _, _, _, out => some out
  | (b, o, t) :: rest, i, j, k, out =>
    match chunk (cutOf base i b) (cutOf ours j o) (cutOf theirs k t) with
    | none => none
    | some part => mergeGo base ours theirs rest (b + 1) (o + 1) (t + 1) (out ++ part ++ (base[b]?).toList)

def mergeO (base ours theirs : List α) : Option (List α) :=
  if isShort base && isShort ours && isShort theirs then
    mergeGo base ours theirs (stables (mt base ours) (mt base theirs) ++ [(base.length, ours.length, theirs.length)]) 0 0 0 []
  else none

def mergeV (base ours theirs : List α) : List α × Bool :=
  match mergeO base ours theirs with
  | none => ([], false)
  | some l => (l, true)
end

/-! ### What the lengths are -/
section
variable {α : Type} [DecidableEq α]
theorem lcsRow_drop (x y : α) (ys : List α) (r : List Nat) : (lcsRow x (y :: ys) r).drop 1 = lcsRow x ys (r.drop 1) := by
  simp [lcsRow]
theorem lcsRows_drop (xs : List α) : ∀ (y : α) (ys : List α), (lcsRows xs (y :: ys)).drop 1 = lcsRows xs ys := by
  induction xs with
  | nil => intro y ys; simp [lcsRows, List.replicate_succ]
  | cons x xs ih => intro y ys; simp only [lcsRows]; rw [lcsRow_drop, ih]
theorem lcs_nil (b : List α) : lcs ([] : List α) b = 0 := by
  simp [lcs, lcsRows, List.replicate_succ]
theorem lcs_nil' (a : List α) : lcs a ([] : List α) = 0 := by
  cases a <;> simp [lcs, lcsRows, lcsRow]
theorem lcs_cons (x y : α) (xs ys : List α) : lcs (x :: xs) (y :: ys) = if x = y then lcs xs ys + 1 else max (lcs xs (y :: ys)) (lcs (x :: xs) ys) := by
  have h := lcsRows_drop xs y ys
  simp only [lcs, lcsRows, lcsRow, List.headD_cons]
  rw [h]
theorem lcs_le (a : List α) : ∀ b : List α, lcs a b ≤ a.length ∧ lcs a b ≤ b.length := by
  induction a with
  | nil => intro b; rw [lcs_nil]; simp
  | cons x xs ih =>
    intro b
    induction b with
    | nil => rw [lcs_nil']; simp
    | cons y ys ihb =>
      rw [lcs_cons]
      have h1 := ih ys
      have h2 := ih (y :: ys)
      simp only [List.length_cons] at *
      split <;> omega
/-- A step of the matching. -/
theorem mtFrom_nil (n : Nat) (a : List α) (i k : Nat) : mtFrom n a ([] : List α) i k = [] := by
  cases n <;> cases a <;> rfl
theorem mtFrom_nil' (n : Nat) (b : List α) (i k : Nat) : mtFrom n ([] : List α) b i k = [] := by
  cases n <;> rfl
/-- Each pair of a matching. -/
theorem mtFrom_mem (n : Nat) : ∀ (a b : List α) (i k : Nat) (p : Nat × Nat), p ∈ mtFrom n a b i k → i ≤ p.1 ∧ p.1 < i + a.length ∧ k ≤ p.2 ∧ p.2 < k + b.length ∧ a[p.1 - i]? = b[p.2 - k]? := by
  induction n with
  | zero => intro a b i k p h; simp [mtFrom] at h
  | succ n ih =>
    intro a b i k p h
    cases a with
    | nil => simp [mtFrom] at h
    | cons x xs =>
      cases b with
      | nil => simp [mtFrom] at h
      | cons y ys =>
        simp only [mtFrom] at h
        split at h
        · rename_i hxy
          subst hxy
          rcases List.mem_cons.1 h with rfl | h
          · simp
          · have := ih _ _ _ _ _ h
            simp only [List.length_cons]
            refine ⟨by omega, by omega, by omega, by omega, ?_⟩
            have h5 := this.2.2.2.2
            rw [show p.1 - i = (p.1 - (i + 1)) + 1 by omega, show p.2 - k = (p.2 - (k + 1)) + 1 by omega]
            simpa using h5
        · split at h
          · have := ih _ _ _ _ _ h
            simp only [List.length_cons] at *
            refine ⟨by omega, by omega, by omega, by omega, ?_⟩
            rw [show p.1 - i = (p.1 - (i + 1)) + 1 by omega]
            simpa using this.2.2.2.2
          · have := ih _ _ _ _ _ h
            simp only [List.length_cons] at *
            refine ⟨by omega, by omega, by omega, by omega, ?_⟩
            rw [show p.2 - k = (p.2 - (k + 1)) + 1 by omega]
            simpa using this.2.2.2.2
end
end Go.Proofs.Ytebhophblgpjeaa.Seq
