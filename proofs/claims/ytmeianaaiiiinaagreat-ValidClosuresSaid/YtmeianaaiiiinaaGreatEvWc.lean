/- The logic, continued: what each operation comes to, as equations. -/
import Derived.Test.YtmeianaaiiiinaaGreatEvWb
namespace Go.Proofs.YtmeianaaiiiinaaGreat.Ev
open Go
set_option linter.unusedVariables false
set_option linter.unusedSimpArgs false
set_option linter.all false
noncomputable section

theorem getL_if {α : Type} (d e : Nat) (v : α) (l : List (Nat × α)) : getL ((d, v) :: l) e = if d = e then some v else getL l e := by
  rw [getL_cons, beq_tf]
  by_cases h : d = e <;> simp [h]
def e1 {β : Type} (E : Env) (x : Operand) (f : AV → Option β) : Option β :=
  match opE E x with
  | some v => f v
  | none => none
theorem on1_e (E : Env) (x : Operand) (f : AV → Outs (AV × AH)) : on1 (tmE E) x f = e1 E x f := by
  unfold on1 e1; rw [opE_eq]; rfl
theorem on2_e (E : Env) (x y : Operand) (f : AV → AV → Outs (AV × AH)) : on2 (tmE E) x y f = e1 E x fun u => e1 E y fun v => f u v := by
  unfold on2 e1; rw [opE_eq, opE_eq]; rfl
theorem on3_e (E : Env) (x y z : Operand) (f : AV → AV → AV → Outs (AV × AH)) : on3 (tmE E) x y z f = e1 E x fun u => e1 E y fun v => e1 E z fun w => f u v w := by
  unfold on3 e1; rw [opE_eq, opE_eq, opE_eq]; rfl
theorem e1_of {β : Type} {E : Env} {x : Operand} {v : AV} (h : opE E x = some v) (f : AV → Option β) : e1 E x f = f v := by simp [e1, h]

section
variable {P : Program} {call : CallA} {E : Env} {h : AH}
theorem run_move (x : Operand) : (opC P call (.move x)).run (tmE E) h = e1 E x fun v => some [(v, h)] := by
  show opMove (tmE E) h x = _
  unfold opMove e1; rw [opE_eq]
  cases opE E x <;> rfl
theorem run_assign (x : Operand) : (opC P call (.assign x)).run (tmE E) h = e1 E x fun v => some [(v, h)] := by
  show opMove (tmE E) h x = _
  unfold opMove e1; rw [opE_eq]
  cases opE E x <;> rfl
theorem run_picks {c a b : Operand} : (opC P call (.pick c a b)).run (tmE E) h = e1 E c fun c => match c with
    | .bool true => e1 E a fun v => some [(v, h)]
    | .bool false => e1 E b fun v => some [(v, h)]
    | _ => none := by
  show opPick (tmE E) h c a b = _
  unfold opPick e1
  simp only [opE_eq]
  cases hc : opE E c with
  | none => rfl
  | some v => cases v <;> try rfl
              rename_i b'
              cases b'
              · cases opE E b <;> rfl
              · cases opE E a <;> rfl
theorem run_alloc (e : TypeId) : (opC P call (.alloc e)).run (tmE E) h = match zeroOf P e with
    | some z => some [(.ptr h.next 0, h.new (.row e z.cells false))]
    | none => none := rfl
theorem run_box (e : TypeId) (x : Operand) : (opC P call (.box e x)).run (tmE E) h = e1 E x fun v => some [(.ptr h.next 0, h.new (.row e v.cells false))] := by
  show opBox (tmE E) h e x = _
  unfold opBox e1; rw [opE_eq]; rfl
theorem run_load (t : TypeId) (a : Operand) : (opC P call (.load t a)).run (tmE E) h = e1 E a fun a => val1 h (loadA P h t a) := on1_e _ _ _
theorem run_store (t : TypeId) (a x : Operand) : (opC P call (.store t a x)).run (tmE E) h = e1 E a fun a => e1 E x fun x => val3 (storeA P h t a x) := on2_e _ _ _ _
theorem run_nilCheck (x : Operand) : (opC P call (.nilCheck x)).run (tmE E) h = e1 E x (nilCheckA h) := on1_e _ _ _
theorem run_binOp (op : BinOp) (t : TypeId) (x y : Operand) (s : TypeId) : (opC P call (.binOp op t x y s)).run (tmE E) h = e1 E x fun x => e1 E y fun y => val1 h (binA P op t x y) := on2_e _ _ _ _
theorem run_unOp (op : UnOp) (t : TypeId) (x : Operand) : (opC P call (.unOp op t x)).run (tmE E) h = e1 E x fun x => val1 h (unA op x) := on1_e _ _ _
theorem run_convert (s d : TypeId) (x : Operand) : (opC P call (.convert s d x)).run (tmE E) h = e1 E x fun x => val1 h (convA P s d x) := on1_e _ _ _
theorem run_makeSlice (t : TypeId) (l c : Operand) : (opC P call (.makeSlice t l c)).run (tmE E) h = e1 E l fun l => e1 E c fun c => val2 (makeSliceA P h t l c) := on2_e _ _ _ _
theorem run_fieldAddr (s : TypeId) (x : Operand) (f : Nat) : (opC P call (.fieldAddr s x f)).run (tmE E) h = e1 E x fun x => val1 h (fieldAddrA P s x f) := on1_e _ _ _
theorem run_field (s : TypeId) (x : Operand) (f : Nat) : (opC P call (.field s x f)).run (tmE E) h = e1 E x fun x => val1 h (fieldA P s x f) := on1_e _ _ _
theorem run_indexAddr (t : TypeId) (x i : Operand) : (opC P call (.indexAddr t x i)).run (tmE E) h = e1 E x fun x => e1 E i fun i => val1 h (indexAddrA P t x i) := on2_e _ _ _ _
theorem run_index (t : TypeId) (x i : Operand) : (opC P call (.index t x i)).run (tmE E) h = e1 E x fun x => e1 E i fun i => val1 h (indexA P t x i) := on2_e _ _ _ _
theorem run_lookup (t : TypeId) (x i : Operand) (ok : Bool) : (opC P call (.lookup t x i ok)).run (tmE E) h = e1 E x fun x => e1 E i fun i => val1 h (lookupA P h t x i ok) := on2_e _ _ _ _
theorem run_mapUpdate (t : TypeId) (m k v : Operand) : (opC P call (.mapUpdate t m k v)).run (tmE E) h = e1 E m fun m => e1 E k fun k => e1 E v fun v => val3 (mapUpdateA P h t m k v) := on3_e _ _ _ _ _
theorem run_insert (t : TypeId) (m k v : Operand) : (opC P call (.insert t m k v)).run (tmE E) h = e1 E m fun m => e1 E k fun k => e1 E v fun v => val3 (mapUpdateA P h t m k v) := on3_e _ _ _ _ _
theorem run_mapEntry (t : TypeId) (m k : Operand) : (opC P call (.mapEntry t m k)).run (tmE E) h = e1 E m fun m => e1 E k fun k => val2 (mapEntryA P h t m k) := on2_e _ _ _ _
theorem run_entryStore (t : TypeId) (m s v : Operand) : (opC P call (.entryStore t m s v)).run (tmE E) h = e1 E m fun m => e1 E s fun s => e1 E v fun v => val3 (entryStoreA h m s v) := on3_e _ _ _ _ _
theorem run_range (t : TypeId) (x : Operand) : (opC P call (.range t x)).run (tmE E) h = e1 E x fun x => val2 (rangeA P h t x) := on1_e _ _ _
theorem run_next (it : Operand) : (opC P call (.next it false)).run (tmE E) h = e1 E it (nextA h) := on1_e _ _ _
theorem run_entry (it : Operand) : (opC P call (.entry it)).run (tmE E) h = e1 E it fun x => val1 h (entryA h x) := on1_e _ _ _
theorem run_extract (x : Operand) (i : Nat) : (opC P call (.extract x i)).run (tmE E) h = e1 E x (extractA h i) := on1_e _ _ _
def eO (E : Env) : Option Operand → Option (Option AV)
  | none => some none
  | some x => (opE E x).map some
theorem optOp_e (x : Option Operand) : optOp (tmE E) x = eO E x := by
  cases x with
  | none => rfl
  | some x => simp only [optOp, eO, opE_eq]
theorem run_slice (t : TypeId) (x : Operand) (lo hi mx : Option Operand) : (opC P call (.slice t x lo hi mx)).run (tmE E) h = e1 E x fun x => match eO E lo with
    | some lo => match eO E hi with
      | some hi => match eO E mx with
        | some mx => val1 h (sliceA P t x lo hi mx)
        | none => none
      | none => none
    | none => none := by
  show opSlice P (tmE E) h t x lo hi mx = _
  unfold opSlice e1
  simp only [opE_eq, optOp_e]
  rfl
def eS (E : Env) (l : List Operand) (f : List AV → Outs (AV × AH)) : Outs (AV × AH) :=
  match opsE E l with
  | some vs => f vs
  | none => none
theorem run_builtin (b : Builtin) (args : Array Operand) (ts : Array TypeId) : (opC P call (.call ⟨.builtin b, args, ts⟩)).run (tmE E) h = eS E args.toList fun vs => val2 (builtinA P h b ts.toList vs) := by
  show (match operands (tmE E) args.toList with
    | some vs => val2 (builtinA P h b ts.toList vs)
    | none => none) = _
  rw [opsE_eq]; rfl
theorem run_build (t : TypeId) (ps : Array (Nat × Operand)) : (opC P call (.build t ps)).run (tmE E) h = eS E (ps.toList.map (·.2)) fun vs => val1 h (buildA P t (zipParts ps.toList vs)) := by
  show opBuild P (tmE E) h t ps = _
  unfold opBuild
  rw [opsE_eq]; rfl
theorem run_buildSlice (t : TypeId) (n : Nat) (ps : Array (Nat × Operand)) : (opC P call (.buildSlice t n ps)).run (tmE E) h = eS E (ps.toList.map (·.2)) fun vs => val2 (buildSliceA P h t n (zipParts ps.toList vs)) := by
  show opBuildSlice P (tmE E) h t n ps = _
  unfold opBuildSlice
  rw [opsE_eq]; rfl
theorem run_makeFunc (fn : Fn) (fs cs : Array Operand) : (opC P call (.makeFunc fn fs cs)).run (tmE E) h = eS E fs.toList fun fs => eS E cs.toList fun cs => some [(.func fn fs cs, h)] := by
  show opMakeFunc (tmE E) h fn fs cs = _
  unfold opMakeFunc eS
  rw [opsE_eq, opsE_eq]; rfl
theorem run_makeMap0 (t : TypeId) : (opC P call (.makeMap t none)).run (tmE E) h = some [(.map h.next, h.new (.mp [] 0))] := rfl
theorem run_makeMap1 (t : TypeId) (r : Operand) {k v : TypeId} (hu : P.underlying t = some (.map k v)) : (opC P call (.makeMap t (some r))).run (tmE E) h = e1 E r fun r => match r with
    | .int _ _ => some [(.map h.next, h.new (.mp [] 0))]
    | _ => none := by
  show opMakeMap P (tmE E) h t (some r) = _
  unfold opMakeMap e1
  simp only [hu, opE_eq]
  cases opE E r with
  | none => rfl
  | some v => cases v <;> rfl
theorem opsE_nil : opsE E [] = some [] := rfl
theorem opsE_cons (x : Operand) (l : List Operand) : opsE E (x :: l) = match opE E x with
    | none => none
    | some a => match opsE E l with
      | none => none
      | some as => some (a :: as) := rfl
theorem opE_tmp (t : Nat) : opE E (.tmp t) = getL E t := rfl
theorem opE_const (v : Value) : opE E (.const v) = ofZero v := rfl
theorem opE_func (f : FuncId) : opE E (.func f) = some (.func (.func f) [] []) := rfl
theorem ofZero_bool (b : Bool) : ofZero (.bool b) = some (.bool b) := rfl
theorem ofZero_int (k : IntKind) (n : Int) : ofZero (.int k n) = some (.int k n) := rfl
theorem ofZero_str (s : ByteArray) : ofZero (.string s) = some (.str s) := rfl
theorem ofZero_nilp : ofZero (.pointer none) = some .nilPtr := rfl
theorem ofZero_nils : ofZero (.slice none 0 0) = some .nilSlice := rfl
theorem ofZero_nilm : ofZero (.map none) = some .nilMap := rfl
theorem ofZero_nilf : ofZero .nilFunc = some .nilFunc := rfl
theorem val1_some' (v : AV) : val1 h (some v) = some [(v, h)] := rfl
theorem val2_some' (v : AV × AH) : val2 (some v) = some [v] := rfl
theorem val3_some' (h : AH) : val3 (some h) = some [(.undef, h)] := rfl

/-! Words for the types -/
def aggAt (k : Nat) (cs : List AV) (off : Nat) : Option AV := if off + k ≤ cs.length then some (.agg ((cs.drop off).take k)) else none
def onAgg (f : List AV → Option AV) : AV → Option AV
  | .agg cs => f cs
  | _ => none
/-- An element's address in a slice. -/
def ixS (sz : Nat) (x i : AV) : Option AV :=
  match i with
  | .int _ n => match x with
    | .slice id off len _ => if 0 ≤ n ∧ n < (len : Int) then some (.ptr id (off + n.toNat * sz)) else none
    | .view len cells _ => if 0 ≤ n ∧ n < (len : Int) then some (.rptr cells (n.toNat * sz)) else none
    | _ => none
  | _ => none
theorem ixS_view (sz : Nat) (m : Nat) (cells : List AV) (ex : Bool) (k : IntKind) (i : Nat) (hi : i < m) : ixS sz (.view m cells ex) (.int k (i : Int)) = some (.rptr cells (i * sz)) := by
  simp only [ixS]
  rw [if_pos ⟨by omega, by omega⟩]
  simp
theorem ixS_slice (sz : Nat) (id off m : Nat) (c : Cap) (k : IntKind) (i : Nat) (hi : i < m) : ixS sz (.slice id off m c) (.int k (i : Int)) = some (.ptr id (off + i * sz)) := by
  simp only [ixS]
  rw [if_pos ⟨by omega, by omega⟩]
  simp
/-- An element's address in an array. -/
def ixA (n sz : Nat) (x i : AV) : Option AV :=
  match i with
  | .int _ v => if 0 ≤ v ∧ v < (n : Int) then addrAdd x (v.toNat * sz) else none
  | _ => none
def bdK (z : List AV) (place : Nat → Option (Nat × Nat)) (parts : List (Nat × AV)) : Option AV :=
  match fillA place z parts with
  | some cs => some (.agg cs)
  | none => none
def storeK (k : Nat) (h : AH) (a v : AV) : Option AH :=
  match a with
  | .ptr id off => match h.get id with
    | some (.row e cells o) => if v.cells.length = k ∧ off + k ≤ cells.length ∧ v.cells.all AV.oneB = true then some (h.set id (.row e (putCells cells off v.cells) o)) else none
    | _ => none
  | _ => none
theorem store_all {k : Nat} {L : Hp} {n id : Nat} {e : TypeId} {cells vs : List AV} {o : Bool} (hg : getO L id = some (.row e cells o)) (h1 : vs.length = k) (h2 : cells.length = k) (h3 : vs.all AV.oneB = true) :
    storeK k (hE L n) (.ptr id 0) (.agg vs) = some (hE ((id, some (.row e vs o)) :: L) n) := by
  simp only [storeK, hE_get, hg]
  have e1 : AV.cells (.agg vs) = vs := rfl
  rw [if_pos ⟨h1, by omega, h3⟩, hE_set]
  simp only [putCells, e1, List.take_zero, List.nil_append]
  rw [List.drop_of_length_le (by omega), List.append_nil]
def lenSl : AV → Option AV
  | .nilSlice => some (.int .i64 0)
  | .slice _ _ n _ => some (.int .i64 (n : Int))
  | .view n _ _ => some (.int .i64 (n : Int))
  | _ => none
def lenStr : AV → Option AV
  | .str s => some (.int .i64 (s.size : Int))
  | _ => none
def lenMp (h : AH) : AV → Option AV
  | .nilMap => some (.int .i64 0)
  | .map id => match h.get id with
    | some (.mp es _) => some (.int .i64 (es.length : Int))
    | _ => none
  | _ => none
theorem builtin_len (ts : List TypeId) (t : TypeId) (x : AV) : builtinA P h .len (t :: ts) [x] = (lenBA P h t x).map fun v => (v, h) := rfl
theorem builtin_append (ts : List TypeId) (x y : AV) : builtinA P h .append ts [x, y] = appendA P h ts x y := rfl
theorem optmap_some {α β : Type} (f : α → β) (a : α) : (some a).map f = some (f a) := rfl

/-! Lists of elements as cells -/
def flatE {α : Type} (enc : α → List AV) (l : List α) : List AV := l.flatMap enc
theorem flatE_drop {α : Type} (enc : α → List AV) (k : Nat) (hk : ∀ x, (enc x).length = k) : ∀ (l : List α) (i : Nat), (flatE enc l).drop (i * k) = flatE enc (l.drop i)
  | l, 0 => by simp
  | [], i + 1 => by simp [flatE]
  | x :: l, i + 1 => by
    have : flatE enc (x :: l) = enc x ++ flatE enc l := rfl
    rw [this, List.drop_succ_cons, ← flatE_drop enc k hk l i, List.drop_append, List.drop_eq_nil_of_le (by rw [hk, Nat.add_mul]; omega), hk, List.nil_append]
    congr 1
    rw [Nat.add_mul]; omega
theorem flatE_len {α : Type} (enc : α → List AV) (k : Nat) (hk : ∀ x, (enc x).length = k) : ∀ (l : List α), (flatE enc l).length = l.length * k
  | [] => by simp [flatE]
  | x :: l => by
    have : flatE enc (x :: l) = enc x ++ flatE enc l := rfl
    rw [this, List.length_append, hk, flatE_len enc k hk l, List.length_cons, Nat.add_mul]; omega
theorem flatE_take {α : Type} (enc : α → List AV) (k : Nat) (hk : ∀ x, (enc x).length = k) : ∀ (l : List α) (i : Nat), (flatE enc l).take (i * k) = flatE enc (l.take i)
  | l, 0 => by simp [flatE]
  | [], i + 1 => by simp [flatE]
  | x :: l, i + 1 => by
    have : flatE enc (x :: l) = enc x ++ flatE enc l := rfl
    rw [this, List.take_succ_cons]
    have h2 : flatE enc (x :: l.take i) = enc x ++ flatE enc (l.take i) := rfl
    rw [h2, ← flatE_take enc k hk l i, List.take_append, List.take_of_length_le (by rw [hk, Nat.add_mul]; omega), hk]
    congr 2
    rw [Nat.add_mul]; omega
theorem flatE_agg {α : Type} (enc : α → List AV) (k : Nat) (hk : ∀ x, (enc x).length = k) (l : List α) (i : Nat) (hi : i < l.length) : aggAt k (flatE enc l) (i * k) = some (.agg (enc l[i])) := by
  unfold aggAt
  rw [if_pos (by
    rw [flatE_len enc k hk]
    have : (i + 1) * k ≤ l.length * k := Nat.mul_le_mul_right k hi
    rw [Nat.add_mul] at this; omega), flatE_drop enc k hk]
  have h1 : l.drop i = l[i] :: l.drop (i + 1) := List.drop_eq_getElem_cons hi
  have h2 : flatE enc (l.drop i) = enc l[i] ++ flatE enc (l.drop (i + 1)) := by rw [h1]; rfl
  rw [h2, List.take_append, hk, Nat.sub_self, List.take_zero, List.append_nil, List.take_of_length_le (by rw [hk]; exact Nat.le_refl _)]
theorem flatE_cell {α : Type} (enc : α → AV) (l : List α) (i : Nat) (hi : i < l.length) : (flatE (fun x => [enc x]) l)[i]? = some (enc l[i]) := by
  have : flatE (fun x => [enc x]) l = l.map enc := by
    unfold flatE
    clear hi
    induction l with
    | nil => rfl
    | cons x l ih => simp [List.flatMap_cons, ih]
  rw [this]
  simp [hi]
theorem flatE_low {α : Type} (enc : α → List AV) (n : Nat) (l : List α) (h : ∀ x ∈ l, ∀ a ∈ enc x, Low n a) : ∀ a ∈ flatE enc l, Low n a := fun a ha => by
  obtain ⟨x, hx, hax⟩ := List.mem_flatMap.1 ha
  exact h x hx a hax
end
end
end Go.Proofs.YtmeianaaiiiinaaGreat.Ev
