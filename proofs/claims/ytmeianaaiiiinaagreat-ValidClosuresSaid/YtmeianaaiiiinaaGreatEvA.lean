/- An evaluator over abstract values: what a run of Go code of this program comes to, in a heap of its own. Definitions. -/
import Derived.Calls
import Derived.Orders
namespace Go.Proofs.YtmeianaaiiiinaaGreat.Ev
open Go
set_option linter.unusedVariables false
set_option linter.unusedSimpArgs false
set_option linter.all false
noncomputable section

/-- A capacity: a known one, or that of the block less k. -/
inductive Cap where
  | known (n : Nat)
  | rest (k : Nat)
  deriving DecidableEq, Inhabited

inductive AV where
  | bool (b : Bool)
  | int (k : IntKind) (n : Int)
  | str (s : ByteArray)
  | nilPtr | nilSlice | nilMap | nilFunc | nilIface
  | agg (cs : List AV)
  | tuple (vs : List AV)
  | ptr (id off : Nat)
  | rptr (cells : List AV) (off : Nat)
  | slice (id off len : Nat) (cap : Cap)
  | view (n : Nat) (cells : List AV) (exact : Bool)
  | map (id : Nat)
  | func (fn : Fn) (first captured : List AV)
  | iface (t : TypeId) (v : AV)
  deriving Inhabited

def AV.undef : AV := .tuple []
def AV.cells : AV → List AV
  | .agg cs => cs
  | v => [v]

inductive AObj where
  | row (elem : TypeId) (cells : List AV) (isOpen : Bool)
  | mp (es : List (AV × AV × Nat)) (clock : Nat)
  | miter (m : Option Nat) (since : Nat) (seen : List Nat) (stepped : Nat)
  deriving Inhabited

/-- A finite table: what stands at a number. -/
inductive T (α : Type) where
  | nil
  | node (l : T α) (v : Option α) (r : T α)
/-- The way to a number's place in a table. -/
inductive Path where
  | here
  | left (p : Path)
  | right (p : Path)
  deriving DecidableEq
def pathF (k : Nat) : Nat → Path :=
  Nat.rec (fun _ => .here) (fun _ ih n => bif Nat.beq n 0 then .here else bif Nat.beq (Nat.mod n 2) 1 then .left (ih (Nat.div n 2)) else .right (ih (Nat.div (Nat.pred n) 2))) k
def pathOf (n : Nat) : Path := pathF (Nat.succ n) n
def T.at {α : Type} (p : Path) : T α → Option α :=
  Path.rec (fun t => T.casesOn t none fun _ v _ => v) (fun _ ih t => T.casesOn t none fun l _ _ => ih l) (fun _ ih t => T.casesOn t none fun _ _ r => ih r) p
/-- Puts a value, and goes on with the table. -/
def T.putK {α β : Type} (v : Option α) (p : Path) : T α → (T α → β) → β :=
  Path.rec (fun t c => T.casesOn t (c (.node .nil v .nil)) fun l _ r => c (.node l v r))
    (fun _ ih t c => T.casesOn t (ih .nil fun l => c (.node l none .nil)) fun l x r => ih l fun l => c (.node l x r))
    (fun _ ih t c => T.casesOn t (ih .nil fun r => c (.node .nil none r)) fun l x r => ih r fun r => c (.node l x r)) p
def T.get {α : Type} (t : T α) (n : Nat) : Option α := T.at (pathOf n) t
def T.put {α : Type} (t : T α) (n : Nat) (v : Option α) : T α := T.putK v (pathOf n) t id

/-! Each of these answers as if it were not there: it makes the kernel compute its argument first. -/
def forceN {β : Type} (n : Nat) (c : Nat → β) : β :=
  Nat.casesOn n (c 0) fun n => c (Nat.succ n)
def forceI {β : Type} (n : Int) (c : Int → β) : β :=
  Int.casesOn n (fun n => forceN n fun n => c (.ofNat n)) (fun n => forceN n fun n => c (.negSucc n))
def forceB {β : Type} (b : Bool) (c : Bool → β) : β :=
  Bool.casesOn b (c false) (c true)
def forceS {α β : Type} (l : List α) : (List α → β) → β :=
  List.rec (fun c => c []) (fun v _ ih c => ih fun l => c (v :: l)) l
def Cap.force {β : Type} (k : Cap) (c : Cap → β) : β :=
  Cap.casesOn k (fun n => forceN n fun n => c (.known n)) (fun n => forceN n fun n => c (.rest n))
def AV.force {β : Type} (v : AV) (c : AV → β) : β :=
  AV.casesOn v
    (fun b => forceB b fun b => c (.bool b)) (fun k n => forceI n fun n => c (.int k n)) (fun s => c (.str s))
    (c .nilPtr) (c .nilSlice) (c .nilMap) (c .nilFunc) (c .nilIface)
    (fun l => forceS l fun l => c (.agg l)) (fun l => forceS l fun l => c (.tuple l))
    (fun i o => forceN i fun i => forceN o fun o => c (.ptr i o)) (fun cells o => forceN o fun o => c (.rptr cells o))
    (fun i o n cap => forceN i fun i => forceN o fun o => forceN n fun n => cap.force fun cap => c (.slice i o n cap))
    (fun n cells e => forceN n fun n => forceB e fun e => c (.view n cells e))
    (fun i => forceN i fun i => c (.map i)) (fun fn f cs => c (.func fn f cs)) (fun t v => c (.iface t v))

/-- The heap of the run's own: objects by their numbers, the next number; below base, which of them were changed. -/
structure AH where
  objs : T AObj
  next : Nat
  base : Nat
  dirty : List Nat

def forceEs {β : Type} (l : List (AV × AV × Nat)) : (List (AV × AV × Nat) → β) → β :=
  List.rec (fun c => c []) (fun e _ ih c => Prod.casesOn e fun k vb => Prod.casesOn vb fun v b => AV.force k fun k => AV.force v fun v => forceN b fun b => ih fun l => c ((k, v, b) :: l)) l
def AObj.force {β : Type} (o : AObj) (c : AObj → β) : β :=
  AObj.casesOn o (fun e cells b => forceS cells fun cells => forceB b fun b => c (.row e cells b)) (fun es n => forceEs es fun es => forceN n fun n => c (.mp es n))
    (fun m s l k => forceN s fun s => forceS l fun l => forceN k fun k => c (.miter m s l k))
def T.force {α β : Type} (t : T α) (c : T α → β) : β :=
  T.casesOn t (c .nil) fun l v r => c (.node l v r)
def memB (n : Nat) (l : List Nat) : Bool :=
  List.rec false (fun m _ ih => bif Nat.beq n m then true else ih) l
def mark (n base : Nat) (l : List Nat) : List Nat :=
  bif Nat.blt n base then bif memB n l then l else n :: l else l
def AH.force {β : Type} (h : AH) (c : AH → β) : β :=
  match h with
  | ⟨t, n, k, l⟩ => t.force fun t => forceN n fun n => forceN k fun k => forceS l fun l => c ⟨t, n, k, l⟩
def AH.get (h : AH) (n : Nat) : Option AObj := h.objs.get n
def AH.set (h : AH) (n : Nat) (o : AObj) : AH := ⟨AObj.force o fun o => h.objs.put n (some o), h.next, h.base, mark n h.base h.dirty⟩
def AH.new (h : AH) (o : AObj) : AH := ⟨AObj.force o fun o => h.objs.put h.next (some o), Nat.succ h.next, h.base, h.dirty⟩
def AH.drop (h : AH) (n : Nat) : AH := ⟨h.objs.put n none, h.next, h.base, mark n h.base h.dirty⟩

/-- What may come out: none where the evaluator does not know, else all that may. -/
abbrev Outs (α : Type) := Option (List α)
def catO {α : Type} : List (Outs α) → Outs α
  | [] => some []
  | none :: _ => none
  | some l :: r => match catO r with
    | none => none
    | some m => some (l ++ m)
def bindO {α β : Type} (x : Outs α) (f : α → Outs β) : Outs β :=
  Option.casesOn x none fun l => List.casesOn l (some []) fun a r => List.casesOn r (f a) fun b r => catO ((a :: b :: r).map f)
def one {α : Type} (a : α) : Outs α := some [a]

abbrev TM := T AV
abbrev St := TM × AH

/-! ### Plain values -/

def ofConst : Value → Option AV
  | .bool b => some (.bool b)
  | .int k n => some (.int k n)
  | .string s => some (.str s)
  | .pointer none => some .nilPtr
  | .slice none 0 0 => some .nilSlice
  | .map none => some .nilMap
  | .nilFunc => some .nilFunc
  | .nilIface => some .nilIface
  | _ => none
def ofConsts : List Value → Option (List AV)
  | [] => some []
  | v :: l => match ofConst v with
    | none => none
    | some a => match ofConsts l with
      | none => none
      | some as => some (a :: as)
/-- A value of a type's zero: a cell, or an aggregate of cells. -/
def ofZero : Value → Option AV
  | .agg cs => match ofConsts cs.toList with
    | none => none
    | some l => some (.agg l)
  | v => ofConst v

def operand (tm : TM) : Operand → Option AV
  | .tmp t => tm.get t
  | .const v => ofZero v
  | .global _ => none
  | .func f => some (.func (.func f) [] [])
def operands (tm : TM) (l : List Operand) : Option (List AV) :=
  List.rec (some []) (fun x _ ih => match operand tm x with
    | none => none
    | some a => match ih with
      | none => none
      | some as => some (a :: as)) l

/-! ### Types -/
section
variable (P : Program)
def szOf (t : TypeId) : Option Nat := (P.info? t).map (·.size)
def bytesOf (t : TypeId) : Option Nat := (P.info? t).map (·.bytes)
def zeroOf (t : TypeId) : Option AV :=
  match P.info? t with
  | none => none
  | some i => match i.zero with
    | none => none
    | some z => ofZero z
def aggB (t : TypeId) : Option Bool :=
  match P.underlying t with
  | some (.struct _) | some (.array _ _) => some true
  | some _ => some false
  | none => none

/-- The part of a type among cells, from a place on. -/
def partA (t : TypeId) (cs : List AV) (off : Nat) : Option AV :=
  match aggB P t with
  | some true => match szOf P t with
    | some n => if off + n ≤ cs.length then some (.agg ((cs.drop off).take n)) else none
    | none => none
  | some false => cs[off]?
  | none => none

def rowOf (h : AH) (id : Nat) : Option (List AV) :=
  match h.get id with
  | some (.row _ cells _) => some cells
  | _ => none

def loadA (h : AH) (t : TypeId) : AV → Option AV
  | .ptr id off => match rowOf h id with
    | some cells => partA P t cells off
    | none => none
  | .rptr cells off => partA P t cells off
  | _ => none

def putCells (cs : List AV) (i : Nat) (vs : List AV) : List AV := cs.take i ++ vs ++ cs.drop (i + vs.length)
/-- Whether a value fills one cell. -/
def AV.oneB : AV → Bool
  | .agg _ => false
  | .tuple _ => false
  | _ => true

def storeA (h : AH) (t : TypeId) (a v : AV) : Option AH :=
  match a with
  | .ptr id off => match h.get id with
    | some (.row e cells o) =>
      match szOf P t with
      | some n => if v.cells.length = n ∧ off + n ≤ cells.length ∧ v.cells.all AV.oneB = true then some (h.set id (.row e (putCells cells off v.cells) o)) else none
      | none => none
    | _ => none
  | _ => none

def addrAdd (a : AV) (n : Nat) : Option AV :=
  match a with
  | .ptr id off => some (.ptr id (off + n))
  | .rptr cells off => some (.rptr cells (off + n))
  | _ => none

def fieldAddrA (s : TypeId) (x : AV) (f : Nat) : Option AV :=
  match P.underlying s with
  | some (.struct fields) => match fields[f]? with
    | some fl => match szOf P fl.type with
      | some 0 => none
      | some _ => addrAdd x fl.offset
      | none => none
    | none => none
  | _ => none
def fieldA (s : TypeId) (x : AV) (f : Nat) : Option AV :=
  match P.underlying s with
  | some (.struct fields) => match fields[f]? with
    | some fl => match x with
      | .agg cs => partA P fl.type cs fl.offset
      | _ => none
    | none => none
  | _ => none
def indexAddrA (t : TypeId) (x i : AV) : Option AV :=
  match i with
  | .int _ n => match P.underlying t with
    | some (.slice e) => match szOf P e with
      | none => none
      | some sz => match x with
        | .slice id off len _ => if 0 ≤ n ∧ n < (len : Int) then some (.ptr id (off + n.toNat * sz)) else none
        | .view len cells _ => if 0 ≤ n ∧ n < (len : Int) then some (.rptr cells (n.toNat * sz)) else none
        | _ => none
    | some (.array len e) => match szOf P e with
      | none => none
      | some sz => if 0 ≤ n ∧ n < (len : Int) then addrAdd x (n.toNat * sz) else none
    | _ => none
  | _ => none
def indexA (t : TypeId) (x i : AV) : Option AV :=
  match i with
  | .int _ n => match P.underlying t with
    | some (.array len e) => match x with
      | .agg cs => match szOf P e with
        | some sz => if 0 ≤ n ∧ n < (len : Int) then partA P e cs (n.toNat * sz) else none
        | none => none
      | _ => none
    | some .string => match x with
      | .str s => if 0 ≤ n then match s.data.toList[n.toNat]? with
          | some b => some (.int .u8 b.toNat)
          | none => none
        else none
      | _ => none
    | _ => none
  | _ => none

def fillA (place : Nat → Option (Nat × Nat)) : List AV → List (Nat × AV) → Option (List AV)
  | cs, [] => some cs
  | cs, (i, v) :: rest => match place i with
    | none => none
    | some (off, size) =>
      if v.cells.length = size ∧ off + size ≤ cs.length then fillA place (putCells cs off v.cells) rest else none
def fieldPlaces : List Field → Option (List (Nat × Nat))
  | [] => some []
  | f :: l => match szOf P f.type with
    | none => none
    | some n => match fieldPlaces l with
      | none => none
      | some r => some ((f.offset, n) :: r)
def buildA (t : TypeId) (parts : List (Nat × AV)) : Option AV :=
  match zeroOf P t with
  | none => none
  | some z => match P.underlying t with
    | some (.struct fields) => match fieldPlaces P fields.toList with
      | none => none
      | some places => match fillA (fun i => places[i]?) z.cells parts with
        | none => none
        | some cs => some (.agg cs)
    | some (.array _ e) => match szOf P e with
      | none => none
      | some sz => match fillA (fun i => some (i * sz, sz)) z.cells parts with
        | none => none
        | some cs => some (.agg cs)
    | _ => none
def repCells (z : List AV) : Nat → List AV
  | 0 => []
  | n + 1 => z ++ repCells z n
def buildSliceA (h : AH) (t : TypeId) (len : Nat) (parts : List (Nat × AV)) : Option (AV × AH) :=
  match P.underlying t with
  | some (.slice e) => match szOf P e with
    | none => none
    | some sz => match zeroOf P e with
      | none => none
      | some z => if len * sz ≤ 16777216 ∧ z.cells.length = sz then
          match fillA (fun i => some (i * sz, sz)) (repCells z.cells len) parts with
          | none => none
          | some cs => some (.slice h.next 0 len (.known len), h.new (.row e cs false))
        else none
  | _ => none
def makeSliceA (h : AH) (t : TypeId) (l c : AV) : Option (AV × AH) :=
  match P.underlying t, l, c with
  | some (.slice e), .int _ l, .int _ c => match szOf P e, bytesOf P e, zeroOf P e with
    | some sz, some b, some z =>
      if 0 ≤ l ∧ l ≤ c ∧ c ≤ 1048576 ∧ b ≤ 65536 ∧ z.cells.length = sz then
        some (.slice h.next 0 l.toNat (.known c.toNat), h.new (.row e (repCells z.cells c.toNat) false))
      else none
    | _, _, _ => none
  | _, _, _ => none

/-- The bound of a slice expression. -/
def boundA (v : AV) (most : Nat) : Option Nat :=
  match v with
  | .int _ i => if 0 ≤ i ∧ i ≤ (most : Int) then some i.toNat else none
  | _ => none
def optA : Option AV → Nat → Nat → Option Nat
  | none, d, _ => some d
  | some v, _, most => boundA v most
/-- The bounds of a slice expression: low and high; low, high and most. -/
def bnds (len most : Nat) (lo hi : Option AV) : Option (Nat × Nat) :=
  match optA hi len most with
  | some n => match optA lo 0 n with
    | some l => some (l, n)
    | none => none
  | none => none
def bnds3 (most : Nat) (lo : Option AV) (hi mx : AV) : Option (Nat × Nat × Nat) :=
  match boundA mx most with
  | some m => match boundA hi m with
    | some n => match optA lo 0 n with
      | some l => some (l, n, m)
      | none => none
    | none => none
  | none => none
def mostOf (len : Nat) : Cap → Nat
  | .known c => c
  | .rest _ => len
def sliceSl (sz : Nat) (x : AV) (lo hi mx : Option AV) : Option AV :=
  match mx with
  | none => match x with
    | .nilSlice => match bnds 0 0 lo hi with
      | some _ => some .nilSlice
      | none => none
    | .view len cells ex => match bnds len len lo hi with
      | some (l, n) => some (.view (n - l) ((cells.drop (l * sz)).take ((n - l) * sz)) (ex && Nat.beq n len))
      | none => none
    | .slice id off len (.known c) => match bnds len c lo hi with
      | some (l, n) => some (.slice id (if c = l then off else off + l * sz) (n - l) (.known (c - l)))
      | none => none
    | .slice id off len (.rest k) => match bnds len len lo hi with
      | some (l, n) => if l < len then some (.slice id (off + l * sz) (n - l) (.rest (k + l))) else some (.view 0 [] false)
      | none => none
    | _ => none
  | some m => match hi with
    | none => none
    | some hi => match x with
      | .nilSlice => match bnds3 0 lo hi m with
        | some _ => some .nilSlice
        | none => none
      | .view len cells ex => match bnds3 len lo hi m with
        | some (l, n, m) => some (.view (n - l) ((cells.drop (l * sz)).take ((n - l) * sz)) (Nat.beq n m))
        | none => none
      | .slice id off len cap => match bnds3 (mostOf len cap) lo hi m with
        | some (l, n, m) => some (.slice id (if m = l then off else off + l * sz) (n - l) (.known (m - l)))
        | none => none
      | _ => none
def sliceA (t : TypeId) (x : AV) (lo hi mx : Option AV) : Option AV :=
  match P.underlying t with
  | some .string => match mx with
    | none => match x with
      | .str s => match bnds s.size s.size lo hi with
        | some (l, n) => some (.str (s.extract l n))
        | none => none
      | _ => none
    | some _ => none
  | some (.slice e) => match szOf P e with
    | some sz => sliceSl sz x lo hi mx
    | none => none
  | some (.array n e) => match mx with
    | none => match szOf P e with
      | some sz => match bnds n n lo hi with
        | some (l, m) => match x with
          | .ptr id off => some (.slice id (if n = l then off else off + l * sz) (m - l) (.known (n - l)))
          | .rptr cells off => some (.view (m - l) ((cells.drop (off + l * sz)).take ((m - l) * sz)) (Nat.beq m n))
          | _ => none
        | none => none
      | none => none
    | some _ => none
  | _ => none

/-! ### Slices: append, copy, clear -/

/-- The first n elements' cells of a slice or a string. -/
def firstA (h : AH) (sz n : Nat) : AV → Option (List AV)
  | .nilSlice => if n = 0 then some [] else none
  | .view m cells _ => if n ≤ m ∧ n * sz ≤ cells.length then some (cells.take (n * sz)) else none
  | .slice id off len _ => match rowOf h id with
    | some cells => if n ≤ len ∧ off + n * sz ≤ cells.length then some ((cells.drop off).take (n * sz)) else none
    | none => none
  | .str s => if n ≤ s.size ∧ sz = 1 then some ((s.data.toList.take n).map fun b => .int .u8 b.toNat) else none
  | _ => none
def lenA : AV → Option Nat
  | .nilSlice => some 0
  | .view n _ _ => some n
  | .slice _ _ n _ => some n
  | .str s => some s.size
  | _ => none

/-- Append of cells to a slice. -/
def appendTo (h : AH) (e : TypeId) (sz n : Nat) (new : List AV) (s : AV) : Option (AV × AH) :=
  match s with
  | .nilSlice => if n = 0 then some (.nilSlice, h) else some (.slice h.next 0 n (.rest 0), h.new (.row e new true))
  | .view m cells ex => if ex = true ∧ n ≠ 0 then (match firstA h sz m s with
      | some old => some (.slice h.next 0 (m + n) (.rest 0), h.new (.row e (old ++ new) true))
      | none => none) else none
  | .slice id off len (.known c) =>
    if len + n ≤ c then
      match h.get id with
      | some (.row e' cells o) =>
        if off + (len + n) * sz ≤ cells.length ∧ new.all AV.oneB = true ∧ new.length = n * sz then some (.slice id off (len + n) (.known c), h.set id (.row e' (putCells cells (off + len * sz) new) o)) else none
      | _ => none
    else match firstA h sz len s with
      | none => none
      | some old => some (.slice h.next 0 (len + n) (.rest 0), h.new (.row e (old ++ new) true))
  | .slice id 0 len (.rest 0) =>
    match h.get id with
    | some (.row e' cells true) =>
      if e' = e ∧ cells.length = len * sz ∧ new.all AV.oneB = true ∧ new.length = n * sz then some (.slice h.next 0 (len + n) (.rest 0), (h.drop id).new (.row e (cells ++ new) true)) else none
    | _ => none
  | _ => none
def appendA (h : AH) (ts : List TypeId) (s x : AV) : Option (AV × AH) :=
  match ts with
  | [sT, xT] =>
    match P.underlying sT, P.underlying xT with
    | _, some (.int _) => none
    | some (.slice e), some _ =>
      match szOf P e, bytesOf P e, zeroOf P e with
      | some sz, some b, some z => match lenA s, lenA x with
        | some sl, some n =>
          if b ≤ 65536 ∧ sl + n ≤ 1048576 ∧ z.cells.length = sz then
            match firstA h sz n x with
            | none => none
            | some new => appendTo h e sz n new s
          else none
        | _, _ => none
      | _, _, _ => none
    | _, _ => none
  | _ => none

def copyA (h : AH) (ts : List TypeId) (d x : AV) : Option (AV × AH) :=
  match ts with
  | dT :: _ => match P.underlying dT with
    | some (.slice e) => match szOf P e, lenA d, lenA x with
      | some sz, some dl, some xl => match firstA h sz (Nat.min xl dl) x with
        | none => none
        | some new => match d with
          | .nilSlice => some (.int .i64 0, h)
          | .slice id off _ _ => match h.get id with
            | some (.row e' cells o) =>
              if off + new.length ≤ cells.length ∧ new.all AV.oneB = true then some (.int .i64 ((Nat.min xl dl : Nat) : Int), h.set id (.row e' (putCells cells off new) o)) else none
            | _ => none
          | _ => none
      | _, _, _ => none
    | _ => none
  | _ => none
def clearA (h : AH) (ts : List TypeId) (d : AV) : Option (AV × AH) :=
  match ts with
  | dT :: _ => match P.underlying dT with
    | some (.slice e) => match d with
      | .nilSlice => some (.undef, h)
      | .view 0 _ _ => some (.undef, h)
      | .slice id off len _ => if len = 0 then some (.undef, h) else match szOf P e, zeroOf P e, h.get id with
        | some sz, some z, some (.row e' cells o) =>
          if z.cells.length = sz ∧ off + len * sz ≤ cells.length ∧ z.cells.all AV.oneB = true then some (.undef, h.set id (.row e' (putCells cells off (repCells z.cells len)) o)) else none
        | _, _, _ => none
      | _ => none
    | _ => none
  | _ => none

/-! ### Operators -/

def bytesLt : List UInt8 → List UInt8 → Bool
  | _, [] => false
  | [], _ :: _ => true
  | a :: x, b :: y => Nat.blt a.toNat b.toNat || (Nat.beq a.toNat b.toNat && bytesLt x y)
def bytesEq : List UInt8 → List UInt8 → Bool
  | [], [] => true
  | a :: x, b :: y => Nat.beq a.toNat b.toNat && bytesEq x y
  | _, _ => false
def strEq (x y : ByteArray) : Bool := bytesEq x.data.toList y.data.toList
def strLt (x y : ByteArray) : Bool := bytesLt x.data.toList y.data.toList

def intArithA (op : BinOp) (k : IntKind) (x y : Int) : Option AV :=
  match op with
  | .add => some (.int k (k.wrap (x + y)))
  | .sub => some (.int k (k.wrap (x - y)))
  | .mul => some (.int k (k.wrap (x * y)))
  | .quo => if y = 0 then none else some (.int k (k.wrap (x.tdiv y)))
  | .rem => if y = 0 then none else some (.int k (x.tmod y))
  | .and => some (.int k (k.wrap (BitVec.ofInt k.bits x &&& BitVec.ofInt k.bits y).toNat))
  | .or => some (.int k (k.wrap (BitVec.ofInt k.bits x ||| BitVec.ofInt k.bits y).toNat))
  | .xor => some (.int k (k.wrap (BitVec.ofInt k.bits x ^^^ BitVec.ofInt k.bits y).toNat))
  | .eql => some (.bool (x == y))
  | .neq => some (.bool (x != y))
  | .lss => some (.bool (decide (x < y)))
  | .leq => some (.bool (decide (x ≤ y)))
  | .gtr => some (.bool (decide (x > y)))
  | .geq => some (.bool (decide (x ≥ y)))
  | _ => none
def strOpA (op : BinOp) (x y : ByteArray) : Option AV :=
  match op with
  | .add => if x.size + y.size ≤ 1048576 then some (.str (x ++ y)) else none
  | .eql => some (.bool (strEq x y))
  | .neq => some (.bool !(strEq x y))
  | .lss => some (.bool (strLt x y))
  | .leq => some (.bool (strLt x y || strEq x y))
  | .gtr => some (.bool !(strLt x y || strEq x y))
  | .geq => some (.bool !(strLt x y))
  | _ => none

/-- Equality of the fields of two structs, of the elements of two arrays. -/
def eqFieldsA (eq : TypeId → AV → AV → Option Bool) (xs ys : List AV) : List Field → Option Bool
  | [] => some true
  | f :: fs => if f.name ≠ "_" then
      match partA P f.type xs f.offset with
      | some a => match partA P f.type ys f.offset with
        | some b => match eq f.type a b with
          | some true => eqFieldsA eq xs ys fs
          | some false => some false
          | none => none
        | none => none
      | none => none
    else eqFieldsA eq xs ys fs
def eqItemsA (eq : TypeId → AV → AV → Option Bool) (e : TypeId) (sz : Nat) (xs ys : List AV) : List Nat → Option Bool
  | [] => some true
  | i :: is => match partA P e xs (i * sz) with
    | some a => match partA P e ys (i * sz) with
      | some b => match eq e a b with
        | some true => eqItemsA eq e sz xs ys is
        | some false => some false
        | none => none
      | none => none
    | none => none
/-- Equality of two values of a type that can be compared. -/
def eqInA : Nat → TypeId → AV → AV → Option Bool
  | 0, _, _, _ => none
  | d + 1, t, x, y => match P.underlying t with
    | some .bool => match x, y with
      | .bool a, .bool b => some (a == b)
      | _, _ => none
    | some (.int _) => match x, y with
      | .int k a, .int l b => if k = l then some (a == b) else none
      | _, _ => none
    | some .string => match x, y with
      | .str a, .str b => some (strEq a b)
      | _, _ => none
    | some (.struct fs) => match x, y with
      | .agg xs, .agg ys => if P.stoodInHeld t = false then eqFieldsA P (eqInA d) xs ys fs.toList else none
      | _, _ => none
    | some (.array n e) => match x, y with
      | .agg xs, .agg ys => match szOf P e with
        | some sz => eqItemsA P (eqInA d) e sz xs ys (List.range n)
        | none => none
      | _, _ => none
    | some (.pointer _) => match x, y with
      | .nilPtr, .nilPtr => some true
      | .nilPtr, .ptr _ _ => some false
      | .ptr _ _, .nilPtr => some false
      | .nilPtr, .rptr _ _ => some false
      | .rptr _ _, .nilPtr => some false
      | _, _ => none
    | some (.slice _) => match x, y with
      | .nilSlice, .nilSlice => some true
      | .nilSlice, .slice _ _ _ _ => some false
      | .slice _ _ _ _, .nilSlice => some false
      | .nilSlice, .view (_ + 1) _ _ => some false
      | .view (_ + 1) _ _, .nilSlice => some false
      | _, _ => none
    | some (.map _ _) => match x, y with
      | .nilMap, .nilMap => some true
      | .nilMap, .map _ => some false
      | .map _, .nilMap => some false
      | _, _ => none
    | some (.func _ _ _) => match x, y with
      | .nilFunc, .nilFunc => some true
      | .nilFunc, .func _ _ _ => some false
      | .func _ _ _, .nilFunc => some false
      | _, _ => none
    | _ => none
/-- Two aggregates are compared only where no nil of an interface type can stand in them. -/
def eqlA (t : TypeId) (x y : AV) : Option Bool :=
  match x with
  | .agg _ => if P.eqGuardType P.depth t = false then eqInA P 16 t x y else none
  | .nilIface => none
  | _ => eqInA P 16 t x y
def shiftA (op : BinOp) (k : IntKind) (x y : Int) : Option AV :=
  if y < 0 then none else
  match op with
  | .shl => some (.int k (k.wrap (x * 2 ^ (min y.toNat k.bits))))
  | .shr => some (.int k (x.fdiv (2 ^ (min y.toNat k.bits))))
  | _ => none
def isShift : BinOp → Bool
  | .shl | .shr => true
  | _ => false
def eqOpA (op : BinOp) (t : TypeId) (x y : AV) : Option AV :=
  match op with
  | .eql => match eqlA P t x y with
    | some b => some (.bool b)
    | none => none
  | .neq => match eqlA P t x y with
    | some b => some (.bool !b)
    | none => none
  | _ => none
def binA (op : BinOp) (t : TypeId) (x y : AV) : Option AV :=
  match x, y with
  | .int k a, .int l b => if isShift op then shiftA op k a b else if k = l then intArithA op k a b else none
  | .str a, .str b => strOpA op a b
  | x, y => eqOpA P op t x y
def unA (op : UnOp) (x : AV) : Option AV :=
  match op, x with
  | .not, .bool b => some (.bool !b)
  | .neg, .int k n => some (.int k (k.wrap (0 - n)))
  | _, _ => none
def convA (src dst : TypeId) (x : AV) : Option AV :=
  match P.underlying src, P.underlying dst, x with
  | some _, some (.int k), .int _ n => some (.int k (k.wrap n))
  | some _, some .string, .str s => some (.str s)
  | _, _, _ => none
def pickA (c a b : AV) : Option AV :=
  match c with
  | .bool true => some a
  | .bool false => some b
  | _ => none
def max2A (x y : AV) : Option AV :=
  match x, y with
  | .int k a, .int _ b => some (.int k (if b > a then b else a))
  | .str a, .str b => some (.str (if (!(strLt a b)) = true then a else b))
  | _, _ => none
def min2A (x y : AV) : Option AV :=
  match x, y with
  | .int k a, .int _ b => some (.int k (if b < a then b else a))
  | .str a, .str b => some (.str (if (strLt a b || strEq a b) = true then a else b))
  | _, _ => none
def foldA (f : AV → AV → Option AV) : AV → List AV → Option AV
  | x, [] => some x
  | x, y :: l => match f x y with
    | some z => foldA f z l
    | none => none

/-! ### Maps -/

/-- Whether a key can be looked up. -/
def ckFields (ck : TypeId → AV → Bool) (xs : List AV) : List Field → Bool
  | [] => true
  | f :: fs => if f.name ≠ "_" then
      match partA P f.type xs f.offset with
      | some a => ck f.type a && ckFields ck xs fs
      | none => false
    else ckFields ck xs fs
def ckItems (ck : TypeId → AV → Bool) (e : TypeId) (sz : Nat) (xs : List AV) : List Nat → Bool
  | [] => true
  | i :: is => match partA P e xs (i * sz) with
    | some a => ck e a && ckItems ck e sz xs is
    | none => false
def ckA : Nat → TypeId → AV → Bool
  | 0, _, _ => false
  | d + 1, t, x => match P.underlying t with
    | some .bool => true
    | some (.int _) => true
    | some .string => true
    | some (.struct fs) => match x with
      | .agg xs => ckFields P (ckA d) xs fs.toList
      | _ => false
    | some (.array n e) => match x with
      | .agg xs => match szOf P e with
        | some sz => ckItems P (ckA d) e sz xs (List.range n)
        | none => false
      | _ => false
    | _ => false
def sameCell : AV → AV → Bool
  | .bool a, .bool b => a == b
  | .int k a, .int l b => decide (k = l) && (a == b)
  | .str a, .str b => strEq a b
  | _, _ => false
def sameCells : List AV → List AV → Bool
  | [], [] => true
  | a :: x, b :: y => sameCell a b && sameCells x y
  | _, _ => false
/-- Whether two keys have the same bits. -/
def sameA : AV → AV → Bool
  | .agg x, .agg y => sameCells x y
  | x, y => sameCell x y
def keyEq (t : TypeId) (x y : AV) : Option Bool := eqInA P 16 t x y
def findA (kt : TypeId) (k : AV) : List (AV × AV × Nat) → Nat → Option (Option (Nat × AV))
  | [], _ => some none
  | (k', v, _) :: es, i => match keyEq P kt k k' with
    | some true => some (some (i, v))
    | some false => findA kt k es (i + 1)
    | none => none
def mapOf (h : AH) : AV → Option (List (AV × AV × Nat) × Nat)
  | .nilMap => some ([], 0)
  | .map id => match h.get id with
    | some (.mp es c) => some (es, c)
    | _ => none
  | _ => none
def keyFits (t : TypeId) (k : AV) : Bool := ckA P 16 t k
def lookupA (h : AH) (t : TypeId) (m k : AV) (ok : Bool) : Option AV :=
  match P.underlying t with
  | some (.map kt et) => match mapOf h m with
    | none => none
    | some (es, _) => if keyFits P kt k then match findA P kt k es 0 with
        | none => none
        | some (some (_, v)) => some (if ok then .tuple [v, .bool true] else v)
        | some none => match zeroOf P et with
          | none => none
          | some z => some (if ok then .tuple [z, .bool false] else z)
      else none
  | _ => none
def setEntry : List (AV × AV × Nat) → Nat → AV → List (AV × AV × Nat)
  | [], _, _ => []
  | (k, _, b) :: es, 0, x => (k, x, b) :: es
  | e :: es, i + 1, x => e :: setEntry es i x
def mapUpdateA (h : AH) (t : TypeId) (m k v : AV) : Option AH :=
  match P.underlying t, m with
  | some (.map kt _), .map id => match h.get id with
    | some (.mp es c) => if keyFits P kt k then match findA P kt k es 0 with
        | none => none
        | some (some (i, _)) => match es[i]? with
          | some (k', _, _) => if sameA k' k = true then some (h.set id (.mp (setEntry es i v) c)) else none
          | none => none
        | some none => some (h.set id (.mp (es ++ [(k, v, c)]) (c + 1)))
      else none
    | _ => none
  | _, _ => none
def bornAt : List (AV × AV × Nat) → Nat → Nat
  | [], _ => 0
  | (_, _, b) :: _, 0 => b
  | _ :: es, i + 1 => bornAt es i
def mapEntryA (h : AH) (t : TypeId) (m k : AV) : Option (AV × AH) :=
  match P.underlying t, m with
  | some (.map kt et), .map id => match h.get id with
    | some (.mp es c) => if keyFits P kt k then match findA P kt k es 0 with
        | none => none
        | some (some (i, v)) => match es[i]? with
          | some (k', _, b) => if sameA k' k = true then some (.tuple [v, .int .i64 (b : Int)], h.set id (.mp es c)) else none
          | none => none
        | some none => match zeroOf P et with
          | none => none
          | some z => some (.tuple [z, .int .i64 (c : Int)], h.set id (.mp (es ++ [(k, z, c)]) (c + 1)))
      else none
    | _ => none
  | _, _ => none
def bornIdx : List (AV × AV × Nat) → Int → Nat → Option Nat
  | [], _, _ => none
  | (_, _, b) :: es, s, i => if (b : Int) = s then some i else bornIdx es s (i + 1)
def entryStoreA (h : AH) (m s v : AV) : Option AH :=
  match m, s with
  | .map id, .int _ s => match h.get id with
    | some (.mp es c) => match bornIdx es s 0 with
      | some i => some (h.set id (.mp (setEntry es i v) c))
      | none => none
    | _ => none
  | _, _ => none
def rangeA (h : AH) (t : TypeId) (x : AV) : Option (AV × AH) :=
  match P.underlying t, x with
  | some (.map _ _), .nilMap => some (.ptr h.next 0, h.new (.miter none 0 [] 0))
  | some (.map _ _), .map id => match h.get id with
    | some (.mp _ c) => some (.ptr h.next 0, h.new (.miter (some id) c [] c))
    | _ => none
  | _, _ => none
def nextA (h : AH) (x : AV) : Outs (AV × AH) :=
  match x with
  | .ptr r 0 => match h.get r with
    | some (.miter none _ _ _) => one (.tuple [.bool false], h)
    | some (.miter (some m) since seen last) => match h.get m with
      | some (.mp es c) =>
        if !seen.isEmpty && !es.isEmpty && es.all (fun e => decide (last ≤ e.2.2)) then none else
        let left := es.filter fun e => !seen.contains e.2.2
        let old := left.filter fun e => decide (e.2.2 < since)
        let new := left.filter fun e => decide (since ≤ e.2.2)
        some ((if old.isEmpty then [(AV.tuple [.bool false], h)] else []) ++
          (old ++ new).map fun e => (AV.tuple [.bool true, e.1, e.2.1], h.set r (.miter (some m) since (seen ++ [e.2.2]) c)))
      | _ => none
    | _ => none
  | _ => none
def findBorn : List (AV × AV × Nat) → Nat → Option (AV × AV)
  | [], _ => none
  | (k, v, b) :: es, s => if b = s then some (k, v) else findBorn es s
def entryA (h : AH) (x : AV) : Option AV :=
  match x with
  | .ptr r 0 => match h.get r with
    | some (.miter (some m) _ seen stepped) => match h.get m, seen.getLast? with
      | some (.mp es c), some s => if c = stepped then match findBorn es s with
          | some (k, v) => some (.tuple [k, v])
          | none => none
        else none
      | _, _ => none
    | _ => none
  | _ => none

def lenBA (h : AH) (t : TypeId) (x : AV) : Option AV :=
  match P.underlying t, x with
  | some .string, .str s => some (.int .i64 (s.size : Int))
  | some (.array n _), _ => some (.int .i64 (n : Int))
  | some (.slice _), .nilSlice => some (.int .i64 0)
  | some (.slice _), .slice _ _ n _ => some (.int .i64 (n : Int))
  | some (.slice _), .view n _ _ => some (.int .i64 (n : Int))
  | some (.map _ _), .nilMap => some (.int .i64 0)
  | some (.map _ _), .map id => match h.get id with
    | some (.mp es _) => some (.int .i64 (es.length : Int))
    | _ => none
  | _, _ => none
def capBA (t : TypeId) (x : AV) : Option AV :=
  match P.underlying t, x with
  | some (.slice _), .nilSlice => some (.int .i64 0)
  | some (.slice _), .slice _ _ _ (.known c) => some (.int .i64 (c : Int))
  | _, _ => none

def builtinA (h : AH) (b : Builtin) (ts : List TypeId) (args : List AV) : Option (AV × AH) :=
  match b, args with
  | .len, [x] => match ts with
    | t :: _ => (lenBA P h t x).map fun v => (v, h)
    | [] => none
  | .cap, [x] => match ts with
    | t :: _ => (capBA P t x).map fun v => (v, h)
    | [] => none
  | .append, [s, x] => appendA P h ts s x
  | .copy, [d, x] => copyA P h ts d x
  | .clear, [d] => clearA P h ts d
  | .max, x :: l => (foldA max2A x l).map fun v => (v, h)
  | .min, x :: l => (foldA min2A x l).map fun v => (v, h)
  | _, _ => none

/-! ### Operations, code, calls -/

def zipParts : List (Nat × Operand) → List AV → List (Nat × AV)
  | (i, _) :: l, a :: as => (i, a) :: zipParts l as
  | _, _ => []
def optOp (tm : TM) : Option Operand → Option (Option AV)
  | none => some none
  | some x => (operand tm x).map some
def val1 (h : AH) (x : Option AV) : Outs (AV × AH) :=
  match x with
  | some v => one (v, h)
  | none => none
def val2 (x : Option (AV × AH)) : Outs (AV × AH) :=
  match x with
  | some v => one v
  | none => none
def val3 (x : Option AH) : Outs (AV × AH) :=
  match x with
  | some h => one (.undef, h)
  | none => none

def opMove (tm : TM) (h : AH) (x : Operand) : Outs (AV × AH) := val1 h (operand tm x)
def opPick (tm : TM) (h : AH) (c a b : Operand) : Outs (AV × AH) :=
  match operand tm c with
  | some (.bool true) => val1 h (operand tm a)
  | some (.bool false) => val1 h (operand tm b)
  | _ => none
def opAlloc (h : AH) (e : TypeId) : Outs (AV × AH) :=
  match zeroOf P e with
  | some z => one (.ptr h.next 0, h.new (.row e z.cells false))
  | none => none
def opBox (tm : TM) (h : AH) (e : TypeId) (x : Operand) : Outs (AV × AH) :=
  match operand tm x with
  | some v => one (.ptr h.next 0, h.new (.row e v.cells false))
  | none => none
def opBuild (tm : TM) (h : AH) (t : TypeId) (ps : Array (Nat × Operand)) : Outs (AV × AH) :=
  match operands tm (ps.toList.map (·.2)) with
  | some vs => val1 h (buildA P t (zipParts ps.toList vs))
  | none => none
def opBuildSlice (tm : TM) (h : AH) (t : TypeId) (n : Nat) (ps : Array (Nat × Operand)) : Outs (AV × AH) :=
  match operands tm (ps.toList.map (·.2)) with
  | some vs => val2 (buildSliceA P h t n (zipParts ps.toList vs))
  | none => none
def on1 (tm : TM) (x : Operand) (f : AV → Outs (AV × AH)) : Outs (AV × AH) :=
  match operand tm x with
  | some x => f x
  | none => none
def on2 (tm : TM) (x y : Operand) (f : AV → AV → Outs (AV × AH)) : Outs (AV × AH) :=
  match operand tm x with
  | some x => match operand tm y with
    | some y => f x y
    | none => none
  | none => none
def on3 (tm : TM) (x y z : Operand) (f : AV → AV → AV → Outs (AV × AH)) : Outs (AV × AH) :=
  match operand tm x with
  | some x => match operand tm y with
    | some y => match operand tm z with
      | some z => f x y z
      | none => none
    | none => none
  | none => none
def nilCheckA (h : AH) : AV → Outs (AV × AH)
  | .ptr i o => one (.ptr i o, h)
  | .rptr cs o => one (.rptr cs o, h)
  | _ => none
def opMakeFunc (tm : TM) (h : AH) (fn : Fn) (fs cs : Array Operand) : Outs (AV × AH) :=
  match operands tm fs.toList with
  | some fs => match operands tm cs.toList with
    | some cs => one (.func fn fs cs, h)
    | none => none
  | none => none
def opMakeMap (tm : TM) (h : AH) (t : TypeId) (r : Option Operand) : Outs (AV × AH) :=
  match r with
  | none => one (.map h.next, h.new (.mp [] 0))
  | some r => match P.underlying t with
    | some (.map _ _) => match operand tm r with
      | some (.int _ _) => one (.map h.next, h.new (.mp [] 0))
      | _ => none
    | _ => none
def opSlice (tm : TM) (h : AH) (t : TypeId) (x : Operand) (lo hi mx : Option Operand) : Outs (AV × AH) :=
  match operand tm x with
  | some x => match optOp tm lo with
    | some lo => match optOp tm hi with
      | some hi => match optOp tm mx with
        | some mx => val1 h (sliceA P t x lo hi mx)
        | none => none
      | none => none
    | none => none
  | none => none
def extractA (h : AH) (i : Nat) : AV → Outs (AV × AH)
  | .tuple vs => val1 h vs[i]?
  | _ => none
/-- What is to be done with the temporaries and the heap; the box makes the kernel keep what stands in it. -/
structure Clo where
  run : TM → AH → Outs (AV × AH)
/-- An operation that is no call of a Go function. -/
def opA (op : Op) : Clo :=
  match op with
  | .move x => ⟨fun tm h => opMove tm h x⟩
  | .assign x => ⟨fun tm h => opMove tm h x⟩
  | .pick c a b => ⟨fun tm h => opPick tm h c a b⟩
  | .alloc e => ⟨fun _ h => opAlloc P h e⟩
  | .box e x => ⟨fun tm h => opBox tm h e x⟩
  | .build t ps => ⟨fun tm h => opBuild P tm h t ps⟩
  | .buildSlice t n ps => ⟨fun tm h => opBuildSlice P tm h t n ps⟩
  | .load t a => ⟨fun tm h => on1 tm a fun a => val1 h (loadA P h t a)⟩
  | .store t a x => ⟨fun tm h => on2 tm a x fun a x => val3 (storeA P h t a x)⟩
  | .nilCheck x => ⟨fun tm h => on1 tm x (nilCheckA h)⟩
  | .binOp op t x y _ => ⟨fun tm h => on2 tm x y fun x y => val1 h (binA P op t x y)⟩
  | .unOp op _ x => ⟨fun tm h => on1 tm x fun x => val1 h (unA op x)⟩
  | .convert s d x => ⟨fun tm h => on1 tm x fun x => val1 h (convA P s d x)⟩
  | .makeFunc fn fs cs => ⟨fun tm h => opMakeFunc tm h fn fs cs⟩
  | .makeMap t r => ⟨fun tm h => opMakeMap P tm h t r⟩
  | .makeSlice t l c => ⟨fun tm h => on2 tm l c fun l c => val2 (makeSliceA P h t l c)⟩
  | .slice t x lo hi mx => ⟨fun tm h => opSlice P tm h t x lo hi mx⟩
  | .fieldAddr s x f => ⟨fun tm h => on1 tm x fun x => val1 h (fieldAddrA P s x f)⟩
  | .field s x f => ⟨fun tm h => on1 tm x fun x => val1 h (fieldA P s x f)⟩
  | .indexAddr t x i => ⟨fun tm h => on2 tm x i fun x i => val1 h (indexAddrA P t x i)⟩
  | .index t x i => ⟨fun tm h => on2 tm x i fun x i => val1 h (indexA P t x i)⟩
  | .lookup t x i ok => ⟨fun tm h => on2 tm x i fun x i => val1 h (lookupA P h t x i ok)⟩
  | .mapUpdate t m k v => ⟨fun tm h => on3 tm m k v fun m k v => val3 (mapUpdateA P h t m k v)⟩
  | .insert t m k v => ⟨fun tm h => on3 tm m k v fun m k v => val3 (mapUpdateA P h t m k v)⟩
  | .mapEntry t m k => ⟨fun tm h => on2 tm m k fun m k => val2 (mapEntryA P h t m k)⟩
  | .entryStore _ m s v => ⟨fun tm h => on3 tm m s v fun m s v => val3 (entryStoreA h m s v)⟩
  | .range t x => ⟨fun tm h => on1 tm x fun x => val2 (rangeA P h t x)⟩
  | .next it s => match s with
    | true => ⟨fun _ _ => none⟩
    | false => ⟨fun tm h => on1 tm it (nextA h)⟩
  | .entry it => ⟨fun tm h => on1 tm it fun x => val1 h (entryA h x)⟩
  | .extract x i => ⟨fun tm h => on1 tm x (extractA h i)⟩
  | _ => ⟨fun _ _ => none⟩

inductive AEx where
  | normal
  | exit (id : Nat)
  | ret

def guardA (ops : Array Oper) (tm : TM) (j : Nat) (want : Bool) : Option Bool :=
  match ops[j]? with
  | some p => match p.dst with
    | some d => match tm.get d with
      | some (.bool b) => match b, want with
        | true, true => some true
        | false, false => some true
        | _, _ => some false
      | some _ => some false
      | none => none
    | none => none
  | none => none
def putA {β : Type} (nt : Nat) (tm : TM) (d : Option Tmp) (v : AV) (c : TM → Outs β) : Outs β :=
  match d with
  | some d => bif Nat.blt d nt then AV.force v fun v => tm.putK (some v) (pathOf d) c else none
  | none => c tm
def argsT {β : Type} (l : List AV) : TM → Nat → (TM → β) → β :=
  List.rec (fun t _ c => c t) (fun v _ ih t i c => AV.force v fun v => t.putK (some v) (pathOf i) fun t => ih t (Nat.succ i) c) l
def resultA (h : AH) (tm : TM) : ResultVar → Option AV
  | .tmp t => tm.get t
  | .cell a t => match tm.get a with
    | some a => loadA P h t a
    | none => none
def resultsA (h : AH) (tm : TM) : List ResultVar → Option (List AV)
  | [] => some []
  | r :: l => match resultA P h tm r with
    | none => none
    | some a => match resultsA h tm l with
      | none => none
      | some as => some (a :: as)
def packA : List AV → AV
  | [v] => v
  | vs => .tuple vs

/-- How a call of a Go function comes out. -/
abbrev CallA := FuncId → List AV → AH → Outs (AV × AH)

/-- Whether a function has a text that is entered. -/
def enterB (f : FuncId) : Bool :=
  match P.funcs[f]? with
  | some fn => fn.body.isSome && !(fn.name == "runtime.NumGoroutine")
  | none => false
def callC (call : CallA) (h : AH) (args : List AV) : AV → Outs (AV × AH)
  | .func fn first captured => match fn with
    | .func f => match enterB P f with
      | true => call f (first ++ args ++ captured) h
      | false => none
    | _ => none
  | _ => none
def opCall (call : CallA) (c : Call) : Clo :=
  match c.callee with
  | .value f => ⟨fun tm h => match operands tm c.args.toList with
    | some vs => on1 tm f (callC P call h vs)
    | none => none⟩
  | .builtin b => ⟨fun tm h => match operands tm c.args.toList with
    | some vs => val2 (builtinA P h b c.argTypes.toList vs)
    | none => none⟩
  | _ => ⟨fun _ _ => none⟩
def opC (call : CallA) (op : Op) : Clo :=
  match op with
  | .call c => opCall P call c
  | op => opA P op
structure CloS where
  run : TM → AH → Outs St
structure CloE where
  run : TM → AH → Outs (AEx × St)
def opStep (call : CallA) (nt : Nat) (ops : Array Oper) (o : Oper) (next : CloS) : CloS :=
  match o with
  | ⟨dst, op, _, _, _, guard⟩ => match guard with
    | none => ⟨fun tm h => bindO ((opC P call op).run tm h) fun (v, h) => putA nt tm dst v fun tm => h.force fun h => next.run tm h⟩
    | some (j, want) => ⟨fun tm h => match guardA ops tm j want with
      | some true => bindO ((opC P call op).run tm h) fun (v, h) => putA nt tm dst v fun tm => h.force fun h => next.run tm h
      | some false => putA nt tm dst .undef fun tm => next.run tm h
      | none => none⟩
def evOps (call : CallA) (nt : Nat) (ops : Array Oper) (l : List Oper) : CloS :=
  List.rec ⟨fun tm h => one (tm, h)⟩ (fun o _ ih => opStep P call nt ops o ih) l
/-! ### A region that draws its order -/
/-- What an operation of such a region has done to memory: its place, the next number before it, the heap that it was given, and the one that it left. -/
structure Item where
  j : Nat
  c : Nat
  S : AH
  R : AH
/-- Whether an operation made or changed an object. -/
def Item.touch (it : Item) (id : Nat) : Bool :=
  (Nat.ble it.c id && Nat.blt id it.R.next) || (memB id it.R.dirty && (it.S.get id).isSome)
/-- The operations that come before one, in any order, as the bits of a number. -/
def maskOf (ms : List Nat) (o : Oper) : Nat :=
  o.after.toList.foldl (fun s e => bif Region.binds .any e then Nat.lor (Nat.lor s (Nat.pow 2 e.on)) (ms.getD e.on 0) else s) 0
def masksOf (ops : Array Oper) : List Nat := ops.toList.foldl (fun ms o => ms ++ [maskOf ms o]) []
def bitB (m i : Nat) : Bool := Nat.beq (Nat.mod (Nat.shiftRight m i) 2) 1
def preB (ms : List Nat) (j i : Nat) : Bool := bitB (ms.getD j 0) i
def cmpB (ms : List Nat) (i j : Nat) : Bool := preB ms i j || preB ms j i
/-- The object that stands at a number after some operations (the newest come first): the last of them that touched it left it. -/
def objAt (h0 : AH) (X : Nat → Bool) (items : List Item) (id : Nat) : Option AObj :=
  List.rec (h0.get id) (fun it _ ih => bif X it.j && it.touch id then it.R.get id else ih) items
/-- The objects of some operations laid over a heap. -/
def layIdK {β : Type} (it : Item) (id : Nat) (t : T AObj) (k : T AObj → β) : β :=
  bif it.touch id then Option.casesOn (it.R.get id) (t.putK none (pathOf id) k) fun o => t.putK (some o) (pathOf id) k else k t
def layNewK {β : Type} (it : Item) (n : Nat) : T AObj → (T AObj → β) → β :=
  Nat.rec (fun t k => k t) (fun m ih t k => layIdK it (it.c + m) t fun t => ih t k) n
def layOldK {β : Type} (it : Item) (l : List Nat) : T AObj → (T AObj → β) → β :=
  List.rec (fun t k => k t) (fun id _ ih t k => layIdK it id t fun t => ih t k) l
def layAllK {β : Type} (X : Nat → Bool) (items : List Item) : T AObj → (T AObj → β) → β :=
  List.rec (fun t k => k t) (fun it _ ih t k => ih t fun t => bif X it.j then layNewK it (it.R.next - it.c) t fun t => layOldK it it.R.dirty t k else k t) items
inductive Dom where
  | empty
  | one (id : Nat)
  | all
def domOfV : Option AV → Dom
  | some (.ptr id _) => .one id
  | some (.map id) => .one id
  | some (.slice id _ _ _) => .one id
  | some (.rptr _ _) => .empty
  | some (.view _ _ _) => .empty
  | some .nilMap => .empty
  | some .nilSlice => .empty
  | some (.str _) => .empty
  | _ => .all
structure CloM where
  run : TM → Dom
/-- What part of the heap an operation is given (a guess: it fails where it wants more). -/
def domOf (op : Op) : CloM :=
  match op with
  | .load _ a => ⟨fun tm => domOfV (operand tm a)⟩
  | .store _ a _ => ⟨fun tm => domOfV (operand tm a)⟩
  | .lookup _ m _ _ => ⟨fun tm => domOfV (operand tm m)⟩
  | .mapUpdate _ m _ _ => ⟨fun tm => domOfV (operand tm m)⟩
  | .insert _ m _ _ => ⟨fun tm => domOfV (operand tm m)⟩
  | .mapEntry _ m _ => ⟨fun tm => domOfV (operand tm m)⟩
  | .entryStore _ m _ _ => ⟨fun tm => domOfV (operand tm m)⟩
  | .range _ m => ⟨fun tm => domOfV (operand tm m)⟩
  | .next .. => ⟨fun _ => .all⟩
  | .entry _ => ⟨fun _ => .all⟩
  | .call c => match c.callee with
    | .builtin .len => match c.args.toList with
      | x :: _ => ⟨fun tm => domOfV (operand tm x)⟩
      | [] => ⟨fun _ => .empty⟩
    | .builtin .min => ⟨fun _ => .empty⟩
    | .builtin .max => ⟨fun _ => .empty⟩
    | _ => ⟨fun _ => .all⟩
  | _ => ⟨fun _ => .empty⟩
def allX (X : Nat → Bool) (items : List Item) : Bool :=
  List.rec true (fun it _ ih => bif X it.j then ih else false) items
/-- The heap that an operation is given; cur: what all before it have left. -/
def startK {β : Type} (h0 : AH) (cur : T AObj) (X : Nat → Bool) (items : List Item) (c : Nat) (d : Dom) (k : Bool → AH → β) : β :=
  match d with
  | .empty => k false ⟨.nil, c, c, []⟩
  | .one id => T.putK (objAt h0 X items id) (pathOf id) .nil fun t => k false ⟨t, c, c, []⟩
  | .all => bif allX X items then k true ⟨cur, c, c, []⟩ else layAllK X items h0.objs fun t => k false ⟨t, c, c, []⟩
def curK {β : Type} (it : Item) (b : Bool) (cur : T AObj) (k : T AObj → β) : β :=
  bif b then k it.R.objs else layNewK it (it.R.next - it.c) cur fun t => layOldK it it.R.dirty t k
def pushI (b : Bool) (it : Item) (l : List Item) : List Item :=
  match b with
  | true => it :: l
  | false => match it.S.objs with
  | .nil => bif Nat.beq it.R.next it.c then (match it.R.dirty with
    | [] => l
    | _ => it :: l) else it :: l
  | _ => it :: l
/-- Puts a value, or not. -/
def putD {β : Type} (nt : Nat) (tm : TM) (d : Option Tmp) (v : AV) (c : TM → Option β) : Option β :=
  match d with
  | some d => bif Nat.blt d nt then AV.force v fun v => tm.putK (some v) (pathOf d) c else none
  | none => c tm
structure CloD (β : Type) where
  run : AH → TM → T AObj → List Item → Nat → (TM → T AObj → List Item → Nat → Option β) → Option β
/-- What comes of an operation's value, and of the heaps. -/
def drawPut {β : Type} (nt : Nat) (dst : Option Tmp) (j : Nat) (next : CloD β) (h0 : AH) (tm : TM) (cur : T AObj) (items : List Item) (c : Nat) (k : TM → T AObj → List Item → Nat → Option β) (b : Bool) (v : AV) (S R : AH) : Option β :=
  putD nt tm dst v fun tm => forceN R.next fun c' => bif Nat.ble c c' then curK ⟨j, c, S, R⟩ b cur fun cur => next.run h0 tm cur (pushI b ⟨j, c, S, R⟩ items) c' k else none
/-- One operation: its value, the heap that it is given, and the one that it leaves. -/
def drawRun {β : Type} (op : CloM) (run : Clo) (X : Nat → Bool) (h0 : AH) (cur : T AObj) (tm : TM) (items : List Item) (c : Nat) (k : Bool → AV → AH → AH → Option β) : Option β :=
  startK h0 cur X items c (op.run tm) fun b S => match run.run tm S with
    | some [(v, R)] => R.force fun R => k b v S R
    | _ => none
def drawStep {β : Type} (call : CallA) (nt : Nat) (ops : Array Oper) (ms : List Nat) (o : Oper) (j : Nat) (next : CloD β) : CloD β :=
  match o with
  | ⟨dst, op, _, _, _, guard⟩ => match guard with
    | none => ⟨fun h0 tm cur items c k => drawRun (domOf op) (opC P call op) (preB ms j) h0 cur tm items c (drawPut nt dst j next h0 tm cur items c k)⟩
    | some (g, want) => ⟨fun h0 tm cur items c k => match guardA ops tm g want with
      | some true => drawRun (domOf op) (opC P call op) (preB ms j) h0 cur tm items c (drawPut nt dst j next h0 tm cur items c k)
      | some false => drawPut nt dst j next h0 tm cur items c k false .undef ⟨.nil, c, c, []⟩ ⟨.nil, c, c, []⟩
      | none => none⟩
/-- The operations of such a region, in the order of the text, each upon what those before it have left. -/
def drawGo {β : Type} (call : CallA) (nt : Nat) (ops : Array Oper) (ms : List Nat) (l : List Oper) : Nat → CloD β :=
  List.rec (fun _ => ⟨fun _ tm cur items c k => k tm cur items c⟩)
    (fun o _ ih j => drawStep P call nt ops ms o j (forceN (Nat.succ j) fun j' => ih j')) l
/-- What must hold of the operations of such a region, whatever they come to. -/
def statPair (o p : Oper) (ops : Array Oper) : Bool :=
  match p.dst with
  | none => true
  | some d => !memB d (o.looksAt ops) && (match o.dst with
    | some d' => !Nat.beq d d'
    | none => true)
def statB (ops : Array Oper) (ms : List Nat) : Bool :=
  (List.range ops.size).all fun j => match ops[j]? with
    | none => false
    | some o => Nat.beq (ms.getD j 0) (maskOf ms o) && (o.after.toList.all fun e => !Region.binds .any e || Nat.blt e.on j) &&
      (List.range ops.size).all fun i => Nat.beq i j || cmpB ms i j || match ops[i]? with
        | none => false
        | some p => statPair o p ops
/-- No operation was given an object that another one touched, unless one of them comes before the other. -/
def dynPair (ms : List Nat) (a b : Item) : Bool :=
  Nat.beq a.j b.j || cmpB ms a.j b.j || match b.S.objs with
    | .nil => true
    | _ => List.rec true (fun id _ ih => bif (match a.S.get id with
      | none => true
      | some _ => match b.S.get id with
        | none => true
        | some _ => false) then ih else false) a.R.dirty
def dynB (ms : List Nat) (items : List Item) : Bool :=
  List.rec true (fun a _ ih => bif (match a.R.dirty with
    | [] => true
    | _ => List.rec true (fun b _ ih => bif dynPair ms a b then ih else false) items) then ih else false) items
def markAll (base : Nat) (items : List Item) (l : List Nat) : List Nat :=
  List.rec l (fun it _ ih => List.rec ih (fun id _ ih => mark id base ih) it.R.dirty) items
def evDraw (call : CallA) (nt : Nat) (ops : Array Oper) : CloS :=
  match statB ops (masksOf ops) with
  | false => ⟨fun _ _ => none⟩
  | true => ⟨fun tm h => (drawGo P call nt ops (masksOf ops) ops.toList 0).run h tm h.objs [] h.next fun tm cur items c => match dynB (masksOf ops) items with
      | false => none
      | true => AH.force ⟨cur, c, h.base, markAll h.base items h.dirty⟩ fun h => one (tm, h)⟩
def loopN (body : CloE) (n : Nat) : TM → AH → Outs (AEx × St) :=
  Nat.rec (fun _ _ => none) (fun _ ih tm h => bindO (body.run tm h) fun (e, tm, h) => match e with
    | .normal => ih tm h
    | e => one (e, tm, h)) n
def ev (call : CallA) (nt : Nat) (c : Code) : CloE :=
  Code.rec (motive := fun _ => CloE)
    ⟨fun tm h => one (.normal, tm, h)⟩
    (fun _ ops draw => match draw with
      | false => ⟨fun tm h => bindO ((evOps P call nt ops ops.toList).run tm h) fun (tm, h) => one (.normal, tm, h)⟩
      | true => ⟨fun tm h => bindO ((evDraw P call nt ops).run tm h) fun (tm, h) => one (.normal, tm, h)⟩)
    (fun _ _ a b => ⟨fun tm h => bindO (a.run tm h) fun (e, tm, h) => match e with
      | .normal => b.run tm h
      | e => one (e, tm, h)⟩)
    (fun c _ _ a b => ⟨fun tm h => match operand tm c with
      | some (.bool true) => a.run tm h
      | some (.bool false) => b.run tm h
      | _ => none⟩)
    (fun id _ c => ⟨fun tm h => bindO (c.run tm h) fun (e, tm, h) => match e with
      | .exit i => bif Nat.beq i id then one (.normal, tm, h) else one (.exit i, tm, h)
      | e => one (e, tm, h)⟩)
    (fun _ c => ⟨loopN c 1000000⟩)
    (fun _ _ _ _ _ _ => ⟨fun _ _ => none⟩)
    (fun id => ⟨fun tm h => one (.exit id, tm, h)⟩)
    (fun _ c => c)
    (fun _ => ⟨fun tm h => one (.normal, tm, h)⟩)
    (fun _ => ⟨fun _ _ => none⟩)
    ⟨fun tm h => one (.ret, tm, h)⟩
    (fun _ => ⟨fun _ _ => none⟩) c
structure CloC where
  run : List AV → AH → Outs (AV × AH)
def bodyA (call : CallA) (f : FuncId) : CloC :=
  match P.funcs[f]? with
  | none => ⟨fun _ _ => none⟩
  | some fn => match fn.body with
    | none => ⟨fun _ _ => none⟩
    | some c => ⟨fun args h => bif Nat.ble args.length fn.ntmps then argsT args .nil 0 fun tm => bindO ((ev P call fn.ntmps c).run tm h) fun (e, tm, h) => match e with
      | .exit _ => none
      | _ => match resultsA P h tm fn.results.toList with
        | some vs => one (packA vs, h)
        | none => none
      else none⟩
/-- Calls, up to a depth; sum: what is known of calls. -/
def callA (sum : FuncId → List AV → Option AV) : Nat → CallA
  | 0 => fun _ _ _ => none
  | k + 1 => fun f args h => match sum f args with
    | some v => one (v, h)
    | none => (bodyA P (callA sum k) f).run args h
end
end
end Go.Proofs.YtmeianaaiiiinaaGreat.Ev
