/-
  strings.IndexByte: the contract of the shelf, at this program, in plain words (written by a tool of the kit).
-/
import Derived.Ground.NamesProg
import Derived.Shelf.Strings.Search1
import Derived.Test.YtmeianaaiiiinaaGreatProg
namespace Go.Proofs
open Go.Shelf
def YtmeianaaiiiinaaGreat.Ev.lays217_ren : Go.Shelf.Ren := ⟨fun | 217 => 146 | 266 => 190 | n => n, fun | 9 => 9 | 5 => 5 | 3 => 3 | n => n, fun | n => n⟩
theorem YtmeianaaiiiinaaGreat.Ev.lays217 : Go.Proofs.Lays.n217 Tryz.prog YtmeianaaiiiinaaGreat.Ev.lays217_ren := {
  mixed := by kernel_rfl
  f217 := Tryz.func146.trans (congrArg some (by kernel_rfl))
  f266 := Tryz.func190.trans (congrArg some (by kernel_rfl))
  t3 := Tryz.underlying3
  a3 := Tryz.isAgg3
  z3 := Tryz.sizeOf3
  v3 := Tryz.zeroValue3
  t5 := Tryz.underlying5
  a5 := Tryz.isAgg5
  z5 := Tryz.sizeOf5
  v5 := Tryz.zeroValue5
  t9 := Tryz.underlying9
  a9 := Tryz.isAgg9
  z9 := Tryz.sizeOf9
  v9 := Tryz.zeroValue9 }
theorem YtmeianaaiiiinaaGreat.Ev.indexByte_calls (s : ByteArray) (c : Int) (w : World) :
    Calls Tryz.prog 146 #[.string s, .int .u8 c] w fun e w' => e = .returned (.int .i64 (Lib.indexByte s.data.toList c.toNat.toUInt8)) ∧ w' = w := Any.stringslite_IndexByte YtmeianaaiiiinaaGreat.Ev.lays217 s c w
end Go.Proofs
