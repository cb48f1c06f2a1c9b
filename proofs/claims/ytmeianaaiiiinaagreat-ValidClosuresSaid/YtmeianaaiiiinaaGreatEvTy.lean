/- Facts on the program's types. -/
import Derived.Test.YtmeianaaiiiinaaGreatProg
import Derived.Test.YtmeianaaiiiinaaGreatEvWf
import Derived.KernelRfl
namespace Go.Proofs.YtmeianaaiiiinaaGreat.Ev
open Go Go.Proofs
set_option linter.unusedVariables false
set_option linter.unusedSimpArgs false
set_option linter.all false

theorem pt_32 : ∀ (cs : List AV) (off : Nat), partA Tryz.prog 32 cs off = aggAt 2 cs off := fun cs off => by kernel_rfl
theorem zo_32 : zeroOf Tryz.prog 32 = some (.agg [.int .i64 0, .int .i64 0]) := by kernel_rfl
theorem sk_32 : ∀ (h : AH) (a v : AV), storeA Tryz.prog h 32 a v = storeK 2 h a v := fun h a v => by kernel_rfl
theorem sz_32 : szOf Tryz.prog 32 = some 2 := by kernel_rfl
theorem fa_32_0 : ∀ (x : AV), fieldAddrA Tryz.prog 32 x 0 = addrAdd x 0 := fun x => by kernel_rfl
theorem fd_32_0 : ∀ (x : AV), fieldA Tryz.prog 32 x 0 = onAgg (fun cs => partA Tryz.prog 3 cs 0) x := fun x => by kernel_rfl
theorem fa_32_1 : ∀ (x : AV), fieldAddrA Tryz.prog 32 x 1 = addrAdd x 1 := fun x => by kernel_rfl
theorem fd_32_1 : ∀ (x : AV), fieldA Tryz.prog 32 x 1 = onAgg (fun cs => partA Tryz.prog 3 cs 1) x := fun x => by kernel_rfl
theorem bd_32 : ∀ (ps : List (Nat × AV)), buildA Tryz.prog 32 ps = bdK [.int .i64 0, .int .i64 0] (fun i => [(0, 1), (1, 1)][i]?) ps := fun ps => by kernel_rfl
theorem pt_3 : ∀ (cs : List AV) (off : Nat), partA Tryz.prog 3 cs off = cs[off]? := fun cs off => by kernel_rfl
theorem zo_3 : zeroOf Tryz.prog 3 = some (.int .i64 0) := by kernel_rfl
theorem sk_3 : ∀ (h : AH) (a v : AV), storeA Tryz.prog h 3 a v = storeK 1 h a v := fun h a v => by kernel_rfl
theorem sz_3 : szOf Tryz.prog 3 = some 1 := by kernel_rfl
theorem pt_5 : ∀ (cs : List AV) (off : Nat), partA Tryz.prog 5 cs off = cs[off]? := fun cs off => by kernel_rfl
theorem zo_5 : zeroOf Tryz.prog 5 = some (.int .u8 0) := by kernel_rfl
theorem sk_5 : ∀ (h : AH) (a v : AV), storeA Tryz.prog h 5 a v = storeK 1 h a v := fun h a v => by kernel_rfl
theorem sz_5 : szOf Tryz.prog 5 = some 1 := by kernel_rfl
theorem pt_4 : ∀ (cs : List AV) (off : Nat), partA Tryz.prog 4 cs off = cs[off]? := fun cs off => by kernel_rfl
theorem zo_4 : zeroOf Tryz.prog 4 = some (.bool false) := by kernel_rfl
theorem sk_4 : ∀ (h : AH) (a v : AV), storeA Tryz.prog h 4 a v = storeK 1 h a v := fun h a v => by kernel_rfl
theorem sz_4 : szOf Tryz.prog 4 = some 1 := by kernel_rfl
theorem pt_9 : ∀ (cs : List AV) (off : Nat), partA Tryz.prog 9 cs off = cs[off]? := fun cs off => by kernel_rfl
theorem zo_9 : zeroOf Tryz.prog 9 = some (.str ⟨#[]⟩) := by kernel_rfl
theorem sk_9 : ∀ (h : AH) (a v : AV), storeA Tryz.prog h 9 a v = storeK 1 h a v := fun h a v => by kernel_rfl
theorem sz_9 : szOf Tryz.prog 9 = some 1 := by kernel_rfl
theorem ln_9 : ∀ (h : AH) (x : AV), lenBA Tryz.prog h 9 x = lenStr x := fun h x => by cases x <;> kernel_rfl
theorem pt_126 : ∀ (cs : List AV) (off : Nat), partA Tryz.prog 126 cs off = aggAt 6 cs off := fun cs off => by kernel_rfl
theorem zo_126 : zeroOf Tryz.prog 126 = some (.agg [.int .i64 0, .int .i64 0, .int .i64 0, .int .i64 0, .int .i64 0, .int .i64 0]) := by kernel_rfl
theorem sk_126 : ∀ (h : AH) (a v : AV), storeA Tryz.prog h 126 a v = storeK 6 h a v := fun h a v => by kernel_rfl
theorem sz_126 : szOf Tryz.prog 126 = some 6 := by kernel_rfl
theorem bd_126 : ∀ (ps : List (Nat × AV)), buildA Tryz.prog 126 ps = bdK [.int .i64 0, .int .i64 0, .int .i64 0, .int .i64 0, .int .i64 0, .int .i64 0] (fun i => some (i * 1, 1)) ps := fun ps => by kernel_rfl
theorem ix_126 : ∀ (x i : AV), indexAddrA Tryz.prog 126 x i = ixA 6 1 x i := fun x i => by cases i <;> kernel_rfl
theorem pt_124 : ∀ (cs : List AV) (off : Nat), partA Tryz.prog 124 cs off = aggAt 256 cs off := fun cs off => by kernel_rfl
theorem zo_124 : zeroOf Tryz.prog 124 = some (.agg (List.replicate 256 (.int .u8 0))) := by kernel_rfl
theorem sk_124 : ∀ (h : AH) (a v : AV), storeA Tryz.prog h 124 a v = storeK 256 h a v := fun h a v => by kernel_rfl
theorem sz_124 : szOf Tryz.prog 124 = some 256 := by kernel_rfl
theorem ix_124 : ∀ (x i : AV), indexAddrA Tryz.prog 124 x i = ixA 256 1 x i := fun x i => by cases i <;> kernel_rfl
theorem pt_123 : ∀ (cs : List AV) (off : Nat), partA Tryz.prog 123 cs off = aggAt 6 cs off := fun cs off => by kernel_rfl
theorem zo_123 : zeroOf Tryz.prog 123 = some (.agg [.str ⟨#[]⟩, .str ⟨#[]⟩, .str ⟨#[]⟩, .str ⟨#[]⟩, .str ⟨#[]⟩, .str ⟨#[]⟩]) := by kernel_rfl
theorem sk_123 : ∀ (h : AH) (a v : AV), storeA Tryz.prog h 123 a v = storeK 6 h a v := fun h a v => by kernel_rfl
theorem sz_123 : szOf Tryz.prog 123 = some 6 := by kernel_rfl
theorem bd_123 : ∀ (ps : List (Nat × AV)), buildA Tryz.prog 123 ps = bdK [.str ⟨#[]⟩, .str ⟨#[]⟩, .str ⟨#[]⟩, .str ⟨#[]⟩, .str ⟨#[]⟩, .str ⟨#[]⟩] (fun i => some (i * 1, 1)) ps := fun ps => by kernel_rfl
theorem ix_123 : ∀ (x i : AV), indexAddrA Tryz.prog 123 x i = ixA 6 1 x i := fun x i => by cases i <;> kernel_rfl
theorem pt_56 : ∀ (cs : List AV) (off : Nat), partA Tryz.prog 56 cs off = cs[off]? := fun cs off => by kernel_rfl
theorem zo_56 : zeroOf Tryz.prog 56 = some (.nilFunc) := by kernel_rfl
theorem sk_56 : ∀ (h : AH) (a v : AV), storeA Tryz.prog h 56 a v = storeK 1 h a v := fun h a v => by kernel_rfl
theorem sz_56 : szOf Tryz.prog 56 = some 1 := by kernel_rfl
theorem pt_54 : ∀ (cs : List AV) (off : Nat), partA Tryz.prog 54 cs off = cs[off]? := fun cs off => by kernel_rfl
theorem zo_54 : zeroOf Tryz.prog 54 = some (.nilMap) := by kernel_rfl
theorem sk_54 : ∀ (h : AH) (a v : AV), storeA Tryz.prog h 54 a v = storeK 1 h a v := fun h a v => by kernel_rfl
theorem sz_54 : szOf Tryz.prog 54 = some 1 := by kernel_rfl
theorem ln_54 : ∀ (h : AH) (x : AV), lenBA Tryz.prog h 54 x = lenMp h x := fun h x => by cases x <;> kernel_rfl
theorem sm_54 : SKey Tryz.prog 54 9 35 := ⟨by kernel_rfl, fun a b => by kernel_rfl, fun a => by kernel_rfl⟩
theorem pt_35 : ∀ (cs : List AV) (off : Nat), partA Tryz.prog 35 cs off = aggAt 6 cs off := fun cs off => by kernel_rfl
theorem zo_35 : zeroOf Tryz.prog 35 = some (.agg [.str ⟨#[]⟩, .int .i64 0, .int .i64 0, .int .i64 0, .nilSlice, .nilSlice]) := by kernel_rfl
theorem sk_35 : ∀ (h : AH) (a v : AV), storeA Tryz.prog h 35 a v = storeK 6 h a v := fun h a v => by kernel_rfl
theorem sz_35 : szOf Tryz.prog 35 = some 6 := by kernel_rfl
theorem fa_35_0 : ∀ (x : AV), fieldAddrA Tryz.prog 35 x 0 = addrAdd x 0 := fun x => by kernel_rfl
theorem fd_35_0 : ∀ (x : AV), fieldA Tryz.prog 35 x 0 = onAgg (fun cs => partA Tryz.prog 9 cs 0) x := fun x => by kernel_rfl
theorem fa_35_1 : ∀ (x : AV), fieldAddrA Tryz.prog 35 x 1 = addrAdd x 1 := fun x => by kernel_rfl
theorem fd_35_1 : ∀ (x : AV), fieldA Tryz.prog 35 x 1 = onAgg (fun cs => partA Tryz.prog 3 cs 1) x := fun x => by kernel_rfl
theorem fa_35_2 : ∀ (x : AV), fieldAddrA Tryz.prog 35 x 2 = addrAdd x 2 := fun x => by kernel_rfl
theorem fd_35_2 : ∀ (x : AV), fieldA Tryz.prog 35 x 2 = onAgg (fun cs => partA Tryz.prog 32 cs 2) x := fun x => by kernel_rfl
theorem fa_35_3 : ∀ (x : AV), fieldAddrA Tryz.prog 35 x 3 = addrAdd x 4 := fun x => by kernel_rfl
theorem fd_35_3 : ∀ (x : AV), fieldA Tryz.prog 35 x 3 = onAgg (fun cs => partA Tryz.prog 25 cs 4) x := fun x => by kernel_rfl
theorem fa_35_4 : ∀ (x : AV), fieldAddrA Tryz.prog 35 x 4 = addrAdd x 5 := fun x => by kernel_rfl
theorem fd_35_4 : ∀ (x : AV), fieldA Tryz.prog 35 x 4 = onAgg (fun cs => partA Tryz.prog 33 cs 5) x := fun x => by kernel_rfl
theorem bd_35 : ∀ (ps : List (Nat × AV)), buildA Tryz.prog 35 ps = bdK [.str ⟨#[]⟩, .int .i64 0, .int .i64 0, .int .i64 0, .nilSlice, .nilSlice] (fun i => [(0, 1), (1, 1), (2, 2), (4, 1), (5, 1)][i]?) ps := fun ps => by kernel_rfl
theorem pt_33 : ∀ (cs : List AV) (off : Nat), partA Tryz.prog 33 cs off = cs[off]? := fun cs off => by kernel_rfl
theorem zo_33 : zeroOf Tryz.prog 33 = some (.nilSlice) := by kernel_rfl
theorem sk_33 : ∀ (h : AH) (a v : AV), storeA Tryz.prog h 33 a v = storeK 1 h a v := fun h a v => by kernel_rfl
theorem sz_33 : szOf Tryz.prog 33 = some 1 := by kernel_rfl
theorem ix_33 : ∀ (x i : AV), indexAddrA Tryz.prog 33 x i = ixS 2 x i := fun x i => by kernel_rfl
theorem ln_33 : ∀ (h : AH) (x : AV), lenBA Tryz.prog h 33 x = lenSl x := fun h x => by cases x <;> kernel_rfl
theorem ap_33 : ∀ (h : AH) (s x : AV), appendA Tryz.prog h [33, 33] s x = apK 32 2 (.agg [.str ⟨#[]⟩, .str ⟨#[]⟩]) 46 h s x := fun h s x => by kernel_rfl
theorem bs_33 : ∀ (h : AH) (n : Nat) (ps : List (Nat × AV)), buildSliceA Tryz.prog h 33 n ps = bsK 2 (.agg [.str ⟨#[]⟩, .str ⟨#[]⟩]) 46 h n ps := fun h n ps => by kernel_rfl
theorem sl_33 : ∀ (x : AV) (lo hi mx : Option AV), sliceA Tryz.prog 33 x lo hi mx = sliceSl 2 x lo hi mx := fun x lo hi mx => by kernel_rfl
theorem pt_46 : ∀ (cs : List AV) (off : Nat), partA Tryz.prog 46 cs off = aggAt 2 cs off := fun cs off => by kernel_rfl
theorem zo_46 : zeroOf Tryz.prog 46 = some (.agg [.str ⟨#[]⟩, .str ⟨#[]⟩]) := by kernel_rfl
theorem sk_46 : ∀ (h : AH) (a v : AV), storeA Tryz.prog h 46 a v = storeK 2 h a v := fun h a v => by kernel_rfl
theorem sz_46 : szOf Tryz.prog 46 = some 2 := by kernel_rfl
theorem fa_46_0 : ∀ (x : AV), fieldAddrA Tryz.prog 46 x 0 = addrAdd x 0 := fun x => by kernel_rfl
theorem fd_46_0 : ∀ (x : AV), fieldA Tryz.prog 46 x 0 = onAgg (fun cs => partA Tryz.prog 9 cs 0) x := fun x => by kernel_rfl
theorem fa_46_1 : ∀ (x : AV), fieldAddrA Tryz.prog 46 x 1 = addrAdd x 1 := fun x => by kernel_rfl
theorem fd_46_1 : ∀ (x : AV), fieldA Tryz.prog 46 x 1 = onAgg (fun cs => partA Tryz.prog 9 cs 1) x := fun x => by kernel_rfl
theorem bd_46 : ∀ (ps : List (Nat × AV)), buildA Tryz.prog 46 ps = bdK [.str ⟨#[]⟩, .str ⟨#[]⟩] (fun i => [(0, 1), (1, 1)][i]?) ps := fun ps => by kernel_rfl
theorem pt_25 : ∀ (cs : List AV) (off : Nat), partA Tryz.prog 25 cs off = cs[off]? := fun cs off => by kernel_rfl
theorem zo_25 : zeroOf Tryz.prog 25 = some (.nilSlice) := by kernel_rfl
theorem sk_25 : ∀ (h : AH) (a v : AV), storeA Tryz.prog h 25 a v = storeK 1 h a v := fun h a v => by kernel_rfl
theorem sz_25 : szOf Tryz.prog 25 = some 1 := by kernel_rfl
theorem ix_25 : ∀ (x i : AV), indexAddrA Tryz.prog 25 x i = ixS 1 x i := fun x i => by kernel_rfl
theorem ln_25 : ∀ (h : AH) (x : AV), lenBA Tryz.prog h 25 x = lenSl x := fun h x => by cases x <;> kernel_rfl
theorem ap_25 : ∀ (h : AH) (s x : AV), appendA Tryz.prog h [25, 25] s x = apK 16 1 (.str ⟨#[]⟩) 9 h s x := fun h s x => by kernel_rfl
theorem bs_25 : ∀ (h : AH) (n : Nat) (ps : List (Nat × AV)), buildSliceA Tryz.prog h 25 n ps = bsK 1 (.str ⟨#[]⟩) 9 h n ps := fun h n ps => by kernel_rfl
theorem sl_25 : ∀ (x : AV) (lo hi mx : Option AV), sliceA Tryz.prog 25 x lo hi mx = sliceSl 1 x lo hi mx := fun x lo hi mx => by kernel_rfl
theorem pt_30 : ∀ (cs : List AV) (off : Nat), partA Tryz.prog 30 cs off = cs[off]? := fun cs off => by kernel_rfl
theorem zo_30 : zeroOf Tryz.prog 30 = some (.nilMap) := by kernel_rfl
theorem sk_30 : ∀ (h : AH) (a v : AV), storeA Tryz.prog h 30 a v = storeK 1 h a v := fun h a v => by kernel_rfl
theorem sz_30 : szOf Tryz.prog 30 = some 1 := by kernel_rfl
theorem ln_30 : ∀ (h : AH) (x : AV), lenBA Tryz.prog h 30 x = lenMp h x := fun h x => by cases x <;> kernel_rfl
theorem sm_30 : SKey Tryz.prog 30 9 4 := ⟨by kernel_rfl, fun a b => by kernel_rfl, fun a => by kernel_rfl⟩
theorem pt_24 : ∀ (cs : List AV) (off : Nat), partA Tryz.prog 24 cs off = aggAt 1 cs off := fun cs off => by kernel_rfl
theorem zo_24 : zeroOf Tryz.prog 24 = some (.agg [.nilSlice]) := by kernel_rfl
theorem sk_24 : ∀ (h : AH) (a v : AV), storeA Tryz.prog h 24 a v = storeK 1 h a v := fun h a v => by kernel_rfl
theorem sz_24 : szOf Tryz.prog 24 = some 1 := by kernel_rfl
theorem fa_24_0 : ∀ (x : AV), fieldAddrA Tryz.prog 24 x 0 = addrAdd x 0 := fun x => by kernel_rfl
theorem fd_24_0 : ∀ (x : AV), fieldA Tryz.prog 24 x 0 = onAgg (fun cs => partA Tryz.prog 22 cs 0) x := fun x => by kernel_rfl
theorem bd_24 : ∀ (ps : List (Nat × AV)), buildA Tryz.prog 24 ps = bdK [.nilSlice] (fun i => [(0, 1)][i]?) ps := fun ps => by kernel_rfl
theorem pt_22 : ∀ (cs : List AV) (off : Nat), partA Tryz.prog 22 cs off = cs[off]? := fun cs off => by kernel_rfl
theorem zo_22 : zeroOf Tryz.prog 22 = some (.nilSlice) := by kernel_rfl
theorem sk_22 : ∀ (h : AH) (a v : AV), storeA Tryz.prog h 22 a v = storeK 1 h a v := fun h a v => by kernel_rfl
theorem sz_22 : szOf Tryz.prog 22 = some 1 := by kernel_rfl
theorem ix_22 : ∀ (x i : AV), indexAddrA Tryz.prog 22 x i = ixS 6 x i := fun x i => by kernel_rfl
theorem ln_22 : ∀ (h : AH) (x : AV), lenBA Tryz.prog h 22 x = lenSl x := fun h x => by cases x <;> kernel_rfl
theorem ap_22 : ∀ (h : AH) (s x : AV), appendA Tryz.prog h [22, 22] s x = apK 88 6 (.agg [.str ⟨#[]⟩, .int .i64 0, .int .i64 0, .int .i64 0, .nilSlice, .nilSlice]) 35 h s x := fun h s x => by kernel_rfl
theorem bs_22 : ∀ (h : AH) (n : Nat) (ps : List (Nat × AV)), buildSliceA Tryz.prog h 22 n ps = bsK 6 (.agg [.str ⟨#[]⟩, .int .i64 0, .int .i64 0, .int .i64 0, .nilSlice, .nilSlice]) 35 h n ps := fun h n ps => by kernel_rfl
theorem sl_22 : ∀ (x : AV) (lo hi mx : Option AV), sliceA Tryz.prog 22 x lo hi mx = sliceSl 6 x lo hi mx := fun x lo hi mx => by kernel_rfl
end Go.Proofs.YtmeianaaiiiinaaGreat.Ev
