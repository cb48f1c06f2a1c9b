/- The examples of the chapter, evaluated by the kernel: the first parts. -/
import Derived.Test.YtmeianaaiiiinaaGreatEvYa
import Derived.Test.YtmeianaaiiiinaaGreatEvYb
namespace Go.Proofs.YtmeianaaiiiinaaGreat.Ev
open Go Go.Proofs
set_option linter.unusedVariables false
set_option linter.unusedSimpArgs false
set_option linter.all false
noncomputable section
def body4 : Code := (Tryz.f4.body).getD .skip
def hd0 : Env := []
def hd1 : Env := []
def hd2 : Env := [(1, .rptr [.view 1 [.str ⟨#[119, 49]⟩, .int .i64 2, .int .i64 0, .int .i64 0, .view 2 [.str ⟨#[110, 49]⟩, .str ⟨#[110, 50]⟩] false, .nilSlice] false] 0)]
def hd3 : Env := [(1, .rptr [.view 1 [.str ⟨#[119, 49]⟩, .int .i64 2, .int .i64 0, .int .i64 0, .view 2 [.str ⟨#[110, 49]⟩, .str ⟨#[110, 50]⟩] false, .nilSlice] false] 0), (2, .view 1 [.str ⟨#[]⟩, .int .i64 1, .view 1 [.str ⟨#[119, 49]⟩] false] false)]
def hd4 : Env := [(1, .rptr [.view 1 [.str ⟨#[119, 49]⟩, .int .i64 2, .int .i64 0, .int .i64 0, .view 2 [.str ⟨#[110, 49]⟩, .str ⟨#[110, 50]⟩] false, .nilSlice] false] 0), (2, .view 1 [.str ⟨#[]⟩, .int .i64 1, .view 1 [.str ⟨#[119, 49]⟩] false] false), (3, .rptr [.nilSlice, .nilSlice, .nilSlice, .int .i64 0, .view 1 [.str ⟨#[118]⟩] false, .nilSlice] 0)]
def hd5 : Env := [(1, .rptr [.view 1 [.str ⟨#[119, 49]⟩, .int .i64 2, .int .i64 0, .int .i64 0, .view 2 [.str ⟨#[110, 49]⟩, .str ⟨#[110, 50]⟩] false, .nilSlice] false] 0), (2, .view 1 [.str ⟨#[]⟩, .int .i64 1, .view 1 [.str ⟨#[119, 49]⟩] false] false), (3, .rptr [.nilSlice, .nilSlice, .nilSlice, .int .i64 0, .view 1 [.str ⟨#[118]⟩] false, .nilSlice] 0), (4, .view 1 [.str ⟨#[118]⟩, .int .i64 2, .view 2 [.str ⟨#[119, 49]⟩, .str ⟨#[119, 50]⟩] false] false)]
def hd6 : Env := [(1, .rptr [.view 1 [.str ⟨#[119, 49]⟩, .int .i64 2, .int .i64 0, .int .i64 0, .view 2 [.str ⟨#[110, 49]⟩, .str ⟨#[110, 50]⟩] false, .nilSlice] false] 0), (2, .view 1 [.str ⟨#[]⟩, .int .i64 1, .view 1 [.str ⟨#[119, 49]⟩] false] false), (3, .rptr [.nilSlice, .nilSlice, .nilSlice, .int .i64 0, .view 1 [.str ⟨#[118]⟩] false, .nilSlice] 0), (4, .view 1 [.str ⟨#[118]⟩, .int .i64 2, .view 2 [.str ⟨#[119, 49]⟩, .str ⟨#[119, 50]⟩] false] false), (5, .view 1 [.str ⟨#[]⟩, .int .i64 7, .view 1 [.str ⟨#[119, 49]⟩] false] false)]
def hd7 : Env := [(1, .rptr [.view 1 [.str ⟨#[119, 49]⟩, .int .i64 2, .int .i64 0, .int .i64 0, .view 2 [.str ⟨#[110, 49]⟩, .str ⟨#[110, 50]⟩] false, .nilSlice] false] 0), (2, .view 1 [.str ⟨#[]⟩, .int .i64 1, .view 1 [.str ⟨#[119, 49]⟩] false] false), (3, .rptr [.nilSlice, .nilSlice, .nilSlice, .int .i64 0, .view 1 [.str ⟨#[118]⟩] false, .nilSlice] 0), (4, .view 1 [.str ⟨#[118]⟩, .int .i64 2, .view 2 [.str ⟨#[119, 49]⟩, .str ⟨#[119, 50]⟩] false] false), (5, .view 1 [.str ⟨#[]⟩, .int .i64 7, .view 1 [.str ⟨#[119, 49]⟩] false] false), (6, .rptr [.str ⟨#[118]⟩, .int .i64 2, .view 2 [.str ⟨#[119, 49]⟩, .str ⟨#[119, 50]⟩] false] 0)]
def hd8 : Env := [(1, .rptr [.view 1 [.str ⟨#[119, 49]⟩, .int .i64 2, .int .i64 0, .int .i64 0, .view 2 [.str ⟨#[110, 49]⟩, .str ⟨#[110, 50]⟩] false, .nilSlice] false] 0), (2, .view 1 [.str ⟨#[]⟩, .int .i64 1, .view 1 [.str ⟨#[119, 49]⟩] false] false), (3, .rptr [.nilSlice, .nilSlice, .nilSlice, .int .i64 0, .view 1 [.str ⟨#[118]⟩] false, .nilSlice] 0), (4, .view 1 [.str ⟨#[118]⟩, .int .i64 2, .view 2 [.str ⟨#[119, 49]⟩, .str ⟨#[119, 50]⟩] false] false), (5, .view 1 [.str ⟨#[]⟩, .int .i64 7, .view 1 [.str ⟨#[119, 49]⟩] false] false), (6, .rptr [.str ⟨#[118]⟩, .int .i64 2, .view 2 [.str ⟨#[119, 49]⟩, .str ⟨#[119, 50]⟩] false] 0), (7, .rptr [.view 3 [.str ⟨#[110, 51]⟩, .int .i64 1, .int .i64 0, .int .i64 4, .nilSlice, .nilSlice, .str ⟨#[110, 52]⟩, .int .i64 1, .int .i64 4, .int .i64 0, .nilSlice, .nilSlice, .str ⟨#[119, 50]⟩, .int .i64 2, .int .i64 0, .int .i64 0, .view 2 [.str ⟨#[110, 51]⟩, .str ⟨#[110, 52]⟩] false, .view 1 [.str ⟨#[118, 105, 101, 119]⟩, .str ⟨#[118]⟩] false] false] 0)]
def hd9 : Env := [(1, .rptr [.view 1 [.str ⟨#[119, 49]⟩, .int .i64 2, .int .i64 0, .int .i64 0, .view 2 [.str ⟨#[110, 49]⟩, .str ⟨#[110, 50]⟩] false, .nilSlice] false] 0), (3, .rptr [.nilSlice, .nilSlice, .nilSlice, .int .i64 0, .view 1 [.str ⟨#[118]⟩] false, .nilSlice] 0), (6, .rptr [.str ⟨#[118]⟩, .int .i64 2, .view 2 [.str ⟨#[119, 49]⟩, .str ⟨#[119, 50]⟩] false] 0), (7, .rptr [.view 3 [.str ⟨#[110, 51]⟩, .int .i64 1, .int .i64 0, .int .i64 4, .nilSlice, .nilSlice, .str ⟨#[110, 52]⟩, .int .i64 1, .int .i64 4, .int .i64 0, .nilSlice, .nilSlice, .str ⟨#[119, 50]⟩, .int .i64 2, .int .i64 0, .int .i64 0, .view 2 [.str ⟨#[110, 51]⟩, .str ⟨#[110, 52]⟩] false, .view 1 [.str ⟨#[118, 105, 101, 119]⟩, .str ⟨#[118]⟩] false] false] 0), (8, .bool true)]
def hd10 : Env := [(0, .bool true)]
theorem seg0 : evB Tryz.prog callX 81 (segC 0 body4) hd0 hd1 = true := by kernel_rfl
theorem seg1 : evB Tryz.prog callX 81 (segC 1 body4) hd1 hd2 = true := by kernel_rfl
theorem seg2 : evB Tryz.prog callX 81 (segC 2 body4) hd2 hd3 = true := by kernel_rfl
theorem seg3 : evB Tryz.prog callX 81 (segC 3 body4) hd3 hd4 = true := by kernel_rfl
theorem seg6 : evB Tryz.prog callX 81 (segC 6 body4) hd6 hd7 = true := by kernel_rfl
theorem seg7 : evB Tryz.prog callX 81 (segC 7 body4) hd7 hd8 = true := by kernel_rfl
theorem seg8 : evB Tryz.prog callX 81 (segC 8 body4) hd8 hd9 = true := by kernel_rfl
end
end Go.Proofs.YtmeianaaiiiinaaGreat.Ev
