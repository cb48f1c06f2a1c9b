/- The examples of the chapter, evaluated by the kernel: one part. -/
import Derived.Test.YtmeianaaiiiinaaGreatEvYa
import Derived.Test.YtmeianaaiiiinaaGreatEvYb
import Derived.Test.YtmeianaaiiiinaaGreatEvHa
namespace Go.Proofs.YtmeianaaiiiinaaGreat.Ev
open Go Go.Proofs
set_option linter.unusedVariables false
set_option linter.unusedSimpArgs false
set_option linter.all false
noncomputable section
theorem seg9 : evB Tryz.prog callX 81 (segC 9 body4) hd9 hd10 = true := by kernel_rfl
end
end Go.Proofs.YtmeianaaiiiinaaGreat.Ev
