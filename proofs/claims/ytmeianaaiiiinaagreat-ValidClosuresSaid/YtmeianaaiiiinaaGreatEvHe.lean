/- The examples of the chapter, evaluated by the kernel: all of them. -/
import Derived.Test.YtmeianaaiiiinaaGreatEvYa
import Derived.Test.YtmeianaaiiiinaaGreatEvYb
import Derived.Test.YtmeianaaiiiinaaGreatEvHb
import Derived.Test.YtmeianaaiiiinaaGreatEvHc
import Derived.Test.YtmeianaaiiiinaaGreatEvHd
namespace Go.Proofs.YtmeianaaiiiinaaGreat.Ev
open Go Go.Proofs
set_option linter.unusedVariables false
set_option linter.unusedSimpArgs false
set_option linter.all false
noncomputable section

def restC (n : Nat) : Code → Code :=
  Nat.rec (fun c => c) (fun _ ih c => match c with
    | .seq _ b => ih b
    | c => c) n
theorem body4_eq : body4 = .seq (segC 0 body4) (.seq (segC 1 body4) (.seq (segC 2 body4) (.seq (segC 3 body4) (.seq (segC 4 body4) (.seq (segC 5 body4) (.seq (segC 6 body4) (.seq (segC 7 body4) (.seq (segC 8 body4) (.seq (segC 9 body4) .ret))))))))) := by kernel_rfl
theorem head_ok : PureOk Tryz.prog 4 [] (fun v => v = .bool true) := by
  refine FnOk.of_AW (c := body4) Tryz.func4 (by kernel_rfl) (Nat.zero_le _) (fun F hF => ?_)
  have hF0 : F.h.next = 0 := by rw [hF]; rfl
  rw [Tryz.ntmps4, body4_eq]
  refine AW.seq (AW.evK callX_ok mixed hd1 hF0 seg0 ?_)
  refine AW.seq (AW.evK callX_ok mixed hd2 hF0 seg1 ?_)
  refine AW.seq (AW.evK callX_ok mixed hd3 hF0 seg2 ?_)
  refine AW.seq (AW.evK callX_ok mixed hd4 hF0 seg3 ?_)
  refine AW.seq (AW.evK callX_ok mixed hd5 hF0 seg4 ?_)
  refine AW.seq (AW.evK callX_ok mixed hd6 hF0 seg5 ?_)
  refine AW.seq (AW.evK callX_ok mixed hd7 hF0 seg6 ?_)
  refine AW.seq (AW.evK callX_ok mixed hd8 hF0 seg7 ?_)
  refine AW.seq (AW.evK callX_ok mixed hd9 hF0 seg8 ?_)
  refine AW.seq (AW.evK callX_ok mixed hd10 hF0 seg9 ?_)
  exact AW.ret ⟨_, rfl, rfl, .bool _⟩
theorem en_head : enterB Tryz.prog 4 = true := by kernel_rfl
end
end Go.Proofs.YtmeianaaiiiinaaGreat.Ev
