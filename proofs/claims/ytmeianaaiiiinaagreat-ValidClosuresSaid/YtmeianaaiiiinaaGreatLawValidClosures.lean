/- The statement of ValidClosures: for every input the law returns true, and each argument reads afterwards as it read before. No further condition. -/
import Derived.Test.YtmeianaaiiiinaaGreatRows
import Derived.Test.YtmeianaaiiiinaaGreatEvRf
import Derived.Test.YtmeianaaiiiinaaGreatEvHe
import Derived.WalkKit
import Derived.ProofKit
import Derived.OpenShut
import Derived.ChangeOld
import Derived.Below
import Derived.SizedLaws
namespace Go.Proofs.YtmeianaaiiiinaaGreat.validClosures
open Go Go.Proofs Go.ChangeShapes Go.WideShapes Go.ChangeAt Go.RowKit
open Go.Proofs.YtmeianaaiiiinaaGreat.Ev
set_option linter.unusedVariables false
set_option linter.unusedSimpArgs false
set_option linter.all false
theorem own : ownKnob Tryz.prog.godebug = none := by kernel_rfl
theorem laidOut : laidOutB Tryz.prog = true := by kernel_rfl
set_option maxRecDepth 100000 in
theorem lifted (os : Os) (started : os.Started) (H : Type) (enc : TypeId × Value → H) :
    ReturnsInHanded {} Tryz.checked os 3 .any (Rows.validClosuresSpec.pre6 enc Tryz.prog Tryz.f3 Rows.validClosuresRow.domain false) (Rows.validClosuresSpec.post enc Tryz.prog Tryz.f3 false true false false) := by
  refine returnsInHanded_of_change_sized (C := Tryz.checked) own started (by kernel_rfl) Tryz.func3
    (ChangeSpec.witness6 (enc := enc) (C := Tryz.checked) false ⟨#[], #[.agg #[.slice none 0 0], .slice none 0 0], []⟩ 8 (by kernel_rfl) (by kernel_rfl) (by kernel_rfl) (by kernel_rfl)) ?_
  intro W base args ds gs before hval0 hW hcnd hsz0 _
  have hsz : (DataW.weightsEach Tryz.prog (Tryz.f3.params.toList ++ Rows.validClosuresSpec.plain.varTypes Tryz.prog) (ds ++ gs)).all (· ≤ reachBytes) = true := hsz0
  have hval : ∀ (j : Nat) t v, Tryz.f3.params[j]? = some t → args[j]? = some v → Value.okWide Tryz.prog W .any base t v := hval0
  have hW' := hW
  obtain ⟨p, q, hA0, hV, rfl, hfz, hnd⟩ := hW
  have hA : DataW.TrodAll enc Tryz.prog W 0 (fun _ => true) true Tryz.f3.params.toList args.toList ds p := hA0
  rw [Tryz.params3] at hA hval hsz
  obtain ⟨v0, v1, d0, d1, p0, p1, rfl, rfl, rfl, h0, h1⟩ := trodAll_two hA
  obtain ⟨rfl, rfl⟩ := trodVars_none hV
  have s0 : ∀ n ∈ d0.weights Tryz.prog 24, n ≤ reachBytes := fun n hn => by
    have := List.all_eq_true.1 hsz n (DataW.weights_mem_each (j := 0) rfl rfl n hn)
    simpa using this
  have s1 : ∀ n ∈ d1.weights Tryz.prog 25, n ≤ reachBytes := fun n hn => by
    have := List.all_eq_true.1 hsz n (DataW.weights_mem_each (j := 1) rfl rfl n hn)
    simpa using this
  have lt0 : ∀ x ∈ p0, x.block < W.heap.size := by obtain ⟨m, hm⟩ := h0; exact DataW.trod_lt m _ _ _ hm
  have lt1 : ∀ x ∈ p1, x.block < W.heap.size := by obtain ⟨m, hm⟩ := h1; exact DataW.trod_lt m _ _ _ hm
  obtain ⟨c0, rfl, hc0⟩ := okWide_struct Tryz.underlying24 (hval 0 24 v0 rfl rfl)
  obtain ⟨a1, len1, cap1, rfl⟩ := okWide_slice Tryz.underlying25 (hval 1 25 v1 rfl rfl)
  obtain ⟨f0, g0⟩ := h0
  obtain ⟨f1, g1⟩ := h1
  obtain ⟨m, hm, vm⟩ := rd_map f0 _ d0 p0 g0 s0
  obtain ⟨ids, hi, vi⟩ := rd_ids f1 _ d1 p1 g1 s1
  clear hA0 hval0 hsz0 hsz
  have hargs : ∀ (r : Ren) (K : Nat → Prop), VS W.heap r K (Old W) [encM m, .view ids.length (flatE encS ids) false] #[Value.agg c0, .slice a1 len1 cap1].toList := fun r K => by
    have e0 : V W.heap r K (Old W) (encM m) (.agg c0) := .agg _ _ (vm r K).1 (fun i a v ha hv => (vm r K).2 i a v ha (by simpa [Value.cells] using hv))
    have e1 : V W.heap r K (Old W) (.view ids.length (flatE encS ids) false) (.slice a1 len1 cap1) := (vi r K).2 0 _ _ rfl (by simp [Value.cells])
    exact (VS.single e0).append (.single e1)
  refine (PureOk.row (law_ok head_ok en_head m ids (argOk_of hm hi.1)) W _ hargs).mono fun e W' ⟨v, v', he, hv, ⟨r, K, A, hV'⟩, bel⟩ => ?_
  subst he
  subst hv
  cases hV'
  exact ⟨_, rfl, _, _, _, [], _, [], hW', trodAll_mk1 (shut_bool Tryz.underlying4 _), trodAll_mk2 (asOf_trod (Below.trod laidOut (by kernel_rfl) (of_decide_eq_true (by kernel_rfl)) ⟨f0, g0⟩ bel lt0)) (asOf_trod (Below.trod laidOut (by kernel_rfl) (of_decide_eq_true (by kernel_rfl)) ⟨f1, g1⟩ bel lt1)), rfl, asOf_frame bel _, fun h => by cases h⟩
theorem over : Rows.validClosuresRow.holds Tryz.pinned (OpenSpec.ofChange Rows.validClosuresSpec) :=
  OpenClaim.holds_of_wide 3 Tryz.f3 rfl rfl rfl rfl rfl rfl rfl ⟨rfl, rfl, rfl, rfl, rfl⟩ rfl rfl rfl rfl rfl (by kernel_rfl) Tryz.func3 (by kernel_rfl)
    (of_decide_eq_true (by kernel_rfl)) (by unfold Func.isWrapper; first | (rw [if_pos (by decide +kernel)]; kernel_rfl) | (rw [if_neg (by decide +kernel)]; exact ⟨rfl, rfl⟩))
    (fun os started H enc _ => lifted os started H enc)
theorem proved : Rows.ValidClosuresSaid := over
#print axioms proved
end Go.Proofs.YtmeianaaiiiinaaGreat.validClosures
namespace Go.Proofs.YtmeianaaiiiinaaGreat
/-- The row, under a short name, for the claim. -/
theorem validClosures_holds : Rows.ValidClosuresSaid := validClosures.proved
end Go.Proofs.YtmeianaaiiiinaaGreat
