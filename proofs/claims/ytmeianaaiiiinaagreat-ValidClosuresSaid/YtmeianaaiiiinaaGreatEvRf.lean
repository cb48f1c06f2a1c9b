/- What ValidClosures is given stands for a map and Ids. -/
import Derived.Test.YtmeianaaiiiinaaGreatEvRd
import Derived.Test.YtmeianaaiiiinaaGreatEvXl
namespace Go.Proofs.YtmeianaaiiiinaaGreat.Ev
open Go Go.Proofs
set_option linter.unusedVariables false
set_option linter.unusedSimpArgs false
set_option linter.all false
noncomputable section
section
variable {H : Type} {enc0 : TypeId × Value → H} {w : World}
theorem rd_ids : Reads enc0 Tryz.prog w 25 (fun l : List ByteArray => [.view l.length (flatE encS l) false]) (fun l => l.length * 16 ≤ reachBytes ∧ ∀ s ∈ l, s.size ≤ reachBytes) :=
  Reads.slice Tryz.underlying25 (by kernel_rfl) (by kernel_rfl) (Nat.lt_succ_self 0) (fun _ => rfl) (Reads.str Tryz.underlying9)
theorem rd_tag : Reads enc0 Tryz.prog w 46 encT (fun t => t.1.size ≤ reachBytes ∧ t.2.size ≤ reachBytes) :=
  Reads.struct2 (k0 := 1) (k1 := 1) Tryz.underlying46 ⟨rfl, rfl, by kernel_rfl, rfl, rfl, by kernel_rfl, by kernel_rfl⟩ (Reads.str Tryz.underlying9) (Reads.str Tryz.underlying9)
theorem rd_tags : Reads enc0 Tryz.prog w 33 (fun l : List Tg => [.view l.length (flatE encT l) false]) (fun l => l.length * 32 ≤ reachBytes ∧ ∀ t ∈ l, t.1.size ≤ reachBytes ∧ t.2.size ≤ reachBytes) :=
  Reads.slice Tryz.underlying33 (by kernel_rfl) (by kernel_rfl) (Nat.zero_lt_succ 1) lenT rd_tag
theorem rd_point : Reads enc0 Tryz.prog w 32 (fun p : Int × Int => [.int .i64 p.1, .int .i64 p.2]) (fun _ => True) :=
  (Reads.struct2 (k0 := 1) (k1 := 1) Tryz.underlying32 ⟨rfl, rfl, by kernel_rfl, rfl, rfl, by kernel_rfl, by kernel_rfl⟩ (Reads.int Tryz.underlying3) (Reads.int Tryz.underlying3)).imp (fun x => x) (fun _ => rfl) (fun _ _ => trivial)
/-- What is known of the sizes of an object. -/
def bigO (o : Ob) : Prop := o.id.size ≤ reachBytes ∧ (o.refs.length * 16 ≤ reachBytes ∧ ∀ s ∈ o.refs, s.size ≤ reachBytes) ∧ (o.tags.length * 32 ≤ reachBytes ∧ ∀ t ∈ o.tags, t.1.size ≤ reachBytes ∧ t.2.size ≤ reachBytes)
theorem rd_ob : Reads enc0 Tryz.prog w 35 encO bigO :=
  (Reads.struct5 (k0 := 1) (k1 := 1) (k2 := 2) (k3 := 1) (k4 := 1) Tryz.underlying35 ⟨⟨rfl, rfl, by kernel_rfl⟩, ⟨rfl, rfl, by kernel_rfl⟩, ⟨rfl, rfl, by kernel_rfl⟩, ⟨rfl, rfl, by kernel_rfl⟩, ⟨rfl, rfl, by kernel_rfl⟩, by kernel_rfl⟩
    (Reads.str Tryz.underlying9) (Reads.int Tryz.underlying3) rd_point rd_ids rd_tags).imp (fun x => ⟨x.1, x.2.1, x.2.2.1.1, x.2.2.1.2, x.2.2.2.1, x.2.2.2.2⟩) (fun _ => rfl) (fun _ h => ⟨h.1, h.2.2.2.1, h.2.2.2.2⟩)
theorem rd_obs : Reads enc0 Tryz.prog w 22 (fun l : List Ob => [.view l.length (flatE encO l) false]) (fun l => l.length * 88 ≤ reachBytes ∧ ∀ o ∈ l, bigO o) :=
  Reads.slice Tryz.underlying22 (by kernel_rfl) (by kernel_rfl) (Nat.zero_lt_succ 5) lenO rd_ob
theorem rd_map : Reads enc0 Tryz.prog w 24 (fun l : List Ob => [.view l.length (flatE encO l) false]) (fun l => l.length * 88 ≤ reachBytes ∧ ∀ o ∈ l, bigO o) :=
  Reads.struct1 (k0 := 1) Tryz.underlying24 ⟨rfl, rfl, by kernel_rfl, by kernel_rfl⟩ rd_obs
theorem argOk_of {m : List Ob} {ids : List ByteArray} (h1 : m.length * 88 ≤ reachBytes ∧ ∀ o ∈ m, bigO o) (h2 : ids.length * 16 ≤ reachBytes) : ArgOk m ids := by
  have hr : reachBytes ≤ 140737488355328 := Nat.le_of_lt reachBytes_lt
  refine ⟨by omega, fun o ho => ?_, fun o ho t ht => Nat.le_trans ((h1.2 o ho).2.2.2 t ht).2 hr, by omega⟩
  obtain ⟨g1, ⟨g2, g3⟩, g4, g5⟩ := h1.2 o ho
  exact ⟨Nat.le_trans g1 hr, by omega, by omega, fun s hs => Nat.le_trans (g3 s hs) hr, fun t ht => Nat.le_trans (g5 t ht).1 hr⟩
end
end
end Go.Proofs.YtmeianaaiiiinaaGreat.Ev
