/- Contracts: slices.IndexFunc, slices.ContainsFunc over strings. -/
import Derived.Test.YtmeianaaiiiinaaGreatEvXc
namespace Go.Proofs.YtmeianaaiiiinaaGreat.Ev
open Go Go.Proofs
set_option linter.unusedVariables false
set_option linter.unusedSimpArgs false
set_option linter.all false
set_option maxRecDepth 10000
noncomputable section
attribute [local go_sem] putE run_move run_assign run_picks run_alloc run_box run_load run_store run_nilCheck run_binOp run_unOp run_fieldAddr run_field run_indexAddr run_index run_extract run_builtin run_makeFunc run_build run_lookup run_mapUpdate run_insert run_makeMap0 run_buildSlice List.map_cons List.map_nil zipParts e1 eS opE_tmp opE_const opE_func opsE_nil opsE_cons getL_if getL_nil ofZero_bool ofZero_int ofZero_str ofZero_nilp ofZero_nils val1_some' val2_some' val3_some' hE_next hE_new hE_set hE_get getO loadA rowOf storeK addrAdd binA intArithA strOpA isShift unA nilCheckA builtin_len optmap_some lenSl lenStr onAgg AV.cells putCells Option.join_some List.getElem?_cons_zero List.getElem?_cons_succ reduceIte Bool.false_eq_true Nat.reduceEqDiff Nat.reduceAdd Nat.zero_add Nat.add_zero List.length_cons List.length_nil ln_25 ix_25 pt_9

def encS (s : ByteArray) : List AV := [.str s]
theorem lenS (s : ByteArray) : (encS s).length = 1 := rfl
theorem lowS {n : Nat} (l : List ByteArray) : ∀ a ∈ flatE encS l, Low n a := flatE_low _ _ _ (fun s _ a ha => by
  simp only [encS, List.mem_cons, List.not_mem_nil, or_false] at ha
  subst ha; exact .str _)
theorem cellS (l : List ByteArray) (i : Nat) (hi : i < l.length) : (flatE encS l)[i]? = some (.str l[i]) := flatE_cell AV.str l i hi
theorem mul1 (i : Nat) : i * 1 = i := Nat.mul_one i
theorem PickO.env {n0 n : Nat} {E E2 : Env} {L : Hp} (h1 : Pick n E E2) (h2 : PickO n L L) (h3 : n0 ≤ n) : Weak n0 E (hE L n) E2 (hE L n) := Weak.of h1 h2 h3 (Nat.le_refl _)
def E67 (l : List ByteArray) (m : Nat) (ex : Bool) (fv : AV) (i : Nat) : Env :=
  [(8, .int .i64 (i : Int)), (7, .int .i64 (m : Int)), (1, fv), (0, .view m (flatE encS l) ex)]
theorem indexFunc_ok (l : List ByteArray) (m : Nat) (ex : Bool) (hm : l.length = m) (hb : m ≤ 140737488355328) (g : FuncId) (cap : List AV) (hg : enterB Tryz.prog g = true) (n : Nat) (hc : ∀ a ∈ cap, Low n a) (H : Nat → Hp) (hH : ∀ i, PickO n (H i) (H i)) (p : Nat → Bool)
    (hf : ∀ i (hi : i < l.length), FnOk Tryz.prog g ([.str l[i]] ++ cap) (hE (H i) n) (fun v h' => v = .bool (p i) ∧ h' = hE (H (i + 1)) n)) :
    FnOk Tryz.prog 67 [.view m (flatE encS l) ex, .func (.func g) [] cap] (hE (H 0) n) (fun v h' => (∃ k, k < m ∧ v = .int .i64 (k : Int) ∧ p k = true ∧ (∀ j, j < k → p j = false) ∧ h' = hE (H (k + 1)) n) ∨ (v = .int .i64 (-1) ∧ (∀ j, j < m → p j = false) ∧ h' = hE (H m) n)) := by
  have hlf : Low n (.func (.func g) [] cap) := .func _ _ _ (fun a ha => by cases ha) hc
  refine FnOk.of_AW Tryz.func67 rfl (by rw [Tryz.ntmps67]; simp) (fun F hF => ?_)
  have hF0 : F.h.next = n := by rw [hF]; rfl
  rw [Tryz.ntmps67]
  repeat (first | with_reducible refine AWL.nil ?_ | refine AW.seq ?_ | refine AW.region ?_ | refine AWL.no (by rfl) (by rfl) ?_ | refine AWL.do (by rfl) (by rfl) (by simp only [go_sem]; first | done | rfl) ?_)
  refine AW.block ?_
  refine AW.loopW (fun q E h => ∃ i, i ≤ m ∧ q = m - i ∧ E = E67 l m ex (.func (.func g) [] cap) i ∧ h = hE (H i) n ∧ (∀ j, j < i → p j = false)) m (E67 l m ex (.func (.func g) [] cap) 0) (hE (H 0) n) ?_ ⟨0, by omega, by omega, rfl, rfl, fun j hj => by omega⟩ ?_
  case _ =>
    rw [hF0]
    exact PickO.env ⟨⟨rfl, .int _ _⟩, ⟨rfl, .int _ _⟩, ⟨rfl, hlf⟩, ⟨rfl, .view _ _ _ (lowS l)⟩, trivial⟩ (hH 0) (by omega)
  rintro q E h ⟨i, hi, rfl, rfl, rfl, hj⟩
  unfold E67
  repeat (first | with_reducible refine AWL.nil ?_ | refine AW.seq ?_ | refine AW.region ?_ | refine AWL.no (by rfl) (by rfl) ?_ | refine AWL.do (by rfl) (by rfl) (by simp only [go_sem]; first | done | rfl) ?_)
  refine AW.cond (by rfl) (fun hc => ?_) (fun hc => ?_)
  case _ =>
    have hlt : i < m := by simpa using hc
    have hil : i < l.length := by omega
    refine AW.skip ?_
    refine AW.seq ?_
    refine AW.block ?_
    repeat (first | with_reducible refine AWL.nil ?_ | refine AW.seq ?_ | refine AW.region ?_ | refine AWL.no (by rfl) (by rfl) ?_ | refine AWL.do (by rfl) (by rfl) (by simp only [go_sem, ixS_view _ _ _ _ _ _ hlt, mul1, cellS l i hil]; first | done | rfl) ?_)
    refine AWL.call rfl rfl hg rfl rfl (hf i hil) ?_
    rintro v h' ⟨rfl, rfl⟩
    repeat (first | with_reducible refine AWL.nil ?_ | refine AW.seq ?_ | refine AW.region ?_ | refine AWL.no (by rfl) (by rfl) ?_ | refine AWL.do (by rfl) (by rfl) (by simp only [go_sem]; first | done | rfl) ?_)
    refine AW.cond (by rfl) (fun hc => ?_) (fun hc => ?_)
    case _ =>
      repeat (first | with_reducible refine AWL.nil ?_ | refine AW.seq ?_ | refine AW.region ?_ | refine AWL.no (by rfl) (by rfl) ?_ | refine AWL.do (by rfl) (by rfl) (by simp only [go_sem]; first | done | rfl) ?_)
      refine AW.weak [(4, .int .i64 (i : Int))] (hE (H (i + 1)) n) ?_ (AW.ret ⟨_, rfl, .inl ⟨i, hlt, rfl, hc, hj, rfl⟩⟩)
      rw [hF0]
      exact PickO.env ⟨⟨rfl, .int _ _⟩, trivial⟩ (hH _) (by omega)
    case _ =>
      refine AW.skip ?_
      repeat (first | with_reducible refine AWL.nil ?_ | refine AW.seq ?_ | refine AW.region ?_ | refine AWL.no (by rfl) (by rfl) ?_ | refine AWL.do (by rfl) (by rfl) (by simp only [go_sem, wrap_succ hlt hb]; first | done | rfl) ?_)
      refine again (m - (i + 1)) (E67 l m ex (.func (.func g) [] cap) (i + 1)) (hE (H (i + 1)) n) (by omega) ?_ ⟨i + 1, by omega, rfl, rfl, rfl, fun j hj2 => ?_⟩
      · rw [hF0]
        exact PickO.env ⟨⟨rfl, .int _ _⟩, ⟨rfl, .int _ _⟩, ⟨rfl, hlf⟩, ⟨rfl, .view _ _ _ (lowS l)⟩, trivial⟩ (hH _) (by omega)
      · by_cases e : j = i
        · rw [e]; exact hc
        · exact hj j (by omega)
  case _ =>
    have hlt : i = m := by
      have : ¬ i < m := by simpa using hc
      omega
    subst hlt
    refine AW.exit ?_
    repeat (first | with_reducible refine AWL.nil ?_ | refine AW.seq ?_ | refine AW.region ?_ | refine AWL.no (by rfl) (by rfl) ?_ | refine AWL.do (by rfl) (by rfl) (by simp only [go_sem]; first | done | rfl) ?_)
    exact AW.ret ⟨_, rfl, .inr ⟨rfl, hj, rfl⟩⟩
theorem en_ixf : enterB Tryz.prog 67 = true := by kernel_rfl
/-- Whether one of them meets a condition, and the heap behind the first one that does. -/
theorem containsFunc_ok (l : List ByteArray) (m : Nat) (ex : Bool) (hm : l.length = m) (hb : m ≤ 140737488355328) (g : FuncId) (cap : List AV) (hg : enterB Tryz.prog g = true) (n : Nat) (hc : ∀ a ∈ cap, Low n a) (H : Nat → Hp) (hH : ∀ i, PickO n (H i) (H i)) (p : Nat → Bool)
    (hf : ∀ i (hi : i < l.length), FnOk Tryz.prog g ([.str l[i]] ++ cap) (hE (H i) n) (fun v h' => v = .bool (p i) ∧ h' = hE (H (i + 1)) n)) :
    FnOk Tryz.prog 36 [.view m (flatE encS l) ex, .func (.func g) [] cap] (hE (H 0) n) (fun v h' => ∃ k, h' = hE (H k) n ∧ ((v = .bool true ∧ ∃ k, k < m ∧ p k = true ∧ ∀ j, j < k → p j = false) ∨ (v = .bool false ∧ ∀ j, j < m → p j = false))) := by
  have hlf : Low n (.func (.func g) [] cap) := .func _ _ _ (fun a ha => by cases ha) hc
  refine FnOk.of_AW Tryz.func36 rfl (by rw [Tryz.ntmps36]; simp) (fun F hF => ?_)
  have hF0 : F.h.next = n := by rw [hF]; rfl
  rw [Tryz.ntmps36]
  repeat (first | with_reducible refine AWL.nil ?_ | refine AW.seq ?_ | refine AW.region ?_ | refine AWL.no (by rfl) (by rfl) ?_ | refine AWL.do (by rfl) (by rfl) (by simp only [go_sem]; first | done | rfl) ?_)
  refine AWL.call rfl rfl en_ixf rfl rfl (indexFunc_ok l m ex hm hb g cap hg n hc H hH p hf) ?_
  rintro v h' (⟨k, hk, rfl, h1, h2, rfl⟩ | ⟨rfl, h1, rfl⟩)
  · have : decide ((k : Int) ≥ 0) = true := by simp
    repeat (first | with_reducible refine AWL.nil ?_ | refine AW.seq ?_ | refine AW.region ?_ | refine AWL.no (by rfl) (by rfl) ?_ | refine AWL.do (by rfl) (by rfl) (by simp only [go_sem, this]; first | done | rfl) ?_)
    exact AW.ret ⟨_, rfl, k + 1, rfl, .inl ⟨rfl, k, hk, h1, h2⟩⟩
  · repeat (first | with_reducible refine AWL.nil ?_ | refine AW.seq ?_ | refine AW.region ?_ | refine AWL.no (by rfl) (by rfl) ?_ | refine AWL.do (by rfl) (by rfl) (by simp only [go_sem]; first | done | rfl) ?_)
    exact AW.ret ⟨_, rfl, m, rfl, .inr ⟨rfl, h1⟩⟩
theorem en_ctf : enterB Tryz.prog 36 = true := by kernel_rfl
end
end Go.Proofs.YtmeianaaiiiinaaGreat.Ev
