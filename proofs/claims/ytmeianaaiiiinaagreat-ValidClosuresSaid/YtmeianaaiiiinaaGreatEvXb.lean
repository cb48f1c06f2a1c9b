/- Contracts: names. -/
import Derived.Test.YtmeianaaiiiinaaGreatEvXa
import Derived.Tactics
namespace Go.Proofs.YtmeianaaiiiinaaGreat.Ev
open Go Go.Proofs
set_option linter.unusedVariables false
set_option linter.unusedSimpArgs false
set_option linter.all false
set_option maxRecDepth 10000
noncomputable section
attribute [local go_sem] putE run_move run_assign run_picks run_alloc run_box run_load run_store run_nilCheck run_binOp run_unOp run_fieldAddr run_field run_indexAddr run_index run_extract run_builtin run_makeFunc run_build run_lookup run_mapUpdate run_insert run_makeMap0 run_buildSlice List.map_cons List.map_nil zipParts e1 eS opE_tmp opE_const opE_func opsE_nil opsE_cons getL_if getL_nil ofZero_bool ofZero_int ofZero_str ofZero_nilp ofZero_nils val1_some' val2_some' val3_some' hE_next hE_new hE_set hE_get getO loadA rowOf storeK addrAdd binA intArithA strOpA isShift unA nilCheckA builtin_len optmap_some lenSl lenStr onAgg AV.cells putCells Option.join_some List.getElem?_cons_zero List.getElem?_cons_succ reduceIte Bool.false_eq_true Nat.reduceEqDiff Nat.reduceAdd Nat.zero_add Nat.add_zero List.length_cons List.length_nil zo_124 sk_124 ln_9 ix_124 pt_5

theorem wrap_succ {i n : Nat} (h : i < n) (hn : n ≤ 140737488355328) : IntKind.i64.wrap ((i : Int) + 1) = ((i + 1 : Nat) : Int) := by
  unfold IntKind.wrap; simp [IntKind.bits, IntKind.signed]; omega
theorem idx_str {s : ByteArray} {i : Nat} (h : i < s.size) : indexA Tryz.prog 9 (.str s) (.int .i64 (i : Int)) = some (.int .u8 ((s.data.toList[i]'(by simpa using h)).toNat : Int)) := by
  have e : indexA Tryz.prog 9 (.str s) (.int .i64 (i : Int)) = if 0 ≤ (i : Int) then match s.data.toList[(i : Int).toNat]? with
          | some b => some (.int .u8 b.toNat)
          | none => none
        else none := by kernel_rfl
  rw [e, if_pos (by omega), Int.toNat_natCast, List.getElem?_eq_getElem (by simpa using h)]
def clsOf (b : UInt8) : Nat := clsT.getD b.toNat 0
theorem cls_at (b : UInt8) : (clsT.map clsE)[b.toNat]? = some (.int .u8 (clsOf b : Int)) := by
  have h : b.toNat < clsT.length := by rw [clsT_len]; exact b.toNat_lt
  rw [List.getElem?_map, List.getElem?_eq_getElem h]
  simp [clsE, clsOf, List.getD_eq_getElem?_getD, List.getElem?_eq_getElem h]
theorem ixa_at (b : UInt8) (x : AV) : ixA 256 1 x (.int .u8 (b.toNat : Int)) = addrAdd x b.toNat := by
  simp only [ixA]
  rw [if_pos ⟨by omega, by have := b.toNat_lt; omega⟩]
  simp
theorem en_cls : enterB Tryz.prog 66 = true := by kernel_rfl
/-- The bytes of a name, from one on: the first one a letter. -/
def nameGo : Bool → List UInt8 → Bool
  | _, [] => true
  | first, b :: l => if ((clsOf b : Nat) : Int) != 3 && (first || (((clsOf b : Nat) : Int) != 4 && ((clsOf b : Nat) : Int) != 5)) then false else nameGo false l
def nameB (s : ByteArray) : Bool := nameGo true s.data.toList && !strEq s ⟨#[]⟩ && decide ((s.size : Int) ≤ 24)
def clsR : AV := .agg (clsT.map clsE)
def L32 : Hp := [(0, some (.row 124 (clsT.map clsE) false))]
theorem cls_low (n : Nat) : ∀ a ∈ clsT.map clsE, Low n a := fun a ha => by
  obtain ⟨m, _, rfl⟩ := List.mem_map.1 ha
  exact .int _ _
theorem cls_one : (clsT.map clsE).all AV.oneB = true := by kernel_rfl
def E32 (s : ByteArray) (i : Nat) : Env := [(9, .int .i64 (i : Int)), (8, .int .i64 (s.size : Int)), (7, .str s), (3, .ptr 0 0), (0, .str s)]
theorem name_ok (s : ByteArray) (hs : s.size ≤ 140737488355328) : PureOk Tryz.prog 32 [.str s] (fun v => v = .bool (nameB s)) := by
  refine FnOk.of_AW Tryz.func32 rfl (by rw [Tryz.ntmps32]; simp) (fun F hF => ?_)
  have hF0 : F.h.next = 0 := by rw [hF]; rfl
  rw [Tryz.ntmps32]
  repeat (first | with_reducible refine AWL.nil ?_ | refine AW.seq ?_ | refine AW.region ?_ | refine AWL.no (by rfl) (by rfl) ?_ | refine AWL.do (by rfl) (by rfl) (by simp only [go_sem]; first | done | rfl) ?_)
  refine AWL.call rfl rfl en_cls rfl rfl (classes_ok.fn (by simp) _) ?_
  rintro v h' ⟨rfl, rfl, _⟩
  refine AWL.do (by rfl) (by rfl) (by simp only [go_sem]; first | done | rfl) ?_
  refine AWL.do (by rfl) (by rfl) (L' := (0, some (.row 124 (clsT.map clsE) false)) :: [(0, some (.row 124 (List.replicate 256 (.int .u8 0)) false))]) (n' := 1) (by
    simp only [run_store, e1, putE, opE_tmp, getL_if, reduceIte, Nat.reduceEqDiff, sk_124]
    exact congrArg val3 (store_all rfl (by rw [List.length_map, clsT_len]) (by rw [List.length_replicate]) cls_one)) ?_
  repeat (first | with_reducible refine AWL.nil ?_ | refine AW.seq ?_ | refine AW.region ?_ | refine AWL.no (by rfl) (by rfl) ?_ | refine AWL.do (by rfl) (by rfl) (by simp only [go_sem]; first | done | rfl) ?_)
  refine AW.block ?_
  refine AW.loopW (fun m E h => ∃ i, i ≤ s.size ∧ m = s.size - i ∧ E = E32 s i ∧ h = hE L32 1 ∧ nameGo (decide (i = 0)) (s.data.toList.drop i) = nameGo true s.data.toList) s.size (E32 s 0) (hE L32 1) ?_ ⟨0, by omega, by omega, rfl, rfl, rfl⟩ ?_
  case _ =>
    rw [hF0]
    exact Weak.of (n2 := 1) ⟨⟨rfl, .int _ _⟩, ⟨rfl, .int _ _⟩, ⟨rfl, .str _⟩, ⟨rfl, .ptr _ _ (by omega)⟩, ⟨rfl, .str _⟩, trivial⟩ ⟨fun o ho => by cases ho; exact ⟨rfl, by omega, .row _ _ _ (cls_low _)⟩, trivial⟩ (by omega) (by omega)
  rintro m E h ⟨i, hi, rfl, rfl, rfl, hgo⟩
  unfold E32 L32
  repeat (first | with_reducible refine AWL.nil ?_ | refine AW.seq ?_ | refine AW.region ?_ | refine AWL.no (by rfl) (by rfl) ?_ | refine AWL.do (by rfl) (by rfl) (by simp only [go_sem]; first | done | rfl) ?_)
  refine AW.cond (by rfl) (fun hc => ?_) (fun hc => ?_)
  case _ =>
    have hlt : i < s.size := by simpa using hc
    have hll : i < s.data.toList.length := by simpa using hlt
    have hgo' := hgo
    rw [List.drop_eq_getElem_cons hll, nameGo] at hgo'
    refine AW.skip ?_
    refine AW.seq ?_
    refine AW.block ?_
    repeat (first | with_reducible refine AWL.nil ?_ | refine AW.seq ?_ | refine AW.region ?_ | refine AWL.no (by rfl) (by rfl) ?_ | refine AWL.do (by rfl) (by rfl) (by simp only [go_sem, idx_str hlt, ixa_at, cls_at, wrap_succ hlt hs]; first | done | rfl) ?_)
    generalize ((clsOf s.data.toList[i] : Nat) : Int) = c at hgo' ⊢
    have hz : (i : Int) = 0 ↔ i = 0 := by omega
    cases h1 : c != 3
    case _ =>
      repeat (first | with_reducible refine AWL.nil ?_ | refine AW.seq ?_ | refine AW.region ?_ | refine AWL.no (by rfl) (by rfl) ?_ | refine AWL.do (by rfl) (by rfl) (by simp only [go_sem, wrap_succ hlt hs]; first | done | rfl) ?_)
      refine AW.cond (b := false) (by rfl) (fun hc => absurd hc (by decide)) (fun _ => ?_)
      refine AW.skip ?_
      repeat (first | with_reducible refine AWL.nil ?_ | refine AW.seq ?_ | refine AW.region ?_ | refine AWL.no (by rfl) (by rfl) ?_ | refine AWL.do (by rfl) (by rfl) (by simp only [go_sem, wrap_succ hlt hs]; first | done | rfl) ?_)
      refine again (s.size - (i + 1)) (E32 s (i + 1)) (hE L32 1) (by omega) ?_ ⟨i + 1, by omega, rfl, rfl, rfl, by simpa [h1] using hgo'⟩
      rw [hF0]
      exact Weak.of (n2 := 1) ⟨⟨rfl, .int _ _⟩, ⟨rfl, .int _ _⟩, ⟨rfl, .str _⟩, ⟨rfl, .ptr _ _ (by omega)⟩, ⟨rfl, .str _⟩, trivial⟩ ⟨fun o ho => by cases ho; exact ⟨rfl, by omega, .row _ _ _ (cls_low _)⟩, trivial⟩ (by omega) (by omega)
    case _ =>
      repeat (first | with_reducible refine AWL.nil ?_ | refine AW.seq ?_ | refine AW.region ?_ | refine AWL.no (by rfl) (by rfl) ?_ | refine AWL.do (by rfl) (by rfl) (by simp only [go_sem, wrap_succ hlt hs]; first | done | rfl) ?_)
      have ez : ((i : Int) == 0) = decide (i = 0) := by
        by_cases h : i = 0 <;> simp [h]
      cases h2 : ((i : Int) == 0)
      case _ =>
        rw [ez] at h2
        rw [h1, h2] at hgo'
        repeat (first | with_reducible refine AWL.nil ?_ | refine AW.seq ?_ | refine AW.region ?_ | refine AWL.no (by rfl) (by rfl) ?_ | refine AWL.do (by rfl) (by rfl) (by simp only [go_sem]; first | done | rfl) ?_)
        cases h3 : c != 4
        case _ =>
          repeat (first | with_reducible refine AWL.nil ?_ | refine AW.seq ?_ | refine AW.region ?_ | refine AWL.no (by rfl) (by rfl) ?_ | refine AWL.do (by rfl) (by rfl) (by simp only [go_sem]; first | done | rfl) ?_)
          refine AW.cond (b := false) (by rfl) (fun hc => absurd hc (by decide)) (fun _ => ?_)
          refine AW.skip ?_
          repeat (first | with_reducible refine AWL.nil ?_ | refine AW.seq ?_ | refine AW.region ?_ | refine AWL.no (by rfl) (by rfl) ?_ | refine AWL.do (by rfl) (by rfl) (by simp only [go_sem, wrap_succ hlt hs]; first | done | rfl) ?_)
          refine again (s.size - (i + 1)) (E32 s (i + 1)) (hE L32 1) (by omega) ?_ ⟨i + 1, by omega, rfl, rfl, rfl, by simpa [h3] using hgo'⟩
          rw [hF0]
          exact Weak.of (n2 := 1) ⟨⟨rfl, .int _ _⟩, ⟨rfl, .int _ _⟩, ⟨rfl, .str _⟩, ⟨rfl, .ptr _ _ (by omega)⟩, ⟨rfl, .str _⟩, trivial⟩ ⟨fun o ho => by cases ho; exact ⟨rfl, by omega, .row _ _ _ (cls_low _)⟩, trivial⟩ (by omega) (by omega)
        case _ =>
          repeat (first | with_reducible refine AWL.nil ?_ | refine AW.seq ?_ | refine AW.region ?_ | refine AWL.no (by rfl) (by rfl) ?_ | refine AWL.do (by rfl) (by rfl) (by simp only [go_sem]; first | done | rfl) ?_)
          cases h4 : c != 5
          case _ =>
            repeat (first | with_reducible refine AWL.nil ?_ | refine AW.seq ?_ | refine AW.region ?_ | refine AWL.no (by rfl) (by rfl) ?_ | refine AWL.do (by rfl) (by rfl) (by simp only [go_sem]; first | done | rfl) ?_)
            refine AW.cond (b := false) (by rfl) (fun hc => absurd hc (by decide)) (fun _ => ?_)
            refine AW.skip ?_
            repeat (first | with_reducible refine AWL.nil ?_ | refine AW.seq ?_ | refine AW.region ?_ | refine AWL.no (by rfl) (by rfl) ?_ | refine AWL.do (by rfl) (by rfl) (by simp only [go_sem, wrap_succ hlt hs]; first | done | rfl) ?_)
            refine again (s.size - (i + 1)) (E32 s (i + 1)) (hE L32 1) (by omega) ?_ ⟨i + 1, by omega, rfl, rfl, rfl, by simpa [h4] using hgo'⟩
            rw [hF0]
            exact Weak.of (n2 := 1) ⟨⟨rfl, .int _ _⟩, ⟨rfl, .int _ _⟩, ⟨rfl, .str _⟩, ⟨rfl, .ptr _ _ (by omega)⟩, ⟨rfl, .str _⟩, trivial⟩ ⟨fun o ho => by cases ho; exact ⟨rfl, by omega, .row _ _ _ (cls_low _)⟩, trivial⟩ (by omega) (by omega)
          case _ =>
            repeat (first | with_reducible refine AWL.nil ?_ | refine AW.seq ?_ | refine AW.region ?_ | refine AWL.no (by rfl) (by rfl) ?_ | refine AWL.do (by rfl) (by rfl) (by simp only [go_sem]; first | done | rfl) ?_)
            refine AW.cond (b := true) (by rfl) (fun _ => ?_) (fun hc => absurd hc (by decide))
            repeat (first | with_reducible refine AWL.nil ?_ | refine AW.seq ?_ | refine AW.region ?_ | refine AWL.no (by rfl) (by rfl) ?_ | refine AWL.do (by rfl) (by rfl) (by simp only [go_sem]; first | done | rfl) ?_)
            refine AW.ret ⟨_, rfl, ?_, .bool _⟩
            have : nameGo true s.data.toList = false := by simpa [h3, h4] using hgo'.symm
            simp [packA, nameB, this]
      case _ =>
        rw [ez] at h2
        rw [h1, h2] at hgo'
        repeat (first | with_reducible refine AWL.nil ?_ | refine AW.seq ?_ | refine AW.region ?_ | refine AWL.no (by rfl) (by rfl) ?_ | refine AWL.do (by rfl) (by rfl) (by simp only [go_sem]; first | done | rfl) ?_)
        refine AW.cond (b := true) (by rfl) (fun _ => ?_) (fun hc => absurd hc (by decide))
        repeat (first | with_reducible refine AWL.nil ?_ | refine AW.seq ?_ | refine AW.region ?_ | refine AWL.no (by rfl) (by rfl) ?_ | refine AWL.do (by rfl) (by rfl) (by simp only [go_sem]; first | done | rfl) ?_)
        refine AW.ret ⟨_, rfl, ?_, .bool _⟩
        have : nameGo true s.data.toList = false := by simpa using hgo'.symm
        simp [packA, nameB, this]
  case _ =>
    have hlt : i = s.size := by
      have : ¬ i < s.size := by simpa using hc
      omega
    refine AW.exit ?_
    have hgo2 : nameGo true s.data.toList = true := by
      rw [← hgo, hlt, List.drop_of_length_le (by simp)]
      simp [nameGo]
    repeat (first | with_reducible refine AWL.nil ?_ | refine AW.seq ?_ | refine AW.region ?_ | refine AWL.no (by rfl) (by rfl) ?_ | refine AWL.do (by rfl) (by rfl) (by simp only [go_sem]; first | done | rfl) ?_)
    generalize h1 : strEq s _ = q
    cases q
    case _ =>
      repeat (first | with_reducible refine AWL.nil ?_ | refine AW.seq ?_ | refine AW.region ?_ | refine AWL.no (by rfl) (by rfl) ?_ | refine AWL.do (by rfl) (by rfl) (by simp only [go_sem]; first | done | rfl) ?_)
      exact AW.ret ⟨_, rfl, by simp [packA, nameB, h1, hgo2], .bool _⟩
    case _ =>
      repeat (first | with_reducible refine AWL.nil ?_ | refine AW.seq ?_ | refine AW.region ?_ | refine AWL.no (by rfl) (by rfl) ?_ | refine AWL.do (by rfl) (by rfl) (by simp only [go_sem]; first | done | rfl) ?_)
      exact AW.ret ⟨_, rfl, by simp [packA, nameB, h1], .bool _⟩
theorem en_name : enterB Tryz.prog 32 = true := by kernel_rfl
end
end Go.Proofs.YtmeianaaiiiinaaGreat.Ev
