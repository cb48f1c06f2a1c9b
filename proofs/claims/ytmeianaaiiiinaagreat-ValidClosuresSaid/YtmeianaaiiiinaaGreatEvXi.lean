/- Contracts: equal objects, equal maps are the same. -/
import Derived.Test.YtmeianaaiiiinaaGreatEvXg
namespace Go.Proofs.YtmeianaaiiiinaaGreat.Ev
open Go Go.Proofs
set_option linter.unusedVariables false
set_option linter.unusedSimpArgs false
set_option linter.all false
set_option maxRecDepth 10000
noncomputable section
attribute [local go_sem] putE run_move run_assign run_picks run_alloc run_box run_load run_store run_nilCheck run_binOp run_unOp run_fieldAddr run_field run_indexAddr run_index run_extract run_builtin run_makeFunc run_build run_lookup run_mapUpdate run_insert run_makeMap0 run_buildSlice List.map_cons List.map_nil zipParts e1 eS opE_tmp opE_const opE_func opsE_nil opsE_cons getL_if getL_nil ofZero_bool ofZero_int ofZero_str ofZero_nilp ofZero_nils val1_some' val2_some' val3_some' hE_next hE_new hE_set hE_get getO loadA rowOf storeK addrAdd binA intArithA strOpA isShift unA nilCheckA builtin_len optmap_some lenSl lenStr onAgg AV.cells putCells Option.join_some List.getElem?_cons_zero List.getElem?_cons_succ reduceIte Bool.false_eq_true Nat.reduceEqDiff Nat.reduceAdd Nat.zero_add Nat.add_zero List.length_cons List.length_nil fa_35_0 pt_9 fa_35_1 pt_3 fa_35_2 pt_32 fa_35_3 pt_25 ln_25 fa_35_4 pt_33 ln_33 ix_25 ix_33 pt_46 fa_24_0 pt_22 ln_22 ix_22 pt_35
attribute [local go_sem] eO0 eO1 eO2 eO4 eO5 lenO oneO aggO drop6 List.take_zero List.nil_append List.append_nil strEq_self bne_self_eq_false Bool.not_true

theorem ne_pt (x y : Int) : eqOpA Tryz.prog .neq 32 (.agg [.int .i64 x, .int .i64 y]) (.agg [.int .i64 x, .int .i64 y]) = some (.bool false) := by
  have h : eqOpA Tryz.prog .neq 32 (.agg [.int .i64 x, .int .i64 y]) (.agg [.int .i64 x, .int .i64 y]) = match (match (x == x) with
    | true => match (y == y) with
      | true => some true
      | false => some false
    | false => some false : Option Bool) with
    | some b => some (.bool !b)
    | none => none := by kernel_rfl
  rw [h]
  simp
theorem ne_tag (a b : ByteArray) : eqOpA Tryz.prog .neq 46 (.agg [.str a, .str b]) (.agg [.str a, .str b]) = some (.bool false) := by
  have h : eqOpA Tryz.prog .neq 46 (.agg [.str a, .str b]) (.agg [.str a, .str b]) = match (match strEq a a with
    | true => match strEq b b with
      | true => some true
      | false => some false
    | false => some false : Option Bool) with
    | some b => some (.bool !b)
    | none => none := by kernel_rfl
  rw [h, strEq_self, strEq_self]
  rfl
attribute [local go_sem] ne_pt ne_tag
def L17 (o : Ob) : Hp := [(1, some (.row 35 (encO o) false)), (0, some (.row 35 (encO o) false))]
theorem L17_pick (o : Ob) {L : Hp} (h0 : getO L 0 = some (.row 35 (encO o) false)) (h1 : getO L 1 = some (.row 35 (encO o) false)) : PickO 2 L (L17 o) :=
  ⟨fun x hx => by cases hx; exact ⟨h1, by simp, .row _ _ _ (lowO o)⟩, fun x hx => by cases hx; exact ⟨h0, by simp, .row _ _ _ (lowO o)⟩, trivial⟩
theorem encT_at (t : Tg) : AV.agg (encT t) = .agg [.str t.1, .str t.2] := rfl
set_option maxHeartbeats 1000000 in
theorem sameOb_ok (o : Ob) (hs : szO o) : PureOk Tryz.prog 17 [.agg (encO o), .agg (encO o)] (fun v => v = .bool true) := by
  refine FnOk.of_AW Tryz.func17 rfl (by rw [Tryz.ntmps17]; simp) (fun F hF => ?_)
  have hF0 : F.h.next = 0 := by rw [hF]; rfl
  rw [Tryz.ntmps17]
  repeat (first | with_reducible refine AWL.nil ?_ | refine AW.seq ?_ | refine AW.region ?_ | refine AWL.no (by rfl) (by rfl) ?_ | refine AWL.do (by rfl) (by rfl) (by simp only [go_sem]; first | done | rfl) ?_)
  refine AW.cond (b := false) (by rfl) (fun hc => absurd hc (by decide)) (fun _ => ?_)
  refine AW.skip ?_
  repeat (first | with_reducible refine AWL.nil ?_ | refine AW.seq ?_ | refine AW.region ?_ | refine AWL.no (by rfl) (by rfl) ?_ | refine AWL.do (by rfl) (by rfl) (by simp only [go_sem]; first | done | rfl) ?_)
  refine AW.block ?_
  refine AW.loopW (fun m E h => ∃ i, i ≤ o.refs.length ∧ m = o.refs.length - i ∧ E = [(5, .int .i64 (i : Int)), (3, .ptr 1 0), (2, .ptr 0 0)] ∧ h = hE (L17 o) 2) o.refs.length [(5, .int .i64 0), (3, .ptr 1 0), (2, .ptr 0 0)] (hE (L17 o) 2) ?_ ⟨0, by omega, by omega, rfl, rfl⟩ ?_
  case _ =>
    rw [hF0]
    exact Weak.of (n2 := 2) ⟨⟨rfl, .int _ _⟩, ⟨rfl, .ptr _ _ (by omega)⟩, ⟨rfl, .ptr _ _ (by omega)⟩, trivial⟩ (L17_pick o rfl rfl) (by omega) (by omega)
  rintro m E h ⟨i, hi, rfl, rfl, rfl⟩
  unfold L17
  repeat (first | with_reducible refine AWL.nil ?_ | refine AW.seq ?_ | refine AW.region ?_ | refine AWL.no (by rfl) (by rfl) ?_ | refine AWL.do (by rfl) (by rfl) (by simp only [go_sem]; first | done | rfl) ?_)
  refine AW.cond (by rfl) (fun hc => ?_) (fun hc => ?_)
  case _ =>
    have hlt : i < o.refs.length := by simpa using hc
    refine AW.skip ?_
    refine AW.seq ?_
    refine AW.block ?_
    refine AW.seq ?_
    refine AW.draw call0 (call0_ok _) mixed (by kernel_rfl) ?_
    repeat (first | with_reducible refine DW.nil ?_ | refine DW.no (by rfl) (by rfl) ?_ | refine DW.do (by rfl) (by rfl) (by simp only [go_sem, run_call, dom_load, dom_lookup, dom_call, domV_ptr, domV_map, domV_rptr, opE_eq, subH_one, subH_all, ixS_view _ _ _ _ _ _ hlt, mul1, cellS o.refs i hlt]; first | done | rfl) ?_)
    refine AW.cond (b := false) (by rfl) (fun hc => absurd hc (by decide)) (fun _ => ?_)
    refine AW.skip ?_
    repeat (first | with_reducible refine AWL.nil ?_ | refine AW.seq ?_ | refine AW.region ?_ | refine AWL.no (by rfl) (by rfl) ?_ | refine AWL.do (by rfl) (by rfl) (by simp only [go_sem, wrap_succ hlt hs.2.1]; first | done | rfl) ?_)
    refine again (o.refs.length - (i + 1)) [(5, .int .i64 ((i + 1 : Nat) : Int)), (3, .ptr 1 0), (2, .ptr 0 0)] (hE (L17 o) 2) (by omega) ?_ ⟨i + 1, by omega, rfl, rfl, rfl⟩
    rw [hF0]
    exact Weak.of (n2 := 2) ⟨⟨rfl, .int _ _⟩, ⟨rfl, .ptr _ _ (by omega)⟩, ⟨rfl, .ptr _ _ (by omega)⟩, trivial⟩ (L17_pick o rfl rfl) (by omega) (by omega)
  case _ =>
    refine AW.exit ?_
    repeat (first | with_reducible refine AWL.nil ?_ | refine AW.seq ?_ | refine AW.region ?_ | refine AWL.no (by rfl) (by rfl) ?_ | refine AWL.do (by rfl) (by rfl) (by simp only [go_sem]; first | done | rfl) ?_)
    refine AW.block ?_
    refine AW.loopW (fun m E h => ∃ i, i ≤ o.tags.length ∧ m = o.tags.length - i ∧ E = [(6, .int .i64 (i : Int)), (3, .ptr 1 0), (2, .ptr 0 0)] ∧ h = hE (L17 o) 2) o.tags.length [(6, .int .i64 0), (3, .ptr 1 0), (2, .ptr 0 0)] (hE (L17 o) 2) ?_ ⟨0, by omega, by omega, rfl, rfl⟩ ?_
    case _ =>
      rw [hF0]
      exact Weak.of (n2 := 2) ⟨⟨rfl, .int _ _⟩, ⟨rfl, .ptr _ _ (by omega)⟩, ⟨rfl, .ptr _ _ (by omega)⟩, trivial⟩ (L17_pick o rfl rfl) (by omega) (by omega)
    rintro m E h ⟨j, hj, rfl, rfl, rfl⟩
    unfold L17
    repeat (first | with_reducible refine AWL.nil ?_ | refine AW.seq ?_ | refine AW.region ?_ | refine AWL.no (by rfl) (by rfl) ?_ | refine AWL.do (by rfl) (by rfl) (by simp only [go_sem]; first | done | rfl) ?_)
    refine AW.cond (by rfl) (fun hc => ?_) (fun hc => ?_)
    case _ =>
      have hlt : j < o.tags.length := by simpa using hc
      refine AW.skip ?_
      refine AW.seq ?_
      refine AW.block ?_
      refine AW.seq ?_
      refine AW.draw call0 (call0_ok _) mixed (by kernel_rfl) ?_
      repeat (first | with_reducible refine DW.nil ?_ | refine DW.no (by rfl) (by rfl) ?_ | refine DW.do (by rfl) (by rfl) (by simp only [go_sem, run_call, dom_load, dom_lookup, dom_call, domV_ptr, domV_map, domV_rptr, opE_eq, subH_one, subH_all, ixS_view _ _ _ _ _ _ hlt, flatE_agg encT 2 lenT o.tags j hlt, encT_at]; first | done | rfl) ?_)
      refine AW.cond (b := false) (by rfl) (fun hc => absurd hc (by decide)) (fun _ => ?_)
      refine AW.skip ?_
      repeat (first | with_reducible refine AWL.nil ?_ | refine AW.seq ?_ | refine AW.region ?_ | refine AWL.no (by rfl) (by rfl) ?_ | refine AWL.do (by rfl) (by rfl) (by simp only [go_sem, wrap_succ hlt hs.2.2.1]; first | done | rfl) ?_)
      refine again (o.tags.length - (j + 1)) [(6, .int .i64 ((j + 1 : Nat) : Int)), (3, .ptr 1 0), (2, .ptr 0 0)] (hE (L17 o) 2) (by omega) ?_ ⟨j + 1, by omega, rfl, rfl, rfl⟩
      rw [hF0]
      exact Weak.of (n2 := 2) ⟨⟨rfl, .int _ _⟩, ⟨rfl, .ptr _ _ (by omega)⟩, ⟨rfl, .ptr _ _ (by omega)⟩, trivial⟩ (L17_pick o rfl rfl) (by omega) (by omega)
    case _ =>
      refine AW.exit ?_
      repeat (first | with_reducible refine AWL.nil ?_ | refine AW.seq ?_ | refine AW.region ?_ | refine AWL.no (by rfl) (by rfl) ?_ | refine AWL.do (by rfl) (by rfl) (by simp only [go_sem]; first | done | rfl) ?_)
      exact AW.ret ⟨_, rfl, rfl, .bool _⟩
theorem en_sameO : enterB Tryz.prog 17 = true := by kernel_rfl
open Classical in
def tabS (o : Ob) (f : FuncId) (args : List AV) : Option AV :=
  if f = 17 ∧ args = [.agg (encO o), .agg (encO o)] then some (.bool true) else none
theorem tabS_ok (o : Ob) (hs : szO o) : ∀ f args v, tabS o f args = some v → PureOk Tryz.prog f args (fun u => u = v) ∧ (∀ a ∈ args, Low 0 a) ∧ Scal v := by
  intro f args v h
  unfold tabS at h
  split at h
  · rename_i h1
    obtain ⟨rfl, rfl⟩ := h1
    cases h
    exact ⟨sameOb_ok o hs, by simp; exact .agg _ (lowO _), .bool _⟩
  · cases h
def L8 (l : List Ob) : Hp := [(1, some (.row 24 [.view l.length (flatE encO l) false] false)), (0, some (.row 24 [.view l.length (flatE encO l) false] false))]
theorem L8_pick (l : List Ob) {L : Hp} (h0 : getO L 0 = some (.row 24 [.view l.length (flatE encO l) false] false)) (h1 : getO L 1 = some (.row 24 [.view l.length (flatE encO l) false] false)) : PickO 2 L (L8 l) :=
  ⟨fun x hx => by cases hx; exact ⟨h1, by simp, .row _ _ _ (fun a ha => by rw [List.mem_singleton.1 ha]; exact .view _ _ _ (lowOs _))⟩, fun x hx => by cases hx; exact ⟨h0, by simp, .row _ _ _ (fun a ha => by rw [List.mem_singleton.1 ha]; exact .view _ _ _ (lowOs _))⟩, trivial⟩
set_option maxHeartbeats 1000000 in
theorem sameMap_ok (l : List Ob) (hb : l.length ≤ 140737488355328) (hs : ∀ o ∈ l, szO o) : PureOk Tryz.prog 8 [encM l, encM l] (fun v => v = .bool true) := by
  refine FnOk.of_AW Tryz.func8 rfl (by rw [Tryz.ntmps8]; simp) (fun F hF => ?_)
  have hF0 : F.h.next = 0 := by rw [hF]; rfl
  rw [Tryz.ntmps8]
  unfold encM
  repeat (first | with_reducible refine AWL.nil ?_ | refine AW.seq ?_ | refine AW.region ?_ | refine AWL.no (by rfl) (by rfl) ?_ | refine AWL.do (by rfl) (by rfl) (by simp only [go_sem]; first | done | rfl) ?_)
  refine AW.cond (b := false) (by rfl) (fun hc => absurd hc (by decide)) (fun _ => ?_)
  refine AW.skip ?_
  repeat (first | with_reducible refine AWL.nil ?_ | refine AW.seq ?_ | refine AW.region ?_ | refine AWL.no (by rfl) (by rfl) ?_ | refine AWL.do (by rfl) (by rfl) (by simp only [go_sem]; first | done | rfl) ?_)
  refine AW.block ?_
  refine AW.loopW (fun m E h => ∃ i, i ≤ l.length ∧ m = l.length - i ∧ E = [(5, .int .i64 (i : Int)), (3, .ptr 1 0), (2, .ptr 0 0)] ∧ h = hE (L8 l) 2) l.length [(5, .int .i64 0), (3, .ptr 1 0), (2, .ptr 0 0)] (hE (L8 l) 2) ?_ ⟨0, by omega, by omega, rfl, rfl⟩ ?_
  case _ =>
    rw [hF0]
    exact Weak.of (n2 := 2) ⟨⟨rfl, .int _ _⟩, ⟨rfl, .ptr _ _ (by omega)⟩, ⟨rfl, .ptr _ _ (by omega)⟩, trivial⟩ (L8_pick l rfl rfl) (by omega) (by omega)
  rintro m E h ⟨i, hi, rfl, rfl, rfl⟩
  unfold L8
  repeat (first | with_reducible refine AWL.nil ?_ | refine AW.seq ?_ | refine AW.region ?_ | refine AWL.no (by rfl) (by rfl) ?_ | refine AWL.do (by rfl) (by rfl) (by simp only [go_sem]; first | done | rfl) ?_)
  refine AW.cond (by rfl) (fun hc => ?_) (fun hc => ?_)
  case _ =>
    have hlt : i < l.length := by simpa using hc
    have cS := callC_tab (tab := tabS l[i]) (vs := [.agg (encO l[i]), .agg (encO l[i])]) (v := .bool true) en_sameO (by simp [tabS])
    refine AW.skip ?_
    refine AW.seq ?_
    refine AW.block ?_
    refine AW.seq ?_
    refine AW.draw (callT (tabS l[i])) (callT_ok (tabS_ok l[i] (hs _ (List.getElem_mem hlt)))) mixed (by kernel_rfl) ?_
    repeat (first | with_reducible refine DW.nil ?_ | refine DW.no (by rfl) (by rfl) ?_ | refine DW.do (by rfl) (by rfl) (by simp only [go_sem, run_call, dom_load, dom_lookup, dom_call, domV_ptr, domV_map, domV_rptr, opE_eq, subH_one, subH_all, ixS_view _ _ _ _ _ _ hlt, flatE_agg encO 6 lenO l i hlt, cS]; first | done | rfl) ?_)
    refine AW.cond (b := false) (by rfl) (fun hc => absurd hc (by decide)) (fun _ => ?_)
    refine AW.skip ?_
    repeat (first | with_reducible refine AWL.nil ?_ | refine AW.seq ?_ | refine AW.region ?_ | refine AWL.no (by rfl) (by rfl) ?_ | refine AWL.do (by rfl) (by rfl) (by simp only [go_sem, wrap_succ hlt hb]; first | done | rfl) ?_)
    refine again (l.length - (i + 1)) [(5, .int .i64 ((i + 1 : Nat) : Int)), (3, .ptr 1 0), (2, .ptr 0 0)] (hE (L8 l) 2) (by omega) ?_ ⟨i + 1, by omega, rfl, rfl, rfl⟩
    rw [hF0]
    exact Weak.of (n2 := 2) ⟨⟨rfl, .int _ _⟩, ⟨rfl, .ptr _ _ (by omega)⟩, ⟨rfl, .ptr _ _ (by omega)⟩, trivial⟩ (L8_pick l rfl rfl) (by omega) (by omega)
  case _ =>
    refine AW.exit ?_
    repeat (first | with_reducible refine AWL.nil ?_ | refine AW.seq ?_ | refine AW.region ?_ | refine AWL.no (by rfl) (by rfl) ?_ | refine AWL.do (by rfl) (by rfl) (by simp only [go_sem]; first | done | rfl) ?_)
    exact AW.ret ⟨_, rfl, rfl, .bool _⟩
theorem en_sameM : enterB Tryz.prog 8 = true := by kernel_rfl
end
end Go.Proofs.YtmeianaaiiiinaaGreat.Ev
namespace Go.Proofs.YtmeianaaiiiinaaGreat.Ev
open Go Go.Proofs
set_option linter.unusedVariables false
set_option linter.unusedSimpArgs false
set_option maxRecDepth 10000
noncomputable section
attribute [local go_sem] putE run_move run_assign run_picks run_alloc run_box run_load run_store run_nilCheck run_binOp run_unOp run_fieldAddr run_field run_indexAddr run_index run_extract run_builtin run_makeFunc run_build run_lookup run_mapUpdate run_insert run_makeMap0 run_buildSlice List.map_cons List.map_nil zipParts e1 eS opE_tmp opE_const opE_func opsE_nil opsE_cons getL_if getL_nil ofZero_bool ofZero_int ofZero_str ofZero_nilp ofZero_nils val1_some' val2_some' val3_some' hE_next hE_new hE_set hE_get getO loadA rowOf storeK addrAdd binA intArithA strOpA isShift unA nilCheckA builtin_len optmap_some lenSl lenStr onAgg AV.cells putCells Option.join_some List.getElem?_cons_zero List.getElem?_cons_succ reduceIte Bool.false_eq_true Nat.reduceEqDiff Nat.reduceAdd Nat.zero_add Nat.add_zero List.length_cons List.length_nil fa_24_0 pt_22 ln_22 ix_22 pt_35 zo_35 sk_35 fa_35_3 pt_25 ln_25 fa_35_4 pt_33 ln_33 fa_35_0 pt_9 ln_9 ix_25 ix_33 fa_46_0 fa_46_1
attribute [local go_sem] eO0 eO1 eO2 eO4 eO5 lenO oneO aggO drop6 List.take_zero List.nil_append List.append_nil

/-- What the guard says of an object, and of a map. -/
structure FewO (o : Ob) : Prop where
  refs : o.refs.length ≤ 12
  tags : o.tags.length ≤ 20
  id : o.id.size ≤ 60
  rs : ∀ s ∈ o.refs, s.size ≤ 60
  ts : ∀ t ∈ o.tags, t.1.size + t.2.size ≤ 300
structure FewM (l : List Ob) (n : Int) : Prop where
  len : (l.length : Int) ≤ n
  obs : ∀ o ∈ l, FewO o
theorem flatE_at {α : Type} (enc : α → List AV) (k : Nat) (hk : ∀ x, (enc x).length = k) (l : List α) (i : Nat) (hi : i < l.length) (j : Nat) (hj : j < k) : (flatE enc l)[i * k + j]? = (enc l[i])[j]? := by
  have h1 : l.drop i = l[i] :: l.drop (i + 1) := List.drop_eq_getElem_cons hi
  have h2 : flatE enc (l.drop i) = enc l[i] ++ flatE enc (l.drop (i + 1)) := by rw [h1]; rfl
  rw [← List.getElem?_drop, flatE_drop enc k hk, h2, List.getElem?_append_left (by rw [hk]; exact hj)]
theorem tag_key (l : List Tg) (i : Nat) (hi : i < l.length) : (flatE encT l)[i * 2]? = some (.str l[i].1) := flatE_at encT 2 lenT l i hi 0 (by omega)
theorem tag_val (l : List Tg) (i : Nat) (hi : i < l.length) : (flatE encT l)[i * 2 + 1]? = some (.str l[i].2) := flatE_at encT 2 lenT l i hi 1 (by omega)
theorem wrap_add {a b : Nat} (ha : a ≤ 140737488355328) (hb : b ≤ 140737488355328) : IntKind.i64.wrap ((a : Int) + (b : Int)) = ((a + b : Nat) : Int) := by
  unfold IntKind.wrap; simp [IntKind.bits, IntKind.signed]; omega
def L5 (l : List Ob) : Hp := [(0, some (.row 24 [.view l.length (flatE encO l) false] false))]
theorem L5_pick (l : List Ob) {L : Hp} (h0 : getO L 0 = some (.row 24 [.view l.length (flatE encO l) false] false)) : PickO 1 L (L5 l) :=
  ⟨fun x hx => by cases hx; exact ⟨h0, by simp, .row _ _ _ (fun a ha => by rw [List.mem_singleton.1 ha]; exact .view _ _ _ (lowOs _))⟩, trivial⟩
def L5o (l : List Ob) (o : Ob) : Hp := [(1, some (.row 35 (encO o) false)), (0, some (.row 24 [.view l.length (flatE encO l) false] false))]
theorem L5o_pick (l : List Ob) (o : Ob) {L : Hp} (h1 : getO L 1 = some (.row 35 (encO o) false)) (h0 : getO L 0 = some (.row 24 [.view l.length (flatE encO l) false] false)) : PickO 2 L (L5o l o) :=
  ⟨fun x hx => by cases hx; exact ⟨h1, by simp, .row _ _ _ (lowO o)⟩, fun x hx => by cases hx; exact ⟨h0, by simp, .row _ _ _ (fun a ha => by rw [List.mem_singleton.1 ha]; exact .view _ _ _ (lowOs _))⟩, trivial⟩
set_option maxHeartbeats 2000000 in
theorem few_ok (l : List Ob) (n : Int) (hb : l.length ≤ 140737488355328) (hs : ∀ o ∈ l, szO o) (hv : ∀ o ∈ l, ∀ t ∈ o.tags, t.2.size ≤ 140737488355328) :
    PureOk Tryz.prog 5 [encM l, .int .i64 n] (fun v => ∃ b, v = .bool b ∧ (b = true → FewM l n)) := by
  refine FnOk.of_AW Tryz.func5 rfl (by rw [Tryz.ntmps5]; simp) (fun F hF => ?_)
  have hF0 : F.h.next = 0 := by rw [hF]; rfl
  rw [Tryz.ntmps5]
  unfold encM
  repeat (first | with_reducible refine AWL.nil ?_ | refine AW.seq ?_ | refine AW.region ?_ | refine AWL.no (by rfl) (by rfl) ?_ | refine AWL.do (by rfl) (by rfl) (by simp only [go_sem]; first | done | rfl) ?_)
  refine AW.cond (by rfl) (fun hc => ?_) (fun hc => ?_)
  · repeat (first | with_reducible refine AWL.nil ?_ | refine AW.seq ?_ | refine AW.region ?_ | refine AWL.no (by rfl) (by rfl) ?_ | refine AWL.do (by rfl) (by rfl) (by simp only [go_sem]; first | done | rfl) ?_)
    exact AW.ret ⟨_, rfl, ⟨false, rfl, fun h => by cases h⟩, .bool _⟩
  have hlen : (l.length : Int) ≤ n := by simpa using hc
  refine AW.skip ?_
  repeat (first | with_reducible refine AWL.nil ?_ | refine AW.seq ?_ | refine AW.region ?_ | refine AWL.no (by rfl) (by rfl) ?_ | refine AWL.do (by rfl) (by rfl) (by simp only [go_sem]; first | done | rfl) ?_)
  refine AW.block ?_
  refine AW.loopW (fun m E h => ∃ i, i ≤ l.length ∧ m = l.length - i ∧ E = [(5, .int .i64 (i : Int)), (2, .ptr 0 0)] ∧ h = hE (L5 l) 1 ∧ ∀ j (hj : j < l.length), j < i → FewO l[j]) l.length [(5, .int .i64 0), (2, .ptr 0 0)] (hE (L5 l) 1) ?_ ⟨0, by omega, by omega, rfl, rfl, fun j _ hj => by omega⟩ ?_
  case _ =>
    rw [hF0]
    exact Weak.of (n2 := 1) ⟨⟨rfl, .int _ _⟩, ⟨rfl, .ptr _ _ (by omega)⟩, trivial⟩ (L5_pick l rfl) (by omega) (by omega)
  rintro m E h ⟨i, hi, rfl, rfl, rfl, hall⟩
  unfold L5
  repeat (first | with_reducible refine AWL.nil ?_ | refine AW.seq ?_ | refine AW.region ?_ | refine AWL.no (by rfl) (by rfl) ?_ | refine AWL.do (by rfl) (by rfl) (by simp only [go_sem]; first | done | rfl) ?_)
  refine AW.cond (by rfl) (fun hc => ?_) (fun hc => ?_)
  case _ =>
    have hlt : i < l.length := by simpa using hc
    refine AW.skip ?_
    refine AW.seq ?_
    refine AW.block ?_
    repeat (first | with_reducible refine AWL.nil ?_ | refine AW.seq ?_ | refine AW.region ?_ | refine AWL.no (by rfl) (by rfl) ?_ | refine AWL.do (by rfl) (by rfl) (by simp only [go_sem, ixS_view _ _ _ _ _ _ hlt, flatE_agg encO 6 lenO l i hlt]; first | done | rfl) ?_)
    have hso := hs _ (List.getElem_mem hlt)
    have hvo := hv _ (List.getElem_mem hlt)
    have hnext : FewO l[i] → ∀ j (hj : j < l.length), j < i + 1 → FewO l[j] := fun h j hj hji => by
      by_cases e : j = i
      · subst e; exact h
      · exact hall j hj (by omega)
    generalize l[i] = o at hso hvo hnext ⊢
    cases d1 : decide ((o.refs.length : Int) > 12)
    case true =>
      repeat (first | with_reducible refine AWL.nil ?_ | refine AW.seq ?_ | refine AW.region ?_ | refine AWL.no (by rfl) (by rfl) ?_ | refine AWL.do (by rfl) (by rfl) (by simp only [go_sem, d1]; first | done | rfl) ?_)
      refine AW.cond (b := true) (by rfl) (fun _ => ?_) (fun hc => absurd hc (by decide))
      repeat (first | with_reducible refine AWL.nil ?_ | refine AW.seq ?_ | refine AW.region ?_ | refine AWL.no (by rfl) (by rfl) ?_ | refine AWL.do (by rfl) (by rfl) (by simp only [go_sem]; first | done | rfl) ?_)
      exact AW.ret ⟨_, rfl, ⟨false, rfl, fun h => by cases h⟩, .bool _⟩
    cases d2 : decide ((o.tags.length : Int) > 20)
    case true =>
      repeat (first | with_reducible refine AWL.nil ?_ | refine AW.seq ?_ | refine AW.region ?_ | refine AWL.no (by rfl) (by rfl) ?_ | refine AWL.do (by rfl) (by rfl) (by simp only [go_sem, d1, d2]; first | done | rfl) ?_)
      refine AW.cond (b := true) (by rfl) (fun _ => ?_) (fun hc => absurd hc (by decide))
      repeat (first | with_reducible refine AWL.nil ?_ | refine AW.seq ?_ | refine AW.region ?_ | refine AWL.no (by rfl) (by rfl) ?_ | refine AWL.do (by rfl) (by rfl) (by simp only [go_sem]; first | done | rfl) ?_)
      exact AW.ret ⟨_, rfl, ⟨false, rfl, fun h => by cases h⟩, .bool _⟩
    cases d3 : decide ((o.id.size : Int) > 60)
    case true =>
      repeat (first | with_reducible refine AWL.nil ?_ | refine AW.seq ?_ | refine AW.region ?_ | refine AWL.no (by rfl) (by rfl) ?_ | refine AWL.do (by rfl) (by rfl) (by simp only [go_sem, d1, d2, d3]; first | done | rfl) ?_)
      refine AW.cond (b := true) (by rfl) (fun _ => ?_) (fun hc => absurd hc (by decide))
      repeat (first | with_reducible refine AWL.nil ?_ | refine AW.seq ?_ | refine AW.region ?_ | refine AWL.no (by rfl) (by rfl) ?_ | refine AWL.do (by rfl) (by rfl) (by simp only [go_sem]; first | done | rfl) ?_)
      exact AW.ret ⟨_, rfl, ⟨false, rfl, fun h => by cases h⟩, .bool _⟩
    repeat (first | with_reducible refine AWL.nil ?_ | refine AW.seq ?_ | refine AW.region ?_ | refine AWL.no (by rfl) (by rfl) ?_ | refine AWL.do (by rfl) (by rfl) (by simp only [go_sem, d1, d2, d3]; first | done | rfl) ?_)
    refine AW.cond (b := false) (by rfl) (fun hc => absurd hc (by decide)) (fun _ => ?_)
    refine AW.skip ?_
    repeat (first | with_reducible refine AWL.nil ?_ | refine AW.seq ?_ | refine AW.region ?_ | refine AWL.no (by rfl) (by rfl) ?_ | refine AWL.do (by rfl) (by rfl) (by simp only [go_sem]; first | done | rfl) ?_)
    refine AW.block ?_
    refine AW.loopW (fun m E h => ∃ j, j ≤ o.refs.length ∧ m = o.refs.length - j ∧ E = [(7, .int .i64 (j : Int)), (6, .ptr 1 0), (5, .int .i64 (i : Int)), (2, .ptr 0 0)] ∧ h = hE (L5o l o) 2 ∧ ∀ q (hq : q < o.refs.length), q < j → (o.refs[q]).size ≤ 60) o.refs.length [(7, .int .i64 0), (6, .ptr 1 0), (5, .int .i64 (i : Int)), (2, .ptr 0 0)] (hE (L5o l o) 2) ?_ ⟨0, by omega, by omega, rfl, rfl, fun j _ hj => by omega⟩ ?_
    case _ =>
      rw [hF0]
      exact Weak.of (n2 := 2) ⟨⟨rfl, .int _ _⟩, ⟨rfl, .ptr _ _ (by omega)⟩, ⟨rfl, .int _ _⟩, ⟨rfl, .ptr _ _ (by omega)⟩, trivial⟩ (L5o_pick l o rfl rfl) (by omega) (by omega)
    rintro m E h ⟨j, hj, rfl, rfl, rfl, hr⟩
    unfold L5o
    repeat (first | with_reducible refine AWL.nil ?_ | refine AW.seq ?_ | refine AW.region ?_ | refine AWL.no (by rfl) (by rfl) ?_ | refine AWL.do (by rfl) (by rfl) (by simp only [go_sem]; first | done | rfl) ?_)
    refine AW.cond (by rfl) (fun hc => ?_) (fun hc => ?_)
    case _ =>
      have hjt : j < o.refs.length := by simpa using hc
      refine AW.skip ?_
      refine AW.seq ?_
      refine AW.block ?_
      repeat (first | with_reducible refine AWL.nil ?_ | refine AW.seq ?_ | refine AW.region ?_ | refine AWL.no (by rfl) (by rfl) ?_ | refine AWL.do (by rfl) (by rfl) (by simp only [go_sem, ixS_view _ _ _ _ _ _ hjt, mul1, cellS o.refs j hjt]; first | done | rfl) ?_)
      refine AW.cond (by rfl) (fun hc => ?_) (fun hc => ?_)
      · repeat (first | with_reducible refine AWL.nil ?_ | refine AW.seq ?_ | refine AW.region ?_ | refine AWL.no (by rfl) (by rfl) ?_ | refine AWL.do (by rfl) (by rfl) (by simp only [go_sem]; first | done | rfl) ?_)
        exact AW.ret ⟨_, rfl, ⟨false, rfl, fun h => by cases h⟩, .bool _⟩
      have hsz : (o.refs[j]).size ≤ 60 := by
        have : ¬ ((o.refs[j]).size : Int) > 60 := by simpa using hc
        omega
      refine AW.skip ?_
      repeat (first | with_reducible refine AWL.nil ?_ | refine AW.seq ?_ | refine AW.region ?_ | refine AWL.no (by rfl) (by rfl) ?_ | refine AWL.do (by rfl) (by rfl) (by simp only [go_sem, wrap_succ hjt hso.2.1]; first | done | rfl) ?_)
      refine again (o.refs.length - (j + 1)) [(7, .int .i64 ((j + 1 : Nat) : Int)), (6, .ptr 1 0), (5, .int .i64 (i : Int)), (2, .ptr 0 0)] (hE (L5o l o) 2) (by omega) ?_ ⟨j + 1, by omega, rfl, rfl, rfl, fun q hq hqj => ?_⟩
      · rw [hF0]
        exact Weak.of (n2 := 2) ⟨⟨rfl, .int _ _⟩, ⟨rfl, .ptr _ _ (by omega)⟩, ⟨rfl, .int _ _⟩, ⟨rfl, .ptr _ _ (by omega)⟩, trivial⟩ (L5o_pick l o rfl rfl) (by omega) (by omega)
      · by_cases e : q = j
        · subst e; exact hsz
        · exact hr q hq (by omega)
    have hje : j = o.refs.length := by
      have : ¬ j < o.refs.length := by simpa using hc
      omega
    refine AW.exit ?_
    repeat (first | with_reducible refine AWL.nil ?_ | refine AW.seq ?_ | refine AW.region ?_ | refine AWL.no (by rfl) (by rfl) ?_ | refine AWL.do (by rfl) (by rfl) (by simp only [go_sem]; first | done | rfl) ?_)
    refine AW.block ?_
    refine AW.loopW (fun m E h => ∃ j, j ≤ o.tags.length ∧ m = o.tags.length - j ∧ E = [(8, .int .i64 (j : Int)), (6, .ptr 1 0), (5, .int .i64 (i : Int)), (2, .ptr 0 0)] ∧ h = hE (L5o l o) 2 ∧ ∀ q (hq : q < o.tags.length), q < j → (o.tags[q]).1.size + (o.tags[q]).2.size ≤ 300) o.tags.length [(8, .int .i64 0), (6, .ptr 1 0), (5, .int .i64 (i : Int)), (2, .ptr 0 0)] (hE (L5o l o) 2) ?_ ⟨0, by omega, by omega, rfl, rfl, fun j _ hj => by omega⟩ ?_
    case _ =>
      rw [hF0]
      exact Weak.of (n2 := 2) ⟨⟨rfl, .int _ _⟩, ⟨rfl, .ptr _ _ (by omega)⟩, ⟨rfl, .int _ _⟩, ⟨rfl, .ptr _ _ (by omega)⟩, trivial⟩ (L5o_pick l o rfl rfl) (by omega) (by omega)
    rintro m E h ⟨p, hp, rfl, rfl, rfl, ht⟩
    unfold L5o
    repeat (first | with_reducible refine AWL.nil ?_ | refine AW.seq ?_ | refine AW.region ?_ | refine AWL.no (by rfl) (by rfl) ?_ | refine AWL.do (by rfl) (by rfl) (by simp only [go_sem]; first | done | rfl) ?_)
    refine AW.cond (by rfl) (fun hc => ?_) (fun hc => ?_)
    case _ =>
      have hpt : p < o.tags.length := by simpa using hc
      refine AW.skip ?_
      refine AW.seq ?_
      refine AW.block ?_
      refine AW.seq ?_
      refine AW.draw call0 (call0_ok _) mixed (by kernel_rfl) ?_
      repeat (first | with_reducible refine DW.nil ?_ | refine DW.no (by rfl) (by rfl) ?_ | refine DW.do (by rfl) (by rfl) (by simp only [go_sem, run_call, dom_load, dom_lookup, dom_call, domV_ptr, domV_map, domV_rptr, opE_eq, subH_one, subH_all, ixS_view _ _ _ _ _ _ hpt, tag_key o.tags p hpt, tag_val o.tags p hpt, wrap_add (hso.2.2.2.2 _ (List.getElem_mem hpt)) (hvo _ (List.getElem_mem hpt))]; first | done | rfl) ?_)
      refine AW.cond (by rfl) (fun hc => ?_) (fun hc => ?_)
      · repeat (first | with_reducible refine AWL.nil ?_ | refine AW.seq ?_ | refine AW.region ?_ | refine AWL.no (by rfl) (by rfl) ?_ | refine AWL.do (by rfl) (by rfl) (by simp only [go_sem]; first | done | rfl) ?_)
        exact AW.ret ⟨_, rfl, ⟨false, rfl, fun h => by cases h⟩, .bool _⟩
      have hsz : (o.tags[p]).1.size + (o.tags[p]).2.size ≤ 300 := by
        have : ¬ (((o.tags[p]).1.size + (o.tags[p]).2.size : Nat) : Int) > 300 := by simpa using hc
        omega
      refine AW.skip ?_
      repeat (first | with_reducible refine AWL.nil ?_ | refine AW.seq ?_ | refine AW.region ?_ | refine AWL.no (by rfl) (by rfl) ?_ | refine AWL.do (by rfl) (by rfl) (by simp only [go_sem, wrap_succ hpt hso.2.2.1]; first | done | rfl) ?_)
      refine again (o.tags.length - (p + 1)) [(8, .int .i64 ((p + 1 : Nat) : Int)), (6, .ptr 1 0), (5, .int .i64 (i : Int)), (2, .ptr 0 0)] (hE (L5o l o) 2) (by omega) ?_ ⟨p + 1, by omega, rfl, rfl, rfl, fun q hq hqj => ?_⟩
      · rw [hF0]
        exact Weak.of (n2 := 2) ⟨⟨rfl, .int _ _⟩, ⟨rfl, .ptr _ _ (by omega)⟩, ⟨rfl, .int _ _⟩, ⟨rfl, .ptr _ _ (by omega)⟩, trivial⟩ (L5o_pick l o rfl rfl) (by omega) (by omega)
      · by_cases e : q = p
        · subst e; exact hsz
        · exact ht q hq (by omega)
    have hpe : p = o.tags.length := by
      have : ¬ p < o.tags.length := by simpa using hc
      omega
    refine AW.exit ?_
    repeat (first | with_reducible refine AWL.nil ?_ | refine AW.seq ?_ | refine AW.region ?_ | refine AWL.no (by rfl) (by rfl) ?_ | refine AWL.do (by rfl) (by rfl) (by simp only [go_sem, wrap_succ hlt hb]; first | done | rfl) ?_)
    refine again (l.length - (i + 1)) [(5, .int .i64 ((i + 1 : Nat) : Int)), (2, .ptr 0 0)] (hE (L5 l) 1) (by omega) ?_ ⟨i + 1, by omega, rfl, rfl, rfl, hnext ⟨?_, ?_, ?_, fun s hs' => ?_, fun t ht' => ?_⟩⟩
    · rw [hF0]
      exact Weak.of (n2 := 1) ⟨⟨rfl, .int _ _⟩, ⟨rfl, .ptr _ _ (by omega)⟩, trivial⟩ (L5_pick l rfl) (by omega) (by omega)
    · simp at d1; omega
    · simp at d2; omega
    · simp at d3; omega
    · obtain ⟨q, hq, rfl⟩ := List.getElem_of_mem hs'
      exact hr q hq (by omega)
    · obtain ⟨q, hq, rfl⟩ := List.getElem_of_mem ht'
      exact ht q hq (by omega)
  case _ =>
    have hie : i = l.length := by
      have : ¬ i < l.length := by simpa using hc
      omega
    refine AW.exit ?_
    repeat (first | with_reducible refine AWL.nil ?_ | refine AW.seq ?_ | refine AW.region ?_ | refine AWL.no (by rfl) (by rfl) ?_ | refine AWL.do (by rfl) (by rfl) (by simp only [go_sem]; first | done | rfl) ?_)
    exact AW.ret ⟨_, rfl, ⟨true, rfl, fun _ => ⟨hlen, fun o ho => by
      obtain ⟨q, hq, rfl⟩ := List.getElem_of_mem ho
      exact hall q hq (by omega)⟩⟩, .bool _⟩
theorem en_few : enterB Tryz.prog 5 = true := by kernel_rfl
end
end Go.Proofs.YtmeianaaiiiinaaGreat.Ev
