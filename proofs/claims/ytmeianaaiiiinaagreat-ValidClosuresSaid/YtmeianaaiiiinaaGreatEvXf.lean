/- Contracts: object.Valid, whole. -/
import Derived.Test.YtmeianaaiiiinaaGreatEvXe
namespace Go.Proofs.YtmeianaaiiiinaaGreat.Ev
open Go Go.Proofs
set_option linter.unusedVariables false
set_option linter.unusedSimpArgs false
set_option linter.all false
set_option maxRecDepth 10000
noncomputable section
attribute [local go_sem] putE run_move run_assign run_picks run_alloc run_box run_load run_store run_nilCheck run_binOp run_unOp run_fieldAddr run_field run_indexAddr run_index run_extract run_builtin run_makeFunc run_build run_lookup run_mapUpdate run_insert run_makeMap0 run_buildSlice List.map_cons List.map_nil zipParts e1 eS opE_tmp opE_const opE_func opsE_nil opsE_cons getL_if getL_nil ofZero_bool ofZero_int ofZero_str ofZero_nilp ofZero_nils val1_some' val2_some' val3_some' hE_next hE_new hE_set hE_get getO loadA rowOf storeK addrAdd binA intArithA strOpA isShift unA nilCheckA builtin_len optmap_some lenSl lenStr onAgg AV.cells putCells Option.join_some List.getElem?_cons_zero List.getElem?_cons_succ reduceIte Bool.false_eq_true Nat.reduceEqDiff Nat.reduceAdd Nat.zero_add Nat.add_zero List.length_cons List.length_nil fa_35_1 pt_3 fa_35_0 pt_9 fa_35_4 pt_33 fa_35_3 pt_25 ln_25 zo_30 sk_30 zo_9 sk_9 fa_35_2 pt_32 bd_32
attribute [local go_sem] eO0 eO1 eO2 eO4 eO5

/-- Whether the sizes of what an object bears are moderate. -/
def szO (o : Ob) : Prop := o.id.size ≤ 140737488355328 ∧ o.refs.length ≤ 140737488355328 ∧ o.tags.length ≤ 140737488355328 ∧ (∀ s ∈ o.refs, s.size ≤ 140737488355328) ∧ (∀ t ∈ o.tags, t.1.size ≤ 140737488355328)
open Classical in
/-- What the calls of the first condition come to. -/
def tabV (o : Ob) (f : FuncId) (args : List AV) : Option AV :=
  if f = 31 ∧ args = [.int .i64 o.kind] then some (.str (wordS o.kind))
  else if f = 32 ∧ args = [.str o.id] then some (.bool (nameB o.id))
  else if f = 33 ∧ args = [.view o.tags.length (flatE encT o.tags) false] then some (.bool (tagsB o.tags))
  else if f = 34 ∧ args = [.int .i64 o.kind] ∧ 1 ≤ o.kind ∧ o.kind ≤ 5 then some (.int .i64 (leastN o.kind))
  else none
theorem tabV_ok (o : Ob) (hs : szO o) : ∀ f args v, tabV o f args = some v → PureOk Tryz.prog f args (fun u => u = v) ∧ (∀ a ∈ args, Low 0 a) ∧ Scal v := by
  intro f args v h
  unfold tabV at h
  split at h
  · rename_i h1
    obtain ⟨rfl, rfl⟩ := h1
    cases h
    exact ⟨word_ok _, by simp; exact .int _ _, .str _⟩
  split at h
  · rename_i h1
    obtain ⟨rfl, rfl⟩ := h1
    cases h
    exact ⟨name_ok _ hs.1, by simp; exact .str _, .bool _⟩
  split at h
  · rename_i h1
    obtain ⟨rfl, rfl⟩ := h1
    cases h
    exact ⟨tags_ok _ _ _ rfl hs.2.2.1 hs.2.2.2.2, by simp; exact .view _ _ _ (lowT _), .bool _⟩
  split at h
  · rename_i h1
    obtain ⟨rfl, rfl, h2, h3⟩ := h1
    cases h
    exact ⟨least_ok _ h2 h3, by simp; exact .int _ _, .int _ _⟩
  · cases h
theorem callC_tab {tab : FuncId → List AV → Option AV} {g : FuncId} {vs : List AV} {v : AV} (hg : enterB Tryz.prog g = true) (ht : tab g vs = some v) (S : AH) : callC Tryz.prog (callT tab) S vs (.func (.func g) [] []) = some [(v, S)] := by
  show (match enterB Tryz.prog g with
    | true => callT tab g ([] ++ vs ++ []) S
    | false => none) = _
  rw [hg, List.nil_append, List.append_nil]
  simp only [callT, ht]
  rfl
def anyWrong (o : Ob) : Prop := ∃ k, k < o.refs.length ∧ wrongB o k = true
open Classical in
/-- Whether an object is valid. -/
def objB (o : Ob) : Bool :=
  if strEq (wordS o.kind) ⟨#[]⟩ || !nameB o.id || !tagsB o.tags || decide ((o.refs.length : Int) < leastN o.kind) || decide ((o.refs.length : Int) > 2000) then false
  else if anyWrong o then false
  else if o.kind == 1 then (((o.refs.length : Int) == 0) && onB o.x o.y)
  else if o.kind == 5 then (((o.refs.length : Int) == 3) && (o.x == 0 && o.y == 0))
  else (o.x == 0 && o.y == 0)
theorem eq_pt (x y u v : Int) : eqOpA Tryz.prog .eql 32 (.agg [.int .i64 x, .int .i64 y]) (.agg [.int .i64 u, .int .i64 v]) = some (.bool (x == u && y == v)) := by
  have h : eqOpA Tryz.prog .eql 32 (.agg [.int .i64 x, .int .i64 y]) (.agg [.int .i64 u, .int .i64 v]) = match (match (x == u) with
    | true => match (y == v) with
      | true => some true
      | false => some false
    | false => some false : Option Bool) with
    | some b => some (.bool b)
    | none => none := by kernel_rfl
  rw [h]
  cases (x == u) <;> cases (y == v) <;> rfl
set_option maxHeartbeats 4000000 in
theorem objValid_ok (o : Ob) (hs : szO o) : PureOk Tryz.prog 16 [.agg (encO o)] (fun v => v = .bool (objB o)) := by
  refine FnOk.of_AW Tryz.func16 rfl (by rw [Tryz.ntmps16]; simp) (fun F hF => ?_)
  have hF0 : F.h.next = 0 := by rw [hF]; rfl
  rw [Tryz.ntmps16]
  unfold objB
  repeat (first | with_reducible refine AWL.nil ?_ | refine AW.seq ?_ | refine AW.region ?_ | refine AWL.no (by rfl) (by rfl) ?_ | refine AWL.do (by rfl) (by rfl) (by simp only [go_sem]; first | done | rfl) ?_)
  have c31 := callC_tab (tab := tabV o) (vs := [.int .i64 o.kind]) (v := .str (wordS o.kind)) en_word (by simp [tabV])
  have c32 := callC_tab (tab := tabV o) (vs := [.str o.id]) (v := .bool (nameB o.id)) en_name (by simp [tabV])
  have c33 := callC_tab (tab := tabV o) (vs := [.view o.tags.length (flatE encT o.tags) false]) (v := .bool (tagsB o.tags)) en_tags (by simp [tabV])
  refine AW.draw (callT (tabV o)) (callT_ok (tabV_ok o hs)) mixed (by kernel_rfl) ?_
  cases hw : strEq (wordS o.kind) ⟨#[]⟩
  case true =>
    repeat (first | with_reducible refine DW.nil ?_ | refine DW.no (by rfl) (by rfl) ?_ | refine DW.do (by rfl) (by rfl) (by simp only [go_sem, run_call, dom_load, dom_lookup, dom_call, domV_ptr, domV_map, domV_rptr, opE_eq, subH_one, subH_all, hw, c31]; first | done | rfl) ?_)
    refine AW.cond (b := true) (by rfl) (fun _ => ?_) (fun hc => absurd hc (by decide))
    repeat (first | with_reducible refine AWL.nil ?_ | refine AW.seq ?_ | refine AW.region ?_ | refine AWL.no (by rfl) (by rfl) ?_ | refine AWL.do (by rfl) (by rfl) (by simp only [go_sem]; first | done | rfl) ?_)
    exact AW.ret ⟨_, rfl, by simp [packA], .bool _⟩
  have hk := word_no hw
  have c34 := callC_tab (tab := tabV o) (vs := [.int .i64 o.kind]) (v := .int .i64 (leastN o.kind)) en_least (by simp [tabV, hk])
  cases hn : nameB o.id
  case false =>
    repeat (first | with_reducible refine DW.nil ?_ | refine DW.no (by rfl) (by rfl) ?_ | refine DW.do (by rfl) (by rfl) (by simp only [go_sem, run_call, dom_load, dom_lookup, dom_call, domV_ptr, domV_map, domV_rptr, opE_eq, subH_one, subH_all, hw, c31, c32, hn]; first | done | rfl) ?_)
    refine AW.cond (b := true) (by rfl) (fun _ => ?_) (fun hc => absurd hc (by decide))
    repeat (first | with_reducible refine AWL.nil ?_ | refine AW.seq ?_ | refine AW.region ?_ | refine AWL.no (by rfl) (by rfl) ?_ | refine AWL.do (by rfl) (by rfl) (by simp only [go_sem]; first | done | rfl) ?_)
    exact AW.ret ⟨_, rfl, by simp [packA], .bool _⟩
  cases ht : tagsB o.tags
  case false =>
    repeat (first | with_reducible refine DW.nil ?_ | refine DW.no (by rfl) (by rfl) ?_ | refine DW.do (by rfl) (by rfl) (by simp only [go_sem, run_call, dom_load, dom_lookup, dom_call, domV_ptr, domV_map, domV_rptr, opE_eq, subH_one, subH_all, hw, c31, c32, hn, c33, ht]; first | done | rfl) ?_)
    refine AW.cond (b := true) (by rfl) (fun _ => ?_) (fun hc => absurd hc (by decide))
    repeat (first | with_reducible refine AWL.nil ?_ | refine AW.seq ?_ | refine AW.region ?_ | refine AWL.no (by rfl) (by rfl) ?_ | refine AWL.do (by rfl) (by rfl) (by simp only [go_sem]; first | done | rfl) ?_)
    exact AW.ret ⟨_, rfl, by simp [packA], .bool _⟩
  cases hl : decide ((o.refs.length : Int) < leastN o.kind)
  case true =>
    repeat (first | with_reducible refine DW.nil ?_ | refine DW.no (by rfl) (by rfl) ?_ | refine DW.do (by rfl) (by rfl) (by simp only [go_sem, run_call, dom_load, dom_lookup, dom_call, domV_ptr, domV_map, domV_rptr, opE_eq, subH_one, subH_all, hw, c31, c32, hn, c33, ht, c34, hl]; first | done | rfl) ?_)
    refine AW.cond (b := true) (by rfl) (fun _ => ?_) (fun hc => absurd hc (by decide))
    repeat (first | with_reducible refine AWL.nil ?_ | refine AW.seq ?_ | refine AW.region ?_ | refine AWL.no (by rfl) (by rfl) ?_ | refine AWL.do (by rfl) (by rfl) (by simp only [go_sem]; first | done | rfl) ?_)
    exact AW.ret ⟨_, rfl, by simp [packA], .bool _⟩
  cases hx : decide ((o.refs.length : Int) > 2000)
  case true =>
    repeat (first | with_reducible refine DW.nil ?_ | refine DW.no (by rfl) (by rfl) ?_ | refine DW.do (by rfl) (by rfl) (by simp only [go_sem, run_call, dom_load, dom_lookup, dom_call, domV_ptr, domV_map, domV_rptr, opE_eq, subH_one, subH_all, hw, c31, c32, hn, c33, ht, c34, hl, hx]; first | done | rfl) ?_)
    refine AW.cond (b := true) (by rfl) (fun _ => ?_) (fun hc => absurd hc (by decide))
    repeat (first | with_reducible refine AWL.nil ?_ | refine AW.seq ?_ | refine AW.region ?_ | refine AWL.no (by rfl) (by rfl) ?_ | refine AWL.do (by rfl) (by rfl) (by simp only [go_sem]; first | done | rfl) ?_)
    exact AW.ret ⟨_, rfl, by simp [packA], .bool _⟩
  repeat (first | with_reducible refine DW.nil ?_ | refine DW.no (by rfl) (by rfl) ?_ | refine DW.do (by rfl) (by rfl) (by simp only [go_sem, run_call, dom_load, dom_lookup, dom_call, domV_ptr, domV_map, domV_rptr, opE_eq, subH_one, subH_all, hw, c31, c32, hn, c33, ht, c34, hl, hx]; first | done | rfl) ?_)
  refine AW.cond (b := false) (by rfl) (fun hc => absurd hc (by decide)) (fun _ => ?_)
  refine AW.skip ?_
  repeat (first | with_reducible refine AWL.nil ?_ | refine AW.seq ?_ | refine AW.region ?_ | refine AWL.no (by rfl) (by rfl) ?_ | refine AWL.do (by rfl) (by rfl) (by simp only [go_sem]; first | done | rfl) ?_)
  have hcap : ∀ a ∈ [AV.ptr 0 0, .ptr 3 0, .ptr 2 0], Low 4 a := fun a ha => by
    simp only [List.mem_cons, List.not_mem_nil, or_false] at ha
    rcases ha with rfl | rfl | rfl <;> exact .ptr _ _ (by omega)
  refine AWL.weak [(41, .func (.func 35) [] [.ptr 0 0, .ptr 3 0, .ptr 2 0]), (40, .view o.refs.length (flatE encS o.refs) false), (1, .ptr 0 0)] (hE (HV o 0) 4) ?_ ?_
  · rw [hF0]
    exact Weak.of ⟨⟨rfl, .func _ _ _ (fun a ha => by cases ha) hcap⟩, ⟨rfl, .view _ _ _ (lowS _)⟩, ⟨rfl, .ptr _ _ (by omega)⟩, trivial⟩ (PickO.le (HV_pick o 0 rfl) (fun p hp => by simp only [HV, List.mem_cons, List.not_mem_nil, or_false] at hp; rcases hp with rfl | rfl | rfl | rfl <;> rfl)) (by omega) (by omega)
  refine AWL.call rfl rfl en_ctf rfl rfl (containsFunc_ok o.refs _ false rfl hs.2.1 35 [.ptr 0 0, .ptr 3 0, .ptr 2 0] en_wrong 4 hcap (HV o) (fun i => HV_pick o i rfl) (wrongB o) (fun i hi => wrong_ok o i hi (hs.2.2.2.1 _ (List.getElem_mem hi)))) ?_
  rintro v h' ⟨k, rfl, ⟨rfl, k', h1, h2, _⟩ | ⟨rfl, h1⟩⟩
  · have hw' : anyWrong o := ⟨k', h1, h2⟩
    repeat (first | with_reducible refine AWL.nil ?_ | refine AW.seq ?_ | refine AW.region ?_ | refine AWL.no (by rfl) (by rfl) ?_ | refine AWL.do (by rfl) (by rfl) (by simp only [go_sem]; first | done | rfl) ?_)
    refine AW.cond (b := true) (by rfl) (fun _ => ?_) (fun hc => absurd hc (by decide))
    repeat (first | with_reducible refine AWL.nil ?_ | refine AW.seq ?_ | refine AW.region ?_ | refine AWL.no (by rfl) (by rfl) ?_ | refine AWL.do (by rfl) (by rfl) (by simp only [go_sem]; first | done | rfl) ?_)
    exact AW.ret ⟨_, rfl, by simp [packA, hw'], .bool _⟩
  have hw' : ¬ anyWrong o := fun ⟨j, hj, hp⟩ => by rw [h1 j hj] at hp; cases hp
  repeat (first | with_reducible refine AWL.nil ?_ | refine AW.seq ?_ | refine AW.region ?_ | refine AWL.no (by rfl) (by rfl) ?_ | refine AWL.do (by rfl) (by rfl) (by simp only [go_sem]; first | done | rfl) ?_)
  refine AW.cond (b := false) (by rfl) (fun hc => absurd hc (by decide)) (fun _ => ?_)
  refine AW.skip ?_
  repeat (first | with_reducible refine AWL.nil ?_ | refine AW.seq ?_ | refine AW.region ?_ | refine AWL.no (by rfl) (by rfl) ?_ | refine AWL.do (by rfl) (by rfl) (by simp only [go_sem, HV]; first | done | rfl) ?_)
  refine AW.block ?_
  cases k1 : (o.kind == 1)
  case true =>
    repeat (first | with_reducible refine AWL.nil ?_ | refine AW.seq ?_ | refine AW.region ?_ | refine AWL.no (by rfl) (by rfl) ?_ | refine AWL.do (by rfl) (by rfl) (by simp only [go_sem, HV, k1]; first | done | rfl) ?_)
    refine AW.cond (b := true) (by rfl) (fun _ => ?_) (fun hc => absurd hc (by decide))
    cases z1 : ((o.refs.length : Int) == 0)
    case false =>
      repeat (first | with_reducible refine AWL.nil ?_ | refine AW.seq ?_ | refine AW.region ?_ | refine AWL.no (by rfl) (by rfl) ?_ | refine AWL.do (by rfl) (by rfl) (by simp only [go_sem, HV, k1, z1]; first | done | rfl) ?_)
      exact AW.ret ⟨_, rfl, by simp [packA, hw'], .bool _⟩
    repeat (first | with_reducible refine AWL.nil ?_ | refine AW.seq ?_ | refine AW.region ?_ | refine AWL.no (by rfl) (by rfl) ?_ | refine AWL.do (by rfl) (by rfl) (by simp only [go_sem, HV, k1, z1]; first | done | rfl) ?_)
    refine AWL.call rfl rfl en_on rfl rfl ((on_ok o.x o.y).fn (by simp; exact .agg _ (by simp; exact ⟨.int _ _, .int _ _⟩)) _) ?_
    rintro v h' ⟨rfl, rfl, _⟩
    repeat (first | with_reducible refine AWL.nil ?_ | refine AW.seq ?_ | refine AW.region ?_ | refine AWL.no (by rfl) (by rfl) ?_ | refine AWL.do (by rfl) (by rfl) (by simp only [go_sem]; first | done | rfl) ?_)
    exact AW.ret ⟨_, rfl, by simp [packA, hw'], .bool _⟩
  repeat (first | with_reducible refine AWL.nil ?_ | refine AW.seq ?_ | refine AW.region ?_ | refine AWL.no (by rfl) (by rfl) ?_ | refine AWL.do (by rfl) (by rfl) (by simp only [go_sem, HV, k1]; first | done | rfl) ?_)
  refine AW.cond (b := false) (by rfl) (fun hc => absurd hc (by decide)) (fun _ => ?_)
  cases k5 : (o.kind == 5)
  case true =>
    repeat (first | with_reducible refine AWL.nil ?_ | refine AW.seq ?_ | refine AW.region ?_ | refine AWL.no (by rfl) (by rfl) ?_ | refine AWL.do (by rfl) (by rfl) (by simp only [go_sem, HV, k5]; first | done | rfl) ?_)
    refine AW.cond (b := true) (by rfl) (fun _ => ?_) (fun hc => absurd hc (by decide))
    cases z3 : ((o.refs.length : Int) == 3)
    case false =>
      repeat (first | with_reducible refine AWL.nil ?_ | refine AW.seq ?_ | refine AW.region ?_ | refine AWL.no (by rfl) (by rfl) ?_ | refine AWL.do (by rfl) (by rfl) (by simp only [go_sem, HV, z3]; first | done | rfl) ?_)
      exact AW.ret ⟨_, rfl, by simp [packA, hw'], .bool _⟩
    repeat (first | with_reducible refine AWL.nil ?_ | refine AW.seq ?_ | refine AW.region ?_ | refine AWL.no (by rfl) (by rfl) ?_ | refine AWL.do (by rfl) (by rfl) (by simp only [go_sem, HV, z3, eq_pt]; first | done | rfl) ?_)
    exact AW.ret ⟨_, rfl, by simp [packA, hw'], .bool _⟩
  repeat (first | with_reducible refine AWL.nil ?_ | refine AW.seq ?_ | refine AW.region ?_ | refine AWL.no (by rfl) (by rfl) ?_ | refine AWL.do (by rfl) (by rfl) (by simp only [go_sem, HV, k5]; first | done | rfl) ?_)
  refine AW.cond (b := false) (by rfl) (fun hc => absurd hc (by decide)) (fun _ => ?_)
  refine AW.skip ?_
  repeat (first | with_reducible refine AWL.nil ?_ | refine AW.seq ?_ | refine AW.region ?_ | refine AWL.no (by rfl) (by rfl) ?_ | refine AWL.do (by rfl) (by rfl) (by simp only [go_sem, HV, eq_pt]; first | done | rfl) ?_)
  exact AW.ret ⟨_, rfl, by simp [packA, hw'], .bool _⟩
theorem en_objv : enterB Tryz.prog 16 = true := by kernel_rfl
end
end Go.Proofs.YtmeianaaiiiinaaGreat.Ev
