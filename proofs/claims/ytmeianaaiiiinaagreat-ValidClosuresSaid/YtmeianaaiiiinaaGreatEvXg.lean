/- Contracts: atlas.Valid; the objects by their Ids. -/
import Derived.Test.YtmeianaaiiiinaaGreatEvXf
import Derived.Test.YtmeianaaiiiinaaGreatEvWf
namespace Go.Proofs.YtmeianaaiiiinaaGreat.Ev
open Go Go.Proofs
set_option linter.unusedVariables false
set_option linter.unusedSimpArgs false
set_option linter.all false
set_option maxRecDepth 10000
noncomputable section
attribute [local go_sem] putE run_move run_assign run_picks run_alloc run_box run_load run_store run_nilCheck run_binOp run_unOp run_fieldAddr run_field run_indexAddr run_index run_extract run_builtin run_makeFunc run_build run_lookup run_mapUpdate run_insert run_makeMap0 run_buildSlice List.map_cons List.map_nil zipParts e1 eS opE_tmp opE_const opE_func opsE_nil opsE_cons getL_if getL_nil ofZero_bool ofZero_int ofZero_str ofZero_nilp ofZero_nils val1_some' val2_some' val3_some' hE_next hE_new hE_set hE_get getO loadA rowOf storeK addrAdd binA intArithA strOpA isShift unA nilCheckA builtin_len optmap_some lenSl lenStr onAgg AV.cells putCells Option.join_some List.getElem?_cons_zero List.getElem?_cons_succ reduceIte Bool.false_eq_true Nat.reduceEqDiff Nat.reduceAdd Nat.zero_add Nat.add_zero List.length_cons List.length_nil fa_24_0 pt_22 ln_22 ix_22 pt_35 zo_35 sk_35 fa_35_0 pt_9
theorem oneO (o : Ob) : (encO o).all AV.oneB = true := rfl
theorem aggO (o : Ob) : aggAt 6 (encO o) 0 = some (.agg (encO o)) := rfl
theorem drop6 (a b c d e f : AV) : List.drop 6 [a, b, c, d, e, f] = [] := rfl
theorem box1 (v : AV) : [v][0]? = some v := rfl
attribute [local go_sem] eO0 eO1 eO2 eO4 eO5 lenO oneO aggO drop6 List.take_zero List.nil_append List.append_nil

/-- A map of objects, as a value. -/
def encM (l : List Ob) : AV := .agg [.view l.length (flatE encO l) false]
theorem lowM {n : Nat} (l : List Ob) : Low n (encM l) := .agg _ (fun a ha => by rw [List.mem_singleton.1 ha]; exact .view _ _ _ (lowOs _))
def mapGo : ByteArray → List Ob → Bool
  | _, [] => true
  | last, o :: l => if !objB o || (strLt o.id last || strEq o.id last) then false else mapGo o.id l
def mapB (l : List Ob) : Bool := mapGo ⟨#[]⟩ l && decide ((l.length : Int) ≤ 1000000)
def E7 (l : List Ob) (i : Nat) (last : ByteArray) : Env := [(9, .int .i64 (i : Int)), (8, .int .i64 (l.length : Int)), (7, .view l.length (flatE encO l) false), (3, .str last), (1, .ptr 0 0)]
def L7 (l : List Ob) : Hp := [(0, some (.row 24 [.view l.length (flatE encO l) false] false))]
theorem L7_pick (l : List Ob) {L : Hp} (h : getO L 0 = some (.row 24 [.view l.length (flatE encO l) false] false)) : PickO 1 L (L7 l) := ⟨fun o ho => by cases ho; exact ⟨h, by omega, .row _ _ _ (fun a ha => by rw [List.mem_singleton.1 ha]; exact .view _ _ _ (lowOs _))⟩, trivial⟩
set_option maxHeartbeats 1000000 in
theorem mapValid_ok (l : List Ob) (hb : l.length ≤ 140737488355328) (hs : ∀ o ∈ l, szO o) : PureOk Tryz.prog 7 [encM l] (fun v => v = .bool (mapB l)) := by
  refine FnOk.of_AW Tryz.func7 rfl (by rw [Tryz.ntmps7]; simp) (fun F hF => ?_)
  have hF0 : F.h.next = 0 := by rw [hF]; rfl
  rw [Tryz.ntmps7]
  unfold encM
  repeat (first | with_reducible refine AWL.nil ?_ | refine AW.seq ?_ | refine AW.region ?_ | refine AWL.no (by rfl) (by rfl) ?_ | refine AWL.do (by rfl) (by rfl) (by simp only [go_sem]; first | done | rfl) ?_)
  refine AW.block ?_
  refine AW.loopW (fun m E h => ∃ i last, i ≤ l.length ∧ m = l.length - i ∧ E = E7 l i last ∧ h = hE (L7 l) 1 ∧ mapGo last (l.drop i) = mapGo ⟨#[]⟩ l) l.length (E7 l 0 ⟨#[]⟩) (hE (L7 l) 1) ?_ ⟨0, _, by omega, by omega, rfl, rfl, rfl⟩ ?_
  case _ =>
    rw [hF0]
    exact Weak.of (n2 := 1) ⟨⟨rfl, .int _ _⟩, ⟨rfl, .int _ _⟩, ⟨rfl, .view _ _ _ (lowOs l)⟩, ⟨rfl, .str _⟩, ⟨rfl, .ptr _ _ (by omega)⟩, trivial⟩ (L7_pick l rfl) (by omega) (by omega)
  rintro m E h ⟨i, last, hi, rfl, rfl, rfl, hgo⟩
  unfold E7 L7
  repeat (first | with_reducible refine AWL.nil ?_ | refine AW.seq ?_ | refine AW.region ?_ | refine AWL.no (by rfl) (by rfl) ?_ | refine AWL.do (by rfl) (by rfl) (by simp only [go_sem]; first | done | rfl) ?_)
  refine AW.cond (by rfl) (fun hc => ?_) (fun hc => ?_)
  case _ =>
    have hlt : i < l.length := by simpa using hc
    refine AW.skip ?_
    refine AW.seq ?_
    refine AW.block ?_
    repeat (first | with_reducible refine AWL.nil ?_ | refine AW.seq ?_ | refine AW.region ?_ | refine AWL.no (by rfl) (by rfl) ?_ | refine AWL.do (by rfl) (by rfl) (by simp only [go_sem, ixS_view _ _ _ _ _ _ hlt, flatE_agg encO 6 lenO l i hlt]; first | done | rfl) ?_)
    refine AWL.call rfl rfl en_objv rfl rfl ((objValid_ok _ (hs _ (List.getElem_mem hlt))).fn (by simp; exact .agg _ (lowO _)) _) ?_
    rintro v h' ⟨rfl, rfl, _⟩
    have hgo' := hgo
    rw [List.drop_eq_getElem_cons hlt, mapGo] at hgo'
    generalize l[i] = o at hgo' ⊢
    generalize h1 : objB o = q1 at hgo' ⊢
    cases q1
    case _ =>
      repeat (first | with_reducible refine AWL.nil ?_ | refine AW.seq ?_ | refine AW.region ?_ | refine AWL.no (by rfl) (by rfl) ?_ | refine AWL.do (by rfl) (by rfl) (by simp only [go_sem]; first | done | rfl) ?_)
      refine AW.cond (b := true) (by rfl) (fun _ => ?_) (fun hc => absurd hc (by decide))
      repeat (first | with_reducible refine AWL.nil ?_ | refine AW.seq ?_ | refine AW.region ?_ | refine AWL.no (by rfl) (by rfl) ?_ | refine AWL.do (by rfl) (by rfl) (by simp only [go_sem]; first | done | rfl) ?_)
      have : mapGo ⟨#[]⟩ l = false := by simpa using hgo'.symm
      exact AW.ret ⟨_, rfl, by simp [packA, mapB, this], .bool _⟩
    repeat (first | with_reducible refine AWL.nil ?_ | refine AW.seq ?_ | refine AW.region ?_ | refine AWL.no (by rfl) (by rfl) ?_ | refine AWL.do (by rfl) (by rfl) (by simp only [go_sem]; first | done | rfl) ?_)
    generalize h2 : (strLt o.id last || strEq o.id last) = q2 at hgo' ⊢
    cases q2
    case true =>
      repeat (first | with_reducible refine AWL.nil ?_ | refine AW.seq ?_ | refine AW.region ?_ | refine AWL.no (by rfl) (by rfl) ?_ | refine AWL.do (by rfl) (by rfl) (by simp only [go_sem]; first | done | rfl) ?_)
      refine AW.cond (b := true) (by rfl) (fun _ => ?_) (fun hc => absurd hc (by decide))
      repeat (first | with_reducible refine AWL.nil ?_ | refine AW.seq ?_ | refine AW.region ?_ | refine AWL.no (by rfl) (by rfl) ?_ | refine AWL.do (by rfl) (by rfl) (by simp only [go_sem]; first | done | rfl) ?_)
      have : mapGo ⟨#[]⟩ l = false := by simpa using hgo'.symm
      exact AW.ret ⟨_, rfl, by simp [packA, mapB, this], .bool _⟩
    repeat (first | with_reducible refine AWL.nil ?_ | refine AW.seq ?_ | refine AW.region ?_ | refine AWL.no (by rfl) (by rfl) ?_ | refine AWL.do (by rfl) (by rfl) (by simp only [go_sem]; first | done | rfl) ?_)
    refine AW.cond (b := false) (by rfl) (fun hc => absurd hc (by decide)) (fun _ => ?_)
    refine AW.skip ?_
    repeat (first | with_reducible refine AWL.nil ?_ | refine AW.seq ?_ | refine AW.region ?_ | refine AWL.no (by rfl) (by rfl) ?_ | refine AWL.do (by rfl) (by rfl) (by simp only [go_sem, wrap_succ hlt hb]; first | done | rfl) ?_)
    refine again (l.length - (i + 1)) (E7 l (i + 1) o.id) (hE (L7 l) 1) (by omega) ?_ ⟨i + 1, _, by omega, rfl, rfl, rfl, by simpa using hgo'⟩
    rw [hF0]
    exact Weak.of (n2 := 1) ⟨⟨rfl, .int _ _⟩, ⟨rfl, .int _ _⟩, ⟨rfl, .view _ _ _ (lowOs l)⟩, ⟨rfl, .str _⟩, ⟨rfl, .ptr _ _ (by omega)⟩, trivial⟩ (L7_pick l rfl) (by omega) (by omega)
  case _ =>
    have hlt : i = l.length := by
      have : ¬ i < l.length := by simpa using hc
      omega
    refine AW.exit ?_
    have hgo2 : mapGo ⟨#[]⟩ l = true := by
      rw [← hgo, hlt, List.drop_of_length_le (by omega)]
      simp [mapGo]
    repeat (first | with_reducible refine AWL.nil ?_ | refine AW.seq ?_ | refine AW.region ?_ | refine AWL.no (by rfl) (by rfl) ?_ | refine AWL.do (by rfl) (by rfl) (by simp only [go_sem]; first | done | rfl) ?_)
    exact AW.ret ⟨_, rfl, by simp [packA, mapB, hgo2], .bool _⟩
theorem en_mapv : enterB Tryz.prog 7 = true := by kernel_rfl

/-- What stands in the map of objects behind the first i of them. -/
def objSt (l : List Ob) : Nat → Ents × Nat
  | 0 => ([], 0)
  | i + 1 => match l[i]? with
    | some o => (updK o.id (.agg (encO o)) (objSt l i).2 (objSt l i).1, clkK o.id (objSt l i).1 (objSt l i).2)
    | none => objSt l i
theorem objSt_low (l : List Ob) (n : Nat) : ∀ i, ∀ e ∈ esS (objSt l i).1, Low n e.1 ∧ Low n e.2.1 := by
  have key : ∀ (l : Ents), (∀ e ∈ l, Low n e.2.1) → ∀ s v c, Low n v → ∀ e ∈ updK s v c l, Low n e.2.1 := by
    intro l
    induction l with
    | nil =>
      intro _ s v c hv e he
      simp only [updK, List.mem_singleton] at he
      rw [he]; exact hv
    | cons a l ih =>
      intro hl s v c hv e he
      unfold updK at he
      by_cases h : s = a.1
      · rw [if_pos h] at he
        rcases List.mem_cons.1 he with rfl | he
        · exact hv
        · exact hl e (List.mem_cons_of_mem _ he)
      · rw [if_neg h] at he
        rcases List.mem_cons.1 he with rfl | he
        · exact hl _ List.mem_cons_self
        · exact ih (fun x hx => hl x (List.mem_cons_of_mem _ hx)) s v c hv e he
  have all : ∀ i, ∀ e ∈ (objSt l i).1, Low n e.2.1 := by
    intro i
    induction i with
    | zero => intro e he; cases he
    | succ i ih =>
      unfold objSt
      cases l[i]? with
      | none => exact ih
      | some o => exact key _ ih _ _ _ (.agg _ (lowO o))
  intro i e he
  obtain ⟨x, hx, rfl⟩ := List.mem_map.1 he
  exact ⟨.str _, all i x hx⟩
def E14 (l : List Ob) (i : Nat) : Env := [(13, .int .i64 (i : Int)), (12, .int .i64 (l.length : Int)), (11, .view l.length (flatE encO l) false), (3, .map 1)]
def L14 (l : List Ob) (i : Nat) : Hp := [(1, some (.mp (esS (objSt l i).1) (objSt l i).2))]
theorem L14_pick (l : List Ob) (i : Nat) {L : Hp} (h : getO L 1 = some (.mp (esS (objSt l i).1) (objSt l i).2)) : PickO 2 L (L14 l i) := ⟨fun o ho => by cases ho; exact ⟨h, by omega, .mp _ _ (objSt_low l _ i)⟩, trivial⟩
set_option maxHeartbeats 1000000 in
theorem objects_ok (l : List Ob) (hb : l.length ≤ 140737488355328) : FnOk Tryz.prog 14 [encM l] (hE [] 0) (fun v h' => ∃ k es c, v = .map k ∧ h'.get k = some (.mp es c) ∧ (∀ e ∈ es, Low 0 e.1 ∧ Low 0 e.2.1) ∧ (es = esS (objSt l l.length).1 ∧ c = (objSt l l.length).2)) := by
  refine FnOk.of_AW Tryz.func14 rfl (by rw [Tryz.ntmps14]; simp) (fun F hF => ?_)
  have hF0 : F.h.next = 0 := by rw [hF]; rfl
  rw [Tryz.ntmps14]
  unfold encM
  repeat (first | with_reducible refine AWL.nil ?_ | refine AW.seq ?_ | refine AW.region ?_ | refine AWL.no (by rfl) (by rfl) ?_ | refine AWL.do (by rfl) (by rfl) (by simp only [go_sem]; first | done | rfl) ?_)
  refine AWL.do (by rfl) (by rfl) (by rw [run_makeMap1 _ _ Tryz.underlying54]; simp only [go_sem]; first | done | rfl) ?_
  repeat (first | with_reducible refine AWL.nil ?_ | refine AW.seq ?_ | refine AW.region ?_ | refine AWL.no (by rfl) (by rfl) ?_ | refine AWL.do (by rfl) (by rfl) (by simp only [go_sem]; first | done | rfl) ?_)
  refine AW.block ?_
  refine AW.loopW (fun m E h => ∃ i, i ≤ l.length ∧ m = l.length - i ∧ E = E14 l i ∧ h = hE (L14 l i) 2) l.length (E14 l 0) (hE (L14 l 0) 2) ?_ ⟨0, by omega, by omega, rfl, rfl⟩ ?_
  case _ =>
    rw [hF0]
    exact Weak.of (n2 := 2) ⟨⟨rfl, .int _ _⟩, ⟨rfl, .int _ _⟩, ⟨rfl, .view _ _ _ (lowOs l)⟩, ⟨rfl, .map _ (by omega)⟩, trivial⟩ (L14_pick l 0 rfl) (by omega) (by omega)
  rintro m E h ⟨i, hi, rfl, rfl, rfl⟩
  unfold E14 L14
  repeat (first | with_reducible refine AWL.nil ?_ | refine AW.seq ?_ | refine AW.region ?_ | refine AWL.no (by rfl) (by rfl) ?_ | refine AWL.do (by rfl) (by rfl) (by simp only [go_sem]; first | done | rfl) ?_)
  refine AW.cond (by rfl) (fun hc => ?_) (fun hc => ?_)
  case _ =>
    have hlt : i < l.length := by simpa using hc
    refine AW.skip ?_
    refine AW.seq ?_
    refine AW.block ?_
    repeat (first | with_reducible refine AWL.nil ?_ | refine AW.seq ?_ | refine AW.region ?_ | refine AWL.no (by rfl) (by rfl) ?_ | refine AWL.do (by rfl) (by rfl) (by simp only [go_sem, ixS_view _ _ _ _ _ _ hlt, flatE_agg encO 6 lenO l i hlt]; first | done | rfl) ?_)
    have hst : objSt l (i + 1) = (updK l[i].id (.agg (encO l[i])) (objSt l i).2 (objSt l i).1, clkK l[i].id (objSt l i).1 (objSt l i).2) := by
      show (match l[i]? with
        | some o => _
        | none => _) = _
      rw [List.getElem?_eq_getElem hlt]
    have hp := L14_pick l (i + 1) (L := L14 l (i + 1)) rfl
    unfold L14 at hp
    rw [hst] at hp
    refine AWL.do (by rfl) (by rfl) (by simp only [go_sem]; exact (congrArg val3 (update_str sm_54 (l := (objSt l i).1) (c := (objSt l i).2) (by rw [hE_get]; rfl) _ _)).trans (by rw [hE_set]; rfl)) ?_
    repeat (first | with_reducible refine AWL.nil ?_ | refine AW.seq ?_ | refine AW.region ?_ | refine AWL.no (by rfl) (by rfl) ?_ | refine AWL.do (by rfl) (by rfl) (by simp only [go_sem, wrap_succ hlt hb]; first | done | rfl) ?_)
    refine again (l.length - (i + 1)) (E14 l (i + 1)) (hE (L14 l (i + 1)) 2) (by omega) ?_ ⟨i + 1, by omega, rfl, rfl, rfl⟩
    rw [hF0]
    refine Weak.of (n2 := 2) ⟨⟨rfl, .int _ _⟩, ⟨rfl, .int _ _⟩, ⟨rfl, .view _ _ _ (lowOs l)⟩, ⟨rfl, .map _ (by omega)⟩, trivial⟩ (L14_pick l (i + 1) ?_) (by omega) (by omega)
    rw [hst]
    rfl
  case _ =>
    have hlt : i = l.length := by
      have : ¬ i < l.length := by simpa using hc
      omega
    subst hlt
    refine AW.exit ?_
    repeat (first | with_reducible refine AWL.nil ?_ | refine AW.seq ?_ | refine AW.region ?_ | refine AWL.no (by rfl) (by rfl) ?_ | refine AWL.do (by rfl) (by rfl) (by simp only [go_sem]; first | done | rfl) ?_)
    exact AW.ret ⟨_, rfl, 1, _, _, rfl, by rw [hE_get]; rfl, objSt_low l _ _, rfl, rfl⟩
theorem en_objs : enterB Tryz.prog 14 = true := by kernel_rfl
end
end Go.Proofs.YtmeianaaiiiinaaGreat.Ev
