/- Contracts: object.Valid. -/
import Derived.Test.YtmeianaaiiiinaaGreatEvXd
namespace Go.Proofs.YtmeianaaiiiinaaGreat.Ev
open Go Go.Proofs
set_option linter.unusedVariables false
set_option linter.unusedSimpArgs false
set_option linter.all false
set_option maxRecDepth 10000
noncomputable section
attribute [local go_sem] putE run_move run_assign run_picks run_alloc run_box run_load run_store run_nilCheck run_binOp run_unOp run_fieldAddr run_field run_indexAddr run_index run_extract run_builtin run_makeFunc run_build run_lookup run_mapUpdate run_insert run_makeMap0 run_buildSlice List.map_cons List.map_nil zipParts e1 eS opE_tmp opE_const opE_func opsE_nil opsE_cons getL_if getL_nil ofZero_bool ofZero_int ofZero_str ofZero_nilp ofZero_nils val1_some' val2_some' val3_some' hE_next hE_new hE_set hE_get getO loadA rowOf storeK addrAdd binA intArithA strOpA isShift unA nilCheckA builtin_len optmap_some lenSl lenStr onAgg AV.cells putCells Option.join_some List.getElem?_cons_zero List.getElem?_cons_succ reduceIte Bool.false_eq_true Nat.reduceEqDiff Nat.reduceAdd Nat.zero_add Nat.add_zero List.length_cons List.length_nil fa_35_1 pt_3 fa_35_0 pt_9 fa_35_4 pt_33 fa_35_3 pt_25 ln_25 zo_30 sk_30 zo_9 sk_9 fa_35_2 pt_32 bd_32 pt_30

/-- An object of a map. -/
structure Ob where
  id : ByteArray
  kind : Int
  x : Int
  y : Int
  refs : List ByteArray
  tags : List Tg
def encO (o : Ob) : List AV := [.str o.id, .int .i64 o.kind, .int .i64 o.x, .int .i64 o.y, .view o.refs.length (flatE encS o.refs) false, .view o.tags.length (flatE encT o.tags) false]
theorem eO0 (o : Ob) : (encO o)[0]? = some (.str o.id) := rfl
theorem eO1 (o : Ob) : (encO o)[1]? = some (.int .i64 o.kind) := rfl
theorem eO2 (o : Ob) : aggAt 2 (encO o) 2 = some (.agg [.int .i64 o.x, .int .i64 o.y]) := rfl
theorem eO4 (o : Ob) : (encO o)[4]? = some (.view o.refs.length (flatE encS o.refs) false) := rfl
theorem eO5 (o : Ob) : (encO o)[5]? = some (.view o.tags.length (flatE encT o.tags) false) := rfl
attribute [local go_sem] eO0 eO1 eO2 eO4 eO5
theorem lenO (o : Ob) : (encO o).length = 6 := rfl
theorem lowO {n : Nat} (o : Ob) : ∀ a ∈ encO o, Low n a := fun a ha => by
  simp only [encO, List.mem_cons, List.not_mem_nil, or_false] at ha
  rcases ha with rfl | rfl | rfl | rfl | rfl | rfl
  · exact .str _
  · exact .int _ _
  · exact .int _ _
  · exact .int _ _
  · exact .view _ _ _ (lowS _)
  · exact .view _ _ _ (lowT _)
theorem lowOs {n : Nat} (l : List Ob) : ∀ a ∈ flatE encO l, Low n a := flatE_low _ _ _ (fun o _ => lowO o)
/-- What stands in the map 'seen' behind the first i references. -/
def seenSt (refs : List ByteArray) : Nat → Ents × Nat
  | 0 => ([], 0)
  | i + 1 => match refs[i]? with
    | some s => (updK s (.bool true) (seenSt refs i).2 (seenSt refs i).1, clkK s (seenSt refs i).1 (seenSt refs i).2)
    | none => seenSt refs i
def lastS (refs : List ByteArray) : Nat → ByteArray
  | 0 => ⟨#[]⟩
  | i + 1 => (refs[i]?).getD ⟨#[]⟩
def seenB (l : Ents) (s : ByteArray) : Bool := (lookK s l).isSome
theorem seenSt_look (refs : List ByteArray) (s : ByteArray) : ∀ i, lookK s (seenSt refs i).1 = none ∨ lookK s (seenSt refs i).1 = some (.bool true)
  | 0 => .inl rfl
  | i + 1 => by
    unfold seenSt
    cases refs[i]? with
    | none => exact seenSt_look refs s i
    | some t =>
      simp only
      rw [lookK_upd]
      by_cases h : s = t
      · simp [h]
      · simp only [h, if_false]
        exact seenSt_look refs s i
theorem seen_getD (refs : List ByteArray) (s : ByteArray) (i : Nat) : (lookK s (seenSt refs i).1).getD (.bool false) = .bool (seenB (seenSt refs i).1 s) := by
  unfold seenB
  rcases seenSt_look refs s i with h | h <;> rw [h] <;> rfl
theorem seenSt_low (refs : List ByteArray) (n : Nat) : ∀ i, ∀ e ∈ esS (seenSt refs i).1, Low n e.1 ∧ Low n e.2.1 := by
  intro i
  have key : ∀ (l : Ents), (∀ e ∈ l, e.2.1 = .bool true) → ∀ s c, ∀ e ∈ updK s (.bool true) c l, e.2.1 = .bool true := by
    intro l
    induction l with
    | nil =>
      intro _ s c e he
      simp only [updK, List.mem_singleton] at he
      rw [he]
    | cons a l ih =>
      intro hl s c e he
      unfold updK at he
      by_cases h : s = a.1
      · rw [if_pos h] at he
        rcases List.mem_cons.1 he with rfl | he
        · rfl
        · exact hl e (List.mem_cons_of_mem _ he)
      · rw [if_neg h] at he
        rcases List.mem_cons.1 he with rfl | he
        · exact hl _ List.mem_cons_self
        · exact ih (fun x hx => hl x (List.mem_cons_of_mem _ hx)) s c e he
  have all : ∀ i, ∀ e ∈ (seenSt refs i).1, e.2.1 = .bool true := by
    intro i
    induction i with
    | zero => intro e he; cases he
    | succ i ih =>
      unfold seenSt
      cases refs[i]? with
      | none => exact ih
      | some t => exact key _ ih _ _
  intro e he
  obtain ⟨x, hx, rfl⟩ := List.mem_map.1 he
  refine ⟨.str _, ?_⟩
  show Low n x.2.1
  rw [all i x hx]
  exact .bool _
/-- The heap of object.Valid behind the first i references. -/
def HV (o : Ob) (i : Nat) : Hp := [(3, some (.row 9 [.str (lastS o.refs i)] false)), (2, some (.row 30 [.map 1] false)), (1, some (.mp (esS (seenSt o.refs i).1) (seenSt o.refs i).2)), (0, some (.row 35 (encO o) false))]
theorem HV_pick (o : Ob) (i : Nat) {L : Hp} (h : L = HV o i) : PickO 4 L (HV o i) := by
  subst h
  refine ⟨fun x hx => ?_, fun x hx => ?_, fun x hx => ?_, fun x hx => ?_, trivial⟩
  · cases hx; exact ⟨rfl, by simp, .row _ _ _ (fun a ha => by rw [List.mem_singleton.1 ha]; exact .str _)⟩
  · cases hx; exact ⟨rfl, by simp, .row _ _ _ (fun a ha => by rw [List.mem_singleton.1 ha]; exact .map _ (by omega))⟩
  · cases hx; exact ⟨rfl, by simp, .mp _ _ (seenSt_low _ _ _)⟩
  · cases hx; exact ⟨rfl, by simp, .row _ _ _ (lowO o)⟩
theorem PickO.le {n : Nat} {L L2 : Hp} (h : PickO n L2 L2) (he : ∀ p ∈ L2, getO L p.1 = getO L2 p.1) : PickO n L L2 := by
  have key : ∀ L3 : Hp, (∀ p ∈ L3, p ∈ L2) → PickO n L L3 := by
    intro L3
    induction L3 with
    | nil => intro _; exact trivial
    | cons p L3 ih =>
      intro hs
      refine ⟨fun x hx => ?_, ih (fun q hq => hs q (List.mem_cons_of_mem _ hq))⟩
      have := h.mem p (hs p List.mem_cons_self) x hx
      rw [he p (hs p List.mem_cons_self)]
      exact this
  exact key L2 (fun p hp => hp)
/-- Whether a reference is wrong. -/
def wrongB (o : Ob) (i : Nat) : Bool := match o.refs[i]? with
  | some s => (o.kind == 2 && strEq s (lastS o.refs i)) || (o.kind == 3 && seenB (seenSt o.refs i).1 s) || !nameB s
  | none => false
set_option maxHeartbeats 4000000 in
theorem wrong_ok (o : Ob) (i : Nat) (hi : i < o.refs.length) (hs : (o.refs[i]).size ≤ 140737488355328) : FnOk Tryz.prog 35 ([.str o.refs[i]] ++ [.ptr 0 0, .ptr 3 0, .ptr 2 0]) (hE (HV o i) 4) (fun v h' => v = .bool (wrongB o i) ∧ h' = hE (HV o (i + 1)) 4) := by
  refine FnOk.of_AW Tryz.func35 rfl (by rw [Tryz.ntmps35]; simp) (fun F hF => ?_)
  have hF0 : F.h.next = 4 := by rw [hF]; rfl
  rw [Tryz.ntmps35]
  have hg : o.refs[i]? = some o.refs[i] := List.getElem?_eq_getElem hi
  have e1 : wrongB o i = ((o.kind == 2 && strEq o.refs[i] (lastS o.refs i)) || (o.kind == 3 && seenB (seenSt o.refs i).1 o.refs[i]) || !nameB o.refs[i]) := by unfold wrongB; rw [hg]
  have e2 : seenSt o.refs (i + 1) = (updK o.refs[i] (.bool true) (seenSt o.refs i).2 (seenSt o.refs i).1, clkK o.refs[i] (seenSt o.refs i).1 (seenSt o.refs i).2) := by
    show (match o.refs[i]? with
    | some s => _
    | none => _) = _
    rw [hg]
  have e3 : lastS o.refs (i + 1) = o.refs[i] := by show (o.refs[i]?).getD _ = _; rw [hg]; rfl
  have hgd := seen_getD o.refs o.refs[i] i
  rw [e1]
  have hfin : HV o (i + 1) = [(3, some (.row 9 [.str o.refs[i]] false)), (2, some (.row 30 [.map 1] false)), (1, some (.mp (esS (updK o.refs[i] (.bool true) (seenSt o.refs i).2 (seenSt o.refs i).1)) (clkK o.refs[i] (seenSt o.refs i).1 (seenSt o.refs i).2))), (0, some (.row 35 (encO o) false))] := by unfold HV; rw [e2, e3]
  have hlow := HV_pick o (i + 1) rfl
  rw [hfin] at hlow ⊢
  have hlook : lookupA Tryz.prog (hE (HV o i) 4) 30 (.map 1) (.str o.refs[i]) false = some (.bool (seenB (seenSt o.refs i).1 o.refs[i])) := by
    rw [lookup_str sm_30 (id := 1) (by rw [hE_get]; rfl) _ zo_4, hgd]
  have hupd : mapUpdateA Tryz.prog (hE (HV o i) 4) 30 (.map 1) (.str o.refs[i]) (.bool true) = some (hE ((1, some (.mp (esS (updK o.refs[i] (.bool true) (seenSt o.refs i).2 (seenSt o.refs i).1)) (clkK o.refs[i] (seenSt o.refs i).1 (seenSt o.refs i).2))) :: HV o i) 4) := by
    rw [update_str sm_30 (id := 1) (by rw [hE_get]; rfl), hE_set]
  unfold HV at hlook hupd ⊢
  generalize o.refs[i] = s at *
  cases hk2 : (o.kind == 2) <;> cases hl : strEq s (lastS o.refs i) <;> cases hk3 : (o.kind == 3) <;> cases hs3 : seenB (seenSt o.refs i).1 s
  all_goals
    repeat (first | with_reducible refine AWL.nil ?_ | refine AW.seq ?_ | refine AW.region ?_ | refine AWL.no (by rfl) (by rfl) ?_ | refine AWL.do (by rfl) (by rfl) (by simp only [go_sem, hk2, hk3, hl, hs3, hlook, hupd]; first | done | rfl) ?_)
    try
      refine AWL.call rfl rfl en_name rfl rfl ((name_ok _ hs).fn (by simp; exact .str _) _) ?_
      rintro v h' ⟨rfl, rfl, _⟩
      repeat (first | with_reducible refine AWL.nil ?_ | refine AW.seq ?_ | refine AW.region ?_ | refine AWL.no (by rfl) (by rfl) ?_ | refine AWL.do (by rfl) (by rfl) (by simp only [go_sem]; first | done | rfl) ?_)
    refine AW.weak [(5, .bool _)] (hE _ 4) ?_ (AW.ret ⟨_, rfl, rfl, rfl⟩)
    rw [hF0]
    exact Weak.of ⟨⟨rfl, .bool _⟩, trivial⟩ (PickO.le hlow (fun p hp => by simp only [List.mem_cons, List.not_mem_nil, or_false] at hp; rcases hp with rfl | rfl | rfl | rfl <;> rfl)) (by omega) (by omega)
theorem en_wrong : enterB Tryz.prog 35 = true := by kernel_rfl
end
end Go.Proofs.YtmeianaaiiiinaaGreat.Ev
