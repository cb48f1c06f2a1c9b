/- The law ValidClosures: it returns true. -/
import Derived.Test.YtmeianaaiiiinaaGreatEvXi
import Derived.Test.YtmeianaaiiiinaaGreatEvPa
import Derived.Test.YtmeianaaiiiinaaGreatEvYc
namespace Go.Proofs.YtmeianaaiiiinaaGreat.Ev
open Go Go.Proofs
set_option linter.unusedVariables false
set_option linter.unusedSimpArgs false
set_option linter.all false
set_option maxRecDepth 10000
noncomputable section
attribute [local go_sem] putE run_move run_assign run_picks run_alloc run_box run_load run_store run_nilCheck run_binOp run_unOp run_fieldAddr run_field run_indexAddr run_index run_extract run_builtin run_makeFunc run_build run_lookup run_mapUpdate run_insert run_makeMap0 run_buildSlice List.map_cons List.map_nil zipParts e1 eS opE_tmp opE_const opE_func opsE_nil opsE_cons getL_if getL_nil ofZero_bool ofZero_int ofZero_str ofZero_nilp ofZero_nils val1_some' val2_some' val3_some' hE_next hE_new hE_set hE_get getO loadA rowOf storeK addrAdd binA intArithA strOpA isShift unA nilCheckA builtin_len optmap_some lenSl lenStr onAgg AV.cells putCells Option.join_some List.getElem?_cons_zero List.getElem?_cons_succ reduceIte Bool.false_eq_true Nat.reduceEqDiff Nat.reduceAdd Nat.zero_add Nat.add_zero List.length_cons List.length_nil pt_24 ln_25 zo_24 sk_24 fa_24_0 pt_22 ln_22 ix_25 pt_9 ix_22 fa_35_0 fa_35_3 pt_25 sl_22 bd_24
attribute [local go_sem] eO0 eO1 eO2 eO4 eO5 lenO oneO aggO drop6 List.take_zero List.nil_append List.append_nil aggM drop1 one1

/-! Freezing a nil slice -/
theorem AW.nilv {P : Program} {nt : Nat} {F : Fr} {E : Env} {h : AH} (E2 : Env) {c : Code} {Q : AEx → Env → AH → Prop} (he : ∀ d v, getL E2 d = some v → getL E d = some v ∨ (getL E d = some .nilSlice ∧ v = .view 0 [] false)) (hc : AW P nt F c Q E2 h) : AW P nt F c Q E h :=
  fun r A K a w S T hb => hc r A K a w ⟨S.rel, fun t v ht => by
    rw [tmE_get] at ht
    rcases he t v ht with h1 | ⟨h1, rfl⟩
    · exact S.tms t v (by rw [tmE_get]; exact h1)
    · obtain ⟨x, h2, h3⟩ := S.tms t _ (by rw [tmE_get]; exact h1)
      refine ⟨x, h2, ?_⟩
      cases h3
      exact .view0 _ _ _ _ (fun _ => rfl), S.size, S.defers, S.io⟩ T hb
def NilE (E : Env) : Env → Prop
  | [] => True
  | p :: E2 => (getL E p.1 = some p.2 ∨ (getL E p.1 = some .nilSlice ∧ p.2 = .view 0 [] false)) ∧ NilE E E2
theorem NilE.mem {E : Env} : ∀ {E2 : Env}, NilE E E2 → ∀ d v, getL E2 d = some v → getL E d = some v ∨ (getL E d = some .nilSlice ∧ v = .view 0 [] false)
  | p :: E2, h, d, v, hg => by
    obtain ⟨p1, p2⟩ := p
    rw [getL_if] at hg
    by_cases e : p1 = d
    · rw [if_pos e] at hg
      obtain rfl : p2 = v := Option.some.inj hg
      rw [← e]
      exact h.1
    · rw [if_neg e] at hg
      exact NilE.mem h.2 d v hg
theorem PureOk.imp {P : Program} {f : FuncId} {args : List AV} {Q Q' : AV → Prop} (h : PureOk P f args Q) (hq : ∀ v, Q v → Q' v) : PureOk P f args Q' := FnOk.mono h (fun v _ hv => ⟨hq v hv.1, hv.2⟩)
/-- What is needed of the arguments. -/
structure ArgOk (m : List Ob) (ids : List ByteArray) : Prop where
  len : m.length ≤ 140737488355328
  obs : ∀ o ∈ m, szO o
  vals : ∀ o ∈ m, ∀ t ∈ o.tags, t.2.size ≤ 140737488355328
  ids : ids.length ≤ 140737488355328
def EL1 (ids : List ByteArray) (m c : List Ob) (i : Nat) : Env := [(8, .int .i64 (i : Int)), (7, .map 0), (6, .rptr [.view c.length (flatE encO c) false] 0), (5, .bool true), (2, .rptr [.view m.length (flatE encO m) false] 0), (1, .view ids.length (flatE encS ids) false)]
def lowCs (c : List Ob) : Low 0 (.rptr [.view c.length (flatE encO c) false] 0) := .rptr _ _ (fun a ha => by rw [List.mem_singleton.1 ha]; exact .view _ _ _ (lowOs _))
/-- The Ids that have been gathered. -/
def ownV (c : List Ob) (i : Nat) : AV := if i = 0 then .nilSlice else .slice 1 0 i (.rest 0)
def LM (l : Ents) (k : Nat) : Hp := [(0, some (.mp (esS l) k))]
def LO (c : List Ob) (i : Nat) (l : Ents) (k : Nat) : Hp := (1, some (.row 9 (flatE encS ((c.take i).map (·.id))) true)) :: LM l k
def EL2 (ids : List ByteArray) (m c : List Ob) (own : AV) (i : Nat) : Env := [(10, .int .i64 (i : Int)), (9, own), (7, .map 0), (6, .rptr [.view c.length (flatE encO c) false] 0), (5, .bool true), (2, .rptr [.view m.length (flatE encO m) false] 0), (1, .view ids.length (flatE encS ids) false)]
def EL3 (ids : List ByteArray) (m c : List Ob) (own : AV) (i j : Nat) : Env := (11, .int .i64 (j : Int)) :: EL2 ids m c own i
theorem own_low (c : List Ob) (i n : Nat) (h : 2 ≤ n) : Low n (ownV c i) := by
  unfold ownV
  split
  · exact .nilSlice
  · exact .slice _ _ _ _ (by omega)
theorem pickEL2 {n : Nat} {E : Env} {ids : List ByteArray} {m c : List Ob} {own : AV} {i : Nat} (hn : 1 ≤ n) (ho : Low n own) (h1 : getL E 10 = some (.int .i64 (i : Int))) (h2 : getL E 9 = some own) (h3 : getL E 7 = some (.map 0)) (h4 : getL E 6 = some (.rptr [.view c.length (flatE encO c) false] 0)) (h5 : getL E 5 = some (.bool true)) (h6 : getL E 2 = some (.rptr [.view m.length (flatE encO m) false] 0)) (h7 : getL E 1 = some (.view ids.length (flatE encS ids) false)) : Pick n E (EL2 ids m c own i) :=
  ⟨⟨h1, .int _ _⟩, ⟨h2, ho⟩, ⟨h3, .map _ hn⟩, ⟨h4, (lowCs c).mono (by omega)⟩, ⟨h5, .bool _⟩, ⟨h6, (lowCs m).mono (by omega)⟩, ⟨h7, .view _ _ _ (lowS _)⟩, trivial⟩
theorem pickLM {n : Nat} {L : Hp} {l : Ents} {k : Nat} (hn : 1 ≤ n) (ht : Tr l) (h : getO L 0 = some (.mp (esS l) k)) : PickO n L (LM l k) := ⟨fun x hx => by cases hx; exact ⟨h, hn, .mp _ _ (ht.low _)⟩, trivial⟩
theorem obj_id (c : List Ob) (i : Nat) (hi : i < c.length) : (flatE encO c)[i * 6]? = some (.str c[i].id) := flatE_at encO 6 lenO c i hi 0 (by omega)
theorem obj_refs (c : List Ob) (i : Nat) (hi : i < c.length) : (flatE encO c)[i * 6 + 4]? = some (.view c[i].refs.length (flatE encS c[i].refs) false) := flatE_at encO 6 lenO c i hi 4 (by omega)
theorem bs_str (s : ByteArray) (h : AH) : bsK 1 (.str ⟨#[]⟩) 9 h 1 [(0, .str s)] = some (.slice h.next 0 1 (.known 1), h.new (.row 9 [.str s] false)) := by kernel_rfl
theorem flatS_one (s : ByteArray) : flatE encS [s] = [.str s] := rfl
theorem flatS_snoc (l : List ByteArray) (s : ByteArray) : flatE encS (l ++ [s]) = flatE encS l ++ [.str s] := by simp [flatE, encS]
theorem ids_succ (c : List Ob) (i : Nat) (hi : i < c.length) : (c.take (i + 1)).map (·.id) = (c.take i).map (·.id) ++ [c[i].id] := by
  rw [List.take_succ_eq_append_getElem hi, List.map_append]; rfl
def EL4 (ids : List ByteArray) (m c : List Ob) : Env := [(9, .view (c.map (·.id)).length (flatE encS (c.map (·.id))) false), (7, .map 0), (6, .rptr [.view c.length (flatE encO c) false] 0), (5, .bool true), (2, .rptr [.view m.length (flatE encO m) false] 0), (1, .view ids.length (flatE encS ids) false)]
theorem pickEL4 {E : Env} {ids : List ByteArray} {m c : List Ob} (h2 : getL E 9 = some (.view (c.map (·.id)).length (flatE encS (c.map (·.id))) false)) (h3 : getL E 7 = some (.map 0)) (h4 : getL E 6 = some (.rptr [.view c.length (flatE encO c) false] 0)) (h5 : getL E 5 = some (.bool true)) (h6 : getL E 2 = some (.rptr [.view m.length (flatE encO m) false] 0)) (h7 : getL E 1 = some (.view ids.length (flatE encS ids) false)) : Pick 1 E (EL4 ids m c) :=
  ⟨⟨h2, .view _ _ _ (lowS _)⟩, ⟨h3, .map _ (by omega)⟩, ⟨h4, (lowCs c).mono (by omega)⟩, ⟨h5, .bool _⟩, ⟨h6, (lowCs m).mono (by omega)⟩, ⟨h7, .view _ _ _ (lowS _)⟩, trivial⟩
def EL5 (ids : List ByteArray) (m c : List Ob) (i k : Nat) : Env := (13, .int .i64 (i : Int)) :: (12, .int .i64 (k : Int)) :: EL4 ids m c
theorem slV (l : List Ob) (i : Nat) (hi : i < l.length) : sliceSl 6 (.view l.length (flatE encO l) false) (some (.int .i64 (i : Int))) (some (.int .i64 ((i + 1 : Nat) : Int))) none = some (.view 1 (flatE encO [l[i]]) false) := by
  have h1 : boundA (.int .i64 ((i + 1 : Nat) : Int)) l.length = some (i + 1) := by
    simp only [boundA]
    rw [if_pos ⟨by omega, by omega⟩, Int.toNat_natCast]
  have h2 : boundA (.int .i64 (i : Int)) (i + 1) = some i := by
    simp only [boundA]
    rw [if_pos ⟨by omega, by omega⟩, Int.toNat_natCast]
  simp only [sliceSl, bnds, optA, h1, h2]
  have e1 : i + 1 - i = 1 := by omega
  rw [e1, flatE_drop encO 6 lenO, flatE_take encO 6 lenO, List.drop_eq_getElem_cons hi]
  rfl
theorem bd_map (n : Nat) (cs : List AV) (e : Bool) : bdK [.nilSlice] (fun i => [(0, 1)][i]?) [(0, .view n cs e)] = some (.agg [.view n cs e]) := by kernel_rfl
attribute [local go_sem] run_slice eO bd_map
theorem prefix_at {m : List Ob} {p : Ob → Bool} {i k : Nat} (hi : i < m.length) (hk : k ≤ (m.filter p).length) (h : (m.filter p).take k = (m.take i).filter p) (hp : p m[i] = true) : ∃ hlt : k < (m.filter p).length, (m.filter p)[k] = m[i] ∧ (m.filter p).take (k + 1) = (m.take (i + 1)).filter p := by
  have e : m.filter p = (m.take i).filter p ++ (m[i] :: (m.drop (i + 1)).filter p) := by
    have h1 : m = m.take i ++ (m[i] :: m.drop (i + 1)) := by rw [← List.drop_eq_getElem_cons hi, List.take_append_drop]
    conv => lhs; rw [h1]
    rw [List.filter_append, List.filter_cons, if_pos hp]
  have hlen : ((m.take i).filter p).length = k := by rw [← h, List.length_take]; omega
  have hlt : k < (m.filter p).length := by
    rw [e, List.length_append, hlen]; simp
  refine ⟨hlt, ?_, ?_⟩
  · have : (m.filter p)[k]? = some m[i] := by
      rw [e, List.getElem?_append_right (by omega), hlen, Nat.sub_self]
      rfl
    rw [List.getElem?_eq_getElem hlt] at this
    exact Option.some.inj this
  · rw [List.take_succ_eq_append_getElem hi, List.filter_append, List.filter_cons, if_pos hp, List.filter_nil]
    have h2 : (m.filter p).take (k + 1) = (m.filter p).take k ++ [(m.filter p)[k]] := List.take_succ_eq_append_getElem hlt
    have h3 : (m.filter p)[k] = m[i] := by
      have : (m.filter p)[k]? = some m[i] := by
        rw [e, List.getElem?_append_right (by omega), hlen, Nat.sub_self]
        rfl
      rw [List.getElem?_eq_getElem hlt] at this
      exact Option.some.inj this
    rw [h2, h, h3]
theorem prefix_no {m : List Ob} {p : Ob → Bool} {i : Nat} (hi : i < m.length) (hp : p m[i] = false) : (m.take (i + 1)).filter p = (m.take i).filter p := by
  rw [List.take_succ_eq_append_getElem hi, List.filter_append, List.filter_cons, if_neg (by rw [hp]; simp), List.filter_nil, List.append_nil]
/-- Loops that have a map and a gathered slice. -/
def HO (c : List Ob) (i : Nat) (l : Ents) (k : Nat) : AH := if i = 0 then hE (LM l k) 1 else hE (LO c i l k) 2
set_option maxHeartbeats 4000000 in
theorem law_ok (hhead : PureOk Tryz.prog 4 [] (fun v => v = .bool true)) (en_head : enterB Tryz.prog 4 = true) (m : List Ob) (ids : List ByteArray) (ha : ArgOk m ids) :
    PureOk Tryz.prog 3 [encM m, .view ids.length (flatE encS ids) false] (fun v => v = .bool true) := by
  refine FnOk.of_AW Tryz.func3 rfl (by rw [Tryz.ntmps3]; simp) (fun F hF => ?_)
  have hF0 : F.h.next = 0 := by rw [hF]; rfl
  rw [Tryz.ntmps3]
  unfold encM
  repeat (first | with_reducible refine AWL.nil ?_ | refine AW.seq ?_ | refine AW.region ?_ | refine AWL.no (by rfl) (by rfl) ?_ | refine AWL.do (by rfl) (by rfl) (by simp only [go_sem]; first | done | rfl) ?_)
  refine AWL.call rfl rfl en_head rfl rfl (hhead.fn (by simp) _) ?_
  rintro v h' ⟨rfl, rfl, _⟩
  repeat (first | with_reducible refine AWL.nil ?_ | refine AW.seq ?_ | refine AW.region ?_ | refine AWL.no (by rfl) (by rfl) ?_ | refine AWL.do (by rfl) (by rfl) (by simp only [go_sem]; first | done | rfl) ?_)
  refine AWL.call rfl rfl en_few rfl rfl ((few_ok m 40 ha.len ha.obs ha.vals).fn (by simp; exact ⟨lowM m, .int _ _⟩) _) ?_
  rintro v h' ⟨rfl, ⟨b, rfl, hb⟩, _⟩
  cases b
  case false =>
    repeat (first | with_reducible refine AWL.nil ?_ | refine AW.seq ?_ | refine AW.region ?_ | refine AWL.no (by rfl) (by rfl) ?_ | refine AWL.do (by rfl) (by rfl) (by simp only [go_sem]; first | done | rfl) ?_)
    refine AW.cond (b := true) (by rfl) (fun _ => ?_) (fun hc => absurd hc (by decide))
    repeat (first | with_reducible refine AWL.nil ?_ | refine AW.seq ?_ | refine AW.region ?_ | refine AWL.no (by rfl) (by rfl) ?_ | refine AWL.do (by rfl) (by rfl) (by simp only [go_sem]; first | done | rfl) ?_)
    exact AW.ret ⟨_, rfl, rfl, .bool _⟩
  have hfew := hb rfl
  have hm40 : m.length ≤ 40 := by have := hfew.len; omega
  cases hi : decide ((ids.length : Int) > 30)
  case true =>
    repeat (first | with_reducible refine AWL.nil ?_ | refine AW.seq ?_ | refine AW.region ?_ | refine AWL.no (by rfl) (by rfl) ?_ | refine AWL.do (by rfl) (by rfl) (by simp only [go_sem, hi]; first | done | rfl) ?_)
    refine AW.cond (b := true) (by rfl) (fun _ => ?_) (fun hc => absurd hc (by decide))
    repeat (first | with_reducible refine AWL.nil ?_ | refine AW.seq ?_ | refine AW.region ?_ | refine AWL.no (by rfl) (by rfl) ?_ | refine AWL.do (by rfl) (by rfl) (by simp only [go_sem]; first | done | rfl) ?_)
    exact AW.ret ⟨_, rfl, rfl, .bool _⟩
  repeat (first | with_reducible refine AWL.nil ?_ | refine AW.seq ?_ | refine AW.region ?_ | refine AWL.no (by rfl) (by rfl) ?_ | refine AWL.do (by rfl) (by rfl) (by simp only [go_sem, hi]; first | done | rfl) ?_)
  refine AW.cond (b := false) (by rfl) (fun hc => absurd hc (by decide)) (fun _ => ?_)
  refine AW.skip ?_
  repeat (first | with_reducible refine AWL.nil ?_ | refine AW.seq ?_ | refine AW.region ?_ | refine AWL.no (by rfl) (by rfl) ?_ | refine AWL.do (by rfl) (by rfl) (by simp only [go_sem]; first | done | rfl) ?_)
  refine AWL.call rfl rfl en_close rfl rfl ((close_ok m ids (by omega) ha.obs ha.ids).fn (by simp; exact ⟨lowM m, .view _ _ _ (lowS _)⟩) _) ?_
  rintro v h' ⟨rfl, ⟨c, rfl, hcl⟩, _⟩
  unfold encM
  repeat (first | with_reducible refine AWL.nil ?_ | refine AW.seq ?_ | refine AW.region ?_ | refine AWL.no (by rfl) (by rfl) ?_ | refine AWL.do (by rfl) (by rfl) (by simp only [go_sem]; first | done | rfl) ?_)
  refine AWL.call rfl rfl en_mapv rfl rfl ((mapValid_ok m ha.len ha.obs).fn (by simp; exact lowM m) _) ?_
  rintro v h' ⟨rfl, rfl, _⟩
  cases hv : mapB m
  case false =>
    have hc0 : c = [] := by
      rcases hcl with ⟨_, h⟩ | ⟨h, _⟩
      · exact h
      · rw [hv] at h; cases h
    subst hc0
    repeat (first | with_reducible refine AWL.nil ?_ | refine AW.seq ?_ | refine AW.region ?_ | refine AWL.no (by rfl) (by rfl) ?_ | refine AWL.do (by rfl) (by rfl) (by simp only [go_sem]; first | done | rfl) ?_)
    refine AW.cond (b := true) (by rfl) (fun _ => ?_) (fun hc => absurd hc (by decide))
    repeat (first | with_reducible refine AWL.nil ?_ | refine AW.seq ?_ | refine AW.region ?_ | refine AWL.no (by rfl) (by rfl) ?_ | refine AWL.do (by rfl) (by rfl) (by simp only [go_sem]; first | done | rfl) ?_)
    exact AW.ret ⟨_, rfl, rfl, .bool _⟩
  obtain ⟨S, hS⟩ := hcl.v hv
  have hcm : ∀ o ∈ c, o ∈ m := fun o ho => (hS.mem.1 ho).1
  have hcl40 : c.length ≤ 40 := by rw [hS.eq]; exact Nat.le_trans (List.length_filter_le _ _) hm40
  repeat (first | with_reducible refine AWL.nil ?_ | refine AW.seq ?_ | refine AW.region ?_ | refine AWL.no (by rfl) (by rfl) ?_ | refine AWL.do (by rfl) (by rfl) (by simp only [go_sem]; first | done | rfl) ?_)
  refine AW.cond (b := false) (by rfl) (fun hc => absurd hc (by decide)) (fun _ => ?_)
  refine AW.skip ?_
  -- the maps don't change any more
  refine AW.freeze (id := 1) [(6, .rptr [.view c.length (flatE encO c) false] 0), (5, .bool true), (2, .ptr 0 0), (1, .view ids.length (flatE encS ids) false)] (hE [(0, some (.row 24 [.view m.length (flatE encO m) false] false))] 2) (by rw [hE_get]; rfl) (Frz.of ⟨⟨_, rfl, .ptr 0⟩, ⟨_, rfl, .refl _⟩, ⟨_, rfl, .refl _⟩, ⟨_, rfl, .refl _⟩, trivial⟩ ⟨fun x hx => by cases hx; exact ⟨by simp, _, rfl, .refl _⟩, trivial⟩) ?_
  refine AW.freeze (id := 0) [(6, .rptr [.view c.length (flatE encO c) false] 0), (5, .bool true), (2, .rptr [.view m.length (flatE encO m) false] 0), (1, .view ids.length (flatE encS ids) false)] (hE [] 2) (by rw [hE_get]; rfl) (Frz.of ⟨⟨_, rfl, .refl _⟩, ⟨_, rfl, .refl _⟩, ⟨_, rfl, .ptr 0⟩, ⟨_, rfl, .refl _⟩, trivial⟩ trivial) ?_
  have lowC : Low 0 (.rptr [.view c.length (flatE encO c) false] 0) := .rptr _ _ (fun a ha => by rw [List.mem_singleton.1 ha]; exact .view _ _ _ (lowOs _))
  have lowMm : Low 0 (.rptr [.view m.length (flatE encO m) false] 0) := .rptr _ _ (fun a ha => by rw [List.mem_singleton.1 ha]; exact .view _ _ _ (lowOs _))
  have lowI : Low 0 (.view ids.length (flatE encS ids) false) := .view _ _ _ (lowS _)
  refine AW.weak [(6, .rptr [.view c.length (flatE encO c) false] 0), (5, .bool true), (2, .rptr [.view m.length (flatE encO m) false] 0), (1, .view ids.length (flatE encS ids) false)] (hE [] 0) ?_ ?_
  · rw [hF0]
    exact Weak.of ⟨⟨rfl, lowC⟩, ⟨rfl, .bool _⟩, ⟨rfl, lowMm⟩, ⟨rfl, lowI⟩, trivial⟩ trivial (by omega) (by omega)
  repeat (first | with_reducible refine AWL.nil ?_ | refine AW.seq ?_ | refine AW.region ?_ | refine AWL.no (by rfl) (by rfl) ?_ | refine AWL.do (by rfl) (by rfl) (by simp only [go_sem]; first | done | rfl) ?_)
  have ht0 : Tr [] := fun e he => by cases he
  refine AW.block ?_
  refine AW.loopW (fun q E h => ∃ i l k, i ≤ ids.length ∧ q = ids.length - i ∧ E = EL1 ids m c i ∧ h = hE [(0, some (.mp (esS l) k))] 1 ∧ Tr l ∧ (∀ x, In x l ↔ x ∈ ids.take i)) ids.length (EL1 ids m c 0) (hE [(0, some (.mp [] 0))] 1) ?_
    ⟨0, [], 0, by omega, by omega, rfl, rfl, ht0, fun x => ⟨fun h => (by cases h), fun h => (by simp at h)⟩⟩ ?_
  case _ =>
    rw [hF0]
    exact Weak.of ⟨⟨rfl, .int _ _⟩, ⟨rfl, .map _ (by omega)⟩, ⟨rfl, lowC.mono (by omega)⟩, ⟨rfl, .bool _⟩, ⟨rfl, lowMm.mono (by omega)⟩, ⟨rfl, lowI.mono (by omega)⟩, trivial⟩ ⟨fun x hx => by cases hx; exact ⟨rfl, by simp, .mp _ _ (fun e he => by cases he)⟩, trivial⟩ (by omega) (by omega)
  rintro q E h ⟨i, l, k, hi', rfl, rfl, rfl, htr, hin⟩
  unfold EL1
  repeat (first | with_reducible refine AWL.nil ?_ | refine AW.seq ?_ | refine AW.region ?_ | refine AWL.no (by rfl) (by rfl) ?_ | refine AWL.do (by rfl) (by rfl) (by simp only [go_sem]; first | done | rfl) ?_)
  refine AW.cond (by rfl) (fun hc => ?_) (fun hc => ?_)
  case _ =>
    have hlt : i < ids.length := by simpa using hc
    refine AW.skip ?_
    refine AW.seq ?_
    refine AW.block ?_
    repeat (first | with_reducible refine AWL.nil ?_ | refine AW.seq ?_ | refine AW.region ?_ | refine AWL.no (by rfl) (by rfl) ?_ | refine AWL.do (by rfl) (by rfl) (by simp only [go_sem, ixS_view _ _ _ _ _ _ hlt, mul1, cellS ids i hlt]; first | done | rfl) ?_)
    refine AWL.do (by rfl) (by rfl) (by simp only [go_sem]; exact (congrArg val3 (update_str sm_30 (l := l) (c := k) (by rw [hE_get]; rfl) _ _)).trans (by rw [hE_set]; rfl)) ?_
    repeat (first | with_reducible refine AWL.nil ?_ | refine AW.seq ?_ | refine AW.region ?_ | refine AWL.no (by rfl) (by rfl) ?_ | refine AWL.do (by rfl) (by rfl) (by simp only [go_sem, wrap_succ hlt ha.ids]; first | done | rfl) ?_)
    have htr2 := htr.upd ids[i] k
    refine again (ids.length - (i + 1)) (EL1 ids m c (i + 1)) (hE [(0, some (.mp (esS (updK ids[i] (.bool true) k l)) (clkK ids[i] l k)))] 1) (by omega) ?_ ⟨i + 1, _, _, by omega, rfl, rfl, rfl, htr2, fun x => ?_⟩
    · rw [hF0]
      exact Weak.of ⟨⟨rfl, .int _ _⟩, ⟨rfl, .map _ (by omega)⟩, ⟨rfl, lowC.mono (by omega)⟩, ⟨rfl, .bool _⟩, ⟨rfl, lowMm.mono (by omega)⟩, ⟨rfl, lowI.mono (by omega)⟩, trivial⟩ ⟨fun x hx => by cases hx; exact ⟨rfl, by simp, .mp _ _ (htr2.low _)⟩, trivial⟩ (by omega) (by omega)
    · rw [In.upd, hin, List.take_succ_eq_append_getElem hlt, List.mem_append, List.mem_singleton]
      exact Or.comm
  have hie : i = ids.length := by
    have : ¬ i < ids.length := by simpa using hc
    omega
  subst hie
  rw [List.take_of_length_le (Nat.le_refl _)] at hin
  refine AW.exit ?_
  repeat (first | with_reducible refine AWL.nil ?_ | refine AW.seq ?_ | refine AW.region ?_ | refine AWL.no (by rfl) (by rfl) ?_ | refine AWL.do (by rfl) (by rfl) (by simp only [go_sem]; first | done | rfl) ?_)
  refine AW.block ?_
  refine AW.loopW (fun q E h => ∃ i l k, i ≤ c.length ∧ q = c.length - i ∧ E = EL2 ids m c (ownV c i) i ∧ h = HO c i l k ∧ Tr l ∧ (∀ x, In x l ↔ x ∈ ids ∨ ∃ o ∈ c.take i, x ∈ o.refs)) c.length (EL2 ids m c .nilSlice 0) (hE (LM l k) 1) ?_
    ⟨0, l, k, by omega, by omega, rfl, rfl, htr, fun x => ⟨fun h => .inl ((hin x).1 h), fun h => (hin x).2 (h.resolve_right (fun ⟨o, ho, _⟩ => by simp at ho))⟩⟩ ?_
  case _ =>
    rw [hF0]
    exact Weak.of (pickEL2 (by omega) .nilSlice rfl rfl rfl rfl rfl rfl rfl) (pickLM (by omega) htr rfl) (by omega) (by omega)
  rintro q E h ⟨i, l, k, hi', rfl, rfl, rfl, htr, hin⟩
  by_cases hlt : i < c.length
  case pos =>
    have hltI : decide ((i : Int) < (c.length : Int)) = true := by simpa using hlt
    have hown : ownV c (i + 1) = .slice 1 0 (i + 1) (.rest 0) := by simp [ownV]
    have hHO : ∀ l k, HO c (i + 1) l k = hE (LO c (i + 1) l k) 2 := fun l k => by simp [HO]
    have hsl : ∀ n, 2 ≤ n → Low n (.slice 1 0 (i + 1) (.rest 0)) := fun n hn => .slice _ _ _ _ (by omega)
    have hrow := ids_succ c i hlt
    have lowIds : ∀ n, LowO n (.row 9 (flatE encS ((c.take (i + 1)).map (·.id))) true) := fun n => .row _ _ _ (lowS _)
    have hso := ha.obs _ (hcm _ (List.getElem_mem hlt))
    rcases Nat.eq_zero_or_pos i with h0 | h0
    case' inl =>
      rw [show ownV c i = .nilSlice by simp [ownV, h0], show HO c i l k = hE (LM l k) 1 by simp [HO, h0]]
      unfold EL2 LM
      repeat (first | with_reducible refine AWL.nil ?_ | refine AW.seq ?_ | refine AW.region ?_ | refine AWL.no (by rfl) (by rfl) ?_ | refine AWL.do (by rfl) (by rfl) (by simp only [go_sem, hltI]; first | done | rfl) ?_)
      refine AW.cond (b := true) (by rfl) (fun _ => ?_) (fun hc => absurd hc (by decide))
      refine AW.skip ?_
      refine AW.seq ?_
      refine AW.block ?_
      repeat (first | with_reducible refine AWL.nil ?_ | refine AW.seq ?_ | refine AW.region ?_ | refine AWL.no (by rfl) (by rfl) ?_ | refine AWL.do (by rfl) (by rfl) (by simp only [go_sem, ixS_view _ _ _ _ _ _ hlt, obj_id c i hlt, bs_25, bs_str]; first | done | rfl) ?_)
      refine AWL.do (by rfl) (by rfl) (by simp only [go_sem, builtin_append, ap_25]; exact (congrArg val2 (apK_nil (by omega) rfl (by rw [hE_get]; rfl) rfl (by omega) (by omega))).trans (by rw [hE_new]; rfl)) ?_
      repeat (first | with_reducible refine AWL.nil ?_ | refine AW.seq ?_ | refine AW.region ?_ | refine AWL.no (by rfl) (by rfl) ?_ | refine AWL.do (by rfl) (by rfl) (by simp only [go_sem]; first | done | rfl) ?_)
      refine AW.move (s := 2) (t := 1) (EL3 ids m c (.slice 1 0 (i + 1) (.rest 0)) i 0) (hE (LO c (i + 1) l k) 2) (by rw [hE_get]; rfl) ?_ ?_
      · rw [hF0]
        refine Mv.of ⟨⟨_, rfl, .low _ (.int _ _)⟩, ⟨_, rfl, .low _ (.int _ _)⟩, ⟨_, rfl, ?_⟩, ⟨_, rfl, .low _ (.map _ (by omega))⟩, ⟨_, rfl, .low _ ((lowCs c).mono (by omega))⟩, ⟨_, rfl, .low _ (.bool _)⟩, ⟨_, rfl, .low _ ((lowCs m).mono (by omega))⟩, ⟨_, rfl, .low _ (.view _ _ _ (lowS _))⟩, trivial⟩ ⟨fun x hx => by cases hx; exact .inr ⟨rfl, by rw [hrow, show c.take i = [] by rw [h0]; rfl]; rfl, lowIds _⟩, fun x hx => by cases hx; exact .inl ⟨by simp, _, rfl, .low _ (.mp _ _ (htr.low _))⟩, trivial⟩ (by omega) (by omega) (by omega)
        rw [h0]
        exact .slice _ _ _
    case' inr =>
      have hne : i ≠ 0 := by omega
      rw [show ownV c i = .slice 1 0 i (.rest 0) by simp [ownV, hne], show HO c i l k = hE (LO c i l k) 2 by simp [HO, hne]]
      unfold EL2 LO LM
      repeat (first | with_reducible refine AWL.nil ?_ | refine AW.seq ?_ | refine AW.region ?_ | refine AWL.no (by rfl) (by rfl) ?_ | refine AWL.do (by rfl) (by rfl) (by simp only [go_sem, hltI]; first | done | rfl) ?_)
      refine AW.cond (b := true) (by rfl) (fun _ => ?_) (fun hc => absurd hc (by decide))
      refine AW.skip ?_
      refine AW.seq ?_
      refine AW.block ?_
      repeat (first | with_reducible refine AWL.nil ?_ | refine AW.seq ?_ | refine AW.region ?_ | refine AWL.no (by rfl) (by rfl) ?_ | refine AWL.do (by rfl) (by rfl) (by simp only [go_sem, ixS_view _ _ _ _ _ _ hlt, obj_id c i hlt, bs_25, bs_str]; first | done | rfl) ?_)
      refine AWL.do (by rfl) (by rfl) (by simp only [go_sem, builtin_append, ap_25]; exact (congrArg val2 (apK_more (sz := 1) (m := i) (old := flatE encS ((c.take i).map (·.id))) (cells := [.str c[i].id]) (by omega) (by rfl) (by rw [hE_get]; rfl) (by rw [flatE_len encS 1 lenS, List.length_map, List.length_take, Nat.min_eq_left (by omega)]) (by rw [hE_get]; rfl) rfl rfl (by omega))).trans (by rw [hE_drop, hE_new]; rfl)) ?_
      repeat (first | with_reducible refine AWL.nil ?_ | refine AW.seq ?_ | refine AW.region ?_ | refine AWL.no (by rfl) (by rfl) ?_ | refine AWL.do (by rfl) (by rfl) (by simp only [go_sem]; first | done | rfl) ?_)
      refine AW.move (s := 3) (t := 1) (EL3 ids m c (.slice 1 0 (i + 1) (.rest 0)) i 0) (hE (LO c (i + 1) l k) 2) (by rw [hE_get]; rfl) ?_ ?_
      · rw [hF0]
        exact Mv.of ⟨⟨_, rfl, .low _ (.int _ _)⟩, ⟨_, rfl, .low _ (.int _ _)⟩, ⟨_, rfl, .slice _ _ _⟩, ⟨_, rfl, .low _ (.map _ (by omega))⟩, ⟨_, rfl, .low _ ((lowCs c).mono (by omega))⟩, ⟨_, rfl, .low _ (.bool _)⟩, ⟨_, rfl, .low _ ((lowCs m).mono (by omega))⟩, ⟨_, rfl, .low _ (.view _ _ _ (lowS _))⟩, trivial⟩ ⟨fun x hx => by cases hx; exact .inr ⟨rfl, by rw [hrow, flatS_snoc]; rfl, lowIds _⟩, fun x hx => by cases hx; exact .inl ⟨by simp, _, rfl, .low _ (.mp _ _ (htr.low _))⟩, trivial⟩ (by omega) (by omega) (by omega)
    all_goals
      refine AW.block ?_
      refine AW.loopW (fun q E h => ∃ j l2 k2, j ≤ c[i].refs.length ∧ q = c[i].refs.length - j ∧ E = EL3 ids m c (.slice 1 0 (i + 1) (.rest 0)) i j ∧ h = hE (LO c (i + 1) l2 k2) 2 ∧ Tr l2 ∧ (∀ x, In x l2 ↔ In x l ∨ x ∈ c[i].refs.take j)) c[i].refs.length (EL3 ids m c (.slice 1 0 (i + 1) (.rest 0)) i 0) (hE (LO c (i + 1) l k) 2) ?_
        ⟨0, l, k, by omega, by omega, rfl, rfl, htr, fun x => ⟨.inl, fun h => h.resolve_right (fun h => by simp at h)⟩⟩ ?_
      · rw [hF0]
        exact Weak.of ⟨⟨rfl, .int _ _⟩, pickEL2 (by omega) (hsl _ (by omega)) rfl rfl rfl rfl rfl rfl rfl⟩ ⟨fun x hx => by cases hx; exact ⟨rfl, by simp, lowIds _⟩, pickLM (by omega) htr rfl⟩ (by omega) (by omega)
      rintro q E h ⟨j, l2, k2, hj, rfl, rfl, rfl, htr2, hin2⟩
      unfold EL3 EL2 LO LM
      by_cases hjt : j < c[i].refs.length
      · have hjtI : decide ((j : Int) < (c[i].refs.length : Int)) = true := by simpa using hjt
        repeat (first | with_reducible refine AWL.nil ?_ | refine AW.seq ?_ | refine AW.region ?_ | refine AWL.no (by rfl) (by rfl) ?_ | refine AWL.do (by rfl) (by rfl) (by simp only [go_sem, ixS_view _ _ _ _ _ _ hlt, obj_refs c i hlt, hjtI]; first | done | rfl) ?_)
        refine AW.cond (b := true) (by rfl) (fun _ => ?_) (fun hc => absurd hc (by decide))
        refine AW.skip ?_
        refine AW.seq ?_
        refine AW.block ?_
        repeat (first | with_reducible refine AWL.nil ?_ | refine AW.seq ?_ | refine AW.region ?_ | refine AWL.no (by rfl) (by rfl) ?_ | refine AWL.do (by rfl) (by rfl) (by simp only [go_sem, ixS_view _ _ _ _ _ _ hlt, obj_refs c i hlt, ixS_view _ _ _ _ _ _ hjt, mul1, cellS c[i].refs j hjt]; first | done | rfl) ?_)
        refine AWL.do (by rfl) (by rfl) (by simp only [go_sem]; exact (congrArg val3 (update_str sm_30 (l := l2) (c := k2) (by rw [hE_get]; rfl) _ _)).trans (by rw [hE_set]; rfl)) ?_
        repeat (first | with_reducible refine AWL.nil ?_ | refine AW.seq ?_ | refine AW.region ?_ | refine AWL.no (by rfl) (by rfl) ?_ | refine AWL.do (by rfl) (by rfl) (by simp only [go_sem, wrap_succ hjt hso.2.1]; first | done | rfl) ?_)
        have htr3 := htr2.upd c[i].refs[j] k2
        refine again (c[i].refs.length - (j + 1)) (EL3 ids m c (.slice 1 0 (i + 1) (.rest 0)) i (j + 1)) (hE (LO c (i + 1) (updK c[i].refs[j] (.bool true) k2 l2) (clkK c[i].refs[j] l2 k2)) 2) (by omega) ?_ ⟨j + 1, _, _, by omega, rfl, rfl, rfl, htr3, fun x => ?_⟩
        · rw [hF0]
          exact Weak.of ⟨⟨rfl, .int _ _⟩, pickEL2 (by omega) (hsl _ (by omega)) rfl rfl rfl rfl rfl rfl rfl⟩ ⟨fun x hx => by cases hx; exact ⟨rfl, by simp, lowIds _⟩, pickLM (by omega) htr3 rfl⟩ (by omega) (by omega)
        · rw [In.upd, hin2, List.take_succ_eq_append_getElem hjt, List.mem_append, List.mem_singleton]
          constructor
          · rintro (h | h | h)
            · exact .inr (.inr h)
            · exact .inl h
            · exact .inr (.inl h)
          · rintro (h | h | h)
            · exact .inr (.inl h)
            · exact .inr (.inr h)
            · exact .inl h
      · have hjtI : decide ((j : Int) < (c[i].refs.length : Int)) = false := by simpa using hjt
        have hje : j = c[i].refs.length := by omega
        repeat (first | with_reducible refine AWL.nil ?_ | refine AW.seq ?_ | refine AW.region ?_ | refine AWL.no (by rfl) (by rfl) ?_ | refine AWL.do (by rfl) (by rfl) (by simp only [go_sem, ixS_view _ _ _ _ _ _ hlt, obj_refs c i hlt, hjtI]; first | done | rfl) ?_)
        refine AW.cond (b := false) (by rfl) (fun hc => absurd hc (by decide)) (fun _ => ?_)
        refine AW.exit ?_
        repeat (first | with_reducible refine AWL.nil ?_ | refine AW.seq ?_ | refine AW.region ?_ | refine AWL.no (by rfl) (by rfl) ?_ | refine AWL.do (by rfl) (by rfl) (by simp only [go_sem, wrap_succ hlt (Nat.le_trans hcl40 (by omega))]; first | done | rfl) ?_)
        refine again (c.length - (i + 1)) (EL2 ids m c (ownV c (i + 1)) (i + 1)) (HO c (i + 1) l2 k2) (by omega) ?_ ⟨i + 1, l2, k2, by omega, rfl, rfl, rfl, htr2, fun x => ?_⟩
        · rw [hF0, hHO, hown]
          exact Weak.of (pickEL2 (by omega) (hsl _ (by omega)) rfl rfl rfl rfl rfl rfl rfl) ⟨fun x hx => by cases hx; exact ⟨rfl, by simp, lowIds _⟩, pickLM (by omega) htr2 rfl⟩ (by omega) (by omega)
        · rw [hin2, hin, hje, List.take_of_length_le (Nat.le_refl _), List.take_succ_eq_append_getElem hlt]
          constructor
          · rintro ((h | ⟨o, ho, h⟩) | h)
            · exact .inl h
            · exact .inr ⟨o, List.mem_append.2 (.inl ho), h⟩
            · exact .inr ⟨c[i], List.mem_append.2 (.inr (by simp)), h⟩
          · rintro (h | ⟨o, ho, h⟩)
            · exact .inl (.inl h)
            · rcases List.mem_append.1 ho with ho | ho
              · exact .inl (.inr ⟨o, ho, h⟩)
              · rw [List.mem_singleton.1 ho] at h
                exact .inr h
  case neg =>
    have hie : i = c.length := by omega
    have hgI : decide ((i : Int) < (c.length : Int)) = false := by simpa using hlt
    have hin' : ∀ x, (lookK x l).isSome = S x := fun x => by
      have h1 : In x l ↔ S x = true := by
        rw [hin, hie, List.take_of_length_le (Nat.le_refl _)]
        exact (hS.needed hv x).symm
      unfold In at h1
      cases e : (lookK x l).isSome <;> cases e' : S x
      · rfl
      · rw [h1.2 e'] at e; cases e
      · rw [h1.1 e] at e'; cases e'
      · rfl
    rcases Nat.eq_zero_or_pos i with h0 | h0
    case' inl =>
      rw [show ownV c i = .nilSlice by simp [ownV, h0], show HO c i l k = hE (LM l k) 1 by simp [HO, h0]]
      have hc0 : c = [] := List.eq_nil_of_length_eq_zero (by omega)
      unfold EL2 LM
      repeat (first | with_reducible refine AWL.nil ?_ | refine AW.seq ?_ | refine AW.region ?_ | refine AWL.no (by rfl) (by rfl) ?_ | refine AWL.do (by rfl) (by rfl) (by simp only [go_sem, hgI]; first | done | rfl) ?_)
      refine AW.cond (b := false) (by rfl) (fun hc => absurd hc (by decide)) (fun _ => ?_)
      refine AW.exit ?_
      refine AW.nilv (EL4 ids m c) (NilE.mem ⟨.inr ⟨rfl, by rw [hc0]; rfl⟩, .inl rfl, .inl rfl, .inl rfl, .inl rfl, .inl rfl, trivial⟩) ?_
    case' inr =>
      have hne : i ≠ 0 := by omega
      rw [show ownV c i = .slice 1 0 i (.rest 0) by simp [ownV, hne], show HO c i l k = hE (LO c i l k) 2 by simp [HO, hne]]
      unfold EL2 LO LM
      repeat (first | with_reducible refine AWL.nil ?_ | refine AW.seq ?_ | refine AW.region ?_ | refine AWL.no (by rfl) (by rfl) ?_ | refine AWL.do (by rfl) (by rfl) (by simp only [go_sem, hgI]; first | done | rfl) ?_)
      refine AW.cond (b := false) (by rfl) (fun hc => absurd hc (by decide)) (fun _ => ?_)
      refine AW.exit ?_
      refine AW.freeze (id := 1) (EL4 ids m c) (hE (LM l k) 2) (by rw [hE_get]; rfl) (Frz.of ⟨⟨_, rfl, ?_⟩, ⟨_, rfl, .refl _⟩, ⟨_, rfl, .refl _⟩, ⟨_, rfl, .refl _⟩, ⟨_, rfl, .refl _⟩, ⟨_, rfl, .refl _⟩, trivial⟩ ⟨fun x hx => by cases hx; exact ⟨by simp, _, rfl, .refl _⟩, trivial⟩) ?_
      · rw [hie, List.take_of_length_le (Nat.le_refl _), List.length_map]
        exact .slice 0 _ _
      refine AW.weak (EL4 ids m c) (hE (LM l k) 1) ?_ ?_
      · rw [hF0]
        exact Weak.of (pickEL4 rfl rfl rfl rfl rfl rfl) (pickLM (by omega) htr rfl) (by omega) (by omega)
    all_goals
      repeat (first | with_reducible refine AWL.nil ?_ | refine AW.seq ?_ | refine AW.region ?_ | refine AWL.no (by rfl) (by rfl) ?_ | refine AWL.do (by rfl) (by rfl) (by simp only [go_sem]; first | done | rfl) ?_)
      refine AW.block ?_
      refine AW.loopW (fun q E h => ∃ i k', i ≤ m.length ∧ q = m.length - i ∧ E = EL5 ids m c i k' ∧ h = hE (LM l k) 1 ∧ k' ≤ c.length ∧ c.take k' = (m.take i).filter (fun o => S o.id)) m.length (EL5 ids m c 0 0) (hE (LM l k) 1) ?_ ⟨0, 0, by omega, by omega, rfl, rfl, by omega, rfl⟩ ?_
      · rw [hF0]
        exact Weak.of ⟨⟨rfl, .int _ _⟩, ⟨rfl, .int _ _⟩, pickEL4 rfl rfl rfl rfl rfl rfl⟩ (pickLM (by omega) htr rfl) (by omega) (by omega)
      clear hlt hgI h0 hie
      rintro q E h ⟨i, k', hi3, rfl, rfl, rfl, hk, hpre⟩
      unfold EL5 EL4 LM
      by_cases hlt : i < m.length
      · have hltI : decide ((i : Int) < (m.length : Int)) = true := by simpa using hlt
        have hlook : ∀ (L : Hp) (n : Nat), getO L 0 = some (.mp (esS l) k) → lookupA Tryz.prog (hE L n) 30 (.map 0) (.str m[i].id) false = some (.bool (S m[i].id)) := fun L n h4 => by
          rw [lookup_str sm_30 (id := 0) (by rw [hE_get]; exact h4) _ zo_4, htr.look, hin']
        repeat (first | with_reducible refine AWL.nil ?_ | refine AW.seq ?_ | refine AW.region ?_ | refine AWL.no (by rfl) (by rfl) ?_ | refine AWL.do (by rfl) (by rfl) (by simp only [go_sem, hltI]; first | done | rfl) ?_)
        refine AW.cond (b := true) (by rfl) (fun _ => ?_) (fun hc => absurd hc (by decide))
        refine AW.skip ?_
        refine AW.seq ?_
        refine AW.block ?_
        repeat (first | with_reducible refine AWL.nil ?_ | refine AW.seq ?_ | refine AW.region ?_ | refine AWL.no (by rfl) (by rfl) ?_ | refine AWL.do (by rfl) (by rfl) (by simp only [go_sem, ixS_view _ _ _ _ _ _ hlt, obj_id m i hlt]; first | done | rfl) ?_)
        refine AWL.do (by rfl) (by rfl) (by simp only [go_sem]; rw [hlook _ _ rfl]; rfl) ?_
        cases hs : S m[i].id
        · repeat (first | with_reducible refine AWL.nil ?_ | refine AW.seq ?_ | refine AW.region ?_ | refine AWL.no (by rfl) (by rfl) ?_ | refine AWL.do (by rfl) (by rfl) (by simp only [go_sem]; first | done | rfl) ?_)
          refine AW.cond (b := true) (by rfl) (fun _ => ?_) (fun hc => absurd hc (by decide))
          refine AW.exit ?_
          repeat (first | with_reducible refine AWL.nil ?_ | refine AW.seq ?_ | refine AW.region ?_ | refine AWL.no (by rfl) (by rfl) ?_ | refine AWL.do (by rfl) (by rfl) (by simp only [go_sem, wrap_succ hlt ha.len]; first | done | rfl) ?_)
          refine again (m.length - (i + 1)) (EL5 ids m c (i + 1) k') (hE (LM l k) 1) (by omega) ?_ ⟨i + 1, k', by omega, rfl, rfl, rfl, hk, ?_⟩
          · rw [hF0]
            exact Weak.of ⟨⟨rfl, .int _ _⟩, ⟨rfl, .int _ _⟩, pickEL4 rfl rfl rfl rfl rfl rfl⟩ (pickLM (by omega) htr rfl) (by omega) (by omega)
          · rw [hpre, prefix_no hlt hs]
        · rw [hS.eq] at hk hpre
          obtain ⟨hklt, hck, htk⟩ := prefix_at hlt hk hpre hs
          rw [← hS.eq] at hklt hpre
          have hck' : c[k'] = m[i] := by
            have : c[k']? = some m[i] := by
              rw [hS.eq, List.getElem?_eq_getElem (by rw [← hS.eq]; exact hklt)]
              exact congrArg some hck
            rw [List.getElem?_eq_getElem hklt] at this
            exact Option.some.inj this
          have htk' : c.take (k' + 1) = (m.take (i + 1)).filter (fun o => S o.id) := by rw [hS.eq]; exact htk
          have hslc := slV c k' hklt
          rw [hck'] at hslc
          have hge : decide ((k' : Int) ≥ (c.length : Int)) = false := by
            have : ¬ (c.length ≤ k') := by omega
            simpa using this
          repeat (first | with_reducible refine AWL.nil ?_ | refine AW.seq ?_ | refine AW.region ?_ | refine AWL.no (by rfl) (by rfl) ?_ | refine AWL.do (by rfl) (by rfl) (by simp only [go_sem]; first | done | rfl) ?_)
          refine AW.cond (b := false) (by rfl) (fun hc => absurd hc (by decide)) (fun _ => ?_)
          refine AW.skip ?_
          refine AW.seq ?_
          refine AW.seq ?_
          refine AW.drawV mixed (by kernel_rfl) ?_
          repeat (first | with_reducible refine DV.nil ?_ | refine DV.no (by rfl) (by rfl) ?_ | refine DV.do (by rfl) (by rfl) (by simp only [go_sem, hge, wrap_succ hlt ha.len, wrap_succ hklt (Nat.le_trans hcl40 (by omega)), slV m i hlt, hslc]; first | done | rfl) ?_)
          refine DV.call (.bool true) rfl rfl en_sameM rfl rfl ((sameMap_ok [m[i]] (by simp) (fun o ho => by rw [List.mem_singleton.1 ho]; exact ha.obs _ (List.getElem_mem hlt))).val (fun a hx => by
            simp only [List.mem_cons, List.not_mem_nil, or_false, or_self] at hx
            rw [hx]; exact lowM _) _) ?_
          repeat (first | with_reducible refine DV.nil ?_ | refine DV.no (by rfl) (by rfl) ?_ | refine DV.do (by rfl) (by rfl) (by simp only [go_sem]; first | done | rfl) ?_)
          refine AW.cond (b := false) (by rfl) (fun hc => absurd hc (by decide)) (fun _ => ?_)
          refine AW.skip ?_
          repeat (first | with_reducible refine AWL.nil ?_ | refine AW.seq ?_ | refine AW.region ?_ | refine AWL.no (by rfl) (by rfl) ?_ | refine AWL.do (by rfl) (by rfl) (by simp only [go_sem, wrap_succ hlt ha.len, wrap_succ hklt (Nat.le_trans hcl40 (by omega))]; first | done | rfl) ?_)
          refine again (m.length - (i + 1)) (EL5 ids m c (i + 1) (k' + 1)) (hE (LM l k) 1) (by omega) ?_ ⟨i + 1, k' + 1, by omega, rfl, rfl, rfl, by omega, htk'⟩
          rw [hF0]
          exact Weak.of ⟨⟨rfl, .int _ _⟩, ⟨rfl, .int _ _⟩, pickEL4 rfl rfl rfl rfl rfl rfl⟩ (pickLM (by omega) htr rfl) (by omega) (by omega)
      · have hltI : decide ((i : Int) < (m.length : Int)) = false := by simpa using hlt
        have hie : i = m.length := by omega
        rw [hie, List.take_of_length_le (Nat.le_refl _), ← hS.eq] at hpre
        have hkc : k' = c.length := by
          have := congrArg List.length hpre
          rw [List.length_take] at this
          omega
        have hkI : ((k' : Int) == (c.length : Int)) = true := by rw [hkc]; simp
        have hcs : ∀ o ∈ c, szO o := fun o ho => ha.obs o (hcm o ho)
        have hown : PureOk Tryz.prog 6 [encM m, .view (c.map (·.id)).length (flatE encS (c.map (·.id))) false] (fun v => v = encM c) := PureOk.imp (close_ok m (c.map (·.id)) (by omega) ha.obs (by rw [List.length_map]; omega)) (fun v hv' => by
          obtain ⟨c', rfl, h2⟩ := hv'
          rw [hS.own hv h2])
        have hagain : PureOk Tryz.prog 6 [encM c, .view ids.length (flatE encS ids) false] (fun v => v = encM c) := PureOk.imp (close_ok c ids (by omega) hcs ha.ids) (fun v hv' => by
          obtain ⟨c', rfl, h2⟩ := hv'
          rw [hS.again hv h2])
        have hsame := sameMap_ok c (by omega) hcs
        have l1 : ∀ a ∈ [encM m, .view (c.map (·.id)).length (flatE encS (c.map (·.id))) false], Low 0 a := fun a hx => by
          simp only [List.mem_cons, List.not_mem_nil, or_false] at hx
          rcases hx with rfl | rfl
          · exact lowM m
          · exact .view _ _ _ (lowS _)
        have l2 : ∀ a ∈ [encM c, .view ids.length (flatE encS ids) false], Low 0 a := fun a hx => by
          simp only [List.mem_cons, List.not_mem_nil, or_false] at hx
          rcases hx with rfl | rfl
          · exact lowM c
          · exact .view _ _ _ (lowS _)
        have l3 : ∀ a ∈ [encM c, encM c], Low 0 a := fun a hx => by
          simp only [List.mem_cons, List.not_mem_nil, or_false, or_self] at hx
          rw [hx]; exact lowM c
        repeat (first | with_reducible refine AWL.nil ?_ | refine AW.seq ?_ | refine AW.region ?_ | refine AWL.no (by rfl) (by rfl) ?_ | refine AWL.do (by rfl) (by rfl) (by simp only [go_sem, hltI]; first | done | rfl) ?_)
        refine AW.cond (b := false) (by rfl) (fun hc => absurd hc (by decide)) (fun _ => ?_)
        refine AW.exit ?_
        refine AW.seq ?_
        refine AW.drawV mixed (by kernel_rfl) ?_
        repeat (first | with_reducible refine DV.nil ?_ | refine DV.no (by rfl) (by rfl) ?_ | refine DV.do (by rfl) (by rfl) (by simp only [go_sem, hkI]; first | done | rfl) ?_)
        refine DV.call (encM c) rfl rfl en_close rfl rfl (hown.val l1 _) ?_
        repeat (first | with_reducible refine DV.nil ?_ | refine DV.no (by rfl) (by rfl) ?_ | refine DV.do (by rfl) (by rfl) (by simp only [go_sem]; first | done | rfl) ?_)
        refine DV.call (.bool true) rfl rfl en_sameM rfl rfl (hsame.val l3 _) ?_
        repeat (first | with_reducible refine DV.nil ?_ | refine DV.no (by rfl) (by rfl) ?_ | refine DV.do (by rfl) (by rfl) (by simp only [go_sem]; first | done | rfl) ?_)
        refine DV.call (encM c) rfl rfl en_close rfl rfl (hagain.val l2 _) ?_
        repeat (first | with_reducible refine DV.nil ?_ | refine DV.no (by rfl) (by rfl) ?_ | refine DV.do (by rfl) (by rfl) (by simp only [go_sem]; first | done | rfl) ?_)
        refine DV.call (.bool true) rfl rfl en_sameM rfl rfl (hsame.val l3 _) ?_
        repeat (first | with_reducible refine DV.nil ?_ | refine DV.no (by rfl) (by rfl) ?_ | refine DV.do (by rfl) (by rfl) (by simp only [go_sem]; first | done | rfl) ?_)
        exact AW.ret ⟨_, rfl, rfl, .bool _⟩
end
end Go.Proofs.YtmeianaaiiiinaaGreat.Ev
