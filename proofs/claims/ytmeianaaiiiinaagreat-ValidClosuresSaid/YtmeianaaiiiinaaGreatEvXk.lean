/- Contracts: valid.Close. -/
import Derived.Test.YtmeianaaiiiinaaGreatEvXh
namespace Go.Proofs.YtmeianaaiiiinaaGreat.Ev
open Go Go.Proofs
set_option linter.unusedVariables false
set_option linter.unusedSimpArgs false
set_option linter.all false
set_option maxRecDepth 10000
noncomputable section
attribute [local go_sem] putE run_move run_assign run_picks run_alloc run_box run_load run_store run_nilCheck run_binOp run_unOp run_fieldAddr run_field run_indexAddr run_index run_extract run_builtin run_makeFunc run_build run_lookup run_mapUpdate run_insert run_makeMap0 run_buildSlice List.map_cons List.map_nil zipParts e1 eS opE_tmp opE_const opE_func opsE_nil opsE_cons getL_if getL_nil ofZero_bool ofZero_int ofZero_str ofZero_nilp ofZero_nils val1_some' val2_some' val3_some' hE_next hE_new hE_set hE_get getO loadA rowOf storeK addrAdd binA intArithA strOpA isShift unA nilCheckA builtin_len optmap_some lenSl lenStr onAgg AV.cells putCells Option.join_some List.getElem?_cons_zero List.getElem?_cons_succ reduceIte Bool.false_eq_true Nat.reduceEqDiff Nat.reduceAdd Nat.zero_add Nat.add_zero List.length_cons List.length_nil zo_24 pt_24 bd_24 sk_24 zo_54 sk_54 zo_30 sk_30 zo_56 sk_56 ln_25 ix_25 pt_9 pt_56 fa_24_0 pt_22 ln_22 ix_22 pt_35 zo_35 sk_35 pt_30 fa_35_0 sk_22
attribute [local go_sem] eO0 eO1 eO2 eO4 eO5 lenO oneO aggO drop6 List.take_zero List.nil_append List.append_nil

theorem aggM (v : AV) : aggAt 1 [v] 0 = some (.agg [v]) := rfl
theorem drop1 (v : AV) : List.drop 1 [v] = [] := rfl
theorem one1 (m : List Ob) : [AV.view m.length (flatE encO m) false].all AV.oneB = true := rfl
attribute [local go_sem] aggM drop1 one1
theorem bs_one (o : Ob) (h : AH) : bsK 6 (.agg [.str ⟨#[]⟩, .int .i64 0, .int .i64 0, .int .i64 0, .nilSlice, .nilSlice]) 35 h 1 [(0, .agg (encO o))] = some (.slice h.next 0 1 (.known 1), h.new (.row 35 (encO o) false)) := by kernel_rfl
theorem flatE_snoc (l : List Ob) (o : Ob) : flatE encO (l ++ [o]) = flatE encO l ++ encO o := by simp [flatE]
theorem flatE_one (o : Ob) : flatE encO [o] = encO o := by simp [flatE]
theorem fz1 {id : Nat} {cells : List AV} {e : TypeId} {a b : AV} {op : Bool} (h : Fz id cells a b) : FzO id cells (.row e [a] op) (.row e [b] op) := .row _ _ _ _ rfl (fun i x y hx hy => by
  match i with
  | 0 => cases hx; cases hy; exact h
  | i + 1 => cases hx)
theorem rn1 {s t : Nat} {e : TypeId} {a b : AV} {op : Bool} (h : Rn s t a b) : RnO s t (.row e [a] op) (.row e [b] op) := .row _ _ _ _ rfl (fun i x y hx hy => by
  match i with
  | 0 => cases hx; cases hy; exact h
  | i + 1 => cases hx)
theorem againW {J : Nat → Env → AH → Prop} {n n0 : Nat} {E : Env} {h : AH} (m : Nat) (E2 : Env) (h2 : AH) (h1 : m < n) (hw : Weak n0 E h E2 h2) (hj : J m E2 h2) : ∃ m E2 h2, m < n ∧ (Weak n0 E h E2 h2 ∨ ∃ s t o, h.get s = some o ∧ Mv n0 s t E h E2 h2) ∧ J m E2 h2 := ⟨m, E2, h2, h1, .inl hw, hj⟩
theorem againV {J : Nat → Env → AH → Prop} {n n0 : Nat} {E : Env} {h : AH} (m : Nat) (E2 : Env) (h2 : AH) (s t : Nat) (o : AObj) (h1 : m < n) (hg : h.get s = some o) (hw : Mv n0 s t E h E2 h2) (hj : J m E2 h2) : ∃ m E2 h2, m < n ∧ (Weak n0 E h E2 h2 ∨ ∃ s t o, h.get s = some o ∧ Mv n0 s t E h E2 h2) ∧ J m E2 h2 := ⟨m, E2, h2, h1, .inr ⟨s, t, o, hg, hw⟩, hj⟩
/-- What the closure is. -/
def CloseR (m : List Ob) (ids : List ByteArray) (c : List Ob) : Prop :=
  (mapB m = false ∧ c = []) ∨ (mapB m = true ∧ ∃ S : ByteArray → Bool, c = m.filter (fun o => S o.id) ∧ (∀ x ∈ ids, S x = true) ∧ Shut m (fun x => S x = true) ∧ ∀ S' : ByteArray → Prop, Shut m S' → (∀ x ∈ ids, S' x) → ∀ x, S x = true → S' x)
def E6a (ids : List ByteArray) (i : Nat) : Env := [(23, .int .i64 (i : Int)), (22, .int .i64 (ids.length : Int)), (21, .view ids.length (flatE encS ids) false), (7, .ptr 6 0), (6, .ptr 5 0), (4, .ptr 1 0), (2, .ptr 0 0)]
def E6b (m : List Ob) (i : Nat) : Env := [(34, .int .i64 (i : Int)), (33, .int .i64 (m.length : Int)), (32, .view m.length (flatE encO m) false), (10, .ptr 7 0), (6, .ptr 5 0), (4, .ptr 1 0)]
def HK (l : Ents) (c : Nat) : Hp := [(5, some (.row 30 [.map 4] false)), (4, some (.mp (esS l) c)), (1, some (.row 24 [.nilSlice] false))]
def LA (l : Ents) (c : Nat) : Hp := (7, some (.row 24 [.nilSlice] false)) :: HK l c
def LB (l : Ents) (c : Nat) (acc : List Ob) : Hp := (8, some (.row 35 (flatE encO acc) true)) :: (7, some (.row 24 [.slice 8 0 acc.length (.rest 0)] false)) :: HK l c
def accI (m : List Ob) (l : Ents) (i : Nat) : List Ob := (m.take i).filter fun o => (lookK o.id l).isSome
theorem accI_succ (m : List Ob) (l : Ents) (i : Nat) (hi : i < m.length) : accI m l (i + 1) = if (lookK m[i].id l).isSome then accI m l i ++ [m[i]] else accI m l i := by
  unfold accI
  rw [List.take_succ_eq_append_getElem hi, List.filter_append]
  simp only [List.filter_cons, List.filter_nil]
  split <;> simp
theorem accI_len (m : List Ob) (l : Ents) (i : Nat) : (accI m l i).length ≤ m.length := by
  unfold accI
  exact Nat.le_trans (List.length_filter_le _ _) (by rw [List.length_take]; exact Nat.min_le_right _ _)
theorem rowLow {n : Nat} (v : AV) (h : Low n v) : LowO n (.row 24 [v] false) := .row _ _ _ (fun a ha => by rw [List.mem_singleton.1 ha]; exact h)
theorem HK_pick {n : Nat} (hn : 6 ≤ n) {l : Ents} {c : Nat} (ht : Tr l) {L : Hp} (h5 : getO L 5 = some (.row 30 [.map 4] false)) (h4 : getO L 4 = some (.mp (esS l) c)) (h1 : getO L 1 = some (.row 24 [.nilSlice] false)) : PickO n L (HK l c) :=
  ⟨fun x hx => by cases hx; exact ⟨h5, by simp; omega, .row _ _ _ (fun a ha => by rw [List.mem_singleton.1 ha]; exact .map _ (by omega))⟩, fun x hx => by cases hx; exact ⟨h4, by simp; omega, .mp _ _ (ht.low _)⟩, fun x hx => by cases hx; exact ⟨h1, by simp; omega, rowLow _ .nilSlice⟩, trivial⟩
theorem HK_move {s : Nat} {l : Ents} {c : Nat} (ht : Tr l) {L : Hp} (h5 : getO L 5 = some (.row 30 [.map 4] false)) (h4 : getO L 4 = some (.mp (esS l) c)) (h1 : getO L 1 = some (.row 24 [.nilSlice] false)) : RnH s 8 L (HK l c) :=
  ⟨fun x hx => by cases hx; exact .inl ⟨by simp, _, h5, .low _ (.row _ _ _ (fun a ha => by rw [List.mem_singleton.1 ha]; exact .map _ (by omega)))⟩, fun x hx => by cases hx; exact .inl ⟨by simp, _, h4, .low _ (.mp _ _ (ht.low _))⟩, fun x hx => by cases hx; exact .inl ⟨by simp, _, h1, .low _ (rowLow _ .nilSlice)⟩, trivial⟩
theorem res6 (v : AV) (n : Nat) : resultsE Tryz.prog [(4, .ptr 1 0)] (hE [(1, some (.row 24 [v] false))] n) Tryz.f6.results.toList = some [.agg [v]] := by
  have e : Tryz.f6.results.toList = [.cell 4 24] := rfl
  rw [e]
  simp only [resultsE, resE, go_sem]
set_option maxHeartbeats 4000000 in
theorem close_ok (m : List Ob) (ids : List ByteArray) (hb : m.length ≤ 1000000) (hm : ∀ o ∈ m, szO o) (hib : ids.length ≤ 140737488355328) :
    PureOk Tryz.prog 6 [encM m, .view ids.length (flatE encS ids) false] (fun v => ∃ c, v = encM c ∧ CloseR m ids c) := by
  refine FnOk.of_AW Tryz.func6 rfl (by rw [Tryz.ntmps6]; simp) (fun F hF => ?_)
  have hF0 : F.h.next = 0 := by rw [hF]; rfl
  rw [Tryz.ntmps6]
  unfold encM
  repeat (first | with_reducible refine AWL.nil ?_ | refine AW.seq ?_ | refine AW.region ?_ | refine AWL.no (by rfl) (by rfl) ?_ | refine AWL.do (by rfl) (by rfl) (by simp only [go_sem]; first | done | rfl) ?_)
  refine AWL.call rfl rfl en_mapv rfl rfl ((mapValid_ok m (by omega) hm).fn (by simp; exact lowM m) _) ?_
  rintro v h' ⟨rfl, rfl, _⟩
  cases hv : mapB m
  case false =>
    repeat (first | with_reducible refine AWL.nil ?_ | refine AW.seq ?_ | refine AW.region ?_ | refine AWL.no (by rfl) (by rfl) ?_ | refine AWL.do (by rfl) (by rfl) (by simp only [go_sem]; first | done | rfl) ?_)
    refine AW.cond (b := true) (by rfl) (fun _ => ?_) (fun hc => absurd hc (by decide))
    repeat (first | with_reducible refine AWL.nil ?_ | refine AW.seq ?_ | refine AW.region ?_ | refine AWL.no (by rfl) (by rfl) ?_ | refine AWL.do (by rfl) (by rfl) (by simp only [go_sem]; first | done | rfl) ?_)
    exact AW.freeze (id := 0) [(4, .ptr 1 0)] (hE [(1, some (.row 24 [.view 0 [] false] false))] 2) (by rw [hE_get]; rfl) (Frz.of ⟨⟨_, rfl, .refl _⟩, trivial⟩ ⟨fun x hx => by cases hx; exact ⟨by simp, _, rfl, fz1 .nil⟩, trivial⟩) (AW.ret ⟨_, res6 _ _, ⟨[], rfl, .inl ⟨hv, rfl⟩⟩, lowM []⟩)
  repeat (first | with_reducible refine AWL.nil ?_ | refine AW.seq ?_ | refine AW.region ?_ | refine AWL.no (by rfl) (by rfl) ?_ | refine AWL.do (by rfl) (by rfl) (by simp only [go_sem]; first | done | rfl) ?_)
  refine AW.cond (b := false) (by rfl) (fun hc => absurd hc (by decide)) (fun _ => ?_)
  refine AW.skip ?_
  repeat (first | with_reducible refine AWL.nil ?_ | refine AW.seq ?_ | refine AW.region ?_ | refine AWL.no (by rfl) (by rfl) ?_ | refine AWL.do (by rfl) (by rfl) (by simp only [go_sem]; first | done | rfl) ?_)
  refine AWL.call rfl rfl en_objs rfl rfl ((objects_ok m (by omega)).map1 (by simp; exact lowM m) _ _) ?_
  rintro v h' ⟨es, c, rfl, rfl, _, rfl, rfl⟩
  repeat (first | with_reducible refine AWL.nil ?_ | refine AW.seq ?_ | refine AW.region ?_ | refine AWL.no (by rfl) (by rfl) ?_ | refine AWL.do (by rfl) (by rfl) (by simp only [go_sem]; first | done | rfl) ?_)
  have ht0 : Tr [] := fun e he => by cases he
  refine AW.block ?_
  refine AW.loopW (fun q E h => ∃ i l c, i ≤ ids.length ∧ q = ids.length - i ∧ E = E6a ids i ∧ h = hE (HC m l c) 7 ∧ Tr l ∧ (∀ j (hj : j < ids.length), j < i → In ids[j] l) ∧ Shut m (fun x => In x l) ∧ (∀ S : ByteArray → Prop, Shut m S → (∀ x ∈ ids, S x) → ∀ x, In x l → S x)) ids.length (E6a ids 0) (hE (HC m [] 0) 7) ?_
    ⟨0, [], 0, by omega, by omega, rfl, rfl, ht0, fun j _ hj => by omega, fun x o h => (by cases h), fun S _ _ x h => (by cases h)⟩ ?_
  case _ =>
    rw [hF0]
    exact Weak.of ⟨⟨rfl, .int _ _⟩, ⟨rfl, .int _ _⟩, ⟨rfl, .view _ _ _ (lowS _)⟩, ⟨rfl, .ptr _ _ (by omega)⟩, ⟨rfl, .ptr _ _ (by omega)⟩, ⟨rfl, .ptr _ _ (by omega)⟩, ⟨rfl, .ptr _ _ (by omega)⟩, trivial⟩ (HC_pick m 0 ht0 (fun p hp => by simp only [HC, List.mem_cons, List.not_mem_nil, or_false] at hp; rcases hp with rfl | rfl | rfl | rfl | rfl | rfl | rfl <;> rfl)) (by omega) (by omega)
  rintro q E h ⟨i, l, c, hi, rfl, rfl, rfl, htr, p1, p2, p3⟩
  unfold E6a
  repeat (first | with_reducible refine AWL.nil ?_ | refine AW.seq ?_ | refine AW.region ?_ | refine AWL.no (by rfl) (by rfl) ?_ | refine AWL.do (by rfl) (by rfl) (by simp only [go_sem]; first | done | rfl) ?_)
  refine AW.cond (by rfl) (fun hc => ?_) (fun hc => ?_)
  case _ =>
    have hlt : i < ids.length := by simpa using hc
    refine AW.skip ?_
    refine AW.seq ?_
    refine AW.block ?_
    repeat (first | with_reducible refine AWL.nil ?_ | refine AW.seq ?_ | refine AW.region ?_ | refine AWL.no (by rfl) (by rfl) ?_ | refine AWL.do (by rfl) (by rfl) (by simp only [go_sem, ixS_view _ _ _ _ _ _ hlt, mul1, cellS ids i hlt, HC]; first | done | rfl) ?_)
    refine AWL.call rfl rfl en_add rfl rfl (add_ok m hm (meas m l) ids[i] l c (Nat.le_refl _) htr) ?_
    rintro v h' ⟨l2, c2, rfl, ad⟩
    repeat (first | with_reducible refine AWL.nil ?_ | refine AW.seq ?_ | refine AW.region ?_ | refine AWL.no (by rfl) (by rfl) ?_ | refine AWL.do (by rfl) (by rfl) (by simp only [go_sem, wrap_succ hlt hib]; first | done | rfl) ?_)
    refine again (ids.length - (i + 1)) (E6a ids (i + 1)) (hE (HC m l2 c2) 7) (by omega) ?_ ⟨i + 1, l2, c2, by omega, rfl, rfl, rfl, ad.tr, fun j hj hji => ?_, fun x o h1 h2 r hr => ?_, fun S hS hs x h => ?_⟩
    · rw [hF0]
      exact Weak.of ⟨⟨rfl, .int _ _⟩, ⟨rfl, .int _ _⟩, ⟨rfl, .view _ _ _ (lowS _)⟩, ⟨rfl, .ptr _ _ (by omega)⟩, ⟨rfl, .ptr _ _ (by omega)⟩, ⟨rfl, .ptr _ _ (by omega)⟩, ⟨rfl, .ptr _ _ (by omega)⟩, trivial⟩ (HC_low m c2 ad.tr) (by omega) (by omega)
    · by_cases e : j = i
      · subst e; exact ad.self
      · exact ad.sub _ (p1 j hj (by omega))
    · by_cases h3 : In x l
      · exact ad.sub _ (p2 x o h3 h2 r hr)
      · exact ad.closed x o h1 h3 h2 r hr
    · rcases ad.least S hS (hs _ (List.getElem_mem hlt)) x h with h3 | h3
      · exact p3 S hS hs x h3
      · exact h3
  have hie : i = ids.length := by
    have : ¬ i < ids.length := by simpa using hc
    omega
  subst hie
  refine AW.exit ?_
  repeat (first | with_reducible refine AWL.nil ?_ | refine AW.seq ?_ | refine AW.region ?_ | refine AWL.no (by rfl) (by rfl) ?_ | refine AWL.do (by rfl) (by rfl) (by simp only [go_sem, HC]; first | done | rfl) ?_)
  have hR : CloseR m ids (m.filter fun o => (lookK o.id l).isSome) := .inr ⟨hv, fun x => (lookK x l).isSome, rfl, fun x hx => by
    obtain ⟨j, hj, rfl⟩ := List.getElem_of_mem hx
    exact p1 j hj hj, p2, fun S hS hs x h => p3 S hS hs x h⟩
  have hlast : accI m l m.length = m.filter fun o => (lookK o.id l).isSome := by unfold accI; rw [List.take_of_length_le (Nat.le_refl _)]
  refine AW.block ?_
  refine AW.loopM (fun q E h => ∃ i, i ≤ m.length ∧ q = m.length - i ∧ E = E6b m i ∧ ((accI m l i = [] ∧ h = hE (LA l c) 8) ∨ (accI m l i ≠ [] ∧ h = hE (LB l c (accI m l i)) 9))) m.length (E6b m 0) (hE (LA l c) 8) ?_ ⟨0, by omega, by omega, rfl, .inl ⟨rfl, rfl⟩⟩ ?_
  case _ =>
    rw [hF0]
    exact Weak.of ⟨⟨rfl, .int _ _⟩, ⟨rfl, .int _ _⟩, ⟨rfl, .view _ _ _ (lowOs _)⟩, ⟨rfl, .ptr _ _ (by omega)⟩, ⟨rfl, .ptr _ _ (by omega)⟩, ⟨rfl, .ptr _ _ (by omega)⟩, trivial⟩ ⟨fun x hx => by cases hx; exact ⟨rfl, by simp, rowLow _ .nilSlice⟩, HK_pick (by omega) htr rfl rfl rfl⟩ (by omega) (by omega)
  rintro q E h ⟨i, hi, rfl, rfl, hcase⟩
  unfold E6b
  have hrn : ∀ s (i : Nat) (v : AV) (E : Env), getL E 34 = some (.int .i64 ((i + 1 : Nat) : Int)) → getL E 33 = some (.int .i64 (m.length : Int)) → getL E 32 = some (.view m.length (flatE encO m) false) → getL E 10 = some (.ptr 7 0) → getL E 6 = some (.ptr 5 0) → getL E 4 = some (.ptr 1 0) → RnE s 8 E (E6b m (i + 1)) :=
    fun s i v E h1 h2 h3 h4 h5 h6 => ⟨⟨_, h1, .low _ (.int _ _)⟩, ⟨_, h2, .low _ (.int _ _)⟩, ⟨_, h3, .low _ (.view _ _ _ (lowOs _))⟩, ⟨_, h4, .low _ (.ptr _ _ (by omega))⟩, ⟨_, h5, .low _ (.ptr _ _ (by omega))⟩, ⟨_, h6, .low _ (.ptr _ _ (by omega))⟩, trivial⟩
  rcases hcase with ⟨hacc, rfl⟩ | ⟨hacc, rfl⟩
  · unfold LA HK
    repeat (first | with_reducible refine AWL.nil ?_ | refine AW.seq ?_ | refine AW.region ?_ | refine AWL.no (by rfl) (by rfl) ?_ | refine AWL.do (by rfl) (by rfl) (by simp only [go_sem]; first | done | rfl) ?_)
    refine AW.cond (by rfl) (fun hc => ?_) (fun hc => ?_)
    case _ =>
      have hlt : i < m.length := by simpa using hc
      have hsucc := accI_succ m l i hlt
      have hlook : ∀ (L : Hp) (n : Nat), getO L 4 = some (.mp (esS l) c) → lookupA Tryz.prog (hE L n) 30 (.map 4) (.str m[i].id) false = some (.bool (lookK m[i].id l).isSome) := fun L n h4 => by
        rw [lookup_str sm_30 (id := 4) (by rw [hE_get]; exact h4) _ zo_4, htr.look]
      refine AW.skip ?_
      refine AW.seq ?_
      refine AW.block ?_
      repeat (first | with_reducible refine AWL.nil ?_ | refine AW.seq ?_ | refine AW.region ?_ | refine AWL.no (by rfl) (by rfl) ?_ | refine AWL.do (by rfl) (by rfl) (by simp only [go_sem, ixS_view _ _ _ _ _ _ hlt, flatE_agg encO 6 lenO m i hlt]; first | done | rfl) ?_)
      refine AWL.do (by rfl) (by rfl) (by simp only [go_sem]; rw [hlook _ _ rfl]; rfl) ?_
      repeat (first | with_reducible refine AWL.nil ?_ | refine AW.seq ?_ | refine AW.region ?_ | refine AWL.no (by rfl) (by rfl) ?_ | refine AWL.do (by rfl) (by rfl) (by simp only [go_sem]; first | done | rfl) ?_)
      refine AW.cond (by rfl) (fun hc => ?_) (fun hc => ?_)
      case _ =>
        repeat (first | with_reducible refine AWL.nil ?_ | refine AW.seq ?_ | refine AW.region ?_ | refine AWL.no (by rfl) (by rfl) ?_ | refine AWL.do (by rfl) (by rfl) (by simp only [go_sem, bs_22, bs_one]; first | done | rfl) ?_)
        refine AWL.do (by rfl) (by rfl) (by simp only [go_sem, builtin_append, ap_22]; exact (congrArg val2 (apK_nil (by omega) rfl (by rw [hE_get]; rfl) rfl (by omega) (by omega))).trans (by rw [hE_new]; rfl)) ?_
        repeat (first | with_reducible refine AWL.nil ?_ | refine AW.seq ?_ | refine AW.region ?_ | refine AWL.no (by rfl) (by rfl) ?_ | refine AWL.do (by rfl) (by rfl) (by simp only [go_sem, wrap_succ hlt (Nat.le_trans hb (by omega))]; first | done | rfl) ?_)
        rw [hc, if_pos rfl, hacc, List.nil_append] at hsucc
        refine againV (m.length - (i + 1)) (E6b m (i + 1)) (hE (LB l c [m[i]]) 9) 10 8 _ (by omega) (by rw [hE_get]; rfl) ?_ ⟨i + 1, by omega, rfl, rfl, .inr ⟨by rw [hsucc]; simp, by rw [hsucc]; first | done | rfl⟩⟩
        rw [hF0]
        refine Mv.of (hrn 10 i .undef _ rfl rfl rfl rfl rfl rfl) ⟨fun x hx => by cases hx; exact .inr ⟨rfl, by rw [flatE_one]; rfl, .row _ _ _ (lowOs _)⟩, fun x hx => by cases hx; exact .inl ⟨by simp, _, rfl, rn1 (.slice _ _ _)⟩, HK_move htr rfl rfl rfl⟩ (by omega) (by omega) (by omega)
      case _ =>
        refine AW.skip ?_
        repeat (first | with_reducible refine AWL.nil ?_ | refine AW.seq ?_ | refine AW.region ?_ | refine AWL.no (by rfl) (by rfl) ?_ | refine AWL.do (by rfl) (by rfl) (by simp only [go_sem, wrap_succ hlt (Nat.le_trans hb (by omega))]; first | done | rfl) ?_)
        rw [hc] at hsucc
        refine againW (m.length - (i + 1)) (E6b m (i + 1)) (hE (LA l c) 8) (by omega) ?_ ⟨i + 1, by omega, rfl, rfl, .inl ⟨by rw [hsucc]; simpa using hacc, rfl⟩⟩
        rw [hF0]
        exact Weak.of ⟨⟨rfl, .int _ _⟩, ⟨rfl, .int _ _⟩, ⟨rfl, .view _ _ _ (lowOs _)⟩, ⟨rfl, .ptr _ _ (by omega)⟩, ⟨rfl, .ptr _ _ (by omega)⟩, ⟨rfl, .ptr _ _ (by omega)⟩, trivial⟩ ⟨fun x hx => by cases hx; exact ⟨rfl, by simp, rowLow _ .nilSlice⟩, HK_pick (by omega) htr rfl rfl rfl⟩ (by omega) (by omega)
    case _ =>
      have hie : i = m.length := by
        have : ¬ i < m.length := by simpa using hc
        omega
      subst hie
      rw [hlast] at hacc
      refine AW.exit ?_
      repeat (first | with_reducible refine AWL.nil ?_ | refine AW.seq ?_ | refine AW.region ?_ | refine AWL.no (by rfl) (by rfl) ?_ | refine AWL.do (by rfl) (by rfl) (by simp only [go_sem]; first | done | rfl) ?_)
      rw [hacc] at hR
      exact AW.freeze (id := 7) [(4, .ptr 1 0)] (hE [(1, some (.row 24 [.view 0 [] false] false))] 8) (by rw [hE_get]; rfl) (Frz.of ⟨⟨_, rfl, .refl _⟩, trivial⟩ ⟨fun x hx => by cases hx; exact ⟨by simp, _, rfl, fz1 .nil⟩, trivial⟩) (AW.ret ⟨_, res6 _ _, ⟨[], rfl, hR⟩, lowM []⟩)
  · have hal := accI_len m l i
    generalize hga : accI m l i = acc at hacc hal ⊢
    unfold LB HK
    repeat (first | with_reducible refine AWL.nil ?_ | refine AW.seq ?_ | refine AW.region ?_ | refine AWL.no (by rfl) (by rfl) ?_ | refine AWL.do (by rfl) (by rfl) (by simp only [go_sem]; first | done | rfl) ?_)
    refine AW.cond (by rfl) (fun hc => ?_) (fun hc => ?_)
    case _ =>
      have hlt : i < m.length := by simpa using hc
      have hsucc := accI_succ m l i hlt
      rw [hga] at hsucc
      have hlook : ∀ (L : Hp) (n : Nat), getO L 4 = some (.mp (esS l) c) → lookupA Tryz.prog (hE L n) 30 (.map 4) (.str m[i].id) false = some (.bool (lookK m[i].id l).isSome) := fun L n h4 => by
        rw [lookup_str sm_30 (id := 4) (by rw [hE_get]; exact h4) _ zo_4, htr.look]
      refine AW.skip ?_
      refine AW.seq ?_
      refine AW.block ?_
      repeat (first | with_reducible refine AWL.nil ?_ | refine AW.seq ?_ | refine AW.region ?_ | refine AWL.no (by rfl) (by rfl) ?_ | refine AWL.do (by rfl) (by rfl) (by simp only [go_sem, ixS_view _ _ _ _ _ _ hlt, flatE_agg encO 6 lenO m i hlt]; first | done | rfl) ?_)
      refine AWL.do (by rfl) (by rfl) (by simp only [go_sem]; rw [hlook _ _ rfl]; rfl) ?_
      repeat (first | with_reducible refine AWL.nil ?_ | refine AW.seq ?_ | refine AW.region ?_ | refine AWL.no (by rfl) (by rfl) ?_ | refine AWL.do (by rfl) (by rfl) (by simp only [go_sem]; first | done | rfl) ?_)
      refine AW.cond (by rfl) (fun hc => ?_) (fun hc => ?_)
      case _ =>
        repeat (first | with_reducible refine AWL.nil ?_ | refine AW.seq ?_ | refine AW.region ?_ | refine AWL.no (by rfl) (by rfl) ?_ | refine AWL.do (by rfl) (by rfl) (by simp only [go_sem, bs_22, bs_one]; first | done | rfl) ?_)
        refine AWL.do (by rfl) (by rfl) (by simp only [go_sem, builtin_append, ap_22]; exact (congrArg val2 (apK_more (sz := 6) (m := acc.length) (old := flatE encO acc) (cells := encO m[i]) (by omega) (by rfl) (by rw [hE_get]; rfl) (flatE_len encO 6 lenO acc) (by rw [hE_get]; rfl) rfl rfl (by omega))).trans (by rw [hE_drop, hE_new]; rfl)) ?_
        repeat (first | with_reducible refine AWL.nil ?_ | refine AW.seq ?_ | refine AW.region ?_ | refine AWL.no (by rfl) (by rfl) ?_ | refine AWL.do (by rfl) (by rfl) (by simp only [go_sem, wrap_succ hlt (Nat.le_trans hb (by omega))]; first | done | rfl) ?_)
        rw [hc, if_pos rfl] at hsucc
        refine againV (m.length - (i + 1)) (E6b m (i + 1)) (hE (LB l c (acc ++ [m[i]])) 9) 11 8 _ (by omega) (by rw [hE_get]; rfl) ?_ ⟨i + 1, by omega, rfl, rfl, .inr ⟨by rw [hsucc]; simp, by rw [hsucc]; first | done | rfl⟩⟩
        rw [hF0]
        refine Mv.of (hrn 11 i .undef _ rfl rfl rfl rfl rfl rfl) ⟨fun x hx => by cases hx; exact .inr ⟨rfl, by rw [flatE_snoc]; rfl, .row _ _ _ (lowOs _)⟩, fun x hx => by cases hx; exact .inl ⟨by simp, _, rfl, rn1 (by rw [List.length_append]; exact .slice _ _ _)⟩, HK_move htr rfl rfl rfl⟩ (by omega) (by omega) (by omega)
      case _ =>
        refine AW.skip ?_
        repeat (first | with_reducible refine AWL.nil ?_ | refine AW.seq ?_ | refine AW.region ?_ | refine AWL.no (by rfl) (by rfl) ?_ | refine AWL.do (by rfl) (by rfl) (by simp only [go_sem, wrap_succ hlt (Nat.le_trans hb (by omega))]; first | done | rfl) ?_)
        rw [hc] at hsucc
        have hsucc' : accI m l (i + 1) = acc := by simpa using hsucc
        refine againW (m.length - (i + 1)) (E6b m (i + 1)) (hE (LB l c acc) 9) (by omega) ?_ ⟨i + 1, by omega, rfl, rfl, .inr ⟨by rw [hsucc']; exact hacc, by rw [hsucc']; rfl⟩⟩
        rw [hF0]
        exact Weak.of ⟨⟨rfl, .int _ _⟩, ⟨rfl, .int _ _⟩, ⟨rfl, .view _ _ _ (lowOs _)⟩, ⟨rfl, .ptr _ _ (by omega)⟩, ⟨rfl, .ptr _ _ (by omega)⟩, ⟨rfl, .ptr _ _ (by omega)⟩, trivial⟩ ⟨fun x hx => by cases hx; exact ⟨rfl, by simp, .row _ _ _ (lowOs _)⟩, fun x hx => by cases hx; exact ⟨rfl, by simp, rowLow _ (.slice _ _ _ _ (by omega))⟩, HK_pick (by omega) htr rfl rfl rfl⟩ (by omega) (by omega)
    case _ =>
      have hie : i = m.length := by
        have : ¬ i < m.length := by simpa using hc
        omega
      subst hie
      rw [← hlast, hga] at hR
      refine AW.exit ?_
      repeat (first | with_reducible refine AWL.nil ?_ | refine AW.seq ?_ | refine AW.region ?_ | refine AWL.no (by rfl) (by rfl) ?_ | refine AWL.do (by rfl) (by rfl) (by simp only [go_sem]; first | done | rfl) ?_)
      exact AW.freeze (id := 8) [(4, .ptr 1 0)] (hE [(1, some (.row 24 [.view acc.length (flatE encO acc) false] false))] 9) (by rw [hE_get]; rfl) (Frz.of ⟨⟨_, rfl, .refl _⟩, trivial⟩ ⟨fun x hx => by cases hx; exact ⟨by simp, _, rfl, fz1 (.slice 0 acc.length (.rest 0))⟩, trivial⟩) (AW.ret ⟨_, res6 _ _, ⟨acc, rfl, hR⟩, lowM acc⟩)
theorem en_close : enterB Tryz.prog 6 = true := by kernel_rfl
end
end Go.Proofs.YtmeianaaiiiinaaGreat.Ev
