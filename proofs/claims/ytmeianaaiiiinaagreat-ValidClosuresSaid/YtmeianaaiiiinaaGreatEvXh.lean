/- Contracts: the closure of valid.Close that adds an Id with all to which it refers. -/
import Derived.Test.YtmeianaaiiiinaaGreatEvXg
namespace Go.Proofs.YtmeianaaiiiinaaGreat.Ev
open Go Go.Proofs
set_option linter.unusedVariables false
set_option linter.unusedSimpArgs false
set_option linter.all false
set_option maxRecDepth 10000
noncomputable section
attribute [local go_sem] putE run_move run_assign run_picks run_alloc run_box run_load run_store run_nilCheck run_binOp run_unOp run_fieldAddr run_field run_indexAddr run_index run_extract run_builtin run_makeFunc run_build run_lookup run_mapUpdate run_insert run_makeMap0 run_buildSlice List.map_cons List.map_nil zipParts e1 eS opE_tmp opE_const opE_func opsE_nil opsE_cons getL_if getL_nil ofZero_bool ofZero_int ofZero_str ofZero_nilp ofZero_nils val1_some' val2_some' val3_some' hE_next hE_new hE_set hE_get getO loadA rowOf storeK addrAdd binA intArithA strOpA isShift unA nilCheckA builtin_len optmap_some lenSl lenStr onAgg AV.cells putCells Option.join_some List.getElem?_cons_zero List.getElem?_cons_succ reduceIte Bool.false_eq_true Nat.reduceEqDiff Nat.reduceAdd Nat.zero_add Nat.add_zero List.length_cons List.length_nil pt_30 pt_54 fd_35_3 ln_25 ix_25 pt_9 pt_56
attribute [local go_sem] eO0 eO1 eO2 eO4 eO5 lenO oneO aggO drop6 List.take_zero List.nil_append List.append_nil

/-- The object with an Id among the first i. -/
def objI (m : List Ob) : Nat → ByteArray → Option Ob
  | 0, _ => none
  | i + 1, x => match m[i]? with
    | some o => if x = o.id then some o else objI m i x
    | none => objI m i x
abbrev objAt' (m : List Ob) (x : ByteArray) : Option Ob := objI m m.length x
theorem lookK_objSt (m : List Ob) (x : ByteArray) : ∀ i, lookK x (objSt m i).1 = (objI m i x).map (fun o => .agg (encO o))
  | 0 => rfl
  | i + 1 => by
    unfold objSt objI
    cases h : m[i]? with
    | none => exact lookK_objSt m x i
    | some o =>
      simp only
      rw [lookK_upd]
      by_cases hx : x = o.id
      · simp [hx]
      · simp only [hx, if_false]
        exact lookK_objSt m x i
theorem objI_mem (m : List Ob) (x : ByteArray) : ∀ i o, objI m i x = some o → o ∈ m ∧ o.id = x
  | 0, o, h => by cases h
  | i + 1, o, h => by
    unfold objI at h
    cases hg : m[i]? with
    | none => rw [hg] at h; exact objI_mem m x i o h
    | some p =>
      rw [hg] at h
      simp only at h
      by_cases hx : x = p.id
      · rw [if_pos hx] at h
        cases h
        exact ⟨List.mem_of_getElem? hg, hx.symm⟩
      · rw [if_neg hx] at h
        exact objI_mem m x i o h
/-- Whether an Id is in. -/
def In (x : ByteArray) (l : Ents) : Prop := (lookK x l).isSome = true
/-- All entries are true. -/
def Tr (l : Ents) : Prop := ∀ e ∈ l, e.2.1 = .bool true
theorem Tr.look {l : Ents} (h : Tr l) (x : ByteArray) : (lookK x l).getD (.bool false) = .bool (lookK x l).isSome := by
  induction l with
  | nil => rfl
  | cons e l ih =>
    unfold lookK
    by_cases hx : x = e.1
    · rw [if_pos hx, h e List.mem_cons_self]; rfl
    · rw [if_neg hx]; exact ih (fun a ha => h a (List.mem_cons_of_mem _ ha))
theorem Tr.upd {l : Ents} (h : Tr l) (x : ByteArray) (c : Nat) : Tr (updK x (.bool true) c l) := by
  induction l with
  | nil =>
    intro e he
    simp only [updK, List.mem_singleton] at he
    rw [he]
  | cons a l ih =>
    intro e he
    unfold updK at he
    by_cases hx : x = a.1
    · rw [if_pos hx] at he
      rcases List.mem_cons.1 he with rfl | he
      · rfl
      · exact h e (List.mem_cons_of_mem _ he)
    · rw [if_neg hx] at he
      rcases List.mem_cons.1 he with rfl | he
      · exact h _ List.mem_cons_self
      · exact ih (fun b hb => h b (List.mem_cons_of_mem _ hb)) e he
theorem Tr.low {l : Ents} (h : Tr l) (n : Nat) : ∀ e ∈ esS l, Low n e.1 ∧ Low n e.2.1 := fun e he => by
  obtain ⟨x, hx, rfl⟩ := List.mem_map.1 he
  refine ⟨.str _, ?_⟩
  show Low n x.2.1
  rw [h x hx]
  exact .bool _
theorem In.upd {x y : ByteArray} {l : Ents} {v : AV} {c : Nat} : In x (updK y v c l) ↔ x = y ∨ In x l := by
  unfold In
  rw [lookK_upd]
  by_cases h : x = y <;> simp [h]
/-- How many objects are not in. -/
def meas (m : List Ob) (l : Ents) : Nat := (m.filter fun o => !(lookK o.id l).isSome).length
theorem meas_le {m : List Ob} {l l' : Ents} (h : ∀ x, In x l → In x l') : meas m l' ≤ meas m l := by
  unfold meas
  induction m with
  | nil => exact Nat.le_refl _
  | cons o m ih =>
    simp only [List.filter_cons]
    by_cases h1 : (lookK o.id l).isSome = true
    · have h2 := h _ h1
      unfold In at h2
      simp [h1, h2]
      simpa using ih
    · have h1' : (lookK o.id l).isSome = false := by simpa using h1
      by_cases h2 : (lookK o.id l').isSome = true
      · simp only [h1', h2]
        simp
        have := ih
        simp at this
        omega
      · have h2' : (lookK o.id l').isSome = false := by simpa using h2
        simp only [h1', h2']
        simp
        simpa using ih
theorem meas_lt {m : List Ob} {l l' : Ents} (h : ∀ x, In x l → In x l') {o : Ob} (ho : o ∈ m) (h1 : ¬ In o.id l) (h2 : In o.id l') : meas m l' < meas m l := by
  induction m with
  | nil => cases ho
  | cons p m ih =>
    have hle := meas_le (m := m) h
    have e : ∀ l : Ents, meas (p :: m) l = (if (lookK p.id l).isSome then 0 else 1) + meas m l := fun l => by
      unfold meas
      simp only [List.filter_cons]
      cases (lookK p.id l).isSome <;> simp
      omega
    rw [e, e]
    rcases List.mem_cons.1 ho with rfl | ho
    · unfold In at h1 h2
      rw [if_pos h2, if_neg h1]
      omega
    · have := ih ho
      by_cases hp : (lookK p.id l).isSome = true
      · rw [if_pos hp, if_pos (show (lookK p.id l').isSome = true from h _ hp)]; omega
      · rw [if_neg hp]
        split <;> omega
/-- A set that has with each object all to which it refers. -/
def Shut (m : List Ob) (S : ByteArray → Prop) : Prop := ∀ x o, S x → objAt' m x = some o → ∀ r ∈ o.refs, S r
/-- The heap of Close. -/
def HC (m : List Ob) (l : Ents) (c : Nat) : Hp :=
  [(6, some (.row 56 [.func (.func 15) [] [.ptr 5 0, .ptr 3 0, .ptr 6 0]] false)), (5, some (.row 30 [.map 4] false)), (4, some (.mp (esS l) c)), (3, some (.row 54 [.map 2] false)),
   (2, some (.mp (esS (objSt m m.length).1) (objSt m m.length).2)), (1, some (.row 24 [.nilSlice] false)), (0, some (.row 24 [.view m.length (flatE encO m) false] false))]
theorem HC_low (m : List Ob) {l : Ents} (c : Nat) (h : Tr l) : PickO 7 (HC m l c) (HC m l c) := by
  refine ⟨fun x hx => ?_, fun x hx => ?_, fun x hx => ?_, fun x hx => ?_, fun x hx => ?_, fun x hx => ?_, fun x hx => ?_, trivial⟩
  · cases hx
    refine ⟨rfl, by simp, .row _ _ _ (fun a ha => ?_)⟩
    rw [List.mem_singleton.1 ha]
    refine .func _ _ _ (fun a ha => by cases ha) (fun a ha => ?_)
    simp only [List.mem_cons, List.not_mem_nil, or_false] at ha
    rcases ha with rfl | rfl | rfl <;> exact .ptr _ _ (by omega)
  · cases hx; exact ⟨rfl, by simp, .row _ _ _ (fun a ha => by rw [List.mem_singleton.1 ha]; exact .map _ (by omega))⟩
  · cases hx; exact ⟨rfl, by simp, .mp _ _ (h.low _)⟩
  · cases hx; exact ⟨rfl, by simp, .row _ _ _ (fun a ha => by rw [List.mem_singleton.1 ha]; exact .map _ (by omega))⟩
  · cases hx; exact ⟨rfl, by simp, .mp _ _ (objSt_low m _ _)⟩
  · cases hx; exact ⟨rfl, by simp, .row _ _ _ (fun a ha => by rw [List.mem_singleton.1 ha]; exact .nilSlice)⟩
  · cases hx; exact ⟨rfl, by simp, .row _ _ _ (fun a ha => by rw [List.mem_singleton.1 ha]; exact .view _ _ _ (lowOs _))⟩
theorem HC_pick (m : List Ob) {l : Ents} (c : Nat) (h : Tr l) {L : Hp} (he : ∀ p ∈ HC m l c, getO L p.1 = getO (HC m l c) p.1) : PickO 7 L (HC m l c) := PickO.le (HC_low m c h) he
/-- What a call of the closure brings about. -/
structure Added (m : List Ob) (id : ByteArray) (l l' : Ents) : Prop where
  tr : Tr l'
  sub : ∀ x, In x l → In x l'
  self : In id l'
  closed : ∀ x o, In x l' → ¬ In x l → objAt' m x = some o → ∀ r ∈ o.refs, In r l'
  least : ∀ S : ByteArray → Prop, Shut m S → S id → ∀ x, In x l' → In x l ∨ S x
theorem en_add : enterB Tryz.prog 15 = true := by kernel_rfl
def E15 (refs : List ByteArray) (i : Nat) : Env := [(17, .int .i64 (i : Int)), (16, .int .i64 (refs.length : Int)), (15, .view refs.length (flatE encS refs) false), (3, .ptr 6 0), (2, .ptr 3 0), (1, .ptr 5 0)]
set_option maxHeartbeats 4000000 in
theorem add_ok (m : List Ob) (hm : ∀ o ∈ m, szO o) : ∀ (k : Nat) (id : ByteArray) (l : Ents) (c : Nat), meas m l ≤ k → Tr l →
    FnOk Tryz.prog 15 ([.str id] ++ [.ptr 5 0, .ptr 3 0, .ptr 6 0]) (hE (HC m l c) 7) (fun v h' => ∃ l' c', h' = hE (HC m l' c') 7 ∧ Added m id l l') := by
  intro k
  induction k using Nat.strongRecOn with
  | _ k ih =>
  intro id l c hk htr
  refine FnOk.of_AW Tryz.func15 rfl (by rw [Tryz.ntmps15]; simp) (fun F hF => ?_)
  have hF0 : F.h.next = 7 := by rw [hF]; rfl
  rw [Tryz.ntmps15]
  have hlook : lookupA Tryz.prog (hE (HC m l c) 7) 30 (.map 4) (.str id) false = some (.bool (lookK id l).isSome) := by
    rw [lookup_str sm_30 (id := 4) (by rw [hE_get]; rfl) _ zo_4, htr.look]
  unfold HC at hlook
  cases hin : (lookK id l).isSome
  case true =>
    rw [hin] at hlook
    rw [show HC m l c = _ from rfl]
    unfold HC
    repeat (first | with_reducible refine AWL.nil ?_ | refine AW.seq ?_ | refine AW.region ?_ | refine AWL.no (by rfl) (by rfl) ?_ | refine AWL.do (by rfl) (by rfl) (by simp only [go_sem, hlook]; first | done | rfl) ?_)
    refine AW.cond (b := true) (by rfl) (fun _ => ?_) (fun hc => absurd hc (by decide))
    refine AW.weak [] (hE (HC m l c) 7) ?_ (AW.ret ⟨_, rfl, l, c, rfl, htr, fun x h => h, hin, fun x o h1 h2 => absurd h1 h2, fun S _ _ x h => .inl h⟩)
    rw [hF0]
    exact Weak.of trivial (HC_pick m c htr (fun p hp => by simp only [HC, List.mem_cons, List.not_mem_nil, or_false] at hp; rcases hp with rfl | rfl | rfl | rfl | rfl | rfl | rfl <;> rfl)) (by omega) (by omega)
  rw [hin] at hlook
  have hlook2 : lookupA Tryz.prog (hE (HC m (updK id (.bool true) c l) (clkK id l c)) 7) 54 (.map 2) (.str id) false = some (((objAt' m id).map fun o => .agg (encO o)).getD (.agg [.str ⟨#[]⟩, .int .i64 0, .int .i64 0, .int .i64 0, .nilSlice, .nilSlice])) := by
    rw [lookup_str sm_54 (id := 2) (by rw [hE_get]; rfl) _ zo_35, lookK_objSt]
  rw [show HC m l c = _ from rfl]
  unfold HC at hlook2 ⊢
  repeat (first | with_reducible refine AWL.nil ?_ | refine AW.seq ?_ | refine AW.region ?_ | refine AWL.no (by rfl) (by rfl) ?_ | refine AWL.do (by rfl) (by rfl) (by simp only [go_sem, hlook]; first | done | rfl) ?_)
  refine AW.cond (b := false) (by rfl) (fun hc => absurd hc (by decide)) (fun _ => ?_)
  refine AW.skip ?_
  repeat (first | with_reducible refine AWL.nil ?_ | refine AW.seq ?_ | refine AW.region ?_ | refine AWL.no (by rfl) (by rfl) ?_ | refine AWL.do (by rfl) (by rfl) (by simp only [go_sem]; first | done | rfl) ?_)
  refine AWL.do (by rfl) (by rfl) (by simp only [go_sem]; exact (congrArg val3 (update_str sm_30 (l := l) (c := c) (by rw [hE_get]; rfl) _ _)).trans (by rw [hE_set]; rfl)) ?_
  refine AWL.nil ?_
  have htr1 := htr.upd id c
  have hin1 : In id (updK id (.bool true) c l) := In.upd.2 (.inl rfl)
  have hsub1 : ∀ x, In x l → In x (updK id (.bool true) c l) := fun x h => In.upd.2 (.inr h)
  have hnew1 : ∀ x, In x (updK id (.bool true) c l) → In x l ∨ x = id := fun x h => (In.upd.1 h).symm
  generalize hc1 : clkK id l c = c1 at hlook2
  generalize hl1 : updK id (.bool true) c l = l1 at htr1 hin1 hsub1 hnew1 hlook2
  refine AW.weak [(0, .str id), (1, .ptr 5 0), (2, .ptr 3 0), (3, .ptr 6 0)] (hE (HC m l1 c1) 7) ?_ ?_
  · rw [hF0]
    subst hc1
    subst hl1
    exact Weak.of ⟨⟨rfl, .str _⟩, ⟨rfl, .ptr _ _ (by omega)⟩, ⟨rfl, .ptr _ _ (by omega)⟩, ⟨rfl, .ptr _ _ (by omega)⟩, trivial⟩ (HC_pick m _ htr1 (fun p hp => by simp only [HC, List.mem_cons, List.not_mem_nil, or_false] at hp; rcases hp with rfl | rfl | rfl | rfl | rfl | rfl | rfl <;> rfl)) (by omega) (by omega)
  have hfin : ∀ {L : Hp} (l' : Ents) (c' : Nat), L = HC m l' c' → Tr l' → Weak F.h.next [] (hE L 7) [] (hE (HC m l' c') 7) := fun l' c' he ht => by
    rw [hF0, he]
    exact Weak.of trivial (HC_low m c' ht) (by omega) (by omega)
  cases ho : objAt' m id with
  | none =>
    rw [ho] at hlook2
    unfold HC
    repeat (first | with_reducible refine AWL.nil ?_ | refine AW.seq ?_ | refine AW.region ?_ | refine AWL.no (by rfl) (by rfl) ?_ | refine AWL.do (by rfl) (by rfl) (by simp only [go_sem, hlook2, Option.map_none, Option.getD_none]; first | done | rfl) ?_)
    refine AW.block ?_
    refine AW.loopW (fun q E h => E = [(17, .int .i64 0), (16, .int .i64 0)] ∧ h = hE (HC m l1 c1) 7) 0 [(17, .int .i64 0), (16, .int .i64 0)] (hE (HC m l1 c1) 7) ?_ ⟨rfl, rfl⟩ ?_
    case _ =>
      rw [hF0]
      exact Weak.of ⟨⟨rfl, .int _ _⟩, ⟨rfl, .int _ _⟩, trivial⟩ (HC_low m c1 htr1) (by omega) (by omega)
    rintro q E h ⟨rfl, rfl⟩
    repeat (first | with_reducible refine AWL.nil ?_ | refine AW.seq ?_ | refine AW.region ?_ | refine AWL.no (by rfl) (by rfl) ?_ | refine AWL.do (by rfl) (by rfl) (by simp only [go_sem]; first | done | rfl) ?_)
    refine AW.cond (b := false) (by rfl) (fun hc => absurd hc (by decide)) (fun _ => ?_)
    refine AW.exit ?_
    refine ⟨_, rfl, l1, c1, rfl, htr1, hsub1, hin1, fun x o h1 h2 h3 => ?_, fun S hS hs x h => ?_⟩
    · rcases hnew1 x h1 with h4 | rfl
      · exact absurd h4 h2
      · rw [ho] at h3; cases h3
    · rcases hnew1 x h with h4 | rfl
      · exact .inl h4
      · exact .inr hs
  | some o =>
    obtain ⟨hom, hoid⟩ := objI_mem m id _ o ho
    have hso := hm o hom
    have hlt1 : meas m l1 < meas m l := meas_lt hsub1 hom (by rw [hoid]; unfold In; rw [hin]; simp) (by rw [hoid]; exact hin1)
    rw [ho] at hlook2
    have hfld : (encO o)[4]? = some (.view o.refs.length (flatE encS o.refs) false) := rfl
    unfold HC
    repeat (first | with_reducible refine AWL.nil ?_ | refine AW.seq ?_ | refine AW.region ?_ | refine AWL.no (by rfl) (by rfl) ?_ | refine AWL.do (by rfl) (by rfl) (by simp only [go_sem, hlook2, Option.map_some, Option.getD_some]; first | done | rfl) ?_)
    refine AW.block ?_
    refine AW.loopW (fun q E h => ∃ i l' c', i ≤ o.refs.length ∧ q = o.refs.length - i ∧ E = E15 o.refs i ∧ h = hE (HC m l' c') 7 ∧ Tr l' ∧ (∀ x, In x l1 → In x l') ∧ (∀ j (hj : j < o.refs.length), j < i → In o.refs[j] l') ∧
      (∀ x o', In x l' → ¬ In x l → x = id ∨ (objAt' m x = some o' → ∀ r ∈ o'.refs, In r l')) ∧ (∀ S, Shut m S → S id → ∀ x, In x l' → In x l ∨ S x)) o.refs.length (E15 o.refs 0) (hE (HC m l1 c1) 7) ?_
      ⟨0, l1, c1, by omega, by omega, rfl, rfl, htr1, fun x h => h, fun j _ hj => by omega, fun x o' h1 h2 => .inl ((hnew1 x h1).resolve_left h2), fun S _ hs x h => by
        rcases hnew1 x h with h4 | rfl
        · exact .inl h4
        · exact .inr hs⟩ ?_
    case _ =>
      rw [hF0]
      exact Weak.of ⟨⟨rfl, .int _ _⟩, ⟨rfl, .int _ _⟩, ⟨rfl, .view _ _ _ (lowS _)⟩, ⟨rfl, .ptr _ _ (by omega)⟩, ⟨rfl, .ptr _ _ (by omega)⟩, ⟨rfl, .ptr _ _ (by omega)⟩, trivial⟩ (HC_low m c1 htr1) (by omega) (by omega)
    rintro q E h ⟨i, l', c', hi, rfl, rfl, rfl, ht', p1, p2, p3, p4⟩
    unfold E15
    repeat (first | with_reducible refine AWL.nil ?_ | refine AW.seq ?_ | refine AW.region ?_ | refine AWL.no (by rfl) (by rfl) ?_ | refine AWL.do (by rfl) (by rfl) (by simp only [go_sem]; first | done | rfl) ?_)
    refine AW.cond (by rfl) (fun hc => ?_) (fun hc => ?_)
    case _ =>
      have hlt : i < o.refs.length := by simpa using hc
      refine AW.skip ?_
      refine AW.seq ?_
      refine AW.block ?_
      repeat (first | with_reducible refine AWL.nil ?_ | refine AW.seq ?_ | refine AW.region ?_ | refine AWL.no (by rfl) (by rfl) ?_ | refine AWL.do (by rfl) (by rfl) (by simp only [go_sem, ixS_view _ _ _ _ _ _ hlt, mul1, cellS o.refs i hlt, HC]; first | done | rfl) ?_)
      refine AWL.call rfl rfl en_add rfl rfl (ih (meas m l1) (by omega) o.refs[i] l' c' (meas_le p1) ht') ?_
      rintro v h' ⟨l2, c2, rfl, ad⟩
      repeat (first | with_reducible refine AWL.nil ?_ | refine AW.seq ?_ | refine AW.region ?_ | refine AWL.no (by rfl) (by rfl) ?_ | refine AWL.do (by rfl) (by rfl) (by simp only [go_sem, wrap_succ hlt hso.2.1]; first | done | rfl) ?_)
      refine again (o.refs.length - (i + 1)) (E15 o.refs (i + 1)) (hE (HC m l2 c2) 7) (by omega) ?_ ⟨i + 1, l2, c2, by omega, rfl, rfl, rfl, ad.tr, fun x h => ad.sub x (p1 x h), fun j hj hji => ?_, fun x o' h1 h2 => ?_, fun S hS hs x h => ?_⟩
      · rw [hF0]
        exact Weak.of ⟨⟨rfl, .int _ _⟩, ⟨rfl, .int _ _⟩, ⟨rfl, .view _ _ _ (lowS _)⟩, ⟨rfl, .ptr _ _ (by omega)⟩, ⟨rfl, .ptr _ _ (by omega)⟩, ⟨rfl, .ptr _ _ (by omega)⟩, trivial⟩ (HC_low m c2 ad.tr) (by omega) (by omega)
      · by_cases e : j = i
        · subst e; exact ad.self
        · exact ad.sub _ (p2 j hj (by omega))
      · by_cases h3 : In x l'
        · rcases p3 x o' h3 h2 with h4 | h4
          · exact .inl h4
          · exact .inr (fun h5 r hr => ad.sub _ (h4 h5 r hr))
        · exact .inr (fun h5 r hr => ad.closed x o' h1 h3 h5 r hr)
      · rcases ad.least S hS (hS id o hs ho _ (List.getElem_mem hlt)) x h with h3 | h3
        · exact p4 S hS hs x h3
        · exact .inr h3
    case _ =>
      have hlt : i = o.refs.length := by
        have : ¬ i < o.refs.length := by simpa using hc
        omega
      subst hlt
      refine AW.exit ?_
      refine ⟨_, rfl, l', c', rfl, ht', fun x h => p1 x (hsub1 x h), p1 _ hin1, fun x o' h1 h2 h3 r hr => ?_, p4⟩
      rcases p3 x o' h1 h2 with rfl | h4
      · rw [ho] at h3
        cases h3
        obtain ⟨j, hj, rfl⟩ := List.getElem_of_mem hr
        exact p2 j hj hj
      · exact h4 h3 r hr
end
end Go.Proofs.YtmeianaaiiiinaaGreat.Ev
