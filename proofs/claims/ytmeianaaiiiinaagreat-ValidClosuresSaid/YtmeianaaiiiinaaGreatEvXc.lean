/- Contracts: tags, words, kinds, points on the grid. -/
import Derived.Test.YtmeianaaiiiinaaGreatEvXb
namespace Go.Proofs.YtmeianaaiiiinaaGreat.Ev
open Go Go.Proofs
set_option linter.unusedVariables false
set_option linter.unusedSimpArgs false
set_option linter.all false
set_option maxRecDepth 10000
noncomputable section
attribute [local go_sem] putE run_move run_assign run_picks run_alloc run_box run_load run_store run_nilCheck run_binOp run_unOp run_fieldAddr run_field run_indexAddr run_index run_extract run_builtin run_makeFunc run_build run_lookup run_mapUpdate run_insert run_makeMap0 run_buildSlice List.map_cons List.map_nil zipParts e1 eS opE_tmp opE_const opE_func opsE_nil opsE_cons getL_if getL_nil ofZero_bool ofZero_int ofZero_str ofZero_nilp ofZero_nils val1_some' val2_some' val3_some' hE_next hE_new hE_set hE_get getO loadA rowOf storeK addrAdd binA intArithA strOpA isShift unA nilCheckA builtin_len optmap_some lenSl lenStr onAgg AV.cells putCells Option.join_some List.getElem?_cons_zero List.getElem?_cons_succ reduceIte Bool.false_eq_true Nat.reduceEqDiff Nat.reduceAdd Nat.zero_add Nat.add_zero List.length_cons List.length_nil ln_33 ix_33 pt_46 zo_46 sk_46 fa_46_0 pt_9 fa_46_1 ln_9 bd_123 zo_123 sk_123 ix_123 bd_126 fa_32_0 pt_3 fa_32_1

/-- A tag: its key, its value. -/
abbrev Tg := ByteArray × ByteArray
def encT (t : Tg) : List AV := [.str t.1, .str t.2]
theorem lenT (t : Tg) : (encT t).length = 2 := rfl
theorem lowT {n : Nat} (l : List Tg) : ∀ a ∈ flatE encT l, Low n a := flatE_low _ _ _ (fun t _ a ha => by
  simp only [encT, List.mem_cons, List.not_mem_nil, or_false] at ha
  rcases ha with rfl | rfl <;> exact .str _)
def tagsGo : ByteArray → List Tg → Bool
  | _, [] => true
  | last, t :: l => if !nameB t.1 || (strLt t.1 last || strEq t.1 last) || strEq t.2 ⟨#[]⟩ || decide ((t.2.size : Int) > 200) then false else tagsGo t.1 l
def tagsB (l : List Tg) : Bool := tagsGo ⟨#[]⟩ l && decide ((l.length : Int) ≤ 60)
def E33 (l : List Tg) (n : Nat) (ex : Bool) (i : Nat) (last : ByteArray) : Env :=
  [(8, .int .i64 (i : Int)), (7, .int .i64 (n : Int)), (6, .view n (flatE encT l) ex), (3, .str last), (0, .view n (flatE encT l) ex)]
theorem tags_ok (l : List Tg) (n : Nat) (ex : Bool) (hn : l.length = n) (hb : n ≤ 140737488355328) (hs : ∀ t ∈ l, t.1.size ≤ 140737488355328) :
   PureOk Tryz.prog 33 [.view n (flatE encT l) ex] (fun v => v = .bool (tagsB l)) := by
  refine FnOk.of_AW Tryz.func33 rfl (by rw [Tryz.ntmps33]; simp) (fun F hF => ?_)
  have hF0 : F.h.next = 0 := by rw [hF]; rfl
  rw [Tryz.ntmps33]
  repeat (first | with_reducible refine AWL.nil ?_ | refine AW.seq ?_ | refine AW.region ?_ | refine AWL.no (by rfl) (by rfl) ?_ | refine AWL.do (by rfl) (by rfl) (by simp only [go_sem]; first | done | rfl) ?_)
  refine AW.block ?_
  refine AW.loopW (fun m E h => ∃ i last, i ≤ n ∧ m = n - i ∧ E = E33 l n ex i last ∧ h = hE [] 0 ∧ tagsGo last (l.drop i) = tagsGo ⟨#[]⟩ l) n (E33 l n ex 0 ⟨#[]⟩) (hE [] 0) ?_ ⟨0, _, by omega, by omega, rfl, rfl, rfl⟩ ?_
  case _ =>
    rw [hF0]
    exact Weak.of (n2 := 0) ⟨⟨rfl, .int _ _⟩, ⟨rfl, .int _ _⟩, ⟨rfl, .view _ _ _ (lowT l)⟩, ⟨rfl, .str _⟩, ⟨rfl, .view _ _ _ (lowT l)⟩, trivial⟩ trivial (by omega) (by omega)
  rintro m E h ⟨i, last, hi, rfl, rfl, rfl, hgo⟩
  unfold E33
  repeat (first | with_reducible refine AWL.nil ?_ | refine AW.seq ?_ | refine AW.region ?_ | refine AWL.no (by rfl) (by rfl) ?_ | refine AWL.do (by rfl) (by rfl) (by simp only [go_sem]; first | done | rfl) ?_)
  refine AW.cond (by rfl) (fun hc => ?_) (fun hc => ?_)
  case _ =>
    have hlt : i < n := by simpa using hc
    have hil : i < l.length := by omega
    refine AW.skip ?_
    refine AW.seq ?_
    refine AW.block ?_
    repeat (first | with_reducible refine AWL.nil ?_ | refine AW.seq ?_ | refine AW.region ?_ | refine AWL.no (by rfl) (by rfl) ?_ | refine AWL.do (by rfl) (by rfl) (by simp only [go_sem, ixS_view _ _ _ _ _ _ hlt, flatE_agg encT 2 lenT l i hil]; first | done | rfl) ?_)
    refine AWL.call rfl rfl en_name rfl rfl ((name_ok _ (hs _ (List.getElem_mem hil))).fn (by simp; exact .str _) _) ?_
    rintro v h' ⟨rfl, rfl, _⟩
    have hgo' := hgo
    rw [List.drop_eq_getElem_cons hil, tagsGo] at hgo'
    generalize l[i] = t at hgo' ⊢
    generalize h1 : nameB t.1 = q1 at hgo' ⊢
    cases q1
    case _ =>
      repeat (first | with_reducible refine AWL.nil ?_ | refine AW.seq ?_ | refine AW.region ?_ | refine AWL.no (by rfl) (by rfl) ?_ | refine AWL.do (by rfl) (by rfl) (by simp only [go_sem]; first | done | rfl) ?_)
      refine AW.cond (b := true) (by rfl) (fun _ => ?_) (fun hc => absurd hc (by decide))
      repeat (first | with_reducible refine AWL.nil ?_ | refine AW.seq ?_ | refine AW.region ?_ | refine AWL.no (by rfl) (by rfl) ?_ | refine AWL.do (by rfl) (by rfl) (by simp only [go_sem]; first | done | rfl) ?_)
      have : tagsGo ⟨#[]⟩ l = false := by simpa using hgo'.symm
      exact AW.ret ⟨_, rfl, by simp [packA, tagsB, this], .bool _⟩
    repeat (first | with_reducible refine AWL.nil ?_ | refine AW.seq ?_ | refine AW.region ?_ | refine AWL.no (by rfl) (by rfl) ?_ | refine AWL.do (by rfl) (by rfl) (by simp only [go_sem]; first | done | rfl) ?_)
    generalize h2 : (strLt t.1 last || strEq t.1 last) = q2 at hgo' ⊢
    cases q2
    case true =>
      repeat (first | with_reducible refine AWL.nil ?_ | refine AW.seq ?_ | refine AW.region ?_ | refine AWL.no (by rfl) (by rfl) ?_ | refine AWL.do (by rfl) (by rfl) (by simp only [go_sem]; first | done | rfl) ?_)
      refine AW.cond (b := true) (by rfl) (fun _ => ?_) (fun hc => absurd hc (by decide))
      repeat (first | with_reducible refine AWL.nil ?_ | refine AW.seq ?_ | refine AW.region ?_ | refine AWL.no (by rfl) (by rfl) ?_ | refine AWL.do (by rfl) (by rfl) (by simp only [go_sem]; first | done | rfl) ?_)
      have : tagsGo ⟨#[]⟩ l = false := by simpa using hgo'.symm
      exact AW.ret ⟨_, rfl, by simp [packA, tagsB, this], .bool _⟩
    repeat (first | with_reducible refine AWL.nil ?_ | refine AW.seq ?_ | refine AW.region ?_ | refine AWL.no (by rfl) (by rfl) ?_ | refine AWL.do (by rfl) (by rfl) (by simp only [go_sem]; first | done | rfl) ?_)
    generalize h3 : strEq t.2 ⟨#[]⟩ = q3 at hgo' ⊢
    cases q3
    case true =>
      repeat (first | with_reducible refine AWL.nil ?_ | refine AW.seq ?_ | refine AW.region ?_ | refine AWL.no (by rfl) (by rfl) ?_ | refine AWL.do (by rfl) (by rfl) (by simp only [go_sem]; first | done | rfl) ?_)
      refine AW.cond (b := true) (by rfl) (fun _ => ?_) (fun hc => absurd hc (by decide))
      repeat (first | with_reducible refine AWL.nil ?_ | refine AW.seq ?_ | refine AW.region ?_ | refine AWL.no (by rfl) (by rfl) ?_ | refine AWL.do (by rfl) (by rfl) (by simp only [go_sem]; first | done | rfl) ?_)
      have : tagsGo ⟨#[]⟩ l = false := by simpa using hgo'.symm
      exact AW.ret ⟨_, rfl, by simp [packA, tagsB, this], .bool _⟩
    repeat (first | with_reducible refine AWL.nil ?_ | refine AW.seq ?_ | refine AW.region ?_ | refine AWL.no (by rfl) (by rfl) ?_ | refine AWL.do (by rfl) (by rfl) (by simp only [go_sem]; first | done | rfl) ?_)
    generalize h4 : decide ((t.2.size : Int) > 200) = q4 at hgo' ⊢
    cases q4
    case true =>
      refine AW.cond (b := true) (by rfl) (fun _ => ?_) (fun hc => absurd hc (by decide))
      repeat (first | with_reducible refine AWL.nil ?_ | refine AW.seq ?_ | refine AW.region ?_ | refine AWL.no (by rfl) (by rfl) ?_ | refine AWL.do (by rfl) (by rfl) (by simp only [go_sem]; first | done | rfl) ?_)
      have : tagsGo ⟨#[]⟩ l = false := by simpa using hgo'.symm
      exact AW.ret ⟨_, rfl, by simp [packA, tagsB, this], .bool _⟩
    refine AW.cond (b := false) (by rfl) (fun hc => absurd hc (by decide)) (fun _ => ?_)
    refine AW.skip ?_
    repeat (first | with_reducible refine AWL.nil ?_ | refine AW.seq ?_ | refine AW.region ?_ | refine AWL.no (by rfl) (by rfl) ?_ | refine AWL.do (by rfl) (by rfl) (by simp only [go_sem, wrap_succ hlt hb]; first | done | rfl) ?_)
    refine again (n - (i + 1)) (E33 l n ex (i + 1) t.1) (hE [] 0) (by omega) ?_ ⟨i + 1, _, by omega, rfl, rfl, rfl, by simpa using hgo'⟩
    rw [hF0]
    exact Weak.of (n2 := 0) ⟨⟨rfl, .int _ _⟩, ⟨rfl, .int _ _⟩, ⟨rfl, .view _ _ _ (lowT l)⟩, ⟨rfl, .str _⟩, ⟨rfl, .view _ _ _ (lowT l)⟩, trivial⟩ trivial (by omega) (by omega)
  case _ =>
    have hlt : i = n := by
      have : ¬ i < n := by simpa using hc
      omega
    refine AW.exit ?_
    have hgo2 : tagsGo ⟨#[]⟩ l = true := by
      rw [← hgo, hlt, List.drop_of_length_le (by omega)]
      simp [tagsGo]
    repeat (first | with_reducible refine AWL.nil ?_ | refine AW.seq ?_ | refine AW.region ?_ | refine AWL.no (by rfl) (by rfl) ?_ | refine AWL.do (by rfl) (by rfl) (by simp only [go_sem]; first | done | rfl) ?_)
    exact AW.ret ⟨_, rfl, by simp [packA, tagsB, hgo2, hn], .bool _⟩
theorem en_tags : enterB Tryz.prog 33 = true := by kernel_rfl

theorem cases6 {k : Int} (h0 : ¬ k < 0) (h6 : ¬ k ≥ 6) : k = 0 ∨ k = 1 ∨ k = 2 ∨ k = 3 ∨ k = 4 ∨ k = 5 := by omega
/-- The word of a kind. -/
def wordS (k : Int) : ByteArray := if k = 1 then ⟨#[110, 111, 100, 101]⟩ else if k = 2 then ⟨#[119, 97, 121]⟩ else if k = 3 then ⟨#[97, 114, 101, 97]⟩ else if k = 4 then ⟨#[114, 111, 117, 116, 101]⟩ else if k = 5 then ⟨#[116, 117, 114, 110]⟩ else ⟨#[]⟩
theorem word_ok (k : Int) : PureOk Tryz.prog 31 [.int .i64 k] (fun v => v = .str (wordS k)) := by
  refine FnOk.of_AW Tryz.func31 rfl (by rw [Tryz.ntmps31]; simp) (fun F hF => ?_)
  rw [Tryz.ntmps31]
  by_cases h0 : k < 0
  · have h0' := decide_eq_true h0
    have e : wordS k = ⟨#[]⟩ := by unfold wordS; rw [if_neg (by omega), if_neg (by omega), if_neg (by omega), if_neg (by omega), if_neg (by omega)]
    rw [e]
    repeat (first | with_reducible refine AWL.nil ?_ | refine AW.seq ?_ | refine AW.region ?_ | refine AWL.no (by rfl) (by rfl) ?_ | refine AWL.do (by rfl) (by rfl) (by simp only [go_sem, h0']; first | done | rfl) ?_)
    refine AW.cond (b := true) (by rfl) (fun _ => ?_) (fun hc => absurd hc (by decide))
    repeat (first | with_reducible refine AWL.nil ?_ | refine AW.seq ?_ | refine AW.region ?_ | refine AWL.no (by rfl) (by rfl) ?_ | refine AWL.do (by rfl) (by rfl) (by simp only [go_sem]; first | done | rfl) ?_)
    exact AW.ret ⟨_, rfl, rfl, .str _⟩
  by_cases h6 : k ≥ 6
  · have h0' := decide_eq_false h0
    have h6' := decide_eq_true h6
    have e : wordS k = ⟨#[]⟩ := by unfold wordS; rw [if_neg (by omega), if_neg (by omega), if_neg (by omega), if_neg (by omega), if_neg (by omega)]
    rw [e]
    repeat (first | with_reducible refine AWL.nil ?_ | refine AW.seq ?_ | refine AW.region ?_ | refine AWL.no (by rfl) (by rfl) ?_ | refine AWL.do (by rfl) (by rfl) (by simp only [go_sem, h0', h6']; first | done | rfl) ?_)
    refine AW.cond (b := true) (by rfl) (fun _ => ?_) (fun hc => absurd hc (by decide))
    repeat (first | with_reducible refine AWL.nil ?_ | refine AW.seq ?_ | refine AW.region ?_ | refine AWL.no (by rfl) (by rfl) ?_ | refine AWL.do (by rfl) (by rfl) (by simp only [go_sem]; first | done | rfl) ?_)
    exact AW.ret ⟨_, rfl, rfl, .str _⟩
  have h0' := decide_eq_false h0
  have h6' := decide_eq_false h6
  repeat (first | with_reducible refine AWL.nil ?_ | refine AW.seq ?_ | refine AW.region ?_ | refine AWL.no (by rfl) (by rfl) ?_ | refine AWL.do (by rfl) (by rfl) (by simp only [go_sem, h0', h6']; first | done | rfl) ?_)
  refine AW.cond (b := false) (by rfl) (fun hc => absurd hc (by decide)) (fun _ => ?_)
  refine AW.skip ?_
  rcases cases6 h0 h6 with rfl | rfl | rfl | rfl | rfl | rfl
  all_goals
    repeat (first | with_reducible refine AWL.nil ?_ | refine AW.seq ?_ | refine AW.region ?_ | refine AWL.no (by rfl) (by rfl) ?_ | refine AWL.do (by rfl) (by rfl) (by simp only [go_sem]; first | done | rfl) ?_)
    exact AW.ret ⟨_, rfl, (by show (_ : AV) = _; kernel_rfl), .str _⟩
theorem word_no {k : Int} (h : strEq (wordS k) ⟨#[]⟩ = false) : 1 ≤ k ∧ k ≤ 5 := by
  rw [strEq_dec] at h
  have h' : wordS k ≠ ⟨#[]⟩ := by simpa using h
  unfold wordS at h'
  by_cases h1 : k = 1
  · omega
  by_cases h2 : k = 2
  · omega
  by_cases h3 : k = 3
  · omega
  by_cases h4 : k = 4
  · omega
  by_cases h5 : k = 5
  · omega
  rw [if_neg h1, if_neg h2, if_neg h3, if_neg h4, if_neg h5] at h'
  exact absurd rfl h'
def leastN (k : Int) : Int := if k = 1 then 0 else if k = 2 then 2 else if k = 3 then 3 else if k = 4 then 1 else 3
theorem least_ok (k : Int) (h1 : 1 ≤ k) (h5 : k ≤ 5) : PureOk Tryz.prog 34 [.int .i64 k] (fun v => v = .int .i64 (leastN k)) := by
  refine FnOk.of_AW Tryz.func34 rfl (by rw [Tryz.ntmps34]; simp) (fun F hF => ?_)
  rw [Tryz.ntmps34]
  rcases cases6 (by omega : ¬ k < 0) (by omega : ¬ k ≥ 6) with rfl | rfl | rfl | rfl | rfl | rfl
  · omega
  all_goals
    repeat (first | with_reducible refine AWL.nil ?_ | refine AW.seq ?_ | refine AW.region ?_ | refine AWL.no (by rfl) (by rfl) ?_ | refine AWL.do (by rfl) (by rfl) (by simp only [go_sem]; first | done | rfl) ?_)
    exact AW.ret ⟨_, rfl, (by show (_ : AV) = _; kernel_rfl), .int _ _⟩
def onB (x y : Int) : Bool := decide (x ≥ 0) && decide (x < 1048576) && decide (y ≥ 0) && decide (y < 1048576)
theorem on_ok (x y : Int) : PureOk Tryz.prog 37 [.agg [.int .i64 x, .int .i64 y]] (fun v => v = .bool (onB x y)) := by
  refine FnOk.of_AW Tryz.func37 rfl (by rw [Tryz.ntmps37]; simp) (fun F hF => ?_)
  rw [Tryz.ntmps37]
  unfold onB
  generalize h1 : decide (x ≥ 0) = b1
  generalize h2 : decide (x < 1048576) = b2
  generalize h3 : decide (y ≥ 0) = b3
  generalize h4 : decide (y < 1048576) = b4
  cases b1
  · repeat (first | with_reducible refine AWL.nil ?_ | refine AW.seq ?_ | refine AW.region ?_ | refine AWL.no (by rfl) (by rfl) ?_ | refine AWL.do (by rfl) (by rfl) (by simp only [go_sem, h1, h2, h3, h4]; first | done | rfl) ?_)
    exact AW.ret ⟨_, rfl, rfl, .bool _⟩
  cases b2
  · repeat (first | with_reducible refine AWL.nil ?_ | refine AW.seq ?_ | refine AW.region ?_ | refine AWL.no (by rfl) (by rfl) ?_ | refine AWL.do (by rfl) (by rfl) (by simp only [go_sem, h1, h2, h3, h4]; first | done | rfl) ?_)
    exact AW.ret ⟨_, rfl, rfl, .bool _⟩
  cases b3
  · repeat (first | with_reducible refine AWL.nil ?_ | refine AW.seq ?_ | refine AW.region ?_ | refine AWL.no (by rfl) (by rfl) ?_ | refine AWL.do (by rfl) (by rfl) (by simp only [go_sem, h1, h2, h3, h4]; first | done | rfl) ?_)
    exact AW.ret ⟨_, rfl, rfl, .bool _⟩
  repeat (first | with_reducible refine AWL.nil ?_ | refine AW.seq ?_ | refine AW.region ?_ | refine AWL.no (by rfl) (by rfl) ?_ | refine AWL.do (by rfl) (by rfl) (by simp only [go_sem, h1, h2, h3, h4]; first | done | rfl) ?_)
  exact AW.ret ⟨_, rfl, rfl, .bool _⟩
theorem en_word : enterB Tryz.prog 31 = true := by kernel_rfl
theorem en_least : enterB Tryz.prog 34 = true := by kernel_rfl
theorem en_on : enterB Tryz.prog 37 = true := by kernel_rfl
end
end Go.Proofs.YtmeianaaiiiinaaGreat.Ev
