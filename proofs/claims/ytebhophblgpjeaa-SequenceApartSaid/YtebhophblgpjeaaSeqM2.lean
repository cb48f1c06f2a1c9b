/- Contracts of Common, of merged and of the cut of a rest. -/
import Derived.Test.YtebhophblgpjeaaSeqM1
namespace Go.Proofs.Ytebhophblgpjeaa.Seq
open Go.RowKit Go.Proofs.YtebhophblgpjeaaW.PrintWords Go.Proofs.YtebhophblgpjeaaW.PrintLast Go.Proofs.YtebhophblgpjeaaW.PrintMore
attribute [local go_sem] max2_int min2_int max_two min_two max_three min_three max_four min_four
set_option linter.unusedVariables false
set_option linter.unusedSimpArgs false

/-- The pair at a place of a slice of pairs: its two cells. -/
theorem at_kdPair {w : World} {A : Option Addr} {n : Nat} {xs : List (Int × Int)} (h : Kd.C kdPair w A n xs) (k : Nat) (hk : k < n) :
    ∃ ad, A = some ad ∧ w.cell? (ad.add (k * 2)) = some (.int .i64 (xs.getD k (0, 0)).1) ∧ w.cell? ⟨(ad.add (k * 2)).block, (ad.add (k * 2)).off + 1, none⟩ = some (.int .i64 (xs.getD k (0, 0)).2) := by
  obtain ⟨ad, c, e, _, hK, hc0⟩ := Kd.C_get h ((0, 0) : Int × Int) (k : Int) (by omega) (by omega)
  have hc : ∀ j u, c[j]? = some u → w.cell? (ad.add (k * 2 + j)) = some u := hc0
  obtain ⟨c0, c1, rfl, h0, h1⟩ := hK
  have h0' : c0 = [.int .i64 (xs.getD k (0, 0)).1] := h0
  have h1' : c1 = [.int .i64 (xs.getD k (0, 0)).2] := h1
  subst h0'
  subst h1'
  refine ⟨ad, e, ?_, ?_⟩
  · have := hc 0 _ rfl
    simpa using this
  · have := hc 1 _ rfl
    rw [add_field ad (k * 2) 1 (by omega)] at this
    exact this

def pickV (l : List ByteArray) (m : List (Nat × Nat)) : List ByteArray := m.map fun p => rdOf ByteArray.empty l (p.1 : Int)
theorem mt_lt (l0 l1 : List ByteArray) (p : Nat × Nat) (h : p ∈ mt l0 l1) : p.1 < l0.length ∧ p.2 < l1.length := by
  have := mtFrom_mem _ _ _ _ _ _ h
  omega
theorem filterMap_eq_map_of {α β : Type} (f : α → Option β) (g : α → β) : ∀ l : List α, (∀ p, p ∈ l → f p = some (g p)) → l.filterMap f = l.map g
  | [], _ => rfl
  | x :: xs, h => by
    rw [List.filterMap_cons, h x (by simp), List.map_cons, filterMap_eq_map_of f g xs (fun p hp => h p (by simp [hp]))]
theorem commonV_short (l0 l1 : List ByteArray) (h0 : l0.length ≤ 2000) (h1 : l1.length ≤ 2000) : commonV l0 l1 = pickV l0 (mt l0 l1) := by
  unfold commonV pickV isShort
  rw [decide_eq_true h0, decide_eq_true h1]
  simp only [Bool.and_self, if_true]
  apply filterMap_eq_map_of
  intro p hp
  have := mt_lt l0 l1 p hp
  simp [rdOf_nat l0 p.1 this.1, this.1]
theorem commonV_long (l0 l1 : List ByteArray) (h : ¬ (l0.length ≤ 2000 ∧ l1.length ≤ 2000)) : commonV l0 l1 = [] := by
  unfold commonV isShort
  rw [if_neg (by simpa using h)]
theorem mtV_getD (l0 l1 : List ByteArray) (k : Nat) (hk : k < (mt l0 l1).length) : (mtV l0 l1).getD k (0, 0) = (((mt l0 l1)[k].1 : Int), ((mt l0 l1)[k].2 : Int)) := by
  simp [mtV, hk]
theorem mtV_len (l0 l1 : List ByteArray) : (mtV l0 l1).length = (mt l0 l1).length := by simp [mtV]
theorem mtFrom_len {α : Type} [DecidableEq α] (n : Nat) : ∀ (a b : List α) (i k : Nat), (mtFrom n a b i k).length ≤ a.length := by
  induction n with
  | zero => intro a b i k; simp [mtFrom]
  | succ n ih =>
    intro a b i k
    cases a with
    | nil => simp [mtFrom]
    | cons x xs =>
      cases b with
      | nil => simp [mtFrom]
      | cons y ys =>
        simp only [mtFrom]
        have h1 := ih xs ys (i + 1) (k + 1)
        have h2 := ih xs (y :: ys) (i + 1) k
        have h3 := ih (x :: xs) ys i (k + 1)
        simp only [List.length_cons] at *
        split
        · simp only [List.length_cons]; omega
        · split <;> omega
theorem mt_len (l0 l1 : List ByteArray) : (mt l0 l1).length ≤ l0.length := mtFrom_len _ _ _ _ _

theorem short_yes (b : Nat) (n : Nat) (A : Nat → Option Addr) (L C : Nat → Nat) (w : World) (hn : n ≤ 3)
    (hcell : ∀ i, i < n → w.cell? ⟨b, i, none⟩ = some (.slice (A i) (L i) (C i))) (h : ∀ i, i < n → L i ≤ 2000) :
    Calls Try.prog 22 #[.slice (some ⟨b, 0, none⟩) n n] w fun e w' => e = .returned (.bool true) ∧ w = w' :=
  short_calls b n A L C w hn hcell true ⟨fun _ => h, fun _ => rfl⟩
theorem short_no (b : Nat) (n : Nat) (A : Nat → Option Addr) (L C : Nat → Nat) (w : World) (hn : n ≤ 3)
    (hcell : ∀ i, i < n → w.cell? ⟨b, i, none⟩ = some (.slice (A i) (L i) (C i))) (h : ¬ ∀ i, i < n → L i ≤ 2000) :
    Calls Try.prog 22 #[.slice (some ⟨b, 0, none⟩) n n] w fun e w' => e = .returned (.bool false) ∧ w = w' :=
  short_calls b n A L C w hn hcell false ⟨fun h => (by cases h), fun h2 => absurd h2 h⟩
def sl2 {α : Type} (x y : α) : Nat → α := fun i => if i = 0 then x else y
def sl3 {α : Type} (x y z : α) : Nat → α := fun i => if i = 0 then x else if i = 1 then y else z

set_option maxRecDepth 100000 in
set_option maxHeartbeats 1000000 in
theorem common_calls (A0 : Option Addr) (c0 : Nat) (l0 : List ByteArray) (A1 : Option Addr) (c1 : Nat) (l1 : List ByteArray) (w : World) (hr0 : Kd.C Kd.string w A0 l0.length l0) (hr1 : Kd.C Kd.string w A1 l1.length l1) :
    Calls Try.prog 14 #[.slice A0 l0.length c0, .slice A1 l1.length c1] w fun e w' => ∃ v0_ : Value, e = .returned (v0_) ∧ Kd.R Kd.string 9 w' w.heap.size (fun _ => True) v0_ (commonV l0 l1) ∧ Below w.heap.size w w' := by
  have HR0 := Aside0.mk hr0
  have HR1 := Aside0.mk hr1
  clear hr0 hr1
  have hcell : ∀ i, i < 2 → (w.alloc (.cells #[.slice A0 l0.length c0, .slice A1 l1.length c1] 22)).cell? ⟨w.heap.size, i, none⟩ = some (.slice (sl2 A0 A1 i) (sl2 l0.length l1.length i) (sl2 c0 c1 i)) := by
    intro i hi
    rw [blk_cell (heap_alloc_new _ _)]
    rcases i with _ | _ | i
    · rfl
    · rfl
    · omega
  have HCELL := Aside0.mk hcell
  clear hcell
  by_cases hsh : l0.length ≤ 2000 ∧ l1.length ≤ 2000
  · obtain ⟨s0, s1⟩ := hsh
    have HB : Aside0 (∀ i, i < 2 → sl2 l0.length l1.length i ≤ 2000) := ⟨fun i hi => by unfold sl2; split <;> omega⟩
    have HV := Aside0.mk (commonV_short l0 l1 s0 s1)
    go_enter Try.func14, Try.ntmps14
    go_wp2_with fail
    ((with_reducible refine (short_yes w.heap.size 2 _ _ _ _ (by omega) HCELL.out HB.out).mono ?_); rintro e w' ⟨rfl, rfl⟩)
    go_wp2_with fail
    ((with_reducible refine (matching_calls _ _ _ _ _ _ _ (Kd.C_alloc HR0.out _) (Kd.C_alloc HR1.out _) s0 s1).mono ?_); rintro e w2 ⟨v, rfl, hv, hb2⟩)
    have hb2' : Below w.heap.size w w2 := (below_alloc (Below.refl _ _) _).trans (hb2.mono (by simp))
    obtain ⟨Av, cv, rfl, hle, hC⟩ := Kd.R_reads hv
    have hml : (mtV l0 l1).length ≤ 2000 := by rw [mtV_len]; have := mt_len l0 l1; omega
    have HVV := Aside0.mk hC
    have HB2 := Aside0.mk hb2'
    have HML := Aside0.mk (mtV_len l0 l1)
    clear hv hb2 hC hb2' hle
    generalize (mtV l0 l1).length = n at *
    go_wp2
    go_loopw [17, 5] (fun idx v wr => ∃ k : Nat, k ≤ n ∧ idx = .int .i64 k ∧ Aside0 (Kd.R Kd.string 9 wr w2.heap.size (fun _ => True) v (pickV l0 ((mt l0 l1).take k))) ∧ Aside0 (Below w2.heap.size w2 wr)) (fun idx _ _ => n - (intOf idx).toNat)
    case atStart => exact ⟨0, by omega, rfl, ⟨by simpa [pickV] using Kd.R_nil _ _ _ _ _⟩, ⟨Below.refl _ _⟩⟩
    case round =>
      obtain ⟨k, hk, rfl, HO, HBB⟩ := hrel
      by_cases hlt : k < n
      · have hkm : k < (mt l0 l1).length := by have := HML.out; omega
        obtain ⟨ad, e, hp0, hp1⟩ := at_kdPair (Kd.C_below HVV.out HBB.out) k hlt
        cases e
        have hget := mtV_getD l0 l1 k hkm
        have hmem := mt_lt l0 l1 ((mt l0 l1)[k]) (List.getElem_mem hkm)
        have htake : pickV l0 ((mt l0 l1).take (k + 1)) = pickV l0 ((mt l0 l1).take k) ++ [rdOf ByteArray.empty l0 ((((mt l0 l1)[k]).1 : Nat) : Int)] := by
          unfold pickV; rw [List.take_succ_eq_append_getElem hkm, List.map_append]; rfl
        rw [hget] at hp0 hp1
        have HLEN : Aside0 ((pickV l0 ((mt l0 l1).take k)).length ≤ k) := ⟨by simp [pickV]; omega⟩
        generalize ((mt l0 l1)[k]) = pr at *
        obtain ⟨pa, pb⟩ := pr
        simp only at hp0 hp1 hmem htake
        have hCw := Kd.C_below HR0.out (HB2.out.trans (HBB.out.mono HB2.out.size))
        obtain ⟨ad0, e0, hx0⟩ := Kd.at_string hCw (pa : Int) (by omega) (by omega)
        cases e0
        have hx1 : ∀ o, (wr.alloc o).cell? (ad0.add pa) = some (.string (rdOf ByteArray.empty l0 (pa : Int))) := fun o => by
          obtain ⟨ad0', e0', hx0'⟩ := Kd.at_string (Kd.C_alloc hCw o) (pa : Int) (by omega) (by omega)
          cases e0'
          simpa using hx0'
        have hpa := hmem.1
        have HT := Aside0.mk htake
        clear hget htake hmem hx0 hCw
        go_wp2_with ((with_reducible refine gate_builtin (b := .append) (xs := #[.tmp 21, .tmp 27]) rfl ?_); at_builtin; refine Kd.R_append Kd.string (w0 := w2) w2.heap.size rfl (.tmp 21) (.tmp 27) 22 9 (.string ⟨#[]⟩) 16 rfl Try.underlying22 info9 rfl (by decide) (by omega) u5 (pickV l0 ((mt l0 l1).take k)) (rdOf ByteArray.empty l0 (pa : Int)) [.string (rdOf ByteArray.empty l0 (pa : Int))] (fun _ => True) (fun _ => False) rfl ?aX ?aP (fun _ hk => hk.elim) ?aF ?aO ?aB ?aS ?aL ?_; (case aX => simp [go_sem]); (case aP => exact rfl); (case aF => exact fun _ _ => trivial); (case aO => exact Kd.R_alloc HO.out _); (case aB => exact below_alloc HBB.out _); (case aS => exact below_size (below_alloc HBB.out _)); (case aL => have := HLEN.out; omega); intro v1 w1 ho hb hg hat; have HO1 := Aside0.mk ho; have HB1 := Aside0.mk hb; clear ho hb hg hat)
        go_roundw
        case rel => exact ⟨k + 1, by omega, by go_num, ⟨by rw [HT.out]; exact HO1.out⟩, HB1⟩
        case measure => simp [intOf]; omega
      · obtain rfl : k = n := by omega
        have hfin : Kd.R Kd.string 9 wr w.heap.size (fun _ => True) u5 (commonV l0 l1) ∧ Below w.heap.size w wr := by
          refine ⟨?_, HB2.out.trans (HBB.out.mono HB2.out.size)⟩
          have h := HO.out
          rw [List.take_of_length_le (by have := HML.out; omega), ← HV.out] at h
          exact Kd.R_lower h HB2.out.size
        have HF := Aside0.mk hfin
        clear hfin
        go_wp2
        go_ret
        exact ⟨_, rfl, HF.out⟩
  · have HN : Aside0 (¬ ∀ i, i < 2 → sl2 l0.length l1.length i ≤ 2000) := ⟨fun h => hsh ⟨h 0 (by omega), h 1 (by omega)⟩⟩
    have HV := Aside0.mk (commonV_long l0 l1 hsh)
    clear hsh
    go_enter Try.func14, Try.ntmps14
    go_wp2_with fail
    ((with_reducible refine (short_no w.heap.size 2 _ _ _ _ (by omega) HCELL.out HN.out).mono ?_); rintro e w' ⟨rfl, rfl⟩)
    go_wp2
    go_ret
    exact ⟨_, rfl, by rw [HV.out]; exact Kd.R_nil _ _ _ _ _, below_alloc (Below.refl _ _) _⟩

theorem wrap_nat {i n : Nat} (h : i < n) (hn : n ≤ 9223372036854775807) : wrap64 ((i : Int) + 1) = ((i + 1 : Nat) : Int) := by
  unfold wrap64; omega

theorem equal_l0 (l0 l1 : List ByteArray) (hl : l0.length = l1.length) (hn : l0.length ≤ 9223372036854775807) (d : Nat) : ∀ (k i : Nat), i ≤ l0.length → l0.length - i = d → d < k →
    slices_Equal_string_string.l0 k l0 l1 (l0.length : Int) (i : Int) = some (decide (l0.drop i = l1.drop i)) := by
  induction d with
  | zero =>
    intro k i h0 hd hk
    obtain ⟨k, rfl⟩ : ∃ m, k = m + 1 := ⟨k - 1, by omega⟩
    simp only [slices_Equal_string_string.l0]
    rw [if_neg (by omega), List.drop_of_length_le (show l0.length ≤ i by omega), List.drop_of_length_le (show l1.length ≤ i by omega)]
    simp
  | succ d ih =>
    intro k i h0 hd hk
    obtain ⟨k, rfl⟩ : ∃ m, k = m + 1 := ⟨k - 1, by omega⟩
    have hlt : i < l0.length := by omega
    have hlt1 : i < l1.length := by omega
    simp only [slices_Equal_string_string.l0]
    rw [if_pos (by omega), if_pos (by omega), if_pos (by omega), if_pos (by omega), rdOf_nat l0 i hlt, rdOf_nat l1 i hlt1, wrap_nat hlt hn]
    have hc : (List.drop i l0 = List.drop i l1) ↔ (l0[i] = l1[i] ∧ List.drop (i + 1) l0 = List.drop (i + 1) l1) := by
      rw [List.drop_eq_getElem_cons hlt, List.drop_eq_getElem_cons hlt1]; exact List.cons_eq_cons
    by_cases he : l0[i] = l1[i]
    · rw [if_pos ((str_eq _ _).2 he), ih k (i + 1) (by omega) (by omega) (by omega)]
      simp only [hc, he, true_and]
    · rw [if_neg (fun h => he ((str_eq _ _).1 h))]
      simp only [hc, he, false_and, decide_false]

theorem equal_f (l0 l1 : List ByteArray) (hn : l0.length ≤ 9223372036854775807) : slices_Equal_string_string.f (l0.length + 1) l0 l1 = some (decide (l0 = l1)) := by
  unfold slices_Equal_string_string.f
  by_cases hl : l0.length = l1.length
  · rw [if_pos (by omega)]
    have := equal_l0 l0 l1 hl hn l0.length (l0.length + 1) 0 (by omega) (by omega) (by omega)
    simpa using this
  · rw [if_neg (by omega)]
    have : ¬ l0 = l1 := fun h => hl (by rw [h])
    simp [this]

theorem C_len {α : Type} {d : Kd α} {w : World} {A : Option Addr} {n : Nat} {xs : List α} (h : Kd.C d w A n xs) : n ≤ 9223372036854775807 := h.2.1

theorem equal_any (A0 : Option Addr) (c0 : Nat) (l0 : List ByteArray) (A1 : Option Addr) (c1 : Nat) (l1 : List ByteArray) (w : World) (b : Bool) (hb : Aside0 (decide (l0 = l1) = b)) (hr0 : Kd.C Kd.string w A0 l0.length l0) (hc0 : l0.length ≤ c0) (hr1 : Kd.C Kd.string w A1 l1.length l1) (hc1 : l1.length ≤ c1) :
    Calls Try.prog 31 #[.slice A0 l0.length c0, .slice A1 l1.length c1] w fun e w' => e = .returned (.bool b) ∧ ∃ n, w' = w.drewN n := by
  rw [← hb.out]
  exact (slices_Equal_string_string.calls (l0.length + 1) A0 c0 l0 A1 c1 l1 _ w hr0 hc0 hr1 hc1 (equal_f l0 l1 (C_len hr0))).mono fun e w' h => ⟨h.1, h.2.out⟩

/-- What merged answers. -/
def mergedW (l0 l1 l2 : List ByteArray) (v1 v2 : Value) : Value × Bool :=
  if l1 = l0 then (v2, true) else if l2 = l0 then (v1, true) else if l2 = l1 then (v1, true) else (.slice none 0 0, false)

theorem merged_calls (A0 : Option Addr) (c0 : Nat) (l0 : List ByteArray) (A1 : Option Addr) (c1 : Nat) (l1 : List ByteArray) (A2 : Option Addr) (c2 : Nat) (l2 : List ByteArray) (w : World)
    (hr0 : Kd.C Kd.string w A0 l0.length l0) (hc0 : l0.length ≤ c0) (hr1 : Kd.C Kd.string w A1 l1.length l1) (hc1 : l1.length ≤ c1) (hr2 : Kd.C Kd.string w A2 l2.length l2) (hc2 : l2.length ≤ c2) :
    Calls Try.prog 24 #[.slice A0 l0.length c0, .slice A1 l1.length c1, .slice A2 l2.length c2] w fun e w' =>
      e = .returned (.tuple #[(mergedW l0 l1 l2 (.slice A1 l1.length c1) (.slice A2 l2.length c2)).1, .bool (mergedW l0 l1 l2 (.slice A1 l1.length c1) (.slice A2 l2.length c2)).2]) ∧ ∃ n, w' = w.drewN n := by
  have HR0 := Aside0.mk hr0
  have HR1 := Aside0.mk hr1
  have HR2 := Aside0.mk hr2
  have HC0 := Aside0.mk hc0
  have HC1 := Aside0.mk hc1
  have HC2 := Aside0.mk hc2
  clear hr0 hr1 hr2 hc0 hc1 hc2
  unfold mergedW
  by_cases h1 : l1 = l0
  · have E1 : Aside0 (decide (l1 = l0) = true) := ⟨decide_eq_true h1⟩
    rw [if_pos h1]
    clear h1
    go_enter Try.func24, Try.ntmps24
    go_wp2_with fail
    ((with_reducible refine (equal_any _ _ l1 _ _ l0 _ true E1 HR1.out HC1.out HR0.out HC0.out).mono ?_); rintro e w' ⟨rfl, n, rfl⟩)
    go_wp2
    go_ret2
    exact ⟨rfl, _, rfl⟩
  · have E1 : Aside0 (decide (l1 = l0) = false) := ⟨decide_eq_false h1⟩
    rw [if_neg h1]
    clear h1
    by_cases h2 : l2 = l0
    · have E2 : Aside0 (decide (l2 = l0) = true) := ⟨decide_eq_true h2⟩
      rw [if_pos h2]
      clear h2
      go_enter Try.func24, Try.ntmps24
      go_wp2_with fail
      ((with_reducible refine (equal_any _ _ l1 _ _ l0 _ false E1 HR1.out HC1.out HR0.out HC0.out).mono ?_); rintro e w' ⟨rfl, n, rfl⟩)
      go_wp2_with fail
      ((with_reducible refine (equal_any _ _ l2 _ _ l0 _ true E2 (Kd.C_drewN HR2.out _) HC2.out (Kd.C_drewN HR0.out _) HC0.out).mono ?_); rintro e w' ⟨rfl, n2, rfl⟩)
      go_wp2
      go_ret2
      exact ⟨rfl, _, rfl⟩
    · have E2 : Aside0 (decide (l2 = l0) = false) := ⟨decide_eq_false h2⟩
      rw [if_neg h2]
      clear h2
      by_cases h3 : l2 = l1
      all_goals
        first
        | (have E3 : Aside0 (decide (l2 = l1) = true) := ⟨decide_eq_true h3⟩
           rw [if_pos h3])
        | (have E3 : Aside0 (decide (l2 = l1) = false) := ⟨decide_eq_false h3⟩
           rw [if_neg h3])
        clear h3
        go_enter Try.func24, Try.ntmps24
        go_wp2_with fail
        ((with_reducible refine (equal_any _ _ l1 _ _ l0 _ false E1 HR1.out HC1.out HR0.out HC0.out).mono ?_); rintro e w' ⟨rfl, n, rfl⟩)
        go_wp2_with fail
        ((with_reducible refine (equal_any _ _ l2 _ _ l0 _ false E2 (Kd.C_drewN HR2.out _) HC2.out (Kd.C_drewN HR0.out _) HC0.out).mono ?_); rintro e w' ⟨rfl, n2, rfl⟩)
        go_wp2_with fail
        ((with_reducible refine (equal_any _ _ l2 _ _ l1 _ _ E3 (Kd.C_drewN HR2.out _) HC2.out (Kd.C_drewN HR1.out _) HC1.out).mono ?_); rintro e w' ⟨rfl, n3, rfl⟩)
        go_wp2
        go_ret2
        exact ⟨rfl, _, rfl⟩

def dropA (A : Option Addr) (c m : Nat) : Option Addr := if c = m then A else A.map (·.add m)

theorem cut_calls (g : Nat) (A : Option Addr) (L c : Nat) (n : Nat) (w : World) (hn : n ≤ L) (hL : L ≤ c) (hL2 : L ≤ 2000)
    (hc : w.cell? ⟨g, 0, none⟩ = some (.slice A L c)) (hf : w.frozen? ⟨g, 0, none⟩ = false) :
    Calls Try.prog 25 #[.pointer (some ⟨g, 0, none⟩), .int .i64 (n : Int)] w fun e w' => e = .returned (.slice A n n) ∧
      ∃ nq, w' = (w.drewN nq).setCell ⟨g, 0, none⟩ (.slice (dropA A c (min (n + 1) L)) (L - min (n + 1) L) (c - min (n + 1) L)) := by
  by_cases hlt : n < L
  · have hm : min (n + 1) L = n + 1 := by omega
    rw [hm]
    have hn1 : ((L : Int) < (n : Int) + 1) = False := eq_false (by omega)
    have hn2 : (n : Int) + 1 ≤ (L : Int) := by omega
    clear hm
    go_enter Try.func25, Try.ntmps25
    go_wp2_with fail
    refine wp_region_still_tail 16 (by kernel_rfl) (by kernel_rfl) ?_
    simp only [List.take_succ_cons, List.take_zero, List.drop_succ_cons, List.drop_zero]
    have hc' : ({ w with drawn := w.drawn + 1 } : World).cell? ⟨g, 0, none⟩ = some (.slice A L c) := hc
    have hf' : ({ w with drawn := w.drawn + 1 } : World).frozen? ⟨g, 0, none⟩ = false := hf
    have hback : ({ w with drawn := w.drawn + 1 } : World) = w.drewN 1 := rfl
    generalize ({ w with drawn := w.drawn + 1 } : World) = w2 at *
    have HBACK := Aside0.mk hback
    clear hback hc hf
    have wi : IntKind.i64.wrap ((n : Int) + 1) = (n : Int) + 1 := by rw [IntKind.wrap_i64]; omega
    have ht : ((n : Int) + 1).toNat = n + 1 := by omega
    have h0 : 0 ≤ (n : Int) + 1 := by omega
    iterate 16 still_step
    refine wpStill_nil ?_
    go_wp2
    all_goals
      go_ret
      refine ⟨rfl, 1, ?_⟩
      rw [← HBACK.out]
      first | (simp [dropA, *]; done) | simp [dropA, Addr.add, *]
  · have hm : min (n + 1) L = L := by omega
    obtain rfl : n = L := by omega
    rw [hm]
    have hn1 : ((n : Int) < (n : Int) + 1) = True := eq_true (by omega)
    have hn2 : (n : Int) ≤ (n : Int) := by omega
    clear hlt hn
    clear hm
    go_enter Try.func25, Try.ntmps25
    go_wp2_with fail
    refine wp_region_still_tail 16 (by kernel_rfl) (by kernel_rfl) ?_
    simp only [List.take_succ_cons, List.take_zero, List.drop_succ_cons, List.drop_zero]
    have hc' : ({ w with drawn := w.drawn + 1 } : World).cell? ⟨g, 0, none⟩ = some (.slice A n c) := hc
    have hf' : ({ w with drawn := w.drawn + 1 } : World).frozen? ⟨g, 0, none⟩ = false := hf
    have hback : ({ w with drawn := w.drawn + 1 } : World) = w.drewN 1 := rfl
    generalize ({ w with drawn := w.drawn + 1 } : World) = w2 at *
    have HBACK := Aside0.mk hback
    clear hback hc hf
    have wi : IntKind.i64.wrap ((n : Int) + 1) = (n : Int) + 1 := by rw [IntKind.wrap_i64]; omega
    have ht : ((n : Int) + 1).toNat = n + 1 := by omega
    have h0 : 0 ≤ (n : Int) + 1 := by omega
    iterate 16 still_step
    refine wpStill_nil ?_
    go_wp2
    all_goals
      go_ret
      refine ⟨rfl, 1, ?_⟩
      rw [← HBACK.out]
      first | (simp [dropA, *]; done) | simp [dropA, Addr.add, *]

end Go.Proofs.Ytebhophblgpjeaa.Seq
