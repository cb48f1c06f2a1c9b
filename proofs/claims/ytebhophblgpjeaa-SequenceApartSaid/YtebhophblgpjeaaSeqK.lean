/- Contracts of joined over two or three lists; what in and different answer. -/
import Derived.Test.YtebhophblgpjeaaSeqJ
import Derived.Test.YtebhophblgpjeaaSeqP0
namespace Go.Proofs.Ytebhophblgpjeaa.Seq
open Go.RowKit Go.Proofs.YtebhophblgpjeaaW.PrintWords Go.Proofs.YtebhophblgpjeaaW.PrintLast Go.Proofs.YtebhophblgpjeaaW.PrintMore
attribute [local go_sem] max2_int min2_int max_two min_two max_three min_three max_four min_four
set_option linter.unusedVariables false
set_option linter.unusedSimpArgs false

theorem joined_l0 (ls : List (List ByteArray)) (hb : ∀ l ∈ ls, l.length ≤ 9223372036854775807) (hn : ls.length ≤ 100) (d : Nat) : ∀ (k i : Nat) (acc : List ByteArray), i ≤ ls.length → ls.length - i = d → d < k → acc.length + (ls.drop i).flatten.length < 8796093022208 →
    planispherelaw25_joined.l0 k ls acc (i : Int) = some (acc ++ (ls.drop i).flatten) := by
  induction d with
  | zero =>
    intro k i acc hi hd hk ha
    obtain ⟨k, rfl⟩ : ∃ m, k = m + 1 := ⟨k - 1, by omega⟩
    simp only [planispherelaw25_joined.l0]
    rw [if_neg (by omega), List.drop_of_length_le (by omega)]
    simp
  | succ d ih =>
    intro k i acc hi hd hk ha
    obtain ⟨k, rfl⟩ : ∃ m, k = m + 1 := ⟨k - 1, by omega⟩
    have hlt : i < ls.length := by omega
    have hr : rd_L3 ls (i : Int) = ls[i] := by simp [rd_L3, hlt]
    have hdr := List.drop_eq_getElem_cons hlt
    rw [hdr, List.flatten_cons, List.length_append] at ha
    simp only [planispherelaw25_joined.l0]
    rw [if_pos (by omega), if_pos (by omega), hr, wrap_nat (n := ls.length) hlt (by omega), if_pos (by omega)]
    rw [ih k (i + 1) _ (by omega) (by omega) (by omega) (by rw [List.length_append]; omega), hdr, List.flatten_cons, List.append_assoc]
theorem joined_f (ls : List (List ByteArray)) (hb : ∀ l ∈ ls, l.length ≤ 9223372036854775807) (hn : ls.length ≤ 100) (hf : ls.flatten.length < 8796093022208) (k : Nat) (hk : ls.length < k) : planispherelaw25_joined.f k ls = some ls.flatten := by
  unfold planispherelaw25_joined.f
  have := joined_l0 ls hb hn ls.length k 0 [] (by omega) (by omega) hk (by simpa using hf)
  simpa using this

theorem rowsC {w : World} {g : Nat} {cs : List Value} {ls : List (List ByteArray)} (h : w.heap[g]? = some (.cells cs.toArray 22 (0, 0))) (hn : ls.length ≤ 100)
    (hcs : ∀ (j : Nat) (l : List ByteArray), ls[j]? = some l → ∃ A c, cs[j]? = some (.slice A l.length c) ∧ l.length ≤ c ∧ Kd.C Kd.string w A l.length l) :
    Kd.C (Kd.slice 9 Kd.string) w (some ⟨g, 0, none⟩) ls.length ls := by
  refine ⟨rfl, by omega, fun _ => ⟨_, rfl, fun j l hj => ?_⟩⟩
  obtain ⟨A, c, h1, h2, h3⟩ := hcs j l hj
  refine ⟨[.slice A l.length c], rfl, ⟨A, c, rfl, h2, h3⟩, fun i u hu => ?_⟩
  have hi : i = 0 := by
    rcases i with _ | i
    · rfl
    · simp at hu
  subst hi
  have hu' : Value.slice A l.length c = u := by simpa using hu
  subst hu'
  have hsz : (Kd.slice 9 Kd.string).sz = 1 := rfl
  rw [hsz, Nat.mul_one, Nat.add_zero]
  have : (⟨g, 0, none⟩ : Addr).add j = ⟨g, j, none⟩ := by unfold Addr.add; by_cases hj0 : j = 0 <;> simp [hj0]
  rw [this, blk_cell h j]
  simpa using h1

theorem joined3 (g : Nat) (A0 A1 A2 : Option Addr) (c0 c1 c2 : Nat) (l0 l1 l2 : List ByteArray) (w : World) (h : w.heap[g]? = some (.cells #[.slice A0 l0.length c0, .slice A1 l1.length c1, .slice A2 l2.length c2] 22 (0, 0)))
    (hr0 : Kd.C Kd.string w A0 l0.length l0) (hc0 : l0.length ≤ c0) (hr1 : Kd.C Kd.string w A1 l1.length l1) (hc1 : l1.length ≤ c1) (hr2 : Kd.C Kd.string w A2 l2.length l2) (hc2 : l2.length ≤ c2) (b0 : l0.length ≤ 10) (b1 : l1.length ≤ 10) (b2 : l2.length ≤ 10) :
    Calls Try.prog 19 #[.slice (some ⟨g, 0, none⟩) 3 3] w fun e w' => ∃ A c, e = .returned (.slice A (l0 ++ l1 ++ l2).length c) ∧ (l0 ++ l1 ++ l2).length ≤ c ∧ Kd.C Kd.string w' A (l0 ++ l1 ++ l2).length (l0 ++ l1 ++ l2) ∧ Below w.heap.size w w' := by
  have hC : Kd.C (Kd.slice 9 Kd.string) w (some ⟨g, 0, none⟩) 3 [l0, l1, l2] := rowsC (cs := [.slice A0 l0.length c0, .slice A1 l1.length c1, .slice A2 l2.length c2]) h (by simp) (fun j l hj => by
    rcases j with _ | _ | _ | j
    · simp at hj; subst hj; exact ⟨A0, c0, rfl, hc0, hr0⟩
    · simp at hj; subst hj; exact ⟨A1, c1, rfl, hc1, hr1⟩
    · simp at hj; subst hj; exact ⟨A2, c2, rfl, hc2, hr2⟩
    · simp at hj)
  have hf := joined_f [l0, l1, l2] (fun l hl => by simp at hl; rcases hl with rfl | rfl | rfl <;> omega) (by simp) (by simp; omega) 10 (by simp)
  have e : [l0, l1, l2].flatten = l0 ++ l1 ++ l2 := by simp
  rw [e] at hf
  refine (planispherelaw25_joined.calls 10 _ 3 [l0, l1, l2] _ w hC (Nat.le_refl _) hf).mono ?_
  rintro ee w' ⟨v, rfl, hv, hb⟩
  obtain ⟨A, c, rfl, h1, h2⟩ := Kd.R_reads hv
  exact ⟨A, c, rfl, h1, h2, hb⟩
theorem joined2 (g : Nat) (A0 A1 : Option Addr) (c0 c1 : Nat) (l0 l1 : List ByteArray) (w : World) (h : w.heap[g]? = some (.cells #[.slice A0 l0.length c0, .slice A1 l1.length c1] 22 (0, 0)))
    (hr0 : Kd.C Kd.string w A0 l0.length l0) (hc0 : l0.length ≤ c0) (hr1 : Kd.C Kd.string w A1 l1.length l1) (hc1 : l1.length ≤ c1) (b0 : l0.length ≤ 10) (b1 : l1.length ≤ 10) :
    Calls Try.prog 19 #[.slice (some ⟨g, 0, none⟩) 2 2] w fun e w' => ∃ A c, e = .returned (.slice A (l0 ++ l1).length c) ∧ (l0 ++ l1).length ≤ c ∧ Kd.C Kd.string w' A (l0 ++ l1).length (l0 ++ l1) ∧ Below w.heap.size w w' := by
  have hC : Kd.C (Kd.slice 9 Kd.string) w (some ⟨g, 0, none⟩) 2 [l0, l1] := rowsC (cs := [.slice A0 l0.length c0, .slice A1 l1.length c1]) h (by simp) (fun j l hj => by
    rcases j with _ | _ | j
    · simp at hj; subst hj; exact ⟨A0, c0, rfl, hc0, hr0⟩
    · simp at hj; subst hj; exact ⟨A1, c1, rfl, hc1, hr1⟩
    · simp at hj)
  have hf := joined_f [l0, l1] (fun l hl => by simp at hl; rcases hl with rfl | rfl <;> omega) (by simp) (by simp; omega) 10 (by simp)
  have e : [l0, l1].flatten = l0 ++ l1 := by simp
  rw [e] at hf
  refine (planispherelaw25_joined.calls 10 _ 2 [l0, l1] _ w hC (Nat.le_refl _) hf).mono ?_
  rintro ee w' ⟨v, rfl, hv, hb⟩
  obtain ⟨A, c, rfl, h1, h2⟩ := Kd.R_reads hv
  exact ⟨A, c, rfl, h1, h2, hb⟩
theorem joined3L (g : Nat) (A0 A1 A2 : Option Addr) (c0 c1 c2 : Nat) (l0 l1 l2 L : List ByteArray) (hL : Aside0 (L = l0 ++ l1 ++ l2)) (w : World) (h : w.heap[g]? = some (.cells #[.slice A0 l0.length c0, .slice A1 l1.length c1, .slice A2 l2.length c2] 22 (0, 0)))
    (hr0 : Kd.C Kd.string w A0 l0.length l0) (hc0 : l0.length ≤ c0) (hr1 : Kd.C Kd.string w A1 l1.length l1) (hc1 : l1.length ≤ c1) (hr2 : Kd.C Kd.string w A2 l2.length l2) (hc2 : l2.length ≤ c2) (b0 : l0.length ≤ 10) (b1 : l1.length ≤ 10) (b2 : l2.length ≤ 10) :
    Calls Try.prog 19 #[.slice (some ⟨g, 0, none⟩) 3 3] w fun e w' => ∃ A c, e = .returned (.slice A L.length c) ∧ L.length ≤ c ∧ Kd.C Kd.string w' A L.length L ∧ Below w.heap.size w w' := by
  obtain rfl := hL.out
  exact joined3 g A0 A1 A2 c0 c1 c2 l0 l1 l2 w h hr0 hc0 hr1 hc1 hr2 hc2 b0 b1 b2
theorem joined2L (g : Nat) (A0 A1 : Option Addr) (c0 c1 : Nat) (l0 l1 L : List ByteArray) (hL : Aside0 (L = l0 ++ l1)) (w : World) (h : w.heap[g]? = some (.cells #[.slice A0 l0.length c0, .slice A1 l1.length c1] 22 (0, 0)))
    (hr0 : Kd.C Kd.string w A0 l0.length l0) (hc0 : l0.length ≤ c0) (hr1 : Kd.C Kd.string w A1 l1.length l1) (hc1 : l1.length ≤ c1) (b0 : l0.length ≤ 10) (b1 : l1.length ≤ 10) :
    Calls Try.prog 19 #[.slice (some ⟨g, 0, none⟩) 2 2] w fun e w' => ∃ A c, e = .returned (.slice A L.length c) ∧ L.length ≤ c ∧ Kd.C Kd.string w' A L.length L ∧ Below w.heap.size w w' := by
  obtain rfl := hL.out
  exact joined2 g A0 A1 c0 c1 l0 l1 w h hr0 hc0 hr1 hc1 b0 b1

def isIn (l : List ByteArray) (s : ByteArray) : Bool := l.any (fun x => decide (x = s))
theorem isIn_iff {l : List ByteArray} {s : ByteArray} : isIn l s = true ↔ s ∈ l := by
  unfold isIn
  rw [List.any_eq_true]
  constructor
  · rintro ⟨x, hx, h⟩
    have := of_decide_eq_true h
    exact this ▸ hx
  · intro h
    exact ⟨s, h, decide_eq_true rfl⟩
theorem isIn_no {l : List ByteArray} {s : ByteArray} (h : s ∉ l) : ¬ isIn l s = true := fun h2 => h (isIn_iff.1 h2)
theorem isin_l0 (l : List ByteArray) (s : ByteArray) (hn : l.length ≤ 9223372036854775807) (d : Nat) : ∀ (k i : Nat), i ≤ l.length → l.length - i = d → d < k → planispherelaw25_in.l0 k l s (i : Int) = some (isIn (l.drop i) s) := by
  induction d with
  | zero =>
    intro k i h0 hd hk
    obtain ⟨k, rfl⟩ : ∃ m, k = m + 1 := ⟨k - 1, by omega⟩
    simp only [planispherelaw25_in.l0]
    rw [if_neg (by omega), List.drop_of_length_le (show l.length ≤ i by omega)]
    rfl
  | succ d ih =>
    intro k i h0 hd hk
    obtain ⟨k, rfl⟩ : ∃ m, k = m + 1 := ⟨k - 1, by omega⟩
    have hlt : i < l.length := by omega
    simp only [planispherelaw25_in.l0]
    rw [if_pos (by omega), if_pos (by omega), rdOf_nat l i hlt, wrap_nat hlt hn, ih k (i + 1) (by omega) (by omega) (by omega)]
    have hd2 : isIn (l.drop i) s = (decide (l[i] = s) || isIn (l.drop (i + 1)) s) := by rw [List.drop_eq_getElem_cons hlt]; rfl
    rw [hd2]
    by_cases he : l[i] = s
    · rw [if_pos ((str_eq _ _).2 he), decide_eq_true he]
      rfl
    · rw [if_neg (fun h => he ((str_eq _ _).1 h)), decide_eq_false he]
      rfl
theorem isin_f (l : List ByteArray) (s : ByteArray) (hn : l.length ≤ 9223372036854775807) (k : Nat) (hk : l.length < k) : planispherelaw25_in.f k l s = some (isIn l s) := by
  unfold planispherelaw25_in.f
  have := isin_l0 l s hn l.length k 0 (by omega) (by omega) hk
  simpa using this

theorem different_l0 (l : List ByteArray) (hn : l.length ≤ 9223372036854775807) (d : Nat) : ∀ (i : Nat), i ≤ l.length → l.length - i = d → ∃ b, (b = true → (l.take i).Nodup → l.Nodup) ∧ ∀ k, l.length + 1 + d < k → planispherelaw25_different.l0 k l (i : Int) = some b := by
  induction d with
  | zero =>
    intro i h0 hd
    refine ⟨true, fun _ h => by rwa [List.take_of_length_le (by omega)] at h, fun k hk => ?_⟩
    obtain ⟨k, rfl⟩ : ∃ m, k = m + 1 := ⟨k - 1, by omega⟩
    simp only [planispherelaw25_different.l0]
    rw [if_neg (by omega)]
  | succ d ih =>
    intro i h0 hd
    have hlt : i < l.length := by omega
    obtain ⟨b, hb, hk0⟩ := ih (i + 1) (by omega) (by omega)
    by_cases hx : isIn (l.take i) l[i] = true
    · refine ⟨false, fun h => (by cases h), fun k hk => ?_⟩
      obtain ⟨k, rfl⟩ : ∃ m, k = m + 1 := ⟨k - 1, by omega⟩
      simp only [planispherelaw25_different.l0]
      rw [if_pos (by omega), if_pos (by omega), if_pos (by omega), rdOf_nat l i hlt, Int.toNat_natCast, isin_f _ _ (by rw [List.length_take]; omega) k (by rw [List.length_take]; omega), Option.bind_some, if_pos hx]
    · refine ⟨b, fun h hn2 => hb h ?_, fun k hk => ?_⟩
      · rw [List.take_succ_eq_append_getElem hlt]
        refine List.nodup_append.2 ⟨hn2, by simp, fun x h1 y h2 he => ?_⟩
        have : y = l[i] := by simpa using h2
        subst this
        subst he
        exact hx (isIn_iff.2 h1)
      · obtain ⟨k, rfl⟩ : ∃ m, k = m + 1 := ⟨k - 1, by omega⟩
        simp only [planispherelaw25_different.l0]
        rw [if_pos (by omega), if_pos (by omega), if_pos (by omega), rdOf_nat l i hlt, Int.toNat_natCast, isin_f _ _ (by rw [List.length_take]; omega) k (by rw [List.length_take]; omega), Option.bind_some, if_neg hx, wrap_nat hlt hn, hk0 k (by omega)]
theorem different_f (l : List ByteArray) (hn : l.length ≤ 9223372036854775807) : ∃ b, (b = true → l.Nodup) ∧ ∀ k, 2 * l.length + 1 < k → planispherelaw25_different.f k l = some b := by
  obtain ⟨b, h1, h2⟩ := different_l0 l hn l.length 0 (by omega) (by omega)
  exact ⟨b, fun h => h1 h (by simp), fun k hk => h2 k (by omega)⟩

end Go.Proofs.Ytebhophblgpjeaa.Seq
