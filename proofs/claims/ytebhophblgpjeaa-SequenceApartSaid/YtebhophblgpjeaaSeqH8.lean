/- The walk of the law SequenceApart: it returns true. -/
import Derived.Test.YtebhophblgpjeaaSeqC
import Derived.Test.YtebhophblgpjeaaSeqG
import Derived.Test.YtebhophblgpjeaaSeqK
import Derived.Test.YtebhophblgpjeaaSeqL
namespace Go.Proofs.Ytebhophblgpjeaa.Seq
open Go.RowKit Go.Proofs.YtebhophblgpjeaaW.PrintWords Go.Proofs.YtebhophblgpjeaaW.PrintLast Go.Proofs.YtebhophblgpjeaaW.PrintMore
attribute [local go_sem] max2_int min2_int max_two min_two max_three min_three max_four min_four
set_option linter.unusedVariables false
set_option linter.unusedSimpArgs false

/-- What the guard lets through. -/
def ApartOK (l0 l1 l2 l3 l4 : List ByteArray) : Prop := l0.length ≤ 10 ∧ l1.length ≤ 10 ∧ l2.length ≤ 10 ∧ l3.length ≤ 10 ∧ l4.length ≤ 10 ∧ l1 ≠ [] ∧ (l0 ++ l1 ++ l2).Nodup
theorem newBlk (w : World) (o : Obj) : (w.alloc o).heap[w.heap.size]? = some o := by show (w.heap.push o)[w.heap.size]? = some o; simp
theorem grow_no {l : List ByteArray} {x : Int} {P : ByteArray → Prop} (hx : x < (l.length : Int)) (h0 : 0 ≤ x) (hn : l.length ≤ 10) (h : ∀ y ∈ l.take x.toNat, P y) (hp : P (rdOf ByteArray.empty l x)) : ∀ y ∈ l.take (wrap64 (x + 1)).toNat, P y := by
  obtain ⟨n, rfl⟩ : ∃ n : Nat, x = (n : Int) := ⟨x.toNat, by omega⟩
  have hlt : n < l.length := by omega
  have e : (wrap64 ((n : Int) + 1)).toNat = n + 1 := by unfold wrap64; omega
  rw [e]
  intro y hy
  rw [List.take_succ_eq_append_getElem hlt] at hy
  rw [rdOf_nat l n hlt] at hp
  rcases List.mem_append.1 hy with hy | hy
  · exact h y (by rwa [Int.toNat_natCast])
  · have : y = l[n] := by simpa using hy
    exact this ▸ hp
theorem all_take {l : List ByteArray} {x : Int} {P : ByteArray → Prop} (h : ∀ y ∈ l.take x.toNat, P y) (hx : (l.length : Int) ≤ x) : ∀ y ∈ l, P y := by
  rwa [List.take_of_length_le (by omega)] at h
theorem bounds_of {l0 l1 l2 l3 l4 : List ByteArray} (h : ApartOK l0 l1 l2 l3 l4) : l0.length ≤ 10 ∧ l1.length ≤ 10 ∧ l2.length ≤ 10 ∧ l3.length ≤ 10 ∧ l4.length ≤ 10 := ⟨h.1, h.2.1, h.2.2.1, h.2.2.2.1, h.2.2.2.2.1⟩
theorem apart_merge {l0 l1 l2 l3 l4 : List ByteArray} (h : ApartOK l0 l1 l2 l3 l4) (h1 : ∀ y ∈ l3, y ∉ l1 ∧ y ∉ l2 ∧ y ∉ l4) (h2 : ∀ y ∈ l4, y ∉ l1 ∧ y ∉ l0) : sequence_Merge.f 1 (l0 ++ l1 ++ l2) (l3 ++ l1 ++ l2) (l0 ++ l1 ++ l4) = some (l3 ++ l1 ++ l4, true) := by
  obtain ⟨a0, a1, a2, a3, a4, hq, hn⟩ := h
  rw [merge_f _ _ _ 1 (by omega), merge_apart l0 l1 l2 l3 l4 hn hq (fun x hx => ⟨(h1 x hx).1, (h1 x hx).2.1⟩) (fun x hx => h2 x hx) (by simp only [List.length_append]; omega) (by simp only [List.length_append]; omega) (by simp only [List.length_append]; omega)]
theorem isIn_out {l : List ByteArray} {s : ByteArray} (h : false = isIn l s) : s ∉ l := fun hs => by rw [isIn_iff.2 hs] at h; cases h
set_option maxHeartbeats 4000000 in
set_option maxRecDepth 100000 in
theorem apart_calls (A0 : Option Addr) (c0 : Nat) (l0 : List ByteArray) (A1 : Option Addr) (c1 : Nat) (l1 : List ByteArray) (A2 : Option Addr) (c2 : Nat) (l2 : List ByteArray) (A3 : Option Addr) (c3 : Nat) (l3 : List ByteArray) (A4 : Option Addr) (c4 : Nat) (l4 : List ByteArray) (w : World)
    (hr0 : Kd.C Kd.string w A0 l0.length l0) (hc0 : l0.length ≤ c0) (hr1 : Kd.C Kd.string w A1 l1.length l1) (hc1 : l1.length ≤ c1) (hr2 : Kd.C Kd.string w A2 l2.length l2) (hc2 : l2.length ≤ c2) (hr3 : Kd.C Kd.string w A3 l3.length l3) (hc3 : l3.length ≤ c3) (hr4 : Kd.C Kd.string w A4 l4.length l4) (hc4 : l4.length ≤ c4) :
    Calls Try.prog 8 #[.slice A0 l0.length c0, .slice A1 l1.length c1, .slice A2 l2.length c2, .slice A3 l3.length c3, .slice A4 l4.length c4] w fun e w' => e = .returned (.bool true) ∧ Below w.heap.size w w' := by
  have HR0 := Aside0.mk hr0
  have HC0 := Aside0.mk hc0
  have HR1 := Aside0.mk hr1
  have HC1 := Aside0.mk hc1
  have HR2 := Aside0.mk hr2
  have HC2 := Aside0.mk hc2
  have HR3 := Aside0.mk hr3
  have HC3 := Aside0.mk hc3
  have HR4 := Aside0.mk hr4
  have HC4 := Aside0.mk hc4
  clear hr0 hc0 hr1 hc1 hr2 hc2 hr3 hc3 hr4 hc4
  have HB := Aside0.mk (Below.refl w.heap.size w)
  go_enter Try.func8, Try.ntmps8
  go_upto_region 2 with (first | (go_at_call 9; (with_reducible refine (planispherelaw25_head.calls 20 true _ (head_f 20 (Nat.le_refl _))).mono ?_); rintro e w6 ⟨rfl, hb⟩; have n0_ := Aside0.mk (below_step HB.out hb); clear HB; have HB := n0_; clear n0_; clear hb))
  (try simp only [Act.put, List.setIfInBounds_toArray, List.set_cons_zero, List.set_cons_succ])
  go_cut [70] (fun v70 wc => ∃ (x : Bool), v70 = .bool x ∧ Aside0 (x = false → ApartOK l0 l1 l2 l3 l4) ∧ Aside0 (Below w.heap.size w wc))
  case first =>
    by_cases d0 : 10 < (l0.length : Int)
    · go_wp2_with fail
      go_meet
      case rel => exact ⟨true, (by first | rfl | (simp; done) | (simp [*]; done)), ⟨fun h => (by cases h)⟩, ⟨HB.out⟩⟩
    by_cases d1 : 10 < (l1.length : Int)
    · go_wp2_with fail
      go_meet
      case rel => exact ⟨true, (by first | rfl | (simp; done) | (simp [*]; done)), ⟨fun h => (by cases h)⟩, ⟨HB.out⟩⟩
    by_cases d2 : 10 < (l2.length : Int)
    · go_wp2_with fail
      go_meet
      case rel => exact ⟨true, (by first | rfl | (simp; done) | (simp [*]; done)), ⟨fun h => (by cases h)⟩, ⟨HB.out⟩⟩
    by_cases d3 : 10 < (l3.length : Int)
    · go_wp2_with fail
      go_meet
      case rel => exact ⟨true, (by first | rfl | (simp; done) | (simp [*]; done)), ⟨fun h => (by cases h)⟩, ⟨HB.out⟩⟩
    by_cases d4 : 10 < (l4.length : Int)
    · go_wp2_with fail
      go_meet
      case rel => exact ⟨true, (by first | rfl | (simp; done) | (simp [*]; done)), ⟨fun h => (by cases h)⟩, ⟨HB.out⟩⟩
    obtain ⟨L0, hL0⟩ : ∃ L, Aside0 (L = l0 ++ l1 ++ l2) := ⟨_, ⟨rfl⟩⟩
    obtain ⟨L1, hL1⟩ : ∃ L, Aside0 (L = l3 ++ l4) := ⟨_, ⟨rfl⟩⟩
    have DD := Aside0.mk (And.intro d0 (And.intro d1 (And.intro d2 (And.intro d3 d4))))
    obtain ⟨b0, hb0, hf0⟩ := few_f L0 (by have := hL0.out; subst this; simp only [List.length_append]; omega)
    obtain ⟨b1, hb1, hf1⟩ := few_f L1 (by have := hL1.out; subst this; simp only [List.length_append]; omega)
    have HF0 := Aside0.mk (hf0 64 (Nat.le_refl _))
    have HF1 := Aside0.mk (hf1 64 (Nat.le_refl _))
    clear hb0 hf0 hb1 hf1
    cases b0
    · skip
      go_wp2_with fail
      refine (joined3L _ A0 A1 A2 _ _ _ l0 l1 l2 L0 hL0 _ ?g1 ?r1_0 HC0.out ?r1_1 HC1.out ?r1_2 HC2.out (by have := DD.out; omega) (by have := DD.out; omega) (by have := DD.out; omega)).mono ?_
      case g1 => exact newBlk _ _
      case r1_0 => repeat (first | exact (Kd.C_below HR0.out (by repeat (first | (with_reducible first | exact HB.out | apply below_alloc | apply pw_below_drewN | apply below_drew1) | exact HB.out))) | (with_reducible refine Kd.C_alloc ?_ _) | (with_reducible refine Kd.C_drewN ?_ _) | (with_reducible refine Kd.C_drew ?_))
      case r1_1 => repeat (first | exact (Kd.C_below HR1.out (by repeat (first | (with_reducible first | exact HB.out | apply below_alloc | apply pw_below_drewN | apply below_drew1) | exact HB.out))) | (with_reducible refine Kd.C_alloc ?_ _) | (with_reducible refine Kd.C_drewN ?_ _) | (with_reducible refine Kd.C_drew ?_))
      case r1_2 => repeat (first | exact (Kd.C_below HR2.out (by repeat (first | (with_reducible first | exact HB.out | apply below_alloc | apply pw_below_drewN | apply below_drew1) | exact HB.out))) | (with_reducible refine Kd.C_alloc ?_ _) | (with_reducible refine Kd.C_drewN ?_ _) | (with_reducible refine Kd.C_drew ?_))
      rintro e wj1 ⟨A5, c5, rfl, hc5, hA5, hb⟩
      have n0_ := Aside0.mk (below_step (by repeat (first | (with_reducible first | exact HB.out | apply below_alloc | apply pw_below_drewN | apply below_drew1) | exact HB.out)) hb); clear HB; have HB := n0_; clear n0_; clear hb
      have Hc5 := Aside0.mk hc5; clear hc5; have HA5 := Aside0.mk hA5; clear hA5
      go_wp2_with fail
      refine (planisphereref25_Few.calls 64 _ _ L0 false _ HA5.out Hc5.out HF0.out).mono ?_
      rintro e w' ⟨rfl, ⟨nd, rfl⟩⟩
      go_wp2_with fail
      go_meet
      case rel => exact ⟨true, (by first | rfl | (simp; done) | (simp [*]; done)), ⟨fun h => (by cases h)⟩, ⟨(by repeat (first | (with_reducible first | exact HB.out | apply below_alloc | apply pw_below_drewN | apply below_drew1) | exact HB.out))⟩⟩
    · skip
      go_wp2_with fail
      refine (joined3L _ A0 A1 A2 _ _ _ l0 l1 l2 L0 hL0 _ ?g2 ?r2_0 HC0.out ?r2_1 HC1.out ?r2_2 HC2.out (by have := DD.out; omega) (by have := DD.out; omega) (by have := DD.out; omega)).mono ?_
      case g2 => exact newBlk _ _
      case r2_0 => repeat (first | exact (Kd.C_below HR0.out (by repeat (first | (with_reducible first | exact HB.out | apply below_alloc | apply pw_below_drewN | apply below_drew1) | exact HB.out))) | (with_reducible refine Kd.C_alloc ?_ _) | (with_reducible refine Kd.C_drewN ?_ _) | (with_reducible refine Kd.C_drew ?_))
      case r2_1 => repeat (first | exact (Kd.C_below HR1.out (by repeat (first | (with_reducible first | exact HB.out | apply below_alloc | apply pw_below_drewN | apply below_drew1) | exact HB.out))) | (with_reducible refine Kd.C_alloc ?_ _) | (with_reducible refine Kd.C_drewN ?_ _) | (with_reducible refine Kd.C_drew ?_))
      case r2_2 => repeat (first | exact (Kd.C_below HR2.out (by repeat (first | (with_reducible first | exact HB.out | apply below_alloc | apply pw_below_drewN | apply below_drew1) | exact HB.out))) | (with_reducible refine Kd.C_alloc ?_ _) | (with_reducible refine Kd.C_drewN ?_ _) | (with_reducible refine Kd.C_drew ?_))
      rintro e wj2 ⟨A5, c5, rfl, hc5, hA5, hb⟩
      have n0_ := Aside0.mk (below_step (by repeat (first | (with_reducible first | exact HB.out | apply below_alloc | apply pw_below_drewN | apply below_drew1) | exact HB.out)) hb); clear HB; have HB := n0_; clear n0_; clear hb
      have Hc5 := Aside0.mk hc5; clear hc5; have HA5 := Aside0.mk hA5; clear hA5
      go_wp2_with fail
      refine (planisphereref25_Few.calls 64 _ _ L0 true _ HA5.out Hc5.out HF0.out).mono ?_
      rintro e w' ⟨rfl, ⟨nd, rfl⟩⟩
      cases b1
      · skip
        go_wp2_with fail
        refine (joined2L _ A3 A4 _ _ l3 l4 L1 hL1 _ ?g3 ?r3_0 HC3.out ?r3_1 HC4.out (by have := DD.out; omega) (by have := DD.out; omega)).mono ?_
        case g3 => exact newBlk _ _
        case r3_0 => repeat (first | exact (Kd.C_below HR3.out (by repeat (first | (with_reducible first | exact HB.out | apply below_alloc | apply pw_below_drewN | apply below_drew1) | exact HB.out))) | (with_reducible refine Kd.C_alloc ?_ _) | (with_reducible refine Kd.C_drewN ?_ _) | (with_reducible refine Kd.C_drew ?_))
        case r3_1 => repeat (first | exact (Kd.C_below HR4.out (by repeat (first | (with_reducible first | exact HB.out | apply below_alloc | apply pw_below_drewN | apply below_drew1) | exact HB.out))) | (with_reducible refine Kd.C_alloc ?_ _) | (with_reducible refine Kd.C_drewN ?_ _) | (with_reducible refine Kd.C_drew ?_))
        rintro e wj3 ⟨A6, c6, rfl, hc6, hA6, hb⟩
        have n0_ := Aside0.mk (below_step (by repeat (first | (with_reducible first | exact HB.out | apply below_alloc | apply pw_below_drewN | apply below_drew1) | exact HB.out)) hb); clear HB; have HB := n0_; clear n0_; clear hb
        have Hc6 := Aside0.mk hc6; clear hc6; have HA6 := Aside0.mk hA6; clear hA6
        go_wp2_with fail
        refine (planisphereref25_Few.calls 64 _ _ L1 false _ HA6.out Hc6.out HF1.out).mono ?_
        rintro e w' ⟨rfl, ⟨nd, rfl⟩⟩
        go_wp2_with fail
        go_meet
        case rel => exact ⟨true, (by first | rfl | (simp; done) | (simp [*]; done)), ⟨fun h => (by cases h)⟩, ⟨(by repeat (first | (with_reducible first | exact HB.out | apply below_alloc | apply pw_below_drewN | apply below_drew1) | exact HB.out))⟩⟩
      · skip
        go_wp2_with fail
        refine (joined2L _ A3 A4 _ _ l3 l4 L1 hL1 _ ?g4 ?r4_0 HC3.out ?r4_1 HC4.out (by have := DD.out; omega) (by have := DD.out; omega)).mono ?_
        case g4 => exact newBlk _ _
        case r4_0 => repeat (first | exact (Kd.C_below HR3.out (by repeat (first | (with_reducible first | exact HB.out | apply below_alloc | apply pw_below_drewN | apply below_drew1) | exact HB.out))) | (with_reducible refine Kd.C_alloc ?_ _) | (with_reducible refine Kd.C_drewN ?_ _) | (with_reducible refine Kd.C_drew ?_))
        case r4_1 => repeat (first | exact (Kd.C_below HR4.out (by repeat (first | (with_reducible first | exact HB.out | apply below_alloc | apply pw_below_drewN | apply below_drew1) | exact HB.out))) | (with_reducible refine Kd.C_alloc ?_ _) | (with_reducible refine Kd.C_drewN ?_ _) | (with_reducible refine Kd.C_drew ?_))
        rintro e wj4 ⟨A6, c6, rfl, hc6, hA6, hb⟩
        have n0_ := Aside0.mk (below_step (by repeat (first | (with_reducible first | exact HB.out | apply below_alloc | apply pw_below_drewN | apply below_drew1) | exact HB.out)) hb); clear HB; have HB := n0_; clear n0_; clear hb
        have Hc6 := Aside0.mk hc6; clear hc6; have HA6 := Aside0.mk hA6; clear hA6
        go_wp2_with fail
        refine (planisphereref25_Few.calls 64 _ _ L1 true _ HA6.out Hc6.out HF1.out).mono ?_
        rintro e w' ⟨rfl, ⟨nd, rfl⟩⟩
        by_cases hq : l1.length = 0
        · have hq2 : ((l1.length : Int) == 0) = true := by simpa using hq
          have HQ := Aside0.mk hq; clear hq
          go_wp2_with fail
          go_meet
          case rel => exact ⟨true, (by first | rfl | (simp; done) | (simp [*]; done)), ⟨fun h => (by cases h)⟩, ⟨(by repeat (first | (with_reducible first | exact HB.out | apply below_alloc | apply pw_below_drewN | apply below_drew1) | exact HB.out))⟩⟩
        · have hq2 : ((l1.length : Int) == 0) = false := by simpa using hq
          have HQ := Aside0.mk hq; clear hq
          obtain ⟨b2, hb2, hf2⟩ := different_f L0 (by have := hL0.out; subst this; simp only [List.length_append]; have := DD.out; omega)
          have HF2 := Aside0.mk (hf2 100 (by have := hL0.out; subst this; simp only [List.length_append]; have := DD.out; omega))
          have HN2 := Aside0.mk hb2
          clear hb2 hf2
          go_wp2_with fail
          refine (joined3L _ A0 A1 A2 _ _ _ l0 l1 l2 L0 hL0 _ ?g5 ?r5_0 HC0.out ?r5_1 HC1.out ?r5_2 HC2.out (by have := DD.out; omega) (by have := DD.out; omega) (by have := DD.out; omega)).mono ?_
          case g5 => exact newBlk _ _
          case r5_0 => repeat (first | exact (Kd.C_below HR0.out (by repeat (first | (with_reducible first | exact HB.out | apply below_alloc | apply pw_below_drewN | apply below_drew1) | exact HB.out))) | (with_reducible refine Kd.C_alloc ?_ _) | (with_reducible refine Kd.C_drewN ?_ _) | (with_reducible refine Kd.C_drew ?_))
          case r5_1 => repeat (first | exact (Kd.C_below HR1.out (by repeat (first | (with_reducible first | exact HB.out | apply below_alloc | apply pw_below_drewN | apply below_drew1) | exact HB.out))) | (with_reducible refine Kd.C_alloc ?_ _) | (with_reducible refine Kd.C_drewN ?_ _) | (with_reducible refine Kd.C_drew ?_))
          case r5_2 => repeat (first | exact (Kd.C_below HR2.out (by repeat (first | (with_reducible first | exact HB.out | apply below_alloc | apply pw_below_drewN | apply below_drew1) | exact HB.out))) | (with_reducible refine Kd.C_alloc ?_ _) | (with_reducible refine Kd.C_drewN ?_ _) | (with_reducible refine Kd.C_drew ?_))
          rintro e wj5 ⟨A7, c7, rfl, hc7, hA7, hb⟩
          have n0_ := Aside0.mk (below_step (by repeat (first | (with_reducible first | exact HB.out | apply below_alloc | apply pw_below_drewN | apply below_drew1) | exact HB.out)) hb); clear HB; have HB := n0_; clear n0_; clear hb
          have Hc7 := Aside0.mk hc7; clear hc7; have HA7 := Aside0.mk hA7; clear hA7
          go_wp2_with fail
          refine (planispherelaw25_different.calls 100 _ _ L0 b2 _ HA7.out Hc7.out HF2.out).mono ?_
          rintro e w' ⟨rfl, ⟨nd, rfl⟩⟩
          go_wp2_with fail
          go_meet
          case rel => exact ⟨!b2, (by first | rfl | (simp; done) | (simp [*]; done)), ⟨fun h => ⟨by have := DD.out; omega, by have := DD.out; omega, by have := DD.out; omega, by have := DD.out; omega, by have := DD.out; omega, fun e => HQ.out (by rw [e]; rfl), by have := hL0.out; rw [← this]; exact HN2.out (by simpa using h)⟩⟩, ⟨(by repeat (first | (with_reducible first | exact HB.out | apply below_alloc | apply pw_below_drewN | apply below_drew1) | exact HB.out))⟩⟩
  case rest =>
    obtain ⟨x, rfl, HX, HB⟩ := hcut
    by_cases cx : x = true
    · subst cx
      go_wp2_with fail
      go_ret
      exact ⟨by first | rfl | (simp; done) | (simp [*]; done), HB.out⟩
    · replace cx := Bool.eq_false_iff.mpr cx
      subst cx
      have HOK := Aside0.mk (HX.out rfl)
      clear HX
      go_wp2_with fail
      go_loopg [12] l3.length (fun kq v12 w' => ∃ x : Int, v12 = .int .i64 x ∧ Aside0 (0 ≤ x ∧ x ≤ (l3.length : Int) ∧ (kq : Int) + x = (l3.length : Int)) ∧ Aside0 (∀ y ∈ l3.take x.toNat, y ∉ l1 ∧ y ∉ l2 ∧ y ∉ l4) ∧ Aside0 (Below w.heap.size w w'))
      case atStart => exact ⟨0, (by first | rfl | (simp; done)), ⟨by omega⟩, ⟨fun y hy => by simp at hy⟩, ⟨(by repeat (first | (with_reducible first | exact HB.out | apply below_alloc | apply pw_below_drewN | apply below_drew1) | exact HB.out))⟩⟩
      case round =>
        clear HB
        obtain ⟨x, rfl, HK1, HF1_, HB⟩ := hrel
        by_cases cl : x < (l3.length : Int)
        · have cb0 : decide (x < (l3.length : Int)) = true := decide_eq_true cl
          have cb1 : decide (0 ≤ x) = true := decide_eq_true (by have := HK1.out; omega)
          have LT := Aside0.mk cl
          clear cl
          have p4 : 0 ≤ (x : Int) := by have := HK1.out; omega
          have q4 : x < (l3.length : Int) := LT.out
          obtain ⟨ad4, e4, hx4⟩ := Kd.at_string (Kd.C_below HR3.out HB.out) x p4 q4
          cases e4
          replace p4 := eq_true p4
          replace q4 := eq_true q4
          obtain ⟨b0_, hb0_, F0_⟩ : ∃ b, Aside0 (b = isIn l1 (rdOf ByteArray.empty l3 x)) ∧ Aside0 (planispherelaw25_in.f 20 l1 (rdOf ByteArray.empty l3 x) = some b) := ⟨_, ⟨rfl⟩, ⟨isin_f l1 (rdOf ByteArray.empty l3 x) (by have := HOK.out; unfold ApartOK at this; omega) 20 (by have := HOK.out; unfold ApartOK at this; omega)⟩⟩
          obtain ⟨b1_, hb1_, F1_⟩ : ∃ b, Aside0 (b = isIn l2 (rdOf ByteArray.empty l3 x)) ∧ Aside0 (planispherelaw25_in.f 20 l2 (rdOf ByteArray.empty l3 x) = some b) := ⟨_, ⟨rfl⟩, ⟨isin_f l2 (rdOf ByteArray.empty l3 x) (by have := HOK.out; unfold ApartOK at this; omega) 20 (by have := HOK.out; unfold ApartOK at this; omega)⟩⟩
          obtain ⟨b2_, hb2_, F2_⟩ : ∃ b, Aside0 (b = isIn l4 (rdOf ByteArray.empty l3 x)) ∧ Aside0 (planispherelaw25_in.f 20 l4 (rdOf ByteArray.empty l3 x) = some b) := ⟨_, ⟨rfl⟩, ⟨isin_f l4 (rdOf ByteArray.empty l3 x) (by have := HOK.out; unfold ApartOK at this; omega) 20 (by have := HOK.out; unfold ApartOK at this; omega)⟩⟩
          cases b0_
          · skip
            cases b1_
            · skip
              cases b2_
              · skip
                go_wp2_with (first | ((go_at_call 18; (with_reducible refine (planispherelaw25_in.calls 20 _ _ l1 (rdOf ByteArray.empty l3 x) false _ ?in11a3_1 ?in11a3_2 F0_.out).mono ?_); (case in11a3_1 => repeat (first | exact (Kd.C_below HR1.out HB.out) | (with_reducible refine Kd.C_alloc ?_ _) | (with_reducible refine Kd.C_drewN ?_ _) | (with_reducible refine Kd.C_drew ?_))); (case in11a3_2 => exact HC1.out); rintro e w' ⟨rfl, ⟨nd, rfl⟩⟩)) | ((go_at_call 18; (with_reducible refine (planispherelaw25_in.calls 20 _ _ l2 (rdOf ByteArray.empty l3 x) false _ ?in12b3_1 ?in12b3_2 F1_.out).mono ?_); (case in12b3_1 => repeat (first | exact (Kd.C_below HR2.out HB.out) | (with_reducible refine Kd.C_alloc ?_ _) | (with_reducible refine Kd.C_drewN ?_ _) | (with_reducible refine Kd.C_drew ?_))); (case in12b3_2 => exact HC2.out); rintro e w' ⟨rfl, ⟨nd, rfl⟩⟩)) | ((go_at_call 18; (with_reducible refine (planispherelaw25_in.calls 20 _ _ l4 (rdOf ByteArray.empty l3 x) false _ ?in14c3_1 ?in14c3_2 F2_.out).mono ?_); (case in14c3_1 => repeat (first | exact (Kd.C_below HR4.out HB.out) | (with_reducible refine Kd.C_alloc ?_ _) | (with_reducible refine Kd.C_drewN ?_ _) | (with_reducible refine Kd.C_drew ?_))); (case in14c3_2 => exact HC4.out); rintro e w' ⟨rfl, ⟨nd, rfl⟩⟩)))
                go_roundg (gk - 1)
                case measure => have := HK1.out; have := LT.out; omega
                case rel => exact ⟨(wrap64 (x + 1)), (by first | rfl | (simp; done) | (simp [*]; done)), ⟨by have := HK1.out; have := LT.out; have := HOK.out; unfold ApartOK at this; unfold wrap64; omega⟩, ⟨grow_no LT.out HK1.out.1 (by have := HOK.out; unfold ApartOK at this; omega) HF1_.out (by exact ⟨isIn_out hb0_.out, isIn_out hb1_.out, isIn_out hb2_.out⟩)⟩, ⟨(by repeat (first | (with_reducible first | exact HB.out | apply below_alloc | apply pw_below_drewN | apply below_drew1) | exact HB.out))⟩⟩
              · skip
                go_wp2_with (first | ((go_at_call 18; (with_reducible refine (planispherelaw25_in.calls 20 _ _ l1 (rdOf ByteArray.empty l3 x) false _ ?in11a3_1 ?in11a3_2 F0_.out).mono ?_); (case in11a3_1 => repeat (first | exact (Kd.C_below HR1.out HB.out) | (with_reducible refine Kd.C_alloc ?_ _) | (with_reducible refine Kd.C_drewN ?_ _) | (with_reducible refine Kd.C_drew ?_))); (case in11a3_2 => exact HC1.out); rintro e w' ⟨rfl, ⟨nd, rfl⟩⟩)) | ((go_at_call 18; (with_reducible refine (planispherelaw25_in.calls 20 _ _ l2 (rdOf ByteArray.empty l3 x) false _ ?in12b3_1 ?in12b3_2 F1_.out).mono ?_); (case in12b3_1 => repeat (first | exact (Kd.C_below HR2.out HB.out) | (with_reducible refine Kd.C_alloc ?_ _) | (with_reducible refine Kd.C_drewN ?_ _) | (with_reducible refine Kd.C_drew ?_))); (case in12b3_2 => exact HC2.out); rintro e w' ⟨rfl, ⟨nd, rfl⟩⟩)) | ((go_at_call 18; (with_reducible refine (planispherelaw25_in.calls 20 _ _ l4 (rdOf ByteArray.empty l3 x) true _ ?in14c3_1 ?in14c3_2 F2_.out).mono ?_); (case in14c3_1 => repeat (first | exact (Kd.C_below HR4.out HB.out) | (with_reducible refine Kd.C_alloc ?_ _) | (with_reducible refine Kd.C_drewN ?_ _) | (with_reducible refine Kd.C_drew ?_))); (case in14c3_2 => exact HC4.out); rintro e w' ⟨rfl, ⟨nd, rfl⟩⟩)))
                go_ret
                exact ⟨by first | rfl | (simp; done) | (simp [*]; done), (by repeat (first | (with_reducible first | exact HB.out | apply below_alloc | apply pw_below_drewN | apply below_drew1) | exact HB.out))⟩
            · skip
              go_wp2_with (first | ((go_at_call 18; (with_reducible refine (planispherelaw25_in.calls 20 _ _ l1 (rdOf ByteArray.empty l3 x) false _ ?in11a2_1 ?in11a2_2 F0_.out).mono ?_); (case in11a2_1 => repeat (first | exact (Kd.C_below HR1.out HB.out) | (with_reducible refine Kd.C_alloc ?_ _) | (with_reducible refine Kd.C_drewN ?_ _) | (with_reducible refine Kd.C_drew ?_))); (case in11a2_2 => exact HC1.out); rintro e w' ⟨rfl, ⟨nd, rfl⟩⟩)) | ((go_at_call 18; (with_reducible refine (planispherelaw25_in.calls 20 _ _ l2 (rdOf ByteArray.empty l3 x) true _ ?in12b2_1 ?in12b2_2 F1_.out).mono ?_); (case in12b2_1 => repeat (first | exact (Kd.C_below HR2.out HB.out) | (with_reducible refine Kd.C_alloc ?_ _) | (with_reducible refine Kd.C_drewN ?_ _) | (with_reducible refine Kd.C_drew ?_))); (case in12b2_2 => exact HC2.out); rintro e w' ⟨rfl, ⟨nd, rfl⟩⟩)))
              go_ret
              exact ⟨by first | rfl | (simp; done) | (simp [*]; done), (by repeat (first | (with_reducible first | exact HB.out | apply below_alloc | apply pw_below_drewN | apply below_drew1) | exact HB.out))⟩
          · skip
            go_wp2_with (first | ((go_at_call 18; (with_reducible refine (planispherelaw25_in.calls 20 _ _ l1 (rdOf ByteArray.empty l3 x) true _ ?in11a1_1 ?in11a1_2 F0_.out).mono ?_); (case in11a1_1 => repeat (first | exact (Kd.C_below HR1.out HB.out) | (with_reducible refine Kd.C_alloc ?_ _) | (with_reducible refine Kd.C_drewN ?_ _) | (with_reducible refine Kd.C_drew ?_))); (case in11a1_2 => exact HC1.out); rintro e w' ⟨rfl, ⟨nd, rfl⟩⟩)))
            go_ret
            exact ⟨by first | rfl | (simp; done) | (simp [*]; done), (by repeat (first | (with_reducible first | exact HB.out | apply below_alloc | apply pw_below_drewN | apply below_drew1) | exact HB.out))⟩
        · have HALL := Aside0.mk (all_take HF1_.out (by have := HK1.out; omega))
          have HALL1 := HALL; clear HALL HK1 HF1_
          have cb0 : decide (x < (l3.length : Int)) = false := decide_eq_false cl
          clear cl
          go_wp2_with fail
          go_loopg [13] l4.length (fun kq v13 w' => ∃ x : Int, v13 = .int .i64 x ∧ Aside0 (0 ≤ x ∧ x ≤ (l4.length : Int) ∧ (kq : Int) + x = (l4.length : Int)) ∧ Aside0 (∀ y ∈ l4.take x.toNat, y ∉ l1 ∧ y ∉ l0) ∧ Aside0 (Below w.heap.size w w'))
          case atStart => exact ⟨0, (by first | rfl | (simp; done)), ⟨by omega⟩, ⟨fun y hy => by simp at hy⟩, ⟨(by repeat (first | (with_reducible first | exact HB.out | apply below_alloc | apply pw_below_drewN | apply below_drew1) | exact HB.out))⟩⟩
          case round =>
            clear HB
            obtain ⟨x, rfl, HK2, HF2_, HB⟩ := hrel
            by_cases cl : x < (l4.length : Int)
            · have cb0 : decide (x < (l4.length : Int)) = true := decide_eq_true cl
              have cb1 : decide (0 ≤ x) = true := decide_eq_true (by have := HK2.out; omega)
              have LT := Aside0.mk cl
              clear cl
              have p4 : 0 ≤ (x : Int) := by have := HK2.out; omega
              have q4 : x < (l4.length : Int) := LT.out
              obtain ⟨ad4, e4, hx4⟩ := Kd.at_string (Kd.C_below HR4.out HB.out) x p4 q4
              cases e4
              replace p4 := eq_true p4
              replace q4 := eq_true q4
              obtain ⟨b0_, hb0_, F0_⟩ : ∃ b, Aside0 (b = isIn l1 (rdOf ByteArray.empty l4 x)) ∧ Aside0 (planispherelaw25_in.f 20 l1 (rdOf ByteArray.empty l4 x) = some b) := ⟨_, ⟨rfl⟩, ⟨isin_f l1 (rdOf ByteArray.empty l4 x) (by have := HOK.out; unfold ApartOK at this; omega) 20 (by have := HOK.out; unfold ApartOK at this; omega)⟩⟩
              obtain ⟨b1_, hb1_, F1_⟩ : ∃ b, Aside0 (b = isIn l0 (rdOf ByteArray.empty l4 x)) ∧ Aside0 (planispherelaw25_in.f 20 l0 (rdOf ByteArray.empty l4 x) = some b) := ⟨_, ⟨rfl⟩, ⟨isin_f l0 (rdOf ByteArray.empty l4 x) (by have := HOK.out; unfold ApartOK at this; omega) 20 (by have := HOK.out; unfold ApartOK at this; omega)⟩⟩
              cases b0_
              · skip
                cases b1_
                · skip
                  go_wp2_with (first | ((go_at_call 18; (with_reducible refine (planispherelaw25_in.calls 20 _ _ l1 (rdOf ByteArray.empty l4 x) false _ ?in21a2_1 ?in21a2_2 F0_.out).mono ?_); (case in21a2_1 => repeat (first | exact (Kd.C_below HR1.out HB.out) | (with_reducible refine Kd.C_alloc ?_ _) | (with_reducible refine Kd.C_drewN ?_ _) | (with_reducible refine Kd.C_drew ?_))); (case in21a2_2 => exact HC1.out); rintro e w' ⟨rfl, ⟨nd, rfl⟩⟩)) | ((go_at_call 18; (with_reducible refine (planispherelaw25_in.calls 20 _ _ l0 (rdOf ByteArray.empty l4 x) false _ ?in20b2_1 ?in20b2_2 F1_.out).mono ?_); (case in20b2_1 => repeat (first | exact (Kd.C_below HR0.out HB.out) | (with_reducible refine Kd.C_alloc ?_ _) | (with_reducible refine Kd.C_drewN ?_ _) | (with_reducible refine Kd.C_drew ?_))); (case in20b2_2 => exact HC0.out); rintro e w' ⟨rfl, ⟨nd, rfl⟩⟩)))
                  go_roundg (gk - 1)
                  case measure => have := HK2.out; have := LT.out; omega
                  case rel => exact ⟨(wrap64 (x + 1)), (by first | rfl | (simp; done) | (simp [*]; done)), ⟨by have := HK2.out; have := LT.out; have := HOK.out; unfold ApartOK at this; unfold wrap64; omega⟩, ⟨grow_no LT.out HK2.out.1 (by have := HOK.out; unfold ApartOK at this; omega) HF2_.out (by exact ⟨isIn_out hb0_.out, isIn_out hb1_.out⟩)⟩, ⟨(by repeat (first | (with_reducible first | exact HB.out | apply below_alloc | apply pw_below_drewN | apply below_drew1) | exact HB.out))⟩⟩
                · skip
                  go_wp2_with (first | ((go_at_call 18; (with_reducible refine (planispherelaw25_in.calls 20 _ _ l1 (rdOf ByteArray.empty l4 x) false _ ?in21a2_1 ?in21a2_2 F0_.out).mono ?_); (case in21a2_1 => repeat (first | exact (Kd.C_below HR1.out HB.out) | (with_reducible refine Kd.C_alloc ?_ _) | (with_reducible refine Kd.C_drewN ?_ _) | (with_reducible refine Kd.C_drew ?_))); (case in21a2_2 => exact HC1.out); rintro e w' ⟨rfl, ⟨nd, rfl⟩⟩)) | ((go_at_call 18; (with_reducible refine (planispherelaw25_in.calls 20 _ _ l0 (rdOf ByteArray.empty l4 x) true _ ?in20b2_1 ?in20b2_2 F1_.out).mono ?_); (case in20b2_1 => repeat (first | exact (Kd.C_below HR0.out HB.out) | (with_reducible refine Kd.C_alloc ?_ _) | (with_reducible refine Kd.C_drewN ?_ _) | (with_reducible refine Kd.C_drew ?_))); (case in20b2_2 => exact HC0.out); rintro e w' ⟨rfl, ⟨nd, rfl⟩⟩)))
                  go_ret
                  exact ⟨by first | rfl | (simp; done) | (simp [*]; done), (by repeat (first | (with_reducible first | exact HB.out | apply below_alloc | apply pw_below_drewN | apply below_drew1) | exact HB.out))⟩
              · skip
                go_wp2_with (first | ((go_at_call 18; (with_reducible refine (planispherelaw25_in.calls 20 _ _ l1 (rdOf ByteArray.empty l4 x) true _ ?in21a1_1 ?in21a1_2 F0_.out).mono ?_); (case in21a1_1 => repeat (first | exact (Kd.C_below HR1.out HB.out) | (with_reducible refine Kd.C_alloc ?_ _) | (with_reducible refine Kd.C_drewN ?_ _) | (with_reducible refine Kd.C_drew ?_))); (case in21a1_2 => exact HC1.out); rintro e w' ⟨rfl, ⟨nd, rfl⟩⟩)))
                go_ret
                exact ⟨by first | rfl | (simp; done) | (simp [*]; done), (by repeat (first | (with_reducible first | exact HB.out | apply below_alloc | apply pw_below_drewN | apply below_drew1) | exact HB.out))⟩
            · have HALL := Aside0.mk (all_take HF2_.out (by have := HK2.out; omega))
              have HALL2 := HALL; clear HALL HK2 HF2_
              have cb0 : decide (x < (l4.length : Int)) = false := decide_eq_false cl
              clear cl
              go_wp2_with fail
              obtain ⟨L0, hL0⟩ : ∃ L, Aside0 (L = l0 ++ l1 ++ l2) := ⟨_, ⟨rfl⟩⟩
              obtain ⟨L2, hL2⟩ : ∃ L, Aside0 (L = l3 ++ l1 ++ l2) := ⟨_, ⟨rfl⟩⟩
              obtain ⟨L3, hL3⟩ : ∃ L, Aside0 (L = l0 ++ l1 ++ l4) := ⟨_, ⟨rfl⟩⟩
              obtain ⟨L4, hL4⟩ : ∃ L, Aside0 (L = l3 ++ l1 ++ l4) := ⟨_, ⟨rfl⟩⟩
              have DD := Aside0.mk (bounds_of HOK.out)
              have HM : Aside0 (sequence_Merge.f 1 L0 L2 L3 = some (L4, true)) := ⟨by rw [hL0.out, hL2.out, hL3.out, hL4.out]; exact apart_merge HOK.out HALL1.out HALL2.out⟩
              have HS : Aside0 (planisphereref25_Same.f 100 L4 L4 = some true) := ⟨by rw [same_f L4 L4 (by rw [hL4.out]; simp only [List.length_append]; have := DD.out; omega) 100 (by rw [hL4.out]; simp only [List.length_append]; have := DD.out; omega), decide_eq_true rfl]⟩
              clear HALL1 HALL2 HOK
              refine (joined3L _ A0 A1 A2 _ _ _ l0 l1 l2 L0 hL0 _ ?g6 ?r6_0 HC0.out ?r6_1 HC1.out ?r6_2 HC2.out (by have := DD.out; omega) (by have := DD.out; omega) (by have := DD.out; omega)).mono ?_
              case g6 => exact newBlk _ _
              case r6_0 => repeat (first | exact (Kd.C_below HR0.out (by repeat (first | (with_reducible first | exact HB.out | apply below_alloc | apply pw_below_drewN | apply below_drew1) | exact HB.out))) | (with_reducible refine Kd.C_alloc ?_ _) | (with_reducible refine Kd.C_drewN ?_ _) | (with_reducible refine Kd.C_drew ?_))
              case r6_1 => repeat (first | exact (Kd.C_below HR1.out (by repeat (first | (with_reducible first | exact HB.out | apply below_alloc | apply pw_below_drewN | apply below_drew1) | exact HB.out))) | (with_reducible refine Kd.C_alloc ?_ _) | (with_reducible refine Kd.C_drewN ?_ _) | (with_reducible refine Kd.C_drew ?_))
              case r6_2 => repeat (first | exact (Kd.C_below HR2.out (by repeat (first | (with_reducible first | exact HB.out | apply below_alloc | apply pw_below_drewN | apply below_drew1) | exact HB.out))) | (with_reducible refine Kd.C_alloc ?_ _) | (with_reducible refine Kd.C_drewN ?_ _) | (with_reducible refine Kd.C_drew ?_))
              rintro e wj6 ⟨A5, c5, rfl, hc5, hA5, hb⟩
              have n0_ := Aside0.mk (below_step (by repeat (first | (with_reducible first | exact HB.out | apply below_alloc | apply pw_below_drewN | apply below_drew1) | exact HB.out)) hb); clear HB; have HB := n0_; clear n0_; clear hb
              have Hc5 := Aside0.mk hc5; clear hc5; have HA5 := Aside0.mk hA5; clear hA5
              go_wp2_with fail
              refine (joined3L _ A3 A1 A2 _ _ _ l3 l1 l2 L2 hL2 _ ?g7 ?r7_0 HC3.out ?r7_1 HC1.out ?r7_2 HC2.out (by have := DD.out; omega) (by have := DD.out; omega) (by have := DD.out; omega)).mono ?_
              case g7 => exact newBlk _ _
              case r7_0 => repeat (first | exact (Kd.C_below HR3.out (by repeat (first | (with_reducible first | exact HB.out | apply below_alloc | apply pw_below_drewN | apply below_drew1) | exact HB.out))) | (with_reducible refine Kd.C_alloc ?_ _) | (with_reducible refine Kd.C_drewN ?_ _) | (with_reducible refine Kd.C_drew ?_))
              case r7_1 => repeat (first | exact (Kd.C_below HR1.out (by repeat (first | (with_reducible first | exact HB.out | apply below_alloc | apply pw_below_drewN | apply below_drew1) | exact HB.out))) | (with_reducible refine Kd.C_alloc ?_ _) | (with_reducible refine Kd.C_drewN ?_ _) | (with_reducible refine Kd.C_drew ?_))
              case r7_2 => repeat (first | exact (Kd.C_below HR2.out (by repeat (first | (with_reducible first | exact HB.out | apply below_alloc | apply pw_below_drewN | apply below_drew1) | exact HB.out))) | (with_reducible refine Kd.C_alloc ?_ _) | (with_reducible refine Kd.C_drewN ?_ _) | (with_reducible refine Kd.C_drew ?_))
              rintro e wj7 ⟨A6, c6, rfl, hc6, hA6, hb⟩
              have n0_ := Aside0.mk (Kd.C_below (Kd.C_alloc HA5.out _) hb); clear HA5; have HA5 := n0_; clear n0_
              have n0_ := Aside0.mk (below_step (by repeat (first | (with_reducible first | exact HB.out | apply below_alloc | apply pw_below_drewN | apply below_drew1) | exact HB.out)) hb); clear HB; have HB := n0_; clear n0_; clear hb
              have Hc6 := Aside0.mk hc6; clear hc6; have HA6 := Aside0.mk hA6; clear hA6
              go_wp2_with fail
              refine (joined3L _ A0 A1 A4 _ _ _ l0 l1 l4 L3 hL3 _ ?g8 ?r8_0 HC0.out ?r8_1 HC1.out ?r8_2 HC4.out (by have := DD.out; omega) (by have := DD.out; omega) (by have := DD.out; omega)).mono ?_
              case g8 => exact newBlk _ _
              case r8_0 => repeat (first | exact (Kd.C_below HR0.out (by repeat (first | (with_reducible first | exact HB.out | apply below_alloc | apply pw_below_drewN | apply below_drew1) | exact HB.out))) | (with_reducible refine Kd.C_alloc ?_ _) | (with_reducible refine Kd.C_drewN ?_ _) | (with_reducible refine Kd.C_drew ?_))
              case r8_1 => repeat (first | exact (Kd.C_below HR1.out (by repeat (first | (with_reducible first | exact HB.out | apply below_alloc | apply pw_below_drewN | apply below_drew1) | exact HB.out))) | (with_reducible refine Kd.C_alloc ?_ _) | (with_reducible refine Kd.C_drewN ?_ _) | (with_reducible refine Kd.C_drew ?_))
              case r8_2 => repeat (first | exact (Kd.C_below HR4.out (by repeat (first | (with_reducible first | exact HB.out | apply below_alloc | apply pw_below_drewN | apply below_drew1) | exact HB.out))) | (with_reducible refine Kd.C_alloc ?_ _) | (with_reducible refine Kd.C_drewN ?_ _) | (with_reducible refine Kd.C_drew ?_))
              rintro e wj8 ⟨A7, c7, rfl, hc7, hA7, hb⟩
              have n0_ := Aside0.mk (Kd.C_below (Kd.C_alloc HA5.out _) hb); clear HA5; have HA5 := n0_; clear n0_
              have n0_ := Aside0.mk (Kd.C_below (Kd.C_alloc HA6.out _) hb); clear HA6; have HA6 := n0_; clear n0_
              have n0_ := Aside0.mk (below_step (by repeat (first | (with_reducible first | exact HB.out | apply below_alloc | apply pw_below_drewN | apply below_drew1) | exact HB.out)) hb); clear HB; have HB := n0_; clear n0_; clear hb
              have Hc7 := Aside0.mk hc7; clear hc7; have HA7 := Aside0.mk hA7; clear hA7
              go_wp2_with fail
              refine (sequence_Merge.calls 1 _ _ L0 _ _ L2 _ _ L3 L4 true _ HA5.out Hc5.out HA6.out Hc6.out HA7.out Hc7.out HM.out).mono ?_
              rintro e w' ⟨v9, rfl, hr9, hb⟩
              obtain ⟨A9, c9, rfl, hc9, hr9⟩ := Kd.R_reads hr9
              have n0_ := Aside0.mk (below_step (by repeat (first | (with_reducible first | exact HB.out | apply below_alloc | apply pw_below_drewN | apply below_drew1) | exact HB.out)) hb); clear HB; have HB := n0_; clear n0_; clear hb
              have HA9 := Aside0.mk hr9; clear hr9; have Hc9 := Aside0.mk hc9; clear hc9
              go_wp2_with fail
              refine (joined3L _ A3 A1 A4 _ _ _ l3 l1 l4 L4 hL4 _ ?g9 ?r9_0 HC3.out ?r9_1 HC1.out ?r9_2 HC4.out (by have := DD.out; omega) (by have := DD.out; omega) (by have := DD.out; omega)).mono ?_
              case g9 => exact newBlk _ _
              case r9_0 => repeat (first | exact (Kd.C_below HR3.out (by repeat (first | (with_reducible first | exact HB.out | apply below_alloc | apply pw_below_drewN | apply below_drew1) | exact HB.out))) | (with_reducible refine Kd.C_alloc ?_ _) | (with_reducible refine Kd.C_drewN ?_ _) | (with_reducible refine Kd.C_drew ?_))
              case r9_1 => repeat (first | exact (Kd.C_below HR1.out (by repeat (first | (with_reducible first | exact HB.out | apply below_alloc | apply pw_below_drewN | apply below_drew1) | exact HB.out))) | (with_reducible refine Kd.C_alloc ?_ _) | (with_reducible refine Kd.C_drewN ?_ _) | (with_reducible refine Kd.C_drew ?_))
              case r9_2 => repeat (first | exact (Kd.C_below HR4.out (by repeat (first | (with_reducible first | exact HB.out | apply below_alloc | apply pw_below_drewN | apply below_drew1) | exact HB.out))) | (with_reducible refine Kd.C_alloc ?_ _) | (with_reducible refine Kd.C_drewN ?_ _) | (with_reducible refine Kd.C_drew ?_))
              rintro e wj9 ⟨A8, c8, rfl, hc8, hA8, hb⟩
              have n0_ := Aside0.mk (Kd.C_below (Kd.C_alloc HA9.out _) hb); clear HA9; have HA9 := n0_; clear n0_
              have n0_ := Aside0.mk (below_step (by repeat (first | (with_reducible first | exact HB.out | apply below_alloc | apply pw_below_drewN | apply below_drew1) | exact HB.out)) hb); clear HB; have HB := n0_; clear n0_; clear hb
              have Hc8 := Aside0.mk hc8; clear hc8; have HA8 := Aside0.mk hA8; clear hA8
              go_wp2_with fail
              refine (planisphereref25_Same.calls 100 _ _ L4 _ _ L4 true _ HA9.out Hc9.out HA8.out Hc8.out HS.out).mono ?_
              rintro e w' ⟨rfl, ⟨nd, rfl⟩⟩
              go_wp2_with fail
              go_ret
              exact ⟨by first | rfl | (simp; done) | (simp [*]; done), (by repeat (first | (with_reducible first | exact HB.out | apply below_alloc | apply pw_below_drewN | apply below_drew1) | exact HB.out))⟩

end Go.Proofs.Ytebhophblgpjeaa.Seq
