/- The contract of Merge where all three lists are short. -/
import Derived.Test.YtebhophblgpjeaaSeqM3
import Derived.Deep.RegionHeld3
import Derived.Maps.OwnSet
import Derived.Maps.OwnOps
import Derived.Maps.Own
import Derived.Maps.Views
namespace Go.Proofs.Ytebhophblgpjeaa.Seq
open Go.RowKit Go.Proofs.YtebhophblgpjeaaW.PrintWords Go.Proofs.YtebhophblgpjeaaW.PrintLast Go.Proofs.YtebhophblgpjeaaW.PrintMore Go.Maps
attribute [local go_sem] max2_int min2_int max_two min_two max_three min_three max_four min_four
set_option linter.unusedVariables false
set_option linter.unusedSimpArgs false

theorem info48 : (Try.prog.info? 48).map (fun i => (i.zero, i.size, i.bytes)) = some (some (.agg #[.int .i64 0, .int .i64 0, .int .i64 0]), 3, 24) := by kernel_rfl

/-! The map -/
theorem law3 : Keyed Try.prog 3 := int_keyed Try.underlying3
theorem zero3 (w : World) : (zeroValue 3).run Try.prog w = .ok (.int .i64 0) w := by kernel_rfl

def mapD : List (Nat × Nat) → DataW Unit := fun l => l.foldl (fun D p => D.put (.int .i64 (p.1 : Int)) (.lit (.int .i64 (p.2 : Int)))) (.map [])
theorem mapD_snoc (l : List (Nat × Nat)) (p : Nat × Nat) : mapD (l ++ [p]) = (mapD l).put (.int .i64 (p.1 : Int)) (.lit (.int .i64 (p.2 : Int))) := by
  simp [mapD, List.foldl_append]
theorem mapD_is (l : List (Nat × Nat)) : ∀ D : DataW Unit, IsMap D → IsMap (l.foldl (fun D p => D.put (.int .i64 (p.1 : Int)) (.lit (.int .i64 (p.2 : Int)))) D) := by
  induction l with
  | nil => intro D h; exact h
  | cons p l ih => intro D h; exact ih _ (h.put _ _)
theorem mapD_isMap (l : List (Nat × Nat)) : IsMap (mapD l) := mapD_is l _ ⟨_, rfl⟩
theorem mapD_get (l : List (Nat × Nat)) (x : Nat) (hd : l.Pairwise (fun p q => p.1 < q.1)) : ∀ m, m ≤ l.length →
    (Maps.has (mapD (l.take m)) (.int .i64 (x : Int)) = ((l.take m).find? (fun q => q.1 == x)).isSome) ∧
    (∀ z, (mapD (l.take m)).atKey (.int .i64 (x : Int)) z = match (l.take m).find? (fun q => q.1 == x) with | some q => .lit (.int .i64 (q.2 : Int)) | none => z) := by
  intro m
  induction m with
  | zero => intro _; exact ⟨rfl, fun z => rfl⟩
  | succ m ih =>
    intro hm
    obtain ⟨h1, h2⟩ := ih (by omega)
    rw [List.take_succ_eq_append_getElem (show m < l.length by omega), mapD_snoc, List.find?_append]
    by_cases he : (l[m]).1 = x
    · have hnone : (l.take m).find? (fun q => q.1 == x) = none := by
        rw [List.find?_eq_none]
        intro q hq
        have hlt : q.1 < (l[m]).1 := by
          obtain ⟨i, hi, rfl⟩ := List.getElem_of_mem hq
          rw [List.getElem_take]
          have hi' : i < m := by rw [List.length_take] at hi; omega
          exact List.pairwise_iff_getElem.1 hd i m (by omega) (by omega) hi'
        simp; omega
      rw [hnone]
      subst he
      have hk : WideAt.IsKeyLit (.int .i64 ((l[m]).1 : Int)) := by simp [WideAt.IsKeyLit]
      refine ⟨?_, fun z => ?_⟩
      · rw [has_put_same (mapD_isMap _) hk]; simp
      · rw [atKey_put_same (mapD_isMap _) hk]; simp
    · have hne : (Lit.int .i64 (x : Int)) ≠ Lit.int .i64 ((l[m]).1 : Int) := by
        intro h
        injection h with _ h
        omega
      refine ⟨?_, fun z => ?_⟩
      · rw [has_put_other hne, h1]; simp [he]
      · rw [atKey_put_other hne, h2]; simp [he]

theorem ownsMap_block {w w1 : World} {b n : Nat} {D : DataW Unit} (h : w.ownsMap Try.prog 3 (plainElem Try.prog 3) b n D) (hb : w1.heap[b]? = w.heap[b]?) : w1.ownsMap Try.prog 3 (plainElem Try.prog 3) b n D := by
  obtain ⟨es, clock, h1, h2⟩ := h
  exact ⟨es, clock, hb.trans h1, h2⟩

theorem mt_pair (l0 l1 : List ByteArray) : (mt l0 l1).Pairwise (fun p q => p.1 < q.1 ∧ p.2 < q.2) := mtFrom_pair _ _ _ _ _
theorem wf_nat (n : Nat) (h : n ≤ 9223372036854775807) : (Lit.int .i64 (n : Int)).wf = true := by
  simp [Lit.wf, IntKind.min, IntKind.max, IntKind.signed, IntKind.bits]; omega

theorem stables_take (m n : List (Nat × Nat)) (k : Nat) (hk : k < m.length) : stables (m.take (k + 1)) n = stables (m.take k) n ++ ((n.find? (fun q => q.1 == (m[k]).1)).map fun q => ((m[k]).1, (m[k]).2, q.2)).toList := by
  unfold stables
  rw [List.take_succ_eq_append_getElem hk, List.filterMap_append]
  simp only [List.filterMap_cons, List.filterMap_nil]
  cases h : List.find? (fun q => q.1 == (m[k]).1) n <;> simp
theorem stables_len (m n : List (Nat × Nat)) : (stables m n).length ≤ m.length := by
  unfold stables; exact List.length_filterMap_le _ _

theorem hp_set {w : World} {g : Nat} {ob : Obj} {a : Addr} {v : Value} (h : w.heap[g]? = some ob) (hne : g ≠ a.block) : (w.setCell a v).heap[g]? = some ob := (Below.heap_setCell w a v g hne).trans h
theorem hp_drewN {w : World} {g : Nat} {ob : Obj} {n : Nat} (h : w.heap[g]? = some ob) : (w.drewN n).heap[g]? = some ob := h
theorem hp_drew {w : World} {g : Nat} {ob : Obj} (h : w.heap[g]? = some ob) : w.drew.heap[g]? = some ob := h

theorem merged_any (A0 : Option Addr) (c0 : Nat) (l0 : List ByteArray) (A1 : Option Addr) (c1 : Nat) (l1 : List ByteArray) (A2 : Option Addr) (c2 : Nat) (l2 : List ByteArray) (w : World) (pv : Value) (pb : Bool) (n0 n1 n2 : Nat) (h0 : l0.length = n0) (h1 : l1.length = n1) (h2 : l2.length = n2)
    (hm : Aside0 (mergedW l0 l1 l2 (.slice A1 n1 c1) (.slice A2 n2 c2) = (pv, pb)))
    (hr0 : Kd.C Kd.string w A0 n0 l0) (hc0 : n0 ≤ c0) (hr1 : Kd.C Kd.string w A1 n1 l1) (hc1 : n1 ≤ c1) (hr2 : Kd.C Kd.string w A2 n2 l2) (hc2 : n2 ≤ c2) :
    Calls Try.prog 24 #[.slice A0 n0 c0, .slice A1 n1 c1, .slice A2 n2 c2] w fun e w' => e = .returned (.tuple #[pv, .bool pb]) ∧ ∃ n, w' = w.drewN n := by
  subst h0
  subst h1
  subst h2
  have := merged_calls A0 c0 l0 A1 c1 l1 A2 c2 l2 w hr0 hc0 hr1 hc1 hr2 hc2
  rw [hm.out] at this
  exact this

theorem held6 {gs gF : Nat} {b o t i j k : Int} {W : World} (hs : W.heap[gs]? = some (.cells #[.int .i64 b, .int .i64 o, .int .i64 t] 48 (0, 0))) (hF : W.heap[gF]? = some (.cells #[.int .i64 i, .int .i64 j, .int .i64 k] 48 (0, 0))) :
    W.cell? ⟨gs, 0, none⟩ = some (.int .i64 b) ∧ W.cell? ⟨gs, 1, none⟩ = some (.int .i64 o) ∧ W.cell? ⟨gs, 2, none⟩ = some (.int .i64 t) ∧ W.cell? ⟨gF, 0, none⟩ = some (.int .i64 i) ∧ W.cell? ⟨gF, 1, none⟩ = some (.int .i64 j) ∧ W.cell? ⟨gF, 2, none⟩ = some (.int .i64 k) :=
  ⟨hp_cell hs 0 _ rfl, hp_cell hs 1 _ rfl, hp_cell hs 2 _ rfl, hp_cell hF 0 _ rfl, hp_cell hF 1 _ rfl, hp_cell hF 2 _ rfl⟩

set_option maxRecDepth 100000 in
set_option maxHeartbeats 4000000 in
theorem merge_short (A0 : Option Addr) (c0 : Nat) (l0 : List ByteArray) (A1 : Option Addr) (c1 : Nat) (l1 : List ByteArray) (A2 : Option Addr) (c2 : Nat) (l2 : List ByteArray) (w : World)
    (hr0 : Kd.C Kd.string w A0 l0.length l0) (hr1 : Kd.C Kd.string w A1 l1.length l1) (hr2 : Kd.C Kd.string w A2 l2.length l2) (hc0 : l0.length ≤ c0) (hc1 : l1.length ≤ c1) (hc2 : l2.length ≤ c2)
    (s0 : l0.length ≤ 2000) (s1 : l1.length ≤ 2000) (s2 : l2.length ≤ 2000) :
    Calls Try.prog 11 #[.slice A0 l0.length c0, .slice A1 l1.length c1, .slice A2 l2.length c2] w fun e w' => ∃ v0_ : Value, e = .returned (.tuple #[v0_, .bool (mergeV l0 l1 l2).2]) ∧ Kd.R Kd.string 9 w' w.heap.size (fun _ => True) v0_ (mergeV l0 l1 l2).1 ∧ Below w.heap.size w w' := by
  have HR0 := Aside0.mk hr0
  have HR1 := Aside0.mk hr1
  have HR2 := Aside0.mk hr2
  clear hr0 hr1 hr2
  have HCELL : Aside0 (∀ i, i < 3 → (w.alloc (.cells #[.slice A0 l0.length c0, .slice A1 l1.length c1, .slice A2 l2.length c2] 22)).cell? ⟨w.heap.size, i, none⟩ = some (.slice (sl3 A0 A1 A2 i) (sl3 l0.length l1.length l2.length i) (sl3 c0 c1 c2 i))) := ⟨by
    intro i hi
    rw [blk_cell (heap_alloc_new _ _)]
    rcases i with _ | _ | _ | i
    · rfl
    · rfl
    · rfl
    · omega⟩
  have HB : Aside0 (∀ i, i < 3 → sl3 l0.length l1.length l2.length i ≤ 2000) := ⟨fun i hi => by unfold sl3; split <;> (try split) <;> omega⟩
  have hmm := @run_makeMap Try.prog
  go_enter Try.func11, Try.ntmps11
  go_wp2_with fail
  ((with_reducible refine (short_yes w.heap.size 3 _ _ _ _ (by omega) HCELL.out HB.out).mono ?_); rintro e w' ⟨rfl, rfl⟩)
  clear HCELL
  go_wp2_with fail
  ((with_reducible refine (matching_calls _ _ _ _ _ _ _ (Kd.C_alloc (Kd.C_alloc HR0.out _) _) (Kd.C_alloc (Kd.C_alloc HR2.out _) _) s0 s2).mono ?_); rintro e w2 ⟨v, rfl, hv, hb2⟩)
  have hbw : Below w.heap.size w w2 := (below_alloc (below_alloc (Below.refl _ _) _) _).trans (hb2.mono (by simp; omega))
  have hmap : w2.ownsMap Try.prog 3 (plainElem Try.prog 3) (w.heap.size + 1) 0 (mapD []) := by
    refine ownsMap_block ?_ (hb2.block _ (by simp))
    have := World.ownsMap_made (w := w.alloc (.cells #[.slice A0 l0.length c0, .slice A1 l1.length c1, .slice A2 l2.length c2] 22)) (P := Try.prog) (k := 3) (R := plainElem (H := Unit) Try.prog 3)
    have h2 : mapD [] = .map [] := rfl
    rw [h2]
    simpa using this
  have hv' : Kd.R kdPair 44 w2 (w.heap.size + 2) (fun k => w.heap.size + 2 ≤ k) v (mtV l0 l2) := by
    have := R_from hv
    simpa using this
  obtain ⟨Av, cv, rfl, hle, hC⟩ := Kd.R_reads hv'
  have hml : (mtV l0 l2).length ≤ 2000 := by rw [mtV_len]; have := mt_len l0 l2; omega
  have HVV := Aside0.mk hv'
  have HBW := Aside0.mk hbw
  have HML := Aside0.mk (mtV_len l0 l2)
  have HMAP := Aside0.mk hmap
  have HSZ : Aside0 (w.heap.size + 2 ≤ w2.heap.size) := ⟨by have := hb2.size; simp at this; omega⟩
  clear hv hb2 hC hle hbw hmap hv' hmm
  generalize (mtV l0 l2).length = n at *
  go_wp2
  go_loopw [36] (fun idx wr => ∃ k : Nat, k ≤ n ∧ idx = .int .i64 k ∧ Aside0 (wr.ownsMap Try.prog 3 (plainElem Try.prog 3) (w.heap.size + 1) k (mapD ((mt l0 l2).take k))) ∧ Aside0 (w2.grownBy wr (some (w.heap.size + 1)))) (fun idx _ => n - (intOf idx).toNat)
  case atStart => exact ⟨0, by omega, rfl, HMAP, ⟨rfl, rfl, rfl, Nat.le_refl _, fun _ _ _ => rfl⟩⟩
  case round =>
    obtain ⟨k, hk, rfl, HO, HG⟩ := hrel
    by_cases hlt : k < n
    · have hkm : k < (mt l0 l2).length := by have := HML.out; omega
      have hR := Kd.R_grown HVV.out HG.out (fun k hk e => by injection e with e; omega)
      obtain ⟨ad, e, hp0, hp1⟩ := at_kdPair (Kd.R_reads' hR).2.2 k (by rw [mtV_len]; exact hkm)
      cases e
      have hget := mtV_getD l0 l2 k hkm
      have hmem := mt_lt l0 l2 ((mt l0 l2)[k]) (List.getElem_mem hkm)
      have htake : mapD ((mt l0 l2).take (k + 1)) = (mapD ((mt l0 l2).take k)).put (.int .i64 ((((mt l0 l2)[k]).1 : Nat) : Int)) (.lit (.int .i64 ((((mt l0 l2)[k]).2 : Nat) : Int))) := by
        rw [List.take_succ_eq_append_getElem hkm, mapD_snoc]
      rw [hget] at hp0 hp1
      generalize ((mt l0 l2)[k]) = pr at *
      obtain ⟨pa, pb⟩ := pr
      simp only at hp0 hp1 hmem htake
      have HT := Aside0.mk htake
      have HKEY : Aside0 (keyOf Try.prog 3 (.int .i64 (pa : Int)) = some (.int .i64 (pa : Int))) := ⟨keyOf_int_mk Try.underlying3 (wf_nat pa (by omega))⟩
      have HVAL : Aside0 (plainElem (H := Unit) Try.prog 3 (.int .i64 (pb : Int)) = some (.lit (.int .i64 (pb : Int)), [])) := ⟨plainElem_int Try.underlying3 (wf_nat pb (by omega))⟩
      clear hget htake hmem hR
      go_wp2_with (at_mapUpdate; refine wpList_mapUpdate_own _ rfl _ _ _ 40 rfl 3 3 law3 Try.underlying40 _ (w.heap.size + 1) k _ rfl (ownsMap_block HO.out ?hB) (by unfold maxLen; omega) _ _ _ rfl rfl HKEY.out _ [] HVAL.out ?_; (case hB => exact Below.heap_alloc _ _ _ (by have := HG.out.size; have := HSZ.out; omega)); intro w1 hown1 hgrow1; have HO1 := Aside0.mk hown1; have HG1 := Aside0.mk hgrow1; clear hown1 hgrow1)
      go_roundw
      case rel => exact ⟨k + 1, by omega, by go_num, ⟨by rw [HT.out]; exact HO1.out⟩, ⟨World.grownBy.trans HG.out (World.grownBy.trans (World.grownBy_alloc _ _ _) HG1.out)⟩⟩
      case measure => simp [intOf]; omega
    · obtain ⟨n0, hn0⟩ : ∃ n0, n0 = k := ⟨_, rfl⟩
      obtain rfl : k = n := by omega
      have hmapF : wr.ownsMap Try.prog 3 (plainElem Try.prog 3) (w.heap.size + 1) n0 (mapD (mt l0 l2)) := by
        have h := HO.out
        rw [hn0]
        rwa [List.take_of_length_le (by have := HML.out; omega)] at h
      have hbel : Below w.heap.size w wr := HBW.out.grown HG.out HBW.out.size (fun j hj => by injection hj with hj; omega)
      have hsz : w.heap.size + 2 ≤ wr.heap.size := Nat.le_trans HSZ.out HG.out.size
      have HMAPF := Aside0.mk hmapF
      have HBEL := Aside0.mk hbel
      have HSZ3 := Aside0.mk hsz
      clear hn0 hmapF hbel hsz HMAP HVV HSZ HO HG HBW hk hlt
      obtain ⟨w3, rfl⟩ : ∃ w3 : World, w3 = wr := ⟨_, rfl⟩
      go_wp2_with fail
      ((with_reducible refine (matching_calls _ _ _ _ _ _ _ (Kd.C_below HR0.out HBEL.out) (Kd.C_below HR1.out HBEL.out) s0 s1).mono ?_); rintro e w4 ⟨v, rfl, hv, hb2⟩)
      have hbw : Below w.heap.size w w4 := HBEL.out.trans (hb2.mono HBEL.out.size)
      have hmap4 := ownsMap_block HMAPF.out (hb2.block _ (by have := HSZ3.out; omega))
      have hnd : ∀ pa : Nat, Maps.has (mapD (mt l0 l2)) (.int .i64 (pa : Int)) = ((mt l0 l2).find? (fun q => q.1 == pa)).isSome ∧ ∀ z, (mapD (mt l0 l2)).atKey (.int .i64 (pa : Int)) z = match (mt l0 l2).find? (fun q => q.1 == pa) with | some q => .lit (.int .i64 (q.2 : Int)) | none => z := fun pa => by
        have := mapD_get (mt l0 l2) pa ((mt_pair l0 l2).imp (fun h => h.1)) (mt l0 l2).length (Nat.le_refl _)
        rwa [List.take_length] at this
      have HND := Aside0.mk hnd
      obtain ⟨Av2, cv2, rfl, hle, hC⟩ := Kd.R_reads hv
      have hml2 : (mtV l0 l1).length ≤ 2000 := by rw [mtV_len]; have := mt_len l0 l1; omega
      have HVV := Aside0.mk hC
      have HBW := Aside0.mk hbw
      have HML2 := Aside0.mk (mtV_len l0 l1)
      have HMAP := Aside0.mk hmap4
      have HSZ4 : Aside0 (w.heap.size + 2 ≤ w4.heap.size) := ⟨Nat.le_trans HSZ3.out hb2.size⟩
      clear hv hb2 hC hle hbw hmap4 hnd HMAPF HBEL HSZ3
      generalize hDD : mapD (mt l0 l2) = DD at *
      clear hDD
      generalize (mtV l0 l1).length = n at *
      go_wp2
      go_loopw [50, 11] (fun idx v wr => ∃ k : Nat, k ≤ n ∧ idx = .int .i64 k ∧ Aside0 (Kd.R kdTri 48 wr w4.heap.size (fun _ => True) v (triV (stables ((mt l0 l1).take k) (mt l0 l2)))) ∧ Aside0 (Below w4.heap.size w4 wr)) (fun idx _ _ => n - (intOf idx).toNat)
      case atStart => exact ⟨0, by omega, rfl, ⟨by simpa [triV, stables] using Kd.R_nil _ _ _ _ _⟩, ⟨Below.refl _ _⟩⟩
      case round =>
        obtain ⟨k, hk, rfl, HO, HBB⟩ := hrel
        by_cases hlt : k < n
        · have hkm : k < (mt l0 l1).length := by have := HML2.out; omega
          obtain ⟨ad, e, hp0, hp1⟩ := at_kdPair (Kd.C_below HVV.out HBB.out) k hlt
          cases e
          have hget := mtV_getD l0 l1 k hkm
          have hmem := mt_lt l0 l1 ((mt l0 l1)[k]) (List.getElem_mem hkm)
          have hst := stables_take (mt l0 l1) (mt l0 l2) k hkm
          have HLEN : Aside0 ((triV (stables ((mt l0 l1).take k) (mt l0 l2))).length ≤ k) := ⟨by
            rw [triV_len]
            have := stables_len ((mt l0 l1).take k) (mt l0 l2)
            rw [List.length_take] at this
            omega⟩
          rw [hget] at hp0 hp1
          generalize ((mt l0 l1)[k]) = pr at *
          obtain ⟨pa, pb⟩ := pr
          simp only at hp0 hp1 hmem hst
          have HKEY : Aside0 (keyOf Try.prog 3 (.int .i64 (pa : Int)) = some (.int .i64 (pa : Int))) := ⟨keyOf_int_mk Try.underlying3 (wf_nat pa (by omega))⟩
          obtain ⟨hh, hat0⟩ := HND.out pa
          have HMB : Aside0 (∀ o, (wr.alloc o).ownsMap Try.prog 3 (plainElem Try.prog 3) (w.heap.size + 1) n0 DD) := ⟨fun o => by
            refine ownsMap_block HMAP.out ?_
            exact (Below.heap_alloc _ _ _ (by have := HSZ4.out; have := HBB.out.size; omega)).trans (HBB.out.block _ (by have := HSZ4.out; omega))⟩
          have HMEM := Aside0.mk hmem
          cases hf : (mt l0 l2).find? (fun q => q.1 == pa) with
          | none =>
            simp only [hf] at hh hat0 hst
            have HST := Aside0.mk hst
            have HH : Aside0 (Maps.has DD (.int .i64 (pa : Int)) = false) := ⟨hh⟩
            have HAT := Aside0.mk hat0
            clear hst hh hat0 hget hmem hf
            go_wp2_with (at_lookup; refine wpList_lookup_own_ok_int _ rfl _ _ 40 rfl 3 3 .i64 law3 Try.underlying40 Try.underlying3 (zero3 _) (w.heap.size + 1) n0 _ rfl (HMB.out _) _ _ rfl HKEY.out ?_; intro c hat hwc; rw [HH.out]; clear hat hwc)
            go_roundw
            case rel => exact ⟨k + 1, by omega, by go_num, ⟨by rw [HST.out]; simpa using Kd.R_alloc HO.out _⟩, ⟨below_alloc HBB.out _⟩⟩
            case measure => simp [intOf]; omega
          | some q =>
            simp only [hf] at hh hat0 hst
            have HST := Aside0.mk hst
            have HH : Aside0 (Maps.has DD (.int .i64 (pa : Int)) = true) := ⟨hh⟩
            have HAT := Aside0.mk hat0
            clear hst hh hat0 hget hmem hf
            go_wp2_with (first | (at_lookup; refine wpList_lookup_own_ok_int _ rfl _ _ 40 rfl 3 3 .i64 law3 Try.underlying40 Try.underlying3 (zero3 _) (w.heap.size + 1) n0 _ rfl (HMB.out _) _ _ rfl HKEY.out ?_; intro c hat hwc; rw [HH.out]; have hc : c = (q.2 : Int) := (by rw [HAT.out] at hat; injection hat with hat; injection hat with _ hat; exact hat.symm); subst hc; clear hat hwc) | ((with_reducible refine gate_builtin (b := .append) (xs := #[.tmp 62, .tmp 69]) rfl ?_); at_builtin; refine Kd.R_append kdTri (w0 := w4) w4.heap.size rfl (.tmp 62) (.tmp 69) 45 48 (.agg #[.int .i64 0, .int .i64 0, .int .i64 0]) 24 rfl Try.underlying45 info48 rfl (by decide) (by omega) u11 (triV (stables ((mt l0 l1).take k) (mt l0 l2))) ((pa : Int), (pb : Int), (q.2 : Int)) [.int .i64 pa, .int .i64 pb, .int .i64 q.2] (fun _ => True) (fun _ => False) rfl ?aX ?aP (fun _ hk => hk.elim) ?aF ?aO ?aB ?aS ?aL ?_; (case aX => simp [go_sem]); (case aP => exact ⟨[_], [_, _], rfl, rfl, [_], [_], rfl, rfl, rfl⟩); (case aF => exact fun _ _ => trivial); (case aO => exact Kd.R_alloc HO.out _); (case aB => exact below_alloc HBB.out _); (case aS => exact below_size (below_alloc HBB.out _)); (case aL => have := HLEN.out; omega); intro v1 w1 ho hb hg hat; have HO1 := Aside0.mk ho; have HB1 := Aside0.mk hb; clear ho hb hg hat))
            go_roundw
            case rel => exact ⟨k + 1, by omega, by go_num, ⟨by rw [HST.out]; simpa [triV] using HO1.out⟩, HB1⟩
            case measure => simp [intOf]; omega
        · obtain rfl : k = n := by omega
          have hR4 : Kd.R kdTri 48 wr w4.heap.size (fun _ => True) u11 (triV (stables (mt l0 l1) (mt l0 l2))) := by
            have h := HO.out
            rwa [List.take_of_length_le (by have := HML2.out; omega)] at h
          have HLEN : Aside0 ((triV (stables (mt l0 l1) (mt l0 l2))).length ≤ 2000) := ⟨by
            rw [triV_len]
            have := stables_len (mt l0 l1) (mt l0 l2)
            have := HML2.out
            omega⟩
          have HR4 := Aside0.mk hR4
          clear hR4 HO hk hlt
          go_wp2_with ((with_reducible refine gate_builtin (b := .append) (xs := #[.tmp 72, .tmp 80]) rfl ?_); at_builtin; refine Kd.R_append kdTri (w0 := w4) w4.heap.size rfl (.tmp 72) (.tmp 80) 45 48 (.agg #[.int .i64 0, .int .i64 0, .int .i64 0]) 24 rfl Try.underlying45 info48 rfl (by decide) (by omega) u11 (triV (stables (mt l0 l1) (mt l0 l2))) ((l0.length : Int), (l1.length : Int), (l2.length : Int)) [.int .i64 l0.length, .int .i64 l1.length, .int .i64 l2.length] (fun _ => True) (fun _ => False) rfl ?aX ?aP (fun _ hk => hk.elim) ?aF ?aO ?aB ?aS ?aL ?_; (case aX => simp [go_sem]); (case aP => exact ⟨[_], [_, _], rfl, rfl, [_], [_], rfl, rfl, rfl⟩); (case aF => exact fun _ _ => trivial); (case aO => exact HR4.out); (case aB => exact HBB.out); (case aS => exact below_size HBB.out); (case aL => have := HLEN.out; omega); intro v1 w5 ho hb hg hat; obtain ⟨As, cs, rfl, hle, hCs⟩ := Kd.R_reads ho; have HCS := Aside0.mk hCs; have HB5 := Aside0.mk hb; clear ho hb hg hat hCs hle)
          have hS : triV (stables (mt l0 l1) (mt l0 l2)) ++ [((l0.length : Int), (l1.length : Int), (l2.length : Int))] = triV (stables (mt l0 l1) (mt l0 l2) ++ [(l0.length, l1.length, l2.length)]) := by simp [triV]
          rw [hS] at HCS
          have hres : mergeGo l0 l1 l2 (stables (mt l0 l1) (mt l0 l2) ++ [(l0.length, l1.length, l2.length)]) 0 0 0 [] = mergeO l0 l1 l2 := by
            unfold mergeO isShort
            rw [decide_eq_true s0, decide_eq_true s1, decide_eq_true s2]
            rfl
          have hok := stables_ok l0 l1 l2
          have hlen2 : (stables (mt l0 l1) (mt l0 l2) ++ [(l0.length, l1.length, l2.length)]).length = (triV (stables (mt l0 l1) (mt l0 l2))).length + 1 := by rw [List.length_append, triV_len]; rfl
          have HLEN2 := Aside0.mk hlen2
          have HRES := Aside0.mk hres
          have HOK := Aside0.mk hok
          have HBW5 : Aside0 (Below w.heap.size w w5) := ⟨HBW.out.trans (HB5.out.mono (by have := HBW.out.size; omega))⟩
          clear hres hok hlen2 hS HMAP HVV HML2 HSZ4 HR4 HND HBB HB5 HBW
          rw [triV_len] at HCS
          generalize (stables (mt l0 l1) (mt l0 l2) ++ [(l0.length, l1.length, l2.length)]) = S at *
          generalize (triV (stables (mt l0 l1) (mt l0 l2))).length = nS at *
          have hnS := HLEN.out
          clear HLEN
          go_loopw [94, 20] (fun idx v wr => ∃ (m i j k : Nat) (out : List ByteArray), m ≤ nS + 1 ∧ idx = .int .i64 m ∧ Aside0 (mergeGo l0 l1 l2 (S.drop m) i j k out = mergeO l0 l1 l2) ∧ Aside0 (StOK l0.length l1.length l2.length i j k (S.drop m)) ∧ Aside0 (Kd.R Kd.string 9 wr (w5.heap.size + 4) (fun _ => True) v out) ∧ Aside0 (out.length ≤ m * 2001) ∧ Aside0 (MB w5 l0 l1 l2 i j k wr)) (fun idx _ _ => nS + 1 - (intOf idx).toNat)
          case atStart =>
            exact ⟨0, 0, 0, 0, [], by omega, rfl, HRES, HOK, ⟨Kd.R_nil _ _ _ _ _⟩, ⟨by simp⟩, ⟨MB.start HBW5.out HR0.out HR1.out HR2.out hc0 hc1 hc2⟩⟩
          case round =>
            obtain ⟨m, i, j, k, out, hm, rfl, HGO, HST, HO, HOL, HMB⟩ := hrel
            by_cases hlt : m < nS + 1
            · have hmS : m < S.length := by have := HLEN2.out; omega
              have hMB := HMB.out
              have hdrop : S.drop m = S[m] :: S.drop (m + 1) := List.drop_eq_getElem_cons hmS
              obtain ⟨ad, e, hp0, hp1, hp2⟩ := at_kdTri (Kd.C_below HCS.out hMB.below) m (by omega)
              cases e
              have hget := triV_getD S m hmS
              have hgo := HGO.out
              have hst := HST.out
              rw [hdrop] at hgo hst
              rw [hget] at hp0 hp1 hp2
              generalize S[m] = tr at *
              obtain ⟨b, o, t⟩ := tr
              simp only at hp0 hp1 hp2
              simp only [StOK] at hst
              obtain ⟨⟨hib, hb0⟩, ⟨hjo, ho0⟩, ⟨hkt, ht0⟩, hst'⟩ := hst
              have HST' := Aside0.mk hst'
              have HGO' := Aside0.mk hgo
              clear hst' hgo hget hdrop HGO HST hMB
              obtain ⟨Ax, cx, hx, hxc, hxr⟩ := HMB.out.hX
              obtain ⟨Ay, cy, hy, hyc, hyr⟩ := HMB.out.hY
              obtain ⟨Az, cz, hz, hzc, hzr⟩ := HMB.out.hZ
              have hF := HMB.out.hF
              have hsz := HMB.out.size
              have hmer := mergedW_chunk ((l0.drop i).take (b - i)) ((l1.drop j).take (o - j)) ((l2.drop k).take (t - k)) (.slice Ay (o - j) (o - j)) (.slice Az (t - k) (t - k))
              obtain ⟨pv, pb, hmw⟩ : ∃ pv pb, mergedW ((l0.drop i).take (b - i)) ((l1.drop j).take (o - j)) ((l2.drop k).take (t - k)) (.slice Ay (o - j) (o - j)) (.slice Az (t - k) (t - k)) = (pv, pb) := ⟨_, _, rfl⟩
              rw [hmw] at hmer
              have HMW := Aside0.mk hmw
              have HMER := Aside0.mk hmer
              have HPX := Aside0.mk (C_take hxr (b - i) (by omega))
              have HPY := Aside0.mk (C_take hyr (o - j) (by omega))
              have HPZ := Aside0.mk (C_take hzr (t - k) (by omega))
              have NPX : Aside0 (((l0.drop i).take (b - i)).length = b - i) := ⟨cutOf_len l0 i b hb0⟩
              have NPY : Aside0 (((l1.drop j).take (o - j)).length = o - j) := ⟨cutOf_len l1 j o ho0⟩
              have NPZ : Aside0 (((l2.drop k).take (t - k)).length = t - k) := ⟨cutOf_len l2 k t ht0⟩
              clear hmw
              have HXR := Aside0.mk hxr
              have HYR := Aside0.mk hyr
              have HZR := Aside0.mk hzr
              clear hxr hyr hzr hmer
              go_wp2_with fail
              have ex : ∀ ob, (wr.alloc ob).heap[w5.heap.size]? = some (.cells #[.slice Ax (l0.length - i) cx] 51 (0, 0)) := fun ob => (Below.heap_alloc _ _ _ (by omega)).trans hx
              have ey : ∀ ob, (wr.alloc ob).heap[w5.heap.size + 1]? = some (.cells #[.slice Ay (l1.length - j) cy] 51 (0, 0)) := fun ob => (Below.heap_alloc _ _ _ (by omega)).trans hy
              have ez : ∀ ob, (wr.alloc ob).heap[w5.heap.size + 1 + 1]? = some (.cells #[.slice Az (l2.length - k) cz] 51 (0, 0)) := fun ob => (Below.heap_alloc _ _ _ (by omega)).trans hz
              have eF : ∀ ob, (wr.alloc ob).heap[w5.heap.size + 1 + 1 + 1]? = some (.cells #[.int .i64 ((i : Int) - 1), .int .i64 ((j : Int) - 1), .int .i64 ((k : Int) - 1)] 48 (0, 0)) := fun ob => (Below.heap_alloc _ _ _ (by omega)).trans hF
              have es := heap_alloc_new wr (.cells #[.int .i64 (b : Int), .int .i64 (o : Int), .int .i64 (t : Int)] 48 (0, 0))
              have eb : Below wr.heap.size wr (wr.alloc (.cells #[.int .i64 (b : Int), .int .i64 (o : Int), .int .i64 (t : Int)] 48)) := below_alloc (Below.refl _ _) _
              replace ex := ex (.cells #[.int .i64 (b : Int), .int .i64 (o : Int), .int .i64 (t : Int)] 48)
              replace ey := ey (.cells #[.int .i64 (b : Int), .int .i64 (o : Int), .int .i64 (t : Int)] 48)
              replace ez := ez (.cells #[.int .i64 (b : Int), .int .i64 (o : Int), .int .i64 (t : Int)] 48)
              replace eF := eF (.cells #[.int .i64 (b : Int), .int .i64 (o : Int), .int .i64 (t : Int)] 48)
              generalize (wr.alloc (.cells #[.int .i64 (b : Int), .int .i64 (o : Int), .int .i64 (t : Int)] 48)) = wa at *
              generalize hgs : wr.heap.size = gs at *
              have f0 := hp_cell eF 0 _ rfl
              have f1 := hp_cell eF 1 _ rfl
              have f2 := hp_cell eF 2 _ rfl
              have z0 := hp_cell es 0 _ rfl
              have z1 := hp_cell es 1 _ rfl
              have z2 := hp_cell es 2 _ rfl
              have EX := Aside0.mk ex
              have EY := Aside0.mk ey
              have EZ := Aside0.mk ez
              have EF := Aside0.mk eF
              have ES := Aside0.mk es
              have EB : Aside0 (Below w5.heap.size w5 wa) := ⟨HMB.out.below.trans (eb.mono (by omega))⟩
              have HGS := Aside0.mk hgs
              have EBA := Aside0.mk eb
              clear ex ey ez eF es eb hx hy hz hF hgs
              have wx1 : IntKind.i64.wrap ((b : Int) - ((i : Int) - 1)) = (b : Int) - ((i : Int) - 1) := by rw [IntKind.wrap_i64]; omega
              have wx2 : IntKind.i64.wrap ((b : Int) - ((i : Int) - 1) - 1) = (b : Int) - ((i : Int) - 1) - 1 := by rw [IntKind.wrap_i64]; omega
              have wy1 : IntKind.i64.wrap ((o : Int) - ((j : Int) - 1)) = (o : Int) - ((j : Int) - 1) := by rw [IntKind.wrap_i64]; omega
              have wy2 : IntKind.i64.wrap ((o : Int) - ((j : Int) - 1) - 1) = (o : Int) - ((j : Int) - 1) - 1 := by rw [IntKind.wrap_i64]; omega
              have wz1 : IntKind.i64.wrap ((t : Int) - ((k : Int) - 1)) = (t : Int) - ((k : Int) - 1) := by rw [IntKind.wrap_i64]; omega
              have wz2 : IntKind.i64.wrap ((t : Int) - ((k : Int) - 1) - 1) = (t : Int) - ((k : Int) - 1) - 1 := by rw [IntKind.wrap_i64]; omega
              go_region_held3 (fun w' => w'.cell? ⟨gs, 0, none⟩ = some (.int .i64 (b : Int)) ∧ w'.cell? ⟨gs, 1, none⟩ = some (.int .i64 (o : Int)) ∧ w'.cell? ⟨gs, 2, none⟩ = some (.int .i64 (t : Int)) ∧ w'.cell? ⟨w5.heap.size + 1 + 1 + 1, 0, none⟩ = some (.int .i64 ((i : Int) - 1)) ∧ w'.cell? ⟨w5.heap.size + 1 + 1 + 1, 1, none⟩ = some (.int .i64 ((j : Int) - 1)) ∧ w'.cell? ⟨w5.heap.size + 1 + 1 + 1, 2, none⟩ = some (.int .i64 ((k : Int) - 1))) (refine held6 ?_ ?_ <;> repeat (first | exact ES.out | exact EF.out | apply hp_drewN | apply hp_drew | refine hp_set ?_ (by dsimp only; omega))) (first | (go_at_call 25; (with_reducible refine (cut_any w5.heap.size Ax (l0.length - i) cx (b - i) _ (by omega) _ (by omega) (by omega) (by omega) (by repeat (first | exact EX.out | apply hp_drewN | apply hp_drew))).mono ?_); rintro e w' ⟨rfl, nq1, rfl⟩) | (go_at_call 25; (with_reducible refine (cut_any (w5.heap.size + 1) Ay (l1.length - j) cy (o - j) _ (by omega) _ (by omega) (by omega) (by omega) (by repeat (first | exact EY.out | apply hp_drewN | apply hp_drew | refine hp_set ?_ (by dsimp only; omega)))).mono ?_); rintro e w' ⟨rfl, nq2, rfl⟩) | (go_at_call 25; (with_reducible refine (cut_any (w5.heap.size + 1 + 1) Az (l2.length - k) cz (t - k) _ (by omega) _ (by omega) (by omega) (by omega) (by repeat (first | exact EZ.out | apply hp_drewN | apply hp_drew | refine hp_set ?_ (by dsimp only; omega)))).mono ?_); rintro e w' ⟨rfl, nq3, rfl⟩) | (go_at_call 24; (with_reducible refine (merged_any Ax (b - i) _ Ay (o - j) _ Az (t - k) _ _ pv pb _ _ _ NPX.out NPY.out NPZ.out HMW (Kd.C_below HPX.out ?_) (Nat.le_refl _) (Kd.C_below HPY.out ?_) (Nat.le_refl _) (Kd.C_below HPZ.out ?_) (Nat.le_refl _)).mono ?_); (iterate 3 (repeat (first | exact EB.out | apply pw_below_drewN | apply Below.drew | refine Below.setCell ?_ (by dsimp only; omega) _))); rintro e w' ⟨rfl, nq4, rfl⟩))
              clear wx1 wx2 wy1 wy2 wz1 wz2 f0 f1 f2 z0 z1 z2
              have hPF : PF w5 gs (.slice Ax (l0.length - i) cx) (.slice Ay (l1.length - j) cy) (.slice Az (l2.length - k) cz) #[.int .i64 ((i : Int) - 1), .int .i64 ((j : Int) - 1), .int .i64 ((k : Int) - 1)] #[.int .i64 (b : Int), .int .i64 (o : Int), .int .i64 (t : Int)] wa :=
                ⟨EB.out, hsz, (Array.getElem?_eq_some_iff.1 ES.out).1, EX.out, EY.out, EZ.out, EF.out, ES.out⟩
              have hPF2 := ((((((hPF.drewN (1 + nq1)).setX (.slice (dropA Ax cx (min (b - i + 1) (l0.length - i))) (l0.length - i - min (b - i + 1) (l0.length - i)) (cx - min (b - i + 1) (l0.length - i)))).drewN nq2).setY (.slice (dropA Ay cy (min (o - j + 1) (l1.length - j))) (l1.length - j - min (o - j + 1) (l1.length - j)) (cy - min (o - j + 1) (l1.length - j)))).drewN nq3).setZ (.slice (dropA Az cz (min (t - k + 1) (l2.length - k))) (l2.length - k - min (t - k + 1) (l2.length - k)) (cz - min (t - k + 1) (l2.length - k)))).drewN nq4
              have hRout : Kd.R Kd.string 9 ((((((((wa.drewN (1 + nq1)).setCell ⟨w5.heap.size, 0, none⟩ (.slice (dropA Ax cx (min (b - i + 1) (l0.length - i))) (l0.length - i - min (b - i + 1) (l0.length - i)) (cx - min (b - i + 1) (l0.length - i)))).drewN nq2).setCell ⟨w5.heap.size + 1, 0, none⟩ (.slice (dropA Ay cy (min (o - j + 1) (l1.length - j))) (l1.length - j - min (o - j + 1) (l1.length - j)) (cy - min (o - j + 1) (l1.length - j)))).drewN nq3).setCell ⟨w5.heap.size + 1 + 1, 0, none⟩ (.slice (dropA Az cz (min (t - k + 1) (l2.length - k))) (l2.length - k - min (t - k + 1) (l2.length - k)) (cz - min (t - k + 1) (l2.length - k)))).drewN nq4)) (w5.heap.size + 4) (fun _ => True) u20 out := by
                have h1 : Kd.R Kd.string 9 wa (w5.heap.size + 4) (fun kk => w5.heap.size + 4 ≤ kk) u20 out := R_from (Kd.R_below HO.out (by rw [HGS.out]; exact EBA.out))
                refine Kd.R_mono (ok := fun kk => w5.heap.size + 4 ≤ kk) ?_ (fun _ _ => trivial)
                exact Kd.R_drewN (Kd.R_far (Kd.R_drewN (Kd.R_far (Kd.R_drewN (Kd.R_far (Kd.R_drewN h1 _) (fun kk hk => by dsimp only; omega) _) _) (fun kk hk => by dsimp only; omega) _) _) (fun kk hk => by dsimp only; omega) _) _
              have hgsR : ∀ kk, u20.ownBlock = some kk → w5.heap.size + 4 ≤ kk ∧ kk ≠ gs := fun kk hkk => by
                have h := R_lt HO.out kk hkk
                rw [HGS.out] at h
                omega
              generalize (((((((wa.drewN (1 + nq1)).setCell ⟨w5.heap.size, 0, none⟩ (.slice (dropA Ax cx (min (b - i + 1) (l0.length - i))) (l0.length - i - min (b - i + 1) (l0.length - i)) (cx - min (b - i + 1) (l0.length - i)))).drewN nq2).setCell ⟨w5.heap.size + 1, 0, none⟩ (.slice (dropA Ay cy (min (o - j + 1) (l1.length - j))) (l1.length - j - min (o - j + 1) (l1.length - j)) (cy - min (o - j + 1) (l1.length - j)))).drewN nq3).setCell ⟨w5.heap.size + 1 + 1, 0, none⟩ (.slice (dropA Az cz (min (t - k + 1) (l2.length - k))) (l2.length - k - min (t - k + 1) (l2.length - k)) (cz - min (t - k + 1) (l2.length - k)))).drewN nq4) = wz at *
              have NX := Aside0.mk (rest_next rfl HXR.out hxc hib hb0)
              have NY := Aside0.mk (rest_next rfl HYR.out hyc hjo ho0)
              have NZ := Aside0.mk (rest_next rfl HZR.out hzc hkt ht0)
              have hgo := HGO'.out
              have hmer := HMER.out
              simp only [mergeGo, cutOf] at hgo
              cases hch : chunk ((l0.drop i).take (b - i)) ((l1.drop j).take (o - j)) ((l2.drop k).take (t - k)) with
              | none =>
                rw [hch] at hgo hmer
                simp only [Prod.mk.injEq] at hmer
                obtain ⟨rfl, rfl⟩ := hmer
                have hfin : mergeV l0 l1 l2 = ([], false) := by unfold mergeV; rw [← hgo]
                have HFIN := Aside0.mk hfin
                have HBFIN : Aside0 (Below w.heap.size w wz) := ⟨HBW5.out.trans (hPF2.below.mono HBW5.out.size)⟩
                clear hgo hfin hch hPF hPF2 hRout hgsR
                go_wp2
                go_ret2
                exact ⟨_, by rw [HFIN.out]; rfl, by rw [HFIN.out]; exact Kd.R_nil _ _ _ _ _, HBFIN.out⟩
              | some part =>
                rw [hch] at hgo hmer
                simp only [Prod.mk.injEq] at hmer
                have hp : ∃ Ap np, pv = .slice Ap np np ∧ pb = true ∧ part.length = np ∧ np ≤ 2000 ∧ Kd.C Kd.string w5 Ap np part := by
                  rcases hmer with ⟨⟨rfl, rfl⟩, rfl⟩ | ⟨⟨rfl, rfl⟩, rfl⟩
                  · exact ⟨_, _, rfl, rfl, NPZ.out, by omega, HPZ.out⟩
                  · exact ⟨_, _, rfl, rfl, NPY.out, by omega, HPY.out⟩
                obtain ⟨Ap, np, rfl, rfl, hpl, hpn, hpC⟩ := hp
                have HGO2 := Aside0.mk hgo
                have HPC := Aside0.mk hpC
                have HPL := Aside0.mk hpl
                have HPF := Aside0.mk hPF2
                have HRO := Aside0.mk hRout
                have HGR := Aside0.mk hgsR
                have HOL2 := HOL.out
                have HOL3 : Aside0 ((out.length + np) * 16 ≤ 140737488355328) := ⟨by omega⟩
                clear hgo hmer hch hPF hPF2 hRout hgsR hpC hpl EBA HMER HMW HPX HPY HPZ HXR HYR HZR EX EY EZ EF ES EB HO HMB HOL2 HGO'
                by_cases hbl : b < l0.length
                · have HGO3 : Aside0 (mergeGo l0 l1 l2 (S.drop (m + 1)) (b + 1) (o + 1) (t + 1) (out ++ part ++ [rdOf ByteArray.empty l0 (b : Int)]) = mergeO l0 l1 l2) := ⟨by
                    have h := HGO2.out
                    rw [List.getElem?_eq_getElem hbl] at h
                    rw [rdOf_nat l0 b hbl]
                    exact h⟩
                  clear HGO2
                  go_wp2_with (first | ((with_reducible refine gate_builtin (b := .append) (xs := #[.tmp 128, .tmp 129]) rfl ?_); at_builtin; refine Kd.R_append_rows Kd.string (w0 := wz) (w5.heap.size + 4) rfl (.tmp 128) (.tmp 129) 22 9 (.string ⟨#[]⟩) 16 rfl Try.underlying22 info9 rfl (by decide) (by omega) u20 out part Ap np np (fun _ => True) (fun _ => False) rfl rfl HRO.out (Kd.C_below HPC.out HPF.out.below) (fun _ _ h => h) (fun _ h => h.elim) (fun _ _ => trivial) (Below.refl _ _) (by have := HPF.out.lo; have := HPF.out.size; omega) HOL3.out ?_; intro v6 w6 ho hb hg hat; have HO6 := Aside0.mk ho; have HB6 := Aside0.mk hb; have hPF6 := HPF.out.grown hg HGR.out; have s0 := hp_cell hPF6.hS 0 _ rfl; have s1 := hp_cell hPF6.hS 1 _ rfl; have s2 := hp_cell hPF6.hS 2 _ rfl; have q0 := hp_cell hPF6.hF 0 _ rfl; have q1 := hp_cell hPF6.hF 1 _ rfl; have q2 := hp_cell hPF6.hF 2 _ rfl; have r0 := blk_frozen hPF6.hF 0; have r1 := blk_frozen hPF6.hF 1; have r2 := blk_frozen hPF6.hF 2; have HPF6 := Aside0.mk hPF6; have HAT6 := Aside0.mk hat; clear ho hb hg hat hPF6; obtain ⟨adb, eb0, hsb⟩ := Kd.at_string (Kd.C_below HR0.out (HBW5.out.trans (HPF6.out.below.mono HBW5.out.size))) (b : Int) (by omega) (by omega); cases eb0; simp only [Int.toNat_natCast] at hsb) | ((with_reducible refine gate_builtin (b := .append) (xs := #[.tmp 136, .tmp 142]) rfl ?_); at_builtin; refine Kd.R_append Kd.string (w0 := w6) (w5.heap.size + 4) rfl (.tmp 136) (.tmp 142) 22 9 (.string ⟨#[]⟩) 16 rfl Try.underlying22 info9 rfl (by decide) (by omega) v6 (out ++ part) (rdOf ByteArray.empty l0 (b : Int)) [.string (rdOf ByteArray.empty l0 (b : Int))] (fun _ => True) (fun _ => False) rfl ?aX ?aP (fun _ hk => hk.elim) ?aF ?aO ?aB ?aS ?aL ?_; (case aX => simp [go_sem]); (case aP => exact rfl); (case aF => exact fun _ _ => trivial); (case aO => exact HO6.out); (case aB => exact Below.refl _ _); (case aS => have := HPF6.out.lo; have := HPF6.out.size; omega); (case aL => rw [List.length_append, HPL.out]; have := HOL.out; omega); intro v7 w7 ho hb hg hat; have hPF7 := HPF6.out.grown hg (fun kk hkk => ⟨(R_lt HO6.out kk hkk).1, row_ne HAT6.out HGR.out HPF.out.size kk hkk⟩); clear s0 s1 s2 q0 q1 q2 r0 r1 r2; have s0 := hp_cell hPF7.hS 0 _ rfl; have s1 := hp_cell hPF7.hS 1 _ rfl; have s2 := hp_cell hPF7.hS 2 _ rfl; have q0 := hp_cell hPF7.hF 0 _ rfl; have q1 := hp_cell hPF7.hF 1 _ rfl; have q2 := hp_cell hPF7.hF 2 _ rfl; have r0 := blk_frozen hPF7.hF 0; have r1 := blk_frozen hPF7.hF 1; have r2 := blk_frozen hPF7.hF 2; have HPF7 := Aside0.mk hPF7; have HO7 := Aside0.mk ho; clear ho hb hg hat hPF7))
                  go_roundw
                  case rel =>
                    exact ⟨m + 1, b + 1, o + 1, t + 1, out ++ part ++ [rdOf ByteArray.empty l0 (b : Int)], by omega, by go_num, HGO3, HST', ⟨R_far3 HO7.out (by omega) _ _ _⟩, ⟨by rw [List.length_append, List.length_append, HPL.out]; have := HOL.out; simp only [List.length_singleton]; omega⟩, ⟨MB.of_PF (HPF7.out.setF3 _ _ _) NX.out NY.out NZ.out⟩⟩
                  case measure => simp [intOf]; omega
                · have HGO3 : Aside0 (mergeGo l0 l1 l2 (S.drop (m + 1)) (b + 1) (o + 1) (t + 1) (out ++ part) = mergeO l0 l1 l2) := ⟨by
                    have h := HGO2.out
                    rw [List.getElem?_eq_none (by omega)] at h
                    simpa using h⟩
                  clear HGO2
                  go_wp2_with ((with_reducible refine gate_builtin (b := .append) (xs := #[.tmp 128, .tmp 129]) rfl ?_); at_builtin; refine Kd.R_append_rows Kd.string (w0 := wz) (w5.heap.size + 4) rfl (.tmp 128) (.tmp 129) 22 9 (.string ⟨#[]⟩) 16 rfl Try.underlying22 info9 rfl (by decide) (by omega) u20 out part Ap np np (fun _ => True) (fun _ => False) rfl rfl HRO.out (Kd.C_below HPC.out HPF.out.below) (fun _ _ h => h) (fun _ h => h.elim) (fun _ _ => trivial) (Below.refl _ _) (by have := HPF.out.lo; have := HPF.out.size; omega) HOL3.out ?_; intro v6 w6 ho hb hg hat; have HO6 := Aside0.mk ho; have HB6 := Aside0.mk hb; have hPF6 := HPF.out.grown hg HGR.out; have s0 := hp_cell hPF6.hS 0 _ rfl; have s1 := hp_cell hPF6.hS 1 _ rfl; have s2 := hp_cell hPF6.hS 2 _ rfl; have q0 := hp_cell hPF6.hF 0 _ rfl; have q1 := hp_cell hPF6.hF 1 _ rfl; have q2 := hp_cell hPF6.hF 2 _ rfl; have r0 := blk_frozen hPF6.hF 0; have r1 := blk_frozen hPF6.hF 1; have r2 := blk_frozen hPF6.hF 2; have HPF6 := Aside0.mk hPF6; have HAT6 := Aside0.mk hat; clear ho hb hg hat hPF6)
                  go_roundw
                  case rel =>
                    exact ⟨m + 1, b + 1, o + 1, t + 1, out ++ part, by omega, by go_num, HGO3, HST', ⟨R_far3 HO6.out (by omega) _ _ _⟩, ⟨by rw [List.length_append, HPL.out]; have := HOL.out; omega⟩, ⟨MB.of_PF (HPF6.out.setF3 _ _ _) NX.out NY.out NZ.out⟩⟩
                  case measure => simp [intOf]; omega
            · obtain rfl : m = nS + 1 := by omega
              have hfin : mergeV l0 l1 l2 = (out, true) := by
                have h := HGO.out
                rw [List.drop_of_length_le (by have := HLEN2.out; omega)] at h
                unfold mergeV
                rw [← h]
                rfl
              have HFIN := Aside0.mk hfin
              have HBFIN : Aside0 (Below w.heap.size w wr) := ⟨HBW5.out.trans (HMB.out.below.mono HBW5.out.size)⟩
              have HRF : Aside0 (Kd.R Kd.string 9 wr w.heap.size (fun _ => True) u20 out) := ⟨Kd.R_lower HO.out (by have := HBW5.out.size; omega)⟩
              clear hfin hlt hm HGO HST HO HMB
              go_wp2
              go_ret2
              exact ⟨_, by rw [HFIN.out]; rfl, by rw [HFIN.out]; exact HRF.out, HBFIN.out⟩

end Go.Proofs.Ytebhophblgpjeaa.Seq
