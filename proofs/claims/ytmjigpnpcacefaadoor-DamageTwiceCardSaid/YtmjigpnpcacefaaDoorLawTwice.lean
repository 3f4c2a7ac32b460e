/- The walk of the law DamageTwice. -/
import Derived.Test.YtmjigpnpcacefaaDoorAwakeD
import Derived.Test.YtmjigpnpcacefaaDoorDmgP
import Derived.Test.YtmjigpnpcacefaaDoorOwnV
namespace Go.Proofs.YtmjigpnpcacefaaDoor
open Go Go.RowKit Go.Shelf

theorem owns_form3 {k : IntKind} {e : TypeId} {w : World} {base : Nat} {v : Value} {xs : List Nat} (h : Owns k e w base v xs) : ∃ a n c, v = .slice a n c ∧ n = xs.length ∧ n ≤ c ∧ c ≤ 9223372036854775807 := by
  rcases h.form with ⟨rfl, rfl⟩ | ⟨g, cap, rfl, hb, hg, hn, hc⟩
  · exact ⟨_, _, _, rfl, rfl, by simp, by simp⟩
  · exact ⟨_, _, _, rfl, rfl, hn, hc⟩
set_option maxRecDepth 100000 in
set_option maxHeartbeats 4000000 in
theorem damageTwice_all (v : Value) (xs : List Nat) (vl : Value) (l : List Nat) (at' : Nat) (b : Nat) (w : World) (hv : Reads .u8 w v xs) (hx : Bytes xs) (hvl : Reads .u16 w vl l) (hl : ∀ y ∈ l, y < 65536) (ha : at' < 65536) (hb : b < 4294967296) (hT : Tab w) :
    Calls Tryd.prog 5 #[v, vl, .int .u16 at', .int .u32 b] w fun e w' => e = .returned (.bool true) ∧ Below w.heap.size w w' := by
  have HV := Lib.hid hv
  have HT := Lib.hid hT
  have HVL := Lib.hid hvl
  obtain ⟨av, cv, rfl, hlv, hcv, hsv⟩ := hv
  obtain ⟨al, cl, rfl, hll, hcl, hsl⟩ := hvl
  obtain ⟨n, HN⟩ := nm xs.length
  obtain ⟨m, HM⟩ := nm l.length
  rw [HN.out] at hlv HV hsv ⊢
  rw [HM.out] at hll HVL hsl ⊢
  have HSL := Lib.hid hsl
  clear hT hsv hsl
  obtain ⟨N2, HN2⟩ := nm (min n 200)
  obtain ⟨M2, HM2⟩ := nm (min m 30)
  have hn2 : N2 ≤ n ∧ N2 ≤ 200 := by have := HN2.out; omega
  have hm2 : M2 ≤ m ∧ M2 ≤ 30 := by have := HM2.out; omega
  have hmin1 : min (n : Int) 200 = (N2 : Int) := by have := HN2.out; omega
  have hmin2 : min (m : Int) 30 = (M2 : Int) := by have := HM2.out; omega
  obtain ⟨hn2a, hn2b⟩ := hn2
  obtain ⟨hm2a, hm2b⟩ := hm2
  go_enter Tryd.func5, Tryd.ntmps5
  go_wp2_with fail
  refine (awakeD_any w HT.out).mono ?_
  rintro e w1 ⟨rfl, hb1⟩
  have hv1 := reads_pre (HV.out.keep hb1 (Nat.le_refl _)) hn2a
  have HV1 := Lib.hid hv1
  clear hv1
  go_wp2_with (first | (at_builtin; refine wpl_app rfl (.tmp 28) (.tmp 33) 28 rfl .u8 5 1 Tryd.underlying28 info_u8 (by decide) w1.heap.size _ [1, 2, 3, 4] _ (owns_lit .u8 5 w1 w1.heap.size (Nat.le_refl _) [1, 2, 3, 4] _ 4 rfl rfl (by decide)) rfl _ (xs.take N2) rfl ?_ ?_ ?_ ?_; (exact HV1.out.keep (bel_alloc w1 _) (Nat.le_refl _)); (rw [List.length_take]; simp; omega); (simp); intro vb w2 hob hb2; have HOB := Lib.hid hob; clear hob; obtain ⟨ab, nb, cb, rfl, hnb, hcb1, hcb2⟩ := owns_form3 HOB.out; have hnb0 : 4 ≤ nb ∧ nb ≤ 204 := (by rw [hnb, List.length_append, List.length_take, HN.out]; simp; omega); have HNB := Lib.hid hnb; clear hnb; obtain ⟨hnb1, hnb2⟩ := hnb0) | (refine wpl_makeB rfl (.tmp 37) (.tmp 37) 32 rfl 4 1 Tryd.underlying32 info_bool (by decide) w2.heap.size w2 (8 * nb) _ _ rfl rfl ?_ ?_ ?_ (Nat.le_refl _) ?_; (omega); (omega); (omega); intro vf w3 hof hb3; have HOF := Lib.hid hof; clear hof))
  have hB0 : Below w.heap.size w w2 := gr_trans hb1 ((bel_alloc w1 _).trans hb2)
  have hBB : Bytes ([1, 2, 3, 4] ++ xs.take N2) := Bytes.append (bytes_lit rfl) (fun y hy => hx y (List.mem_of_mem_take hy))
  obtain ⟨B, HB⟩ := nm ([1, 2, 3, 4] ++ xs.take N2)
  rw [HB.out] at hBB HOB HNB
  obtain ⟨F, HF⟩ := nm (8 * nb)
  have hof := HOF.out
  rw [HF.out, ← tbl_nil] at hof
  obtain ⟨gf, cf, rfl, hg1, hg2, hg3, hg4⟩ := hof.slice (by rw [tbl_length]; have := HF.out; omega)
  rw [tbl_length] at hg3 hof ⊢
  have hF8 : F = 8 * nb := HF.out.symm
  have hF0 : 32 ≤ F ∧ F ≤ 1632 := by omega
  obtain ⟨hF1, hF2⟩ := hF0
  have hF8i : (8 * (nb : Int)) = (F : Int) := by omega
  have HF8 := Lib.hid hF8
  rw [hF8i]
  have h32 := hb3.size
  have HOF0 := Lib.hid hof
  clear hof HOF hF8 hF8i hmin1 hmin2 hb1 hb2
  go_loopw [10, 45] (fun vq vi wr => ∃ i : Nat, i ≤ M2 ∧ vi = .int .i64 (i : Int) ∧ OwnsI .i64 3 wr w3.heap.size vq (ints (uq F (l.take i))) ∧ OwnsB 4 wr w2.heap.size (.slice (some ⟨gf, 0, none⟩) F cf) (tbl F (uq F (l.take i))) ∧ Below w2.heap.size w2 wr ∧ w3.heap.size ≤ wr.heap.size)
    (fun _ vi _ => M2 - (intOf vi).toNat)
  case atStart => exact ⟨0, Nat.zero_le _, rfl, OwnsI.nil _ _ _ _, HOF0.out, hb3, Nat.le_refl _⟩
  case round =>
    obtain ⟨i, hi, rfl, hoq, hot, hBr, hsr⟩ := hrel
    by_cases hlt : i < M2
    · obtain ⟨bl, ol, rfl, hcl'⟩ := HSL.out.resolve_left (fun h => by omega)
      have hB1 := gr_trans hB0 hBr
      have ck := cell_keep hB1 (hcl' i (by omega)) (cell_lt (hcl' i (by omega)))
      have hil : i < l.length := by rw [HM.out]; omega
      have hx16 : l[i]?.getD 0 < 65536 := hl _ (by rw [List.getElem?_eq_getElem hil]; exact List.getElem_mem hil)
      have htk : l.take (i + 1) = l.take i ++ [l[i]?.getD 0] := by rw [List.take_succ_eq_append_getElem hil, List.getElem?_eq_getElem hil]; rfl
      have hus := uq_snoc F (l.take i) (l[i]?.getD 0)
      rw [← htk] at hus
      have hul := uq_length F (l.take i)
      have hul2 : (l.take i).length ≤ i := List.length_take_le _ _
      obtain ⟨x, HX⟩ := nm (l[i]?.getD 0)
      rw [HX.out] at ck hx16 hus
      obtain ⟨U, HU⟩ := nm (uq F (l.take i))
      rw [HU.out] at hus hoq hot hul
      obtain ⟨U2, HU2⟩ := nm (uq F (l.take (i + 1)))
      rw [HU2.out] at hus
      have hkF : x % F < F := Nat.mod_lt _ (by omega)
      have hxm : (x : Int) % (F : Int) = ((x % F : Nat) : Int) := by omega
      obtain ⟨k, HK⟩ := nm (x % F)
      rw [HK.out] at hus hkF hxm
      have cf1 := hot.cellAt (tbl_length F U).symm k hkF
      have ff1 := hot.frozenAt (tbl_length F U).symm k
      rw [tbl_get F U k hkF] at cf1
      have hUL : (ints U).length < 17592186044414 := by rw [ints_length]; omega
      obtain ⟨aq, nq, cq, rfl, hnq, _, _, _⟩ := hoq.slice
      have hset := fun h => (hot.set (tbl_length F U).symm k true h : _)
      have HOQ := Lib.hid hoq
      have HOT := Lib.hid hot
      have HSET := Lib.hid hset
      have HUL := Lib.hid hUL
      have hk0 : (0 : Int) ≤ (k : Int) := by omega
      have hk1 : (k : Int) < (F : Int) := by omega
      clear hoq hot hset htk hul hul2 hcl' hnq hUL
      by_cases hin : k ∈ U
      · rw [if_pos hin] at hus
        rw [decide_eq_true hin] at cf1
        have HUS := Lib.hid hus
        clear hus hin
        go_wp2_with fail
        go_roundw
        case rel => exact ⟨i + 1, by omega, by go_num, by rw [HU2.out, HUS.out]; exact HOQ.out, by rw [HU2.out, HUS.out]; exact HOT.out, hBr, hsr⟩
        case measure => simp [intOf]; omega
      · rw [if_neg hin] at hus
        rw [decide_eq_false hin] at cf1
        have HUS := Lib.hid hus
        have hq2 : OwnsI .i64 3 (wr.setCell ⟨gf, k, none⟩ (.bool true)) w3.heap.size (.slice aq nq cq) (ints U) := HOQ.out.other (fun j hj => by have := (World.ownsRow.lt HOQ.out j hj).1; omega)
        have HQ2 := Lib.hid hq2
        clear hus hin hq2
        go_wp2_with (at_builtin; refine wpl_app1I rfl (.tmp 62) (.tmp 64) 25 rfl .i64 3 8 Tryd.underlying25 info_int (by decide) w3.heap.size _ (ints U) _ HQ2.out rfl (k : Int) ?_ HUL.out ?_ ?_; (rw [World.size_setCell]; rfl); (rw [World.size_setCell]; exact hsr); intro vq2 w5 hoq5 hb5)
        go_roundw
        case rel =>
          refine ⟨i + 1, by omega, by go_num, ?_, ?_, ?_, ?_⟩
          · rw [HU2.out, HUS.out, show ints (U ++ [k]) = ints U ++ [(k : Int)] by simp [ints]]; exact hoq5
          · have h1 := HSET.out (by rw [tbl_length]; exact hkF)
            rw [tbl_set, ← HUS.out] at h1
            rw [HU2.out]
            exact h1.keepAt hb5 hg2
          · exact (hBr.setCell (p := ⟨gf, k, none⟩) hg1 _).trans (hb5.mono (by omega))
          · have := hb5.size; rw [World.size_setCell] at this; omega
        case measure => simp [intOf]; omega
    · obtain rfl : i = M2 := by omega
      have hKn := uq_nodup F (l.take i)
      have hKF := uq_lt F (by omega) (l.take i)
      have hKl : (uq F (l.take i)).length ≤ i := Nat.le_trans (uq_length F _) (List.length_take_le _ _)
      obtain ⟨K, HK⟩ := nm (uq F (l.take i))
      rw [HK.out] at hKn hKF hKl hoq hot
      obtain ⟨aq, nq, cq, rfl, hnq, _, _, _⟩ := hoq.slice
      have HOQ := Lib.hid hoq
      have HOT := Lib.hid hot
      have HKN := Lib.hid hKn
      have HKF := Lib.hid hKF
      have HKL := Lib.hid hKl
      obtain ⟨wo, rfl⟩ : ∃ wo : World, wo = wr := ⟨_, rfl⟩
      have HBO := Lib.hid hBr
      clear hoq hot hKn hKF hKl hnq HOF0 hb3 hBr HSL HVL HV1
      go_wp2_with fail
      go_loopw [11, 69] (fun vq vj wr => ∃ j : Nat, j ≤ F ∧ vj = .int .i64 (j : Int) ∧ OwnsI .i64 3 wr wo.heap.size vq (ints ((List.range j).filter fun k => decide (k ∈ K))) ∧ Below wo.heap.size wo wr) (fun _ vj _ => F - (intOf vj).toNat)
      case atStart => exact ⟨0, Nat.zero_le _, rfl, OwnsI.nil _ _ _ _, Below.refl _ _⟩
      case round =>
        obtain ⟨j, hj, rfl, how, hBw⟩ := hrel
        by_cases hlt2 : j < F
        · have cf1 := HOT.out.cellAt (tbl_length F K).symm j hlt2
          rw [tbl_get F K j hlt2] at cf1
          have cf2 := cell_keep hBw cf1 (cell_lt cf1)
          have hWl : (ints ((List.range j).filter fun k => decide (k ∈ K))).length < 17592186044414 := by
            rw [ints_length]
            have := List.length_filter_le (fun k => decide (k ∈ K)) (List.range j)
            simp at this; omega
          have hWs : (List.range (j + 1)).filter (fun k => decide (k ∈ K)) = if j ∈ K then (List.range j).filter (fun k => decide (k ∈ K)) ++ [j] else (List.range j).filter (fun k => decide (k ∈ K)) := by
            rw [List.range_succ, List.filter_append]
            by_cases h : j ∈ K <;> simp [h]
          obtain ⟨W, HW⟩ := nm ((List.range j).filter fun k => decide (k ∈ K))
          rw [HW.out] at how hWl hWs
          obtain ⟨W2, HW2⟩ := nm ((List.range (j + 1)).filter fun k => decide (k ∈ K))
          rw [HW2.out] at hWs
          have HWL := Lib.hid hWl
          obtain ⟨aw, nw, cw, rfl, hnw, _, _, _⟩ := how.slice
          have HOW := Lib.hid how
          have hsw := hBw.size
          have hj0 : (0 : Int) ≤ (j : Int) := by omega
          have hj1 : (j : Int) < (F : Int) := by omega
          clear how hWl cf1 hnw
          by_cases hin : j ∈ K
          · rw [if_pos hin] at hWs
            rw [decide_eq_true hin] at cf2
            have HWS := Lib.hid hWs
            clear hWs hin
            go_wp2_with (at_builtin; refine wpl_app1I rfl (.tmp 75) (.tmp 77) 25 rfl .i64 3 8 Tryd.underlying25 info_int (by decide) wo.heap.size _ (ints W) _ HOW.out rfl (j : Int) rfl HWL.out hsw ?_; intro vq2 w5 hoq5 hb5)
            go_roundw
            case rel => exact ⟨j + 1, by omega, by go_num, by rw [HW2.out, HWS.out, show ints (W ++ [j]) = ints W ++ [(j : Int)] by simp [ints]]; exact hoq5, hBw.trans (hb5.mono (by omega))⟩
            case measure => simp [intOf]; omega
          · rw [if_neg hin] at hWs
            rw [decide_eq_false hin] at cf2
            have HWS := Lib.hid hWs
            clear hWs hin
            go_wp2_with fail
            go_roundw
            case rel => exact ⟨j + 1, by omega, by go_num, by rw [HW2.out, HWS.out]; exact HOW.out, hBw⟩
            case measure => simp [intOf]; omega
        · obtain rfl : F = j := by omega
          have hF8 := HF8.out
          have hK8 : ∀ q ∈ K, q / 8 < B.length := fun q hq => by have := HKF.out q hq; rw [← HNB.out]; omega
          have g2 : Below w2.heap.size w2 wr := gr_trans HBO.out hBw
          have hRB := HOB.out.reads.keep g2 (Nat.le_refl _)
          have hRQ := HOQ.out.reads.keep hBw (Nat.le_refl _)
          have hfo := flip_ok B K hK8 HKN.out
          have hbo := betw_flips B K hK8 HKN.out
          have hWn := rise_nodup (range_rise F (fun k => decide (k ∈ K)))
          have hWm : ∀ q, q ∈ (List.range F).filter (fun k => decide (k ∈ K)) ↔ q ∈ K := fun q => by
            rw [List.mem_filter, List.mem_range, decide_eq_true_iff]
            exact ⟨fun h => h.2, fun h => ⟨HKF.out q h, h⟩⟩
          have hback := flips_back hBB K _ hK8 HKN.out hWn hWm
          rw [← HNB.out, ← hF8] at hbo
          obtain ⟨W, HW⟩ := nm ((List.range F).filter fun k => decide (k ∈ K))
          rw [HW.out] at hbo hWn hWm hback how
          have hCB : Bytes (Gf.flips B K) := Gf.bytes_flips K hBB
          have hCl : (Gf.flips B K).length = nb := by rw [Gf.flips_length, HNB.out]
          have hfo2 := flip_ok (Gf.flips B K) W (fun q hq => by rw [Gf.flips_length]; exact hK8 q ((hWm q).1 hq)) hWn
          rw [hback] at hfo2
          obtain ⟨C, HC⟩ := nm (Gf.flips B K)
          rw [HC.out] at hfo hbo hCB hCl hfo2
          have hbq := ints_bound HKF.out (by omega)
          have hbw' := ints_bound (fun q hq => HKF.out q ((hWm q).1 hq) : ∀ q ∈ W, q < F) (by omega)
          have hWL : W.length ≤ F := by rw [← HW.out]; have := List.length_filter_le (fun k => decide (k ∈ K)) (List.range F); simpa using this
          obtain ⟨aw, nw, cw, rfl, hnw, _, _, _⟩ := how.slice
          have HOWR := Lib.hid how.reads
          have HBQ := Lib.hid hbq
          have HBW := Lib.hid hbw'
          have HRB := Lib.hid hRB
          have HFO2 := Lib.hid hfo2
          have HBO2 := Lib.hid hbo
          have HCL := Lib.hid hCl
          have HG2 := Lib.hid (gr_trans hB0 g2)
          clear hbq hbw' hfo2 hbo hWm hWn hback hK8 how hnw hF8 hCl
          go_wp2_with fail
          refine (flip_any _ B _ (ints K) wr hRB hBB (by rw [← HNB.out]; omega) hRQ HBQ.out).mono ?_
          rintro e w6 ⟨vc, rfl, hoc, hb6⟩
          rw [hfo.2] at hoc
          rw [hfo.1]
          obtain ⟨ac, nc, cc, rfl, hnc, _, _⟩ := owns_form3 hoc
          have HOC := Lib.hid hoc.reads
          have HB6 := Lib.hid hb6
          clear hoc hb6 hnc hfo hRB hRQ
          go_wp2_with fail
          refine (flip_any _ C _ (ints W) w6 HOC.out hCB (by rw [HCL.out]; omega) (HOWR.out.keep HB6.out (Nat.le_refl _)) HBW.out).mono ?_
          rintro e w7 ⟨vk, rfl, hok, hb7⟩
          rw [HFO2.out.2] at hok
          rw [HFO2.out.1]
          have HOK := Lib.hid hok.reads
          have HB7 := Lib.hid hb7
          have HB67 := Lib.hid (gr_trans HB6.out hb7)
          clear hok hb7
          go_wp2_with fail
          refine (between_any _ _ B C w7 (HRB.out.keep HB67.out (Nat.le_refl _)) (HOC.out.keep HB7.out (Nat.le_refl _)) (by rw [← HNB.out]; omega) (by rw [HCL.out]; omega) (fun i => hBB.get i) (fun i => hCB.get i)).mono ?_
          rintro e w8 ⟨⟨vt, rfl, hot⟩, hb8⟩
          rw [HBO2.out.2] at hot
          rw [HBO2.out.1]
          have HOT2 := Lib.hid hot.reads
          have HB8 := Lib.hid hb8
          have HB68 := Lib.hid (gr_trans HB67.out hb8)
          clear hot hb8
          go_wp2_with fail
          refine (sameBytes_any _ _ B B w8 (HOK.out.keep HB8.out (Nat.le_refl _)) (HRB.out.keep HB68.out (Nat.le_refl _)) (by rw [← HNB.out]; omega)).mono ?_
          rintro e w9 ⟨rfl, hb9⟩
          rw [decide_eq_true rfl]
          have HB9 := Lib.hid hb9
          clear hb9
          go_wp2_with fail
          refine (sameInts_any _ _ (ints W) (ints W) w9 (HOT2.out.keep HB9.out (Nat.le_refl _)) (HOWR.out.keep (gr_trans HB68.out HB9.out) (Nat.le_refl _)) (by rw [ints_length]; omega)).mono ?_
          rintro e w10 ⟨rfl, hb10⟩
          rw [decide_eq_true rfl]
          have HBA := Lib.hid (gr_trans HB68.out (gr_trans HB9.out hb10))
          clear hb10 HOT2 HOK HOC HB6 HB7 HB67 HB68 HB8 HB9 HFO2 HBO2
          have hor : bits BinOp.or IntKind.u32 (b : Int) 1 = ((b ||| 1 : Nat) : Int) := u32_or_nat b 1 hb (by decide)
          have hP : b ||| 1 < 4294967296 := Nat.or_lt_two_pow (n := 32) hb (by decide)
          have hPo := odd_or b
          obtain ⟨P, HP⟩ := nm (b ||| 1)
          rw [HP.out] at hor hP hPo
          have hlp := (burst_ok 0 P hP hPo (by decide)).2.2.2.2
          have hp1 := odd_plen hPo
          have hp2 := plen_le32 hP
          have hXle : at' % (F - Gf.plen P + 1) + Gf.plen P ≤ F := by have := Nat.mod_lt at' (show 0 < F - Gf.plen P + 1 by omega); omega
          have hXe : (at' : Int) % ((F : Int) - (Gf.plen P : Nat) + 1) = ((at' % (F - Gf.plen P + 1) : Nat) : Int) := by
            rw [show ((F : Int) - (Gf.plen P : Nat) + 1) = ((F - Gf.plen P + 1 : Nat) : Int) by omega]; simp
          obtain ⟨X, HX⟩ := nm (at' % (F - Gf.plen P + 1))
          rw [HX.out] at hXle hXe
          have hPl := Lib.hid (show Gf.plen P = Gf.plen P from rfl)
          obtain ⟨p, HPL⟩ := nm (Gf.plen P)
          rw [HPL.out] at hlp hp1 hp2 hXle hXe
          have HLP := Lib.hid hlp
          have HXE := Lib.hid hXe
          have HPO := Lib.hid hPo
          clear hlp hXe hPo hPl
          go_wp2_with fail
          have HXC := Lib.hid (cell_two w10 (.int .i64 0) (.int .u32 (P : Int)) 24)
          refine (length_any 0 P hP _).mono ?_
          rintro e w11 ⟨rfl, hb11⟩
          have hlp := HLP.out
          rw [show ((0 : Nat) : Int) = 0 from rfl] at hlp
          rw [hlp]
          clear hlp
          have x1 := cell_keep hb11 HXC.out.1 (cell_lt HXC.out.1)
          have x2 := cell_keep hb11 HXC.out.2.1 (cell_lt HXC.out.2.1)
          have x3 := (hb11.frozen (p := ⟨w10.heap.size, 0, none⟩) (cell_lt HXC.out.1)).trans HXC.out.2.2.1
          have HBB := Lib.hid (((bel_alloc w10 (.cells #[.int .i64 0, .int .u32 (P : Int)] 24)).trans (hb11.mono (by simp))).setCell (p := ⟨w10.heap.size, 0, none⟩) (Nat.le_refl _) (.int .i64 (X : Int)))
          have hs11 := hb11.size
          rw [World.size_alloc] at hs11
          clear hb11 HXC
          have hxe := HXE.out
          go_wp2_with fail
          have X1 := Lib.hid x1
          clear hxe x1 x3
          have y1 : (w11.setCell ⟨w10.heap.size, 0, none⟩ (.int .i64 (X : Int))).cell? ⟨w10.heap.size, 0, none⟩ = some (.int .i64 (X : Int)) := World.cell?_setCell_same' _ _ _ (by rw [X1.out]; rfl)
          have y2 : (w11.setCell ⟨w10.heap.size, 0, none⟩ (.int .i64 (X : Int))).cell? ⟨w10.heap.size, 1, none⟩ = some (.int .u32 (P : Int)) := (World.cell?_setCell_other _ _ _ _ (by simp)).trans x2
          clear x2 X1
          obtain ⟨w12, HW12⟩ := nm (w11.setCell ⟨w10.heap.size, 0, none⟩ (.int .i64 (X : Int)))
          rw [HW12.out] at HBB y1 y2 ⊢
          have hso := strike_ok B X P hP HPO.out (by rw [HPL.out, ← HNB.out]; have := HF8.out; omega) (by rw [← HNB.out]; omega)
          have hso2 := strike_ok (Gf.flips B (hits X P)) X P hP HPO.out (by rw [HPL.out, Gf.flips_length, ← HNB.out]; have := HF8.out; omega) (by rw [Gf.flips_length, ← HNB.out]; omega)
          have hrn := rise_nodup (hits_rise X P)
          rw [flips_back hBB (hits X P) (hits X P) (fun j hj => by have := hits_lt X P j hj; rw [HPL.out] at this; have := HF8.out; rw [← HNB.out]; omega) hrn hrn (fun _ => Iff.rfl)] at hso2
          have hbb := betw_burst B X P (by rw [HPL.out, ← HNB.out]; have := HF8.out; omega)
          have hbk := burst_ok X P hP HPO.out (by omega)
          have hhe := hits_ends X P HPO.out
          have hhl : (hits X P).length ≤ p := by
            unfold hits
            rw [List.length_map, ← HPL.out]
            have := List.length_filter_le (fun i => P.testBit i) (List.range (Gf.plen P))
            simpa using this
          have hDB := Gf.bytes_flips (hits X P) hBB
          have hDl : (Gf.flips B (hits X P)).length = nb := by rw [Gf.flips_length, HNB.out]
          rw [HPL.out] at hhe hbk
          obtain ⟨H, HH0⟩ := nm (hits X P)
          rw [HH0.out] at hso hso2 hbb hbk hhe hhl hDB hDl
          obtain ⟨D, HD0⟩ := nm (Gf.flips B H)
          rw [HD0.out] at hso hso2 hbb hDB hDl
          have HSO := Lib.hid hso
          have HSO2 := Lib.hid hso2
          have HBT := Lib.hid hbb
          have HBK := Lib.hid hbk
          have HHE := Lib.hid hhe
          have HDL := Lib.hid hDl
          have HRB12 := Lib.hid (HRB.out.keep (gr_trans HBA.out HBB.out) (Nat.le_refl _))
          have hXb : -9223372036854775808 ≤ (X : Int) ∧ (X : Int) ≤ 9223372036854775807 := by omega
          clear hso hso2 hbb hbk hhe hDl hrn HOWR HBQ HBW HOQ HOT
          refine (strike_any _ B (X : Int) P w12 HRB12.out hBB (by rw [← HNB.out]; omega) hP hXb).mono ?_
          rintro e w13 ⟨vd, rfl, hod, hb13⟩
          rw [HSO.out.2] at hod
          rw [HSO.out.1]
          have HD1 := Lib.hid hod.reads
          have HB23 := Lib.hid hb13
          have y3 := cell_keep hb13 y1 (cell_lt y1)
          have y4 := cell_keep hb13 y2 (cell_lt y2)
          clear hod hb13 y1 y2
          go_wp2_with fail
          refine (strike_any _ D (X : Int) P w13 HD1.out hDB (by rw [HDL.out]; omega) hP hXb).mono ?_
          rintro e w14 ⟨vk2, rfl, hok2, hb14⟩
          rw [HSO2.out.2] at hok2
          rw [HSO2.out.1]
          have HK2 := Lib.hid hok2.reads
          have HB34 := Lib.hid hb14
          have y1 := cell_keep hb14 y3 (cell_lt y3)
          have y2 := cell_keep hb14 y4 (cell_lt y4)
          clear hok2 hb14 y3 y4
          go_wp2_with fail
          refine (bits_any (X : Int) P hP hXb w14).mono ?_
          rintro e w15 ⟨vh, rfl, hoh, hb15⟩
          rw [HBK.out.2.2.1] at hoh
          rw [HBK.out.2.2.2.1]
          have HB45 := Lib.hid hb15
          have y3 := cell_keep hb15 y1 (cell_lt y1)
          have y4 := cell_keep hb15 y2 (cell_lt y2)
          rcases hoh.form with ⟨_, hnil⟩ | ⟨gh, ch, rfl, hgh1, hgh2, hgh3, hgh4⟩
          · have h1 := congrArg List.length hnil; rw [ints_length] at h1; have h2 := HHE.out.1; rw [h1] at h2; simp at h2
          rw [ints_length] at hgh3 hoh ⊢
          obtain ⟨nh, HNH⟩ := nm H.length
          have hh1 := HHE.out.1
          rw [HNH.out] at hgh3 hhl hh1 hoh ⊢
          have HH := Lib.hid hoh.reads
          have h0c := hoh.cellAt (by rw [ints_length, HNH.out]) 0 (by omega)
          have hlc := hoh.cellAt (by rw [ints_length, HNH.out]) (nh - 1) (by omega)
          have hlv := HHE.out.2.2
          rw [HNH.out] at hlv
          rw [ints_get, HHE.out.2.1] at h0c
          rw [ints_get, hlv] at hlc
          clear hlv
          obtain ⟨q, HQ⟩ := nm (nh - 1)
          obtain ⟨Z, HZ⟩ := nm (X + p - 1)
          rw [HQ.out, HZ.out] at hlc
          have hXp : X + p ≤ 1632 := by omega
          clear hoh hb15 y1 y2
          go_wp2_with fail
          refine (between_any _ _ D B w15 (HD1.out.keep (gr_trans HB34.out HB45.out) (Nat.le_refl _)) (HRB12.out.keep (gr_trans HB23.out (gr_trans HB34.out HB45.out)) (Nat.le_refl _)) (by rw [HDL.out]; omega) (by rw [← HNB.out]; omega) (fun i => hDB.get i) (fun i => hBB.get i)).mono ?_
          rintro e w16 ⟨⟨vt2, rfl, hot2⟩, hb16⟩
          rw [HBT.out.2] at hot2
          rw [HBT.out.1]
          have HT2 := Lib.hid hot2.reads
          have HB156 := Lib.hid hb16
          have HB416 := Lib.hid (gr_trans HB45.out hb16)
          have HBF := Lib.hid (gr_trans HBA.out (gr_trans HBB.out (gr_trans HB23.out (gr_trans HB34.out HB416.out))))
          have y1 := cell_keep hb16 y3 (cell_lt y3)
          have y2 := cell_keep hb16 y4 (cell_lt y4)
          have h0d := cell_keep hb16 h0c (cell_lt h0c)
          have hld := cell_keep hb16 hlc (cell_lt hlc)
          have HSS : Hid (∀ W, Below w16.heap.size w16 W → Below w16.heap.size w16 W ∧ W.cell? ⟨w10.heap.size, 0, none⟩ = some (.int .i64 (X : Int)) ∧ W.cell? ⟨w10.heap.size, 1, none⟩ = some (.int .u32 (P : Int)) ∧ W.cell? ⟨gh, 0, none⟩ = some (.int .i64 (X : Int)) ∧ W.cell? ⟨gh, q, none⟩ = some (.int .i64 (Z : Int))) := Lib.hid (fun W hW => ⟨hW, cell_keep hW y1 (cell_lt y1), cell_keep hW y2 (cell_lt y2), cell_keep hW h0d (cell_lt h0d), cell_keep hW hld (cell_lt hld)⟩)
          have HLX := Lib.hid HBK.out.2.2.2.2
          clear hot2 hb16 y3 y4 y1 y2 h0c hlc h0d hld
          go_wp2_with fail
          have hD : Below w16.heap.size w16 w16.drew := (Below.refl _ w16).drew
          have hw1 : IntKind.i64.wrap ((nh : Int) - 1) = (q : Int) := by rw [IntWalk.i64_in _ (by omega)]; have := HQ.out; omega
          have hw2 : IntKind.i64.wrap ((X : Int) + (p : Int)) = (X : Int) + (p : Int) := IntWalk.i64_in _ (by omega)
          have hw3 : IntKind.i64.wrap ((X : Int) + (p : Int) - 1) = (Z : Int) := by rw [IntWalk.i64_in _ (by omega)]; have := HZ.out; omega
          have hq1 : (q : Int) < (nh : Int) := by have := HQ.out; omega
          have hq0 : (0 : Int) ≤ (q : Int) := by omega
          have hh2 : (0 : Int) < (nh : Int) := by omega
          refine wp_region_held_drew (S := (fun W => Below w16.heap.size w16 W ∧ W.cell? ⟨w10.heap.size, 0, none⟩ = some (.int .i64 (X : Int)) ∧ W.cell? ⟨w10.heap.size, 1, none⟩ = some (.int .u32 (P : Int)) ∧ W.cell? ⟨gh, 0, none⟩ = some (.int .i64 (X : Int)) ∧ W.cell? ⟨gh, q, none⟩ = some (.int .i64 (Z : Int)))) (by kernel_rfl) (HSS.out _ hD) (fun hS => ?_)
          have hBd := hD
          refine wpAnyH_takeD (i := 0) (d := some 152) (v := ?_) rfl rfl (by kernel_rfl) (by kernel_rfl) (by kernel_rfl) (fun _ _ _ h => h) (Or.inl ⟨by rfl, fun w hSw => ?_⟩) (by assumption) ?_
          rotate_left
          · first | (go_simp; done) | (go_simp; with_reducible rfl)
          simp only [Act.put, List.setIfInBounds_toArray, List.set_cons_zero, List.set_cons_succ]
          refine wpAnyH_takeD (i := 1) (d := some 153) (v := ?_) rfl rfl (by kernel_rfl) (by kernel_rfl) (by kernel_rfl) (fun _ _ _ h => h) (Or.inl ⟨by rfl, fun w hSw => ?_⟩) (by assumption) ?_
          rotate_left
          · first | (go_simp; done) | (go_simp; with_reducible rfl)
          simp only [Act.put, List.setIfInBounds_toArray, List.set_cons_zero, List.set_cons_succ]
          refine wpAnyH_takeD (i := 2) (d := some 154) (v := ?_) rfl rfl (by kernel_rfl) (by kernel_rfl) (by kernel_rfl) (fun _ _ _ h => h) (Or.inl ⟨by rfl, fun w hSw => ?_⟩) (by assumption) ?_
          rotate_left
          · first | (go_simp; done) | (go_simp; with_reducible rfl)
          simp only [Act.put, List.setIfInBounds_toArray, List.set_cons_zero, List.set_cons_succ]
          refine wpAnyH_takeD (i := 3) (d := some 155) (v := ?_) rfl rfl (by kernel_rfl) (by kernel_rfl) (by kernel_rfl) (fun _ _ _ h => h) (Or.inl ⟨by rfl, fun w hSw => ?_⟩) (by assumption) ?_
          rotate_left
          · first | (go_simp; done) | (go_simp; with_reducible rfl)
          simp only [Act.put, List.setIfInBounds_toArray, List.set_cons_zero, List.set_cons_succ]
          refine wpAnyH_takeD (i := 4) (d := some 156) (v := ?_) rfl rfl (by kernel_rfl) (by kernel_rfl) (by kernel_rfl) (fun _ _ _ h => h) (Or.inl ⟨by rfl, fun w hSw => ?_⟩) (by assumption) ?_
          rotate_left
          · first | (go_simp; done) | (go_simp; with_reducible rfl)
          simp only [Act.put, List.setIfInBounds_toArray, List.set_cons_zero, List.set_cons_succ]
          refine wpAnyH_takeD (i := 5) (d := some 157) (v := ?_) rfl rfl (by kernel_rfl) (by kernel_rfl) (by kernel_rfl) (fun _ _ _ h => h) (Or.inl ⟨by rfl, fun w hSw => ?_⟩) (by assumption) ?_
          rotate_left
          · first | (go_simp; done) | (go_simp; with_reducible rfl)
          simp only [Act.put, List.setIfInBounds_toArray, List.set_cons_zero, List.set_cons_succ]
          refine wpAnyH_takeD (i := 6) (d := some 158) (v := ?_) rfl rfl (by kernel_rfl) (by kernel_rfl) (by kernel_rfl) (fun _ _ _ h => h) (Or.inl ⟨by rfl, fun w hSw => ?_⟩) (by assumption) ?_
          rotate_left
          · first | (go_simp; done) | (go_simp; with_reducible rfl)
          simp only [Act.put, List.setIfInBounds_toArray, List.set_cons_zero, List.set_cons_succ]
          refine wpAnyH_takeD (i := 7) (d := some 159) (v := ?_) rfl rfl (by kernel_rfl) (by kernel_rfl) (by kernel_rfl) (fun _ _ _ h => h) (Or.inl ⟨by rfl, fun w hSw => ?_⟩) (by assumption) ?_
          rotate_left
          · first | (go_simp; done) | (go_simp; with_reducible rfl)
          simp only [Act.put, List.setIfInBounds_toArray, List.set_cons_zero, List.set_cons_succ]
          refine wpAnyH_takeD (i := 8) (d := some 160) (v := ?_) rfl rfl (by kernel_rfl) (by kernel_rfl) (by kernel_rfl) (fun _ _ _ h => h) (Or.inl ⟨by rfl, fun w hSw => ?_⟩) (by assumption) ?_
          rotate_left
          · first | (go_simp; done) | (go_simp; with_reducible rfl)
          simp only [Act.put, List.setIfInBounds_toArray, List.set_cons_zero, List.set_cons_succ]
          refine wpAnyH_takeD (i := 9) (d := some 161) (v := ?_) rfl rfl (by kernel_rfl) (by kernel_rfl) (by kernel_rfl) (fun _ _ _ h => h) (Or.inl ⟨by rfl, fun w hSw => ?_⟩) (by assumption) ?_
          rotate_left
          · first | (go_simp; done) | (go_simp; with_reducible rfl)
          simp only [Act.put, List.setIfInBounds_toArray, List.set_cons_zero, List.set_cons_succ]
          refine wpAnyH_takeD (i := 10) (d := some 162) (v := ?_) rfl rfl (by kernel_rfl) (by kernel_rfl) (by kernel_rfl) (fun _ _ _ h => h) (Or.inl ⟨by rfl, fun w hSw => ?_⟩) (by assumption) ?_
          rotate_left
          · first | (go_simp; done) | (go_simp; with_reducible rfl)
          simp only [Act.put, List.setIfInBounds_toArray, List.set_cons_zero, List.set_cons_succ]
          refine wpAnyH_ready (rs := [11]) (by kernel_rfl) (by simp) ?_
          refine AllReadyH.cons rfl (fun K hK => ?_) AllReadyH.nil
          go_simp
          refine (sameBytes_any _ _ B B _ (HK2.out.keep (gr_trans HB416.out hBd) (Nat.le_refl _)) (HRB.out.keep (gr_trans HBF.out hBd) (Nat.le_refl _)) (by rw [← HNB.out]; omega)).mono ?_
          rintro e wb ⟨rfl, hb⟩
          rw [decide_eq_true rfl]
          have hBb := bel_trans hBd hb hBd.size
          refine hK.out _ _ (HSS.out wb hBb) (fun _ => ?_)
          clear hK K hS hBd hb
          obtain ⟨wa, rfl⟩ : ∃ wa : World, wa = wb := ⟨_, rfl⟩
          have hBd := hBb
          clear hBb
          have hS : (fun W => Below w16.heap.size w16 W ∧ W.cell? ⟨w10.heap.size, 0, none⟩ = some (.int .i64 (X : Int)) ∧ W.cell? ⟨w10.heap.size, 1, none⟩ = some (.int .u32 (P : Int)) ∧ W.cell? ⟨gh, 0, none⟩ = some (.int .i64 (X : Int)) ∧ W.cell? ⟨gh, q, none⟩ = some (.int .i64 (Z : Int))) wa := HSS.out wa hBd
          simp only [] at hS
          try simp only [Act.put, List.setIfInBounds_toArray, List.set_cons_zero, List.set_cons_succ]
          refine wpAnyH_takeD (i := 12) (d := some 164) (v := ?_) rfl rfl (by kernel_rfl) (by kernel_rfl) (by kernel_rfl) (fun _ _ _ h => h) (Or.inl ⟨by rfl, fun w hSw => ?_⟩) (by assumption) ?_
          rotate_left
          · first | (go_simp; done) | (go_simp; with_reducible rfl)
          simp only [Act.put, List.setIfInBounds_toArray, List.set_cons_zero, List.set_cons_succ]
          refine wpAnyH_takeD (i := 13) (d := some 165) (v := ?_) rfl rfl (by kernel_rfl) (by kernel_rfl) (by kernel_rfl) (fun _ _ _ h => h) (Or.inl ⟨by rfl, fun w hSw => ?_⟩) (by assumption) ?_
          rotate_left
          · first | (go_simp; done) | (go_simp; with_reducible rfl)
          simp only [Act.put, List.setIfInBounds_toArray, List.set_cons_zero, List.set_cons_succ]
          refine wpAnyH_takeD (i := 14) (d := some 166) (v := ?_) rfl rfl (by kernel_rfl) (by kernel_rfl) (by kernel_rfl) (fun _ _ _ h => h) (Or.inl ⟨by rfl, fun w hSw => ?_⟩) (by assumption) ?_
          rotate_left
          · first | (go_simp; done) | (go_simp; with_reducible rfl)
          simp only [Act.put, List.setIfInBounds_toArray, List.set_cons_zero, List.set_cons_succ]
          refine wpAnyH_takeD (i := 15) (d := some 167) (v := ?_) rfl rfl (by kernel_rfl) (by kernel_rfl) (by kernel_rfl) (fun _ _ _ h => h) (Or.inl ⟨by rfl, fun w hSw => ?_⟩) (by assumption) ?_
          rotate_left
          · first | (go_simp; done) | (go_simp; with_reducible rfl)
          simp only [Act.put, List.setIfInBounds_toArray, List.set_cons_zero, List.set_cons_succ]
          refine wpAnyH_ready (rs := [16]) (by kernel_rfl) (by simp) ?_
          refine AllReadyH.cons rfl (fun K hK => ?_) AllReadyH.nil
          go_simp
          refine (sameInts_any _ _ (ints H) (ints H) _ (HT2.out.keep hBd (Nat.le_refl _)) (HH.out.keep (gr_trans HB156.out hBd) (Nat.le_refl _)) (by rw [ints_length, HNH.out]; omega)).mono ?_
          rintro e wb ⟨rfl, hb⟩
          rw [decide_eq_true rfl]
          have hBb := bel_trans hBd hb hBd.size
          refine hK.out _ _ (HSS.out wb hBb) (fun _ => ?_)
          clear hK K hS hBd hb
          obtain ⟨wa, rfl⟩ : ∃ wa : World, wa = wb := ⟨_, rfl⟩
          have hBd := hBb
          clear hBb
          have hS : (fun W => Below w16.heap.size w16 W ∧ W.cell? ⟨w10.heap.size, 0, none⟩ = some (.int .i64 (X : Int)) ∧ W.cell? ⟨w10.heap.size, 1, none⟩ = some (.int .u32 (P : Int)) ∧ W.cell? ⟨gh, 0, none⟩ = some (.int .i64 (X : Int)) ∧ W.cell? ⟨gh, q, none⟩ = some (.int .i64 (Z : Int))) wa := HSS.out wa hBd
          simp only [] at hS
          try simp only [Act.put, List.setIfInBounds_toArray, List.set_cons_zero, List.set_cons_succ]
          refine wpAnyH_takeD (i := 17) (d := some 169) (v := ?_) rfl rfl (by kernel_rfl) (by kernel_rfl) (by kernel_rfl) (fun _ _ _ h => h) (Or.inl ⟨by rfl, fun w hSw => ?_⟩) (by assumption) ?_
          rotate_left
          · first | (go_simp; done) | (go_simp; with_reducible rfl)
          simp only [Act.put, List.setIfInBounds_toArray, List.set_cons_zero, List.set_cons_succ]
          refine wpAnyH_takeD (i := 18) (d := some 170) (v := ?_) rfl rfl (by kernel_rfl) (by kernel_rfl) (by kernel_rfl) (fun _ _ _ h => h) (Or.inl ⟨by rfl, fun w hSw => ?_⟩) (by assumption) ?_
          rotate_left
          · first | (go_simp; done) | (go_simp; with_reducible rfl)
          simp only [Act.put, List.setIfInBounds_toArray, List.set_cons_zero, List.set_cons_succ]
          refine wpAnyH_takeD (i := 19) (d := some 171) (v := ?_) rfl rfl (by kernel_rfl) (by kernel_rfl) (by kernel_rfl) (fun _ _ _ h => h) (Or.inl ⟨by rfl, fun w hSw => ?_⟩) (by assumption) ?_
          rotate_left
          · first | (go_simp; done) | (go_simp; with_reducible rfl)
          simp only [Act.put, List.setIfInBounds_toArray, List.set_cons_zero, List.set_cons_succ]
          refine wpAnyH_takeD (i := 20) (d := some 172) (v := ?_) rfl rfl (by kernel_rfl) (by kernel_rfl) (by kernel_rfl) (fun _ _ _ h => h) (Or.inl ⟨by rfl, fun w hSw => ?_⟩) (by assumption) ?_
          rotate_left
          · first | (go_simp; done) | (go_simp; with_reducible rfl)
          simp only [Act.put, List.setIfInBounds_toArray, List.set_cons_zero, List.set_cons_succ]
          refine wpAnyH_takeD (i := 21) (d := some 173) (v := ?_) rfl rfl (by kernel_rfl) (by kernel_rfl) (by kernel_rfl) (fun _ _ _ h => h) (Or.inl ⟨by rfl, fun w hSw => ?_⟩) (by assumption) ?_
          rotate_left
          · first | (go_simp; done) | (go_simp; with_reducible rfl)
          simp only [Act.put, List.setIfInBounds_toArray, List.set_cons_zero, List.set_cons_succ]
          refine wpAnyH_takeD (i := 22) (d := some 174) (v := ?_) rfl rfl (by kernel_rfl) (by kernel_rfl) (by kernel_rfl) (fun _ _ _ h => h) (Or.inl ⟨by rfl, fun w hSw => ?_⟩) (by assumption) ?_
          rotate_left
          · first | (go_simp; done) | (go_simp; with_reducible rfl)
          simp only [Act.put, List.setIfInBounds_toArray, List.set_cons_zero, List.set_cons_succ]
          refine wpAnyH_takeD (i := 23) (d := some 175) (v := ?_) rfl rfl (by kernel_rfl) (by kernel_rfl) (by kernel_rfl) (fun _ _ _ h => h) (Or.inl ⟨by rfl, fun w hSw => ?_⟩) (by assumption) ?_
          rotate_left
          · first | (go_simp; done) | (go_simp; with_reducible rfl)
          simp only [Act.put, List.setIfInBounds_toArray, List.set_cons_zero, List.set_cons_succ]
          refine wpAnyH_takeD (i := 24) (d := some 176) (v := ?_) rfl rfl (by kernel_rfl) (by kernel_rfl) (by kernel_rfl) (fun _ _ _ h => h) (Or.inl ⟨by rfl, fun w hSw => ?_⟩) (by assumption) ?_
          rotate_left
          · first | (go_simp; done) | (go_simp; with_reducible rfl)
          simp only [Act.put, List.setIfInBounds_toArray, List.set_cons_zero, List.set_cons_succ]
          refine wpAnyH_takeD (i := 25) (d := some 177) (v := ?_) rfl rfl (by kernel_rfl) (by kernel_rfl) (by kernel_rfl) (fun _ _ _ h => h) (Or.inl ⟨by rfl, fun w hSw => ?_⟩) (by assumption) ?_
          rotate_left
          · first | (go_simp; done) | (go_simp; with_reducible rfl)
          simp only [Act.put, List.setIfInBounds_toArray, List.set_cons_zero, List.set_cons_succ]
          refine wpAnyH_takeD (i := 26) (d := some 178) (v := ?_) rfl rfl (by kernel_rfl) (by kernel_rfl) (by kernel_rfl) (fun _ _ _ h => h) (Or.inl ⟨by rfl, fun w hSw => ?_⟩) (by assumption) ?_
          rotate_left
          · first | (go_simp; done) | (go_simp; with_reducible rfl)
          simp only [Act.put, List.setIfInBounds_toArray, List.set_cons_zero, List.set_cons_succ]
          refine wpAnyH_takeD (i := 27) (d := some 179) (v := ?_) rfl rfl (by kernel_rfl) (by kernel_rfl) (by kernel_rfl) (fun _ _ _ h => h) (Or.inl ⟨by rfl, fun w hSw => ?_⟩) (by assumption) ?_
          rotate_left
          · first | (go_simp; done) | (go_simp; with_reducible rfl)
          simp only [Act.put, List.setIfInBounds_toArray, List.set_cons_zero, List.set_cons_succ]
          refine wpAnyH_takeD (i := 28) (d := some 180) (v := ?_) rfl rfl (by kernel_rfl) (by kernel_rfl) (by kernel_rfl) (fun _ _ _ h => h) (Or.inl ⟨by rfl, fun w hSw => ?_⟩) (by assumption) ?_
          rotate_left
          · first | (go_simp; done) | (go_simp; with_reducible rfl)
          simp only [Act.put, List.setIfInBounds_toArray, List.set_cons_zero, List.set_cons_succ]
          refine wpAnyH_takeD (i := 29) (d := some 181) (v := ?_) rfl rfl (by kernel_rfl) (by kernel_rfl) (by kernel_rfl) (fun _ _ _ h => h) (Or.inl ⟨by rfl, fun w hSw => ?_⟩) (by assumption) ?_
          rotate_left
          · first | (go_simp; done) | (go_simp; with_reducible rfl)
          simp only [Act.put, List.setIfInBounds_toArray, List.set_cons_zero, List.set_cons_succ]
          refine wpAnyH_takeD (i := 30) (d := some 182) (v := ?_) rfl rfl (by kernel_rfl) (by kernel_rfl) (by kernel_rfl) (fun _ _ _ h => h) (Or.inl ⟨by rfl, fun w hSw => ?_⟩) (by assumption) ?_
          rotate_left
          · first | (go_simp; done) | (go_simp; with_reducible rfl)
          simp only [Act.put, List.setIfInBounds_toArray, List.set_cons_zero, List.set_cons_succ]
          refine wpAnyH_takeD (i := 31) (d := some 183) (v := ?_) rfl rfl (by kernel_rfl) (by kernel_rfl) (by kernel_rfl) (fun _ _ _ h => h) (Or.inl ⟨by rfl, fun w hSw => ?_⟩) (by assumption) ?_
          rotate_left
          · first | (go_simp; done) | (go_simp; with_reducible rfl)
          simp only [Act.put, List.setIfInBounds_toArray, List.set_cons_zero, List.set_cons_succ]
          refine wpAnyH_takeD (i := 32) (d := some 184) (v := ?_) rfl rfl (by kernel_rfl) (by kernel_rfl) (by kernel_rfl) (fun _ _ _ h => h) (Or.inl ⟨by rfl, fun w hSw => ?_⟩) (by assumption) ?_
          rotate_left
          · first | (go_simp; done) | (go_simp; with_reducible rfl)
          simp only [Act.put, List.setIfInBounds_toArray, List.set_cons_zero, List.set_cons_succ]
          refine wpAnyH_takeD (i := 33) (d := some 185) (v := ?_) rfl rfl (by kernel_rfl) (by kernel_rfl) (by kernel_rfl) (fun _ _ _ h => h) (Or.inl ⟨by rfl, fun w hSw => ?_⟩) (by assumption) ?_
          rotate_left
          · first | (go_simp; done) | (go_simp; with_reducible rfl)
          simp only [Act.put, List.setIfInBounds_toArray, List.set_cons_zero, List.set_cons_succ]
          refine wpAnyH_takeD (i := 34) (d := some 186) (v := ?_) rfl rfl (by kernel_rfl) (by kernel_rfl) (by kernel_rfl) (fun _ _ _ h => h) (Or.inl ⟨by rfl, fun w hSw => ?_⟩) (by assumption) ?_
          rotate_left
          · first | (go_simp; done) | (go_simp; with_reducible rfl)
          simp only [Act.put, List.setIfInBounds_toArray, List.set_cons_zero, List.set_cons_succ]
          refine wpAnyH_takeD (i := 35) (d := some 187) (v := ?_) rfl rfl (by kernel_rfl) (by kernel_rfl) (by kernel_rfl) (fun _ _ _ h => h) (Or.inl ⟨by rfl, fun w hSw => ?_⟩) (by assumption) ?_
          rotate_left
          · first | (go_simp; done) | (go_simp; with_reducible rfl)
          simp only [Act.put, List.setIfInBounds_toArray, List.set_cons_zero, List.set_cons_succ]
          refine wpAnyH_takeD (i := 36) (d := some 188) (v := ?_) rfl rfl (by kernel_rfl) (by kernel_rfl) (by kernel_rfl) (fun _ _ _ h => h) (Or.inl ⟨by rfl, fun w hSw => ?_⟩) (by assumption) ?_
          rotate_left
          · first | (go_simp; done) | (go_simp; with_reducible rfl)
          simp only [Act.put, List.setIfInBounds_toArray, List.set_cons_zero, List.set_cons_succ]
          refine wpAnyH_takeD (i := 37) (d := some 189) (v := ?_) rfl rfl (by kernel_rfl) (by kernel_rfl) (by kernel_rfl) (fun _ _ _ h => h) (Or.inl ⟨by rfl, fun w hSw => ?_⟩) (by assumption) ?_
          rotate_left
          · first | (go_simp; done) | (go_simp; with_reducible rfl)
          simp only [Act.put, List.setIfInBounds_toArray, List.set_cons_zero, List.set_cons_succ]
          refine wpAnyH_takeD (i := 38) (d := some 190) (v := ?_) rfl rfl (by kernel_rfl) (by kernel_rfl) (by kernel_rfl) (fun _ _ _ h => h) (Or.inl ⟨by rfl, fun w hSw => ?_⟩) (by assumption) ?_
          rotate_left
          · first | (go_simp; done) | (go_simp; with_reducible rfl)
          simp only [Act.put, List.setIfInBounds_toArray, List.set_cons_zero, List.set_cons_succ]
          refine wpAnyH_takeD (i := 39) (d := some 191) (v := ?_) rfl rfl (by kernel_rfl) (by kernel_rfl) (by kernel_rfl) (fun _ _ _ h => h) (Or.inl ⟨by rfl, fun w hSw => ?_⟩) (by assumption) ?_
          rotate_left
          · first | (go_simp; done) | (go_simp; with_reducible rfl)
          simp only [Act.put, List.setIfInBounds_toArray, List.set_cons_zero, List.set_cons_succ]
          refine wpAnyH_takeD (i := 40) (d := some 192) (v := ?_) rfl rfl (by kernel_rfl) (by kernel_rfl) (by kernel_rfl) (fun _ _ _ h => h) (Or.inl ⟨by rfl, fun w hSw => ?_⟩) (by assumption) ?_
          rotate_left
          · first | (go_simp; done) | (go_simp; with_reducible rfl)
          simp only [Act.put, List.setIfInBounds_toArray, List.set_cons_zero, List.set_cons_succ]
          refine wpAnyH_ready (rs := [41]) (by kernel_rfl) (by simp) ?_
          refine AllReadyH.cons rfl (fun K hK => ?_) AllReadyH.nil
          go_simp
          refine (length_any (X : Int) P hP _).mono ?_
          rintro e wb ⟨rfl, hb⟩
          rw [HLX.out]
          have hBb := bel_trans hBd hb hBd.size
          refine hK.out _ _ (HSS.out wb hBb) (fun _ => ?_)
          clear hK K hS hBd hb
          obtain ⟨wa, rfl⟩ : ∃ wa : World, wa = wb := ⟨_, rfl⟩
          have hBd := hBb
          clear hBb
          have hS : (fun W => Below w16.heap.size w16 W ∧ W.cell? ⟨w10.heap.size, 0, none⟩ = some (.int .i64 (X : Int)) ∧ W.cell? ⟨w10.heap.size, 1, none⟩ = some (.int .u32 (P : Int)) ∧ W.cell? ⟨gh, 0, none⟩ = some (.int .i64 (X : Int)) ∧ W.cell? ⟨gh, q, none⟩ = some (.int .i64 (Z : Int))) wa := HSS.out wa hBd
          simp only [] at hS
          try simp only [Act.put, List.setIfInBounds_toArray, List.set_cons_zero, List.set_cons_succ]
          refine wpAnyH_takeD (i := 42) (d := some 194) (v := ?_) rfl rfl (by kernel_rfl) (by kernel_rfl) (by kernel_rfl) (fun _ _ _ h => h) (Or.inl ⟨by rfl, fun w hSw => ?_⟩) (by assumption) ?_
          rotate_left
          · first | (go_simp; done) | (go_simp; with_reducible rfl)
          simp only [Act.put, List.setIfInBounds_toArray, List.set_cons_zero, List.set_cons_succ]
          refine wpAnyH_takeD (i := 43) (d := some 195) (v := ?_) rfl rfl (by kernel_rfl) (by kernel_rfl) (by kernel_rfl) (fun _ _ _ h => h) (Or.inl ⟨by rfl, fun w hSw => ?_⟩) (by assumption) ?_
          rotate_left
          · first | (go_simp; done) | (go_simp; with_reducible rfl)
          simp only [Act.put, List.setIfInBounds_toArray, List.set_cons_zero, List.set_cons_succ]
          refine wpAnyH_takeD (i := 44) (d := some 196) (v := ?_) rfl rfl (by kernel_rfl) (by kernel_rfl) (by kernel_rfl) (fun _ _ _ h => h) (Or.inl ⟨by rfl, fun w hSw => ?_⟩) (by assumption) ?_
          rotate_left
          · first | (go_simp; done) | (go_simp; with_reducible rfl)
          simp only [Act.put, List.setIfInBounds_toArray, List.set_cons_zero, List.set_cons_succ]
          refine wpAnyH_takeD (i := 45) (d := some 197) (v := ?_) rfl rfl (by kernel_rfl) (by kernel_rfl) (by kernel_rfl) (fun _ _ _ h => h) (Or.inl ⟨by rfl, fun w hSw => ?_⟩) (by assumption) ?_
          rotate_left
          · first | (go_simp; done) | (go_simp; with_reducible rfl)
          simp only [Act.put, List.setIfInBounds_toArray, List.set_cons_zero, List.set_cons_succ]
          refine wpAnyH_takeD (i := 46) (d := some 8) (v := ?_) rfl rfl (by kernel_rfl) (by kernel_rfl) (by kernel_rfl) (fun _ _ _ h => h) (Or.inl ⟨by rfl, fun w hSw => ?_⟩) (by assumption) ?_
          rotate_left
          · first | (go_simp; done) | (go_simp; with_reducible rfl)
          simp only [Act.put, List.setIfInBounds_toArray, List.set_cons_zero, List.set_cons_succ]
          refine wpAnyH_done (by kernel_rfl) ?_ _
          go_wp2_with fail
          go_ret
          exact ⟨rfl, gr_trans HG2.out (gr_trans HBF.out hBd)⟩
theorem damageTwice_row (w : World) (v : Value) (xs : List Nat) (hv : Reads .u8 w v xs) (hx : Bytes xs) (vl : Value) (l : List Nat) (hvl : Reads .u16 w vl l) (hl : ∀ y ∈ l, y < 65536) (at' : Nat) (ha : at' < 65536) (b : Nat) (hb : b < 4294967296) (hT : Tab w) :
    Calls Tryd.prog 5 #[v, vl, .int .u16 at', .int .u32 b] w fun e w' => e = .returned (.bool true) ∧ Below w.heap.size w w' :=
  damageTwice_all v xs vl l at' b w hv hx hvl hl ha hb hT
end Go.Proofs.YtmjigpnpcacefaaDoor
