/- The walk of the law DamageWrong. -/
import Derived.Test.YtmjigpnpcacefaaDoorStmB
import Derived.Test.YtmjigpnpcacefaaDoorDmgW
import Derived.Test.YtmjigpnpcacefaaDoorApps
import Derived.Test.YtmjigpnpcacefaaDoorStep
import Derived.Deep.DeepCutAuto
namespace Go.Proofs.YtmjigpnpcacefaaDoor
open Go Go.RowKit Go.Shelf

/-- The pieces that are none: where they begin, and where they end. -/
def prA (lo big : Int) : Nat → Int
  | 0 => lo
  | 1 => 0
  | 2 => 1
  | _ => big
def prB (big : Int) : Nat → Int
  | 0 => 1
  | 1 => big
  | 2 => 0
  | _ => big
theorem ints_take (K : List Nat) (k : Nat) : (ints K).take k = ints (K.take k) := by unfold ints; rw [List.map_take]
theorem flip_reads {w : World} {aq : Option Addr} {nq cq k : Nat} {K : List Nat} (h : ReadsI .i64 w (.slice aq nq cq) (ints K)) (hk : k ≤ nq) :
    ReadsI .i64 w (.slice aq k cq) (ints (K.take k)) ∧ ReadsI .i64 w (.slice (if cq = k then aq else aq.map fun x => x.add k) (nq - k) (cq - k)) (ints (K.drop k)) := by
  refine ⟨?_, readsI_of (reads_from (reads_of_I h) hk)⟩
  have := h.pre hk
  rwa [ints_take] at this
set_option maxRecDepth 100000 in
set_option maxHeartbeats 8000000 in
theorem damageWrong_all (v : Value) (xs : List Nat) (w : World) (hv : Reads .u8 w v xs) (hx : Bytes xs) (vl : Value) (l : List Nat) (hvl : Reads .u16 w vl l) (hl : ∀ y ∈ l, y < 65536) (at' : Nat) (ha : at' < 256) (z : Int) (hz : -9223372036854775808 ≤ z ∧ z ≤ 9223372036854775807) (hT : Tab w) :
    Calls Tryd.prog 8 #[v, vl, .int .u8 at', .int .i64 z] w fun e w' => e = .returned (.bool true) ∧ Below w.heap.size w w' := by
  have HV := Lib.hid hv
  have HT := Lib.hid hT
  have HVL := Lib.hid hvl
  obtain ⟨av, cv, rfl, hlv, hcv, hsv⟩ := hv
  obtain ⟨al, cl, rfl, hll, hcl, hsl⟩ := hvl
  obtain ⟨n, HN⟩ := nm xs.length
  obtain ⟨m, HM⟩ := nm l.length
  rw [HN.out] at hlv HV hsv ⊢
  rw [HM.out] at hll HVL hsl ⊢
  have HSL := Lib.hid hsl
  have HL16 := Lib.hid hl
  clear hT hsv hsl hl
  obtain ⟨N2, HN2⟩ := nm (min n 100)
  obtain ⟨M2, HM2⟩ := nm (min m 20)
  have hn2a : N2 ≤ n := by have := HN2.out; omega
  have hn2b : N2 ≤ 100 := by have := HN2.out; omega
  have hm2a : M2 ≤ m := by have := HM2.out; omega
  have hm2b : M2 ≤ 20 := by have := HM2.out; omega
  have hmin1 : min (n : Int) 100 = (N2 : Int) := by have := HN2.out; omega
  have hmin2 : min (m : Int) 20 = (M2 : Int) := by have := HM2.out; omega
  go_enter Tryd.func8, Tryd.ntmps8
  go_wp2_with fail
  refine (awakeD_any w HT.out).mono ?_
  rintro e w1 ⟨rfl, hb1⟩
  have hv1 := reads_pre (HV.out.keep hb1 (Nat.le_refl _)) hn2a
  have HV1 := Lib.hid hv1
  clear hv1
  go_wp2_with (first | (at_builtin; refine wpl_app rfl (.tmp 48) (.tmp 53) 28 rfl .u8 5 1 Tryd.underlying28 info_u8 (by decide) w1.heap.size _ [0] _ (owns_lit .u8 5 w1 w1.heap.size (Nat.le_refl _) [0] _ 1 rfl rfl (by decide)) rfl _ (xs.take N2) rfl ?_ ?_ ?_ ?_; (exact HV1.out.keep (bel_alloc w1 _) (Nat.le_refl _)); (rw [List.length_take]; simp; omega); (simp); intro vb w2 hob hb2; have HOB := Lib.hid hob; clear hob; obtain ⟨ab, nb, cb, rfl, hnb, hcb1, hcb2⟩ := owns_form3 HOB.out; have hnb0 : 1 ≤ nb ∧ nb ≤ 101 := (by rw [hnb, List.length_append, List.length_take, HN.out]; simp; omega); have HNB := Lib.hid hnb; clear hnb; obtain ⟨hnb1, hnb2⟩ := hnb0) | (refine wpl_makeB rfl (.tmp 57) (.tmp 57) 32 rfl 4 1 Tryd.underlying32 info_bool (by decide) w2.heap.size w2 (8 * nb) _ _ rfl rfl ?_ ?_ ?_ (Nat.le_refl _) ?_; (omega); (omega); (omega); intro vf w3 hof hb3; have HOF := Lib.hid hof; clear hof))
  have hB0 : Below w.heap.size w w2 := gr_trans hb1 ((bel_alloc w1 _).trans hb2)
  have hBB : Bytes ([0] ++ xs.take N2) := Bytes.append (bytes_lit rfl) (fun y hy => hx y (List.mem_of_mem_take hy))
  obtain ⟨B, HB⟩ := nm ([0] ++ xs.take N2)
  rw [HB.out] at hBB HOB HNB
  obtain ⟨F, HF⟩ := nm (8 * nb)
  have hof := HOF.out
  rw [HF.out, ← tbl_nil] at hof
  obtain ⟨gf, cf, rfl, hg1, hg2, hg3, hg4⟩ := hof.slice (by rw [tbl_length]; have := HF.out; omega)
  rw [tbl_length] at hg3 hof ⊢
  have hF8 : F = 8 * nb := HF.out.symm
  have hF0 : 8 ≤ F ∧ F ≤ 808 := by omega
  obtain ⟨hF1, hF2⟩ := hF0
  have hF8i : (8 * (nb : Int)) = (F : Int) := by omega
  have HF8 := Lib.hid hF8
  rw [hF8i]
  have h32 := hb3.size
  have HOF0 := Lib.hid hof
  clear hof HOF hF8 hF8i hmin1 hmin2 hb1 hb2
  go_loopw [9, 65] (fun vq vi wr => ∃ i : Nat, i ≤ M2 ∧ vi = .int .i64 (i : Int) ∧ OwnsI .i64 3 wr w3.heap.size vq (ints (uq F (l.take i))) ∧ OwnsB 4 wr w2.heap.size (.slice (some ⟨gf, 0, none⟩) F cf) (tbl F (uq F (l.take i))) ∧ Below w2.heap.size w2 wr ∧ w3.heap.size ≤ wr.heap.size)
    (fun _ vi _ => M2 - (intOf vi).toNat)
  case atStart => exact ⟨0, Nat.zero_le _, rfl, OwnsI.nil _ _ _ _, HOF0.out, hb3, Nat.le_refl _⟩
  case round =>
    obtain ⟨i, hi, rfl, hoq, hot, hBr, hsr⟩ := hrel
    by_cases hlt : i < M2
    · obtain ⟨bl, ol, rfl, hcl'⟩ := HSL.out.resolve_left (fun h => by omega)
      have hB1 := gr_trans hB0 hBr
      have ck := cell_keep hB1 (hcl' i (by omega)) (cell_lt (hcl' i (by omega)))
      have hil : i < l.length := by rw [HM.out]; omega
      have hx16 : l[i]?.getD 0 < 65536 := HL16.out _ (by rw [List.getElem?_eq_getElem hil]; exact List.getElem_mem hil)
      have htk : l.take (i + 1) = l.take i ++ [l[i]?.getD 0] := by rw [List.take_succ_eq_append_getElem hil, List.getElem?_eq_getElem hil]; rfl
      have hus := uq_snoc F (l.take i) (l[i]?.getD 0)
      rw [← htk] at hus
      have hul := uq_length F (l.take i)
      have hul2 : (l.take i).length ≤ i := List.length_take_le _ _
      obtain ⟨x, HX⟩ := nm (l[i]?.getD 0)
      rw [HX.out] at ck hx16 hus
      obtain ⟨U, HU⟩ := nm (uq F (l.take i))
      rw [HU.out] at hus hoq hot hul
      obtain ⟨U2, HU2⟩ := nm (uq F (l.take (i + 1)))
      rw [HU2.out] at hus
      have hkF : x % F < F := Nat.mod_lt _ (by omega)
      have hxm : (x : Int) % (F : Int) = ((x % F : Nat) : Int) := by omega
      obtain ⟨k, HK⟩ := nm (x % F)
      rw [HK.out] at hus hkF hxm
      have cf1 := hot.cellAt (tbl_length F U).symm k hkF
      have ff1 := hot.frozenAt (tbl_length F U).symm k
      rw [tbl_get F U k hkF] at cf1
      have hUL : (ints U).length < 17592186044414 := by rw [ints_length]; omega
      obtain ⟨aq, nq, cq, rfl, hnq, _, _, _⟩ := hoq.slice
      have hset := fun h => (hot.set (tbl_length F U).symm k true h : _)
      have HOQ := Lib.hid hoq
      have HOT := Lib.hid hot
      have HSET := Lib.hid hset
      have HUL := Lib.hid hUL
      have hk0 : (0 : Int) ≤ (k : Int) := by omega
      have hk1 : (k : Int) < (F : Int) := by omega
      clear hoq hot hset htk hul hul2 hcl' hnq hUL
      by_cases hin : k ∈ U
      · rw [if_pos hin] at hus
        rw [decide_eq_true hin] at cf1
        have HUS := Lib.hid hus
        clear hus hin
        go_wp2_with fail
        go_roundw
        case rel => exact ⟨i + 1, by omega, by go_num, by rw [HU2.out, HUS.out]; exact HOQ.out, by rw [HU2.out, HUS.out]; exact HOT.out, hBr, hsr⟩
        case measure => simp [intOf]; omega
      · rw [if_neg hin] at hus
        rw [decide_eq_false hin] at cf1
        have HUS := Lib.hid hus
        have hq2 : OwnsI .i64 3 (wr.setCell ⟨gf, k, none⟩ (.bool true)) w3.heap.size (.slice aq nq cq) (ints U) := HOQ.out.other (fun j hj => by have := (World.ownsRow.lt HOQ.out j hj).1; omega)
        have HQ2 := Lib.hid hq2
        clear hus hin hq2
        go_wp2_with (at_builtin; refine wpl_app1I rfl (.tmp 82) (.tmp 84) 25 rfl .i64 3 8 Tryd.underlying25 info_int (by decide) w3.heap.size _ (ints U) _ HQ2.out rfl (k : Int) ?_ HUL.out ?_ ?_; (rw [World.size_setCell]; rfl); (rw [World.size_setCell]; exact hsr); intro vq2 w5 hoq5 hb5)
        go_roundw
        case rel =>
          refine ⟨i + 1, by omega, by go_num, ?_, ?_, ?_, ?_⟩
          · rw [HU2.out, HUS.out, show ints (U ++ [k]) = ints U ++ [(k : Int)] by simp [ints]]; exact hoq5
          · have h1 := HSET.out (by rw [tbl_length]; exact hkF)
            rw [tbl_set, ← HUS.out] at h1
            rw [HU2.out]
            exact h1.keepAt hb5 hg2
          · exact (hBr.setCell (p := ⟨gf, k, none⟩) hg1 _).trans (hb5.mono (by omega))
          · have := hb5.size; rw [World.size_setCell] at this; omega
        case measure => simp [intOf]; omega
    · obtain rfl : i = M2 := by omega
      have hKn := uq_nodup F (l.take i)
      have hKF := uq_lt F (by omega) (l.take i)
      have hKl : (uq F (l.take i)).length ≤ i := Nat.le_trans (uq_length F _) (List.length_take_le _ _)
      obtain ⟨K, HK⟩ := nm (uq F (l.take i))
      rw [HK.out] at hKn hKF hKl hoq
      obtain ⟨aq, nq, cq, rfl, hnq, hnqc, hcqm, _⟩ := hoq.slice
      rw [ints_length] at hnq
      have hq20 : nq ≤ 20 := by omega
      have HKN := Lib.hid hKn
      have HKF := Lib.hid hKF
      have HNQ := Lib.hid hnq
      have HRQ := Lib.hid hoq.reads
      have HB0 := Lib.hid (gr_trans hB0 hBr)
      have HRB := Lib.hid (HOB.out.reads.keep hBr (Nat.le_refl _))
      obtain ⟨wo, rfl⟩ : ∃ wo : World, wo = wr := ⟨_, rfl⟩
      have hB8 : B.length = nb := HNB.out.symm
      have HB8 := Lib.hid hB8
      clear hoq hot hKn hKF hKl HOF0 hb3 hBr HSL HVL HV1 HV hB0 hnq HOB HL16 hB8
      have hmd : at' % (nq + 1) < nq + 1 := Nat.mod_lt _ (by omega)
      have hme : (at' : Int) % ((nq : Int) + 1) = ((at' % (nq + 1) : Nat) : Int) := by rw [show (nq : Int) + 1 = ((nq + 1 : Nat) : Int) by omega]; simp
      obtain ⟨k, HKK⟩ := nm (at' % (nq + 1))
      rw [HKK.out] at hmd hme
      obtain ⟨lo, HLO⟩ := nm (min z (-1))
      obtain ⟨hi', HHI⟩ := nm (max z (F : Int))
      have hlo : lo < 0 ∧ -9223372036854775808 ≤ lo := by have := HLO.out; omega
      have hhi : (F : Int) ≤ hi' ∧ hi' ≤ 9223372036854775807 := by have := HHI.out; omega
      obtain ⟨hlo1, hlo2⟩ := hlo
      obtain ⟨hhi1, hhi2⟩ := hhi
      go_wp2_with fail
      rw [hme, HLO.out, HHI.out]
      have hcl := cell_two wo (.int .i64 lo) (.int .i64 hi') 3
      have hbp := bel_alloc wo (.cells #[.int .i64 lo, .int .i64 hi'] 3)
      obtain ⟨wp, HWP⟩ := nm (wo.alloc (.cells #[.int .i64 lo, .int .i64 hi'] 3))
      rw [HWP.out] at hcl hbp ⊢
      have HCL := Lib.hid (fun j (hj : j < 2) => (show ∃ bad, wp.cell? ⟨wo.heap.size, j, none⟩ = some (.int .i64 bad) ∧ (bad < 0 ∨ (F : Int) ≤ bad) ∧ -9223372036854775808 ≤ bad ∧ bad ≤ 9223372036854775807 from by
        rcases (show j = 0 ∨ j = 1 by omega) with rfl | rfl
        · exact ⟨lo, hcl.1, .inl hlo1, by omega, by omega⟩
        · exact ⟨hi', hcl.2.1, .inr hhi1, by omega, hhi2⟩))
      have HRQ1 := Lib.hid (HRQ.out.keep hbp (Nat.le_refl _))
      have HRB1 := Lib.hid (HRB.out.keep hbp (Nat.le_refl _))
      have HBT := Lib.hid (gr_trans HB0.out hbp)
      have hzlo : min z (-1) = lo := HLO.out
      have HHI0 := Lib.hid (HHI.out : max z (F : Int) = hi')
      have HKI := Lib.hid (show ints K = ints (K.take k) ++ ints (K.drop k) from by unfold ints; rw [← List.map_append, List.take_append_drop])
      have hkl : (ints (K.take k)).length = k := by rw [ints_length, List.length_take]; have := HNQ.out; omega
      have hkd : (ints (K.drop k)).length = nq - k := by rw [ints_length, List.length_drop]; have := HNQ.out; omega
      have HKL := Lib.hid (And.intro hkl hkd)
      clear hcl hbp HRQ HRB HB0 hme HWP hkl hkd
      go_loopw [101] (fun vj wr => ∃ j : Nat, j ≤ 2 ∧ vj = .int .i64 (j : Int) ∧ Below wp.heap.size wp wr) (fun vj _ => 2 - (intOf vj).toNat)
      case atStart => exact ⟨0, by omega, rfl, Below.refl _ _⟩
      case round =>
        obtain ⟨j, hj, rfl, hBr⟩ := hrel
        by_cases hlt2 : j < 2
        · obtain ⟨bad, hbc, hbad, hbb1, hbb2⟩ := HCL.out j hlt2
          have ck := cell_keep hBr hbc (cell_lt hbc)
          have HBR := Lib.hid hBr
          have HBAD := Lib.hid hbad
          have hkq : k ≤ nq := by omega
          have hrd := flip_reads (HRQ1.out.keep hBr (Nat.le_refl _)) hkq
          obtain ⟨a2, hif⟩ : ∃ a2, (if cq = k then aq else aq.map fun x => x.add k) = a2 := ⟨_, rfl⟩
          rw [hif] at hrd
          have HRD := Lib.hid hrd
          clear hBr hbc hbad hrd
          obtain ⟨wq, rfl⟩ : ∃ wq : World, wq = wr := ⟨_, rfl⟩
          go_upto_region 18 with fail
          refine stmt18 _ _ _ _ _ _ _ _ _ _ _ _ _ _ _ _ _ _ _ _ _ _ _ _ _ _ _ _ _ _ _ _ _ _ _ _ _ _ _ _ _ _ _ _ _ _ _ _ _ _ _ _ _ _ _ _ _ _ _ _ _ _ _ _ _ _ _ _ _ _ _ _ _ _ _ _ _ _ _ _ _ _ _ _ _ _ _ _ _ _ _ _ _ _ _ _ _ _ _ _ _ _ _ _ _ _ _ _ _ _ _ _ _ _ _ _ _ _ _ _ _ _ _ _ _ _ _ _ _ _ _ _ _ _ _ _ _ _ _ _ _ _ _ _ _ _ _ _ _ _ _ _ _ _ _ _ _ _ _ _ _ _ _ _ _ _ _ _ _ _ _ _ _ _ _ _ _ _ _ _ _ _ _ _ _ _ _ _ _ _ _ _ _ _ _ _ _ _ _ _ _ _ _ _ _ _ _ _ _ _ _ _ _ _ _ _ _ _ _ _ _ _ _ _ _ _ _ _ _ _ _ _ _ _ _ _ _ _ _ _ _ _ _ _ _ _ _ _ _ _ _ _ _ _ _ _ _ _ _ _ _ _ _ _ _ _ _ _ _ _ _ _ _ _ _ _ _ _ _ _ _ _ _ _ _ _ _ _ _ _ _ _ _ _ _ _ _ _ _ _ _ _ _ _ _ _ _ _ _ _ _ _ _ _ _ _ _ _ _ _ _ _ _ _ _ _ _ _ _ _ _ _ _ _ _ _ _ _ wq aq a2 nq cq k (ints (K.take k)) (ints (K.drop k)) bad hkq hnqc hcqm hq20 hif HRD.out.1 HRD.out.2 HKL.out.1 HKL.out.2 (fun _ _ _ _ _ h => h) ?_
          intro u105 u106 u107 u108 u109 u110 u111 u112 u113 u114 u115 u116 aw cw wc hrw hbw
          have hfe := flip_bad B K k bad (fun q hq => by have := HKF.out q hq; have := HF8.out; have := HB8.out; omega) HKN.out (by
            rcases HBAD.out with h | h
            · exact .inl h
            · right; have := HF8.out; have := HB8.out; omega) (ints (K.drop k))
          have hfv := flip_no hfe (by decide)
          have hbd : ∀ c ∈ ints (K.take k) ++ bad :: ints (K.drop k), -9223372036854775808 ≤ c ∧ c ≤ 9223372036854775807 := by
            intro c hc
            rcases List.mem_append.1 hc with h | h
            · exact ints_bound (fun q hq => HKF.out q (List.mem_of_mem_take hq)) (by omega) c h
            · rcases List.mem_cons.1 h with rfl | h
              · exact ⟨hbb1, hbb2⟩
              · exact ints_bound (fun q hq => HKF.out q (List.mem_of_mem_drop hq)) (by omega) c h
          have HFE := Lib.hid hfe
          have HFV := Lib.hid hfv
          have HBD := Lib.hid hbd
          have HRW := Lib.hid hrw
          have HBW := Lib.hid (gr_trans HBR.out hbw)
          clear hfe hfv hbd hrw hbw hif ck
          go_wp2_with fail
          refine (flip_any _ B _ (ints (K.take k) ++ bad :: ints (K.drop k)) _ (HRB1.out.keep HBW.out (Nat.le_refl _)) hBB (by have := HB8.out; omega) HRW.out HBD.out).mono ?_
          rintro e wy ⟨vc, rfl, hoc, hby⟩
          rw [HFV.out] at hoc
          rw [HFE.out]
          obtain ⟨ac, nc, cc, rfl, hnc, -⟩ := owns_form3 hoc
          obtain rfl : nc = 0 := hnc
          have HBY := Lib.hid (gr_trans HBW.out hby)
          clear hoc hby
          go_wp2_with fail
          have hoe := of_arg [3, lo] (.inr ⟨lo, by simp, hlo1⟩)
          refine (of_lit [3, lo] _ wy rfl _ _ 2 rfl rfl (by decide) (by intro c hc; simp at hc; omega)).mono ?_
          rintro e wz ⟨rfl, hbz⟩
          rw [hoe]
          obtain ⟨aZ, HAZ⟩ := nm (ofA [3, lo])
          obtain ⟨bZ, HBZ⟩ := nm (ofB [3, lo])
          rw [HAZ.out, HBZ.out]
          obtain ⟨n1, n2, n3, n4⟩ := cell_two wz (.int .i64 0) (.int .u32 0) 24
          have HBZ2 := Lib.hid (gr_trans HBY.out (gr_trans hbz (bel_alloc wz (.cells #[.int .i64 aZ, .int .u32 (bZ : Int)] 24))))
          clear hbz hoe
          go_wp2_with fail
          go_roundw
          case rel => exact ⟨j + 1, by omega, by go_num, HBZ2.out⟩
          case measure => simp [intOf]; omega
        · obtain rfl : j = 2 := by omega
          rw [show ((2 : Nat) : Int) = 2 from rfl]
          have HBR := Lib.hid hBr
          clear hBr HCL
          have HRQ2 := Lib.hid (HRQ1.out.keep HBR.out (Nat.le_refl _))
          have HRB2 := Lib.hid (HRB1.out.keep HBR.out (Nat.le_refl _))
          obtain ⟨wq, rfl⟩ : ∃ wq : World, wq = wr := ⟨_, rfl⟩
          clear HRQ1
          go_upto_if 144 with fail
          go_cut [9] (fun v wx => v = .slice aq nq cq ∧ Below wp.heap.size wp wx)
          case first =>
            by_cases h0 : nq = 0
            · subst h0
              go_wp2_with fail
              go_meet
              exact ⟨rfl, HBR.out⟩
            · have h0' : 0 < nq := by omega
              obtain ⟨jj, HJJ⟩ := nm (at' % nq)
              have hjl : jj < nq := by rw [← HJJ.out]; exact Nat.mod_lt _ h0'
              have hwa : IntKind.i64.wrap (at' : Int) = (at' : Int) := IntWalk.i64_in _ (by omega)
              have hta : (at' : Int).tmod (nq : Int) = (jj : Int) := by rw [Int.tmod_eq_emod_of_nonneg (by omega)]; have := HJJ.out; omega
              have hjl' : (jj : Int) < (nq : Int) := by omega
              have hjK : jj < K.length := by rw [← HNQ.out]; exact hjl
              obtain ⟨a', c', ee, g1, g2, g3⟩ := HRQ2.out
              have hna : nq = (ints K).length := by cases ee; rfl
              have hca : aq = a' ∧ cq = c' := by cases ee; exact ⟨rfl, rfl⟩
              obtain ⟨rfl, rfl⟩ := hca
              obtain ⟨bK, oK, rfl, hcell⟩ := g3.resolve_left (fun h => by omega)
              have ck := hcell jj (by omega)
              rw [ints_get] at ck
              have hfe := flip_again B K jj hjK (fun q hq => by have := HKF.out q hq; have := HF8.out; have := HB8.out; omega) HKN.out [-1]
              have hxF : K[jj]?.getD 0 < F := HKF.out _ (by rw [List.getElem?_eq_getElem hjK]; exact List.getElem_mem hjK)
              obtain ⟨x, HX⟩ := nm (K[jj]?.getD 0)
              rw [HX.out] at ck hfe hxF
              have hfv := flip_no hfe (by decide)
              have hbd : ∀ c ∈ ints K ++ [(x : Int), -1], -9223372036854775808 ≤ c ∧ c ≤ 9223372036854775807 := by
                intro c hc
                rcases List.mem_append.1 hc with h | h
                · exact ints_bound HKF.out (by omega) c h
                · simp at h; omega
              have HFL := Lib.hid (fun (vl' : Value) (W : World) (ho : OwnsI .i64 3 W wq.heap.size vl' (ints K ++ [(x : Int), -1])) (hb : Below wq.heap.size wq W) =>
                (show Calls Tryd.prog 13 #[.slice ab nb cb, vl'] W (fun e w' => ∃ a c, e = .returned (.tuple #[.slice a 0 c, .int .i64 131]) ∧ Below wq.heap.size wq w') from by
                  refine (flip_any _ B _ (ints K ++ [(x : Int), -1]) _ (HRB2.out.keep hb (Nat.le_refl _)) hBB (by have := HB8.out; omega) ho.reads hbd).mono ?_
                  rintro e wy ⟨vc, rfl, hoc, hby⟩
                  rw [hfv] at hoc
                  rw [hfe]
                  obtain ⟨ac, nc, cc, rfl, hnc, -⟩ := owns_form3 hoc
                  obtain rfl : nc = 0 := hnc
                  exact ⟨_, _, rfl, gr_trans hb hby⟩))
              have HCK := Lib.hid ck
              have hnk : (ints K).length = nq := hna.symm
              have HNK := Lib.hid hnk
              clear hbd hfe hfv hcell g1 g2 hna ee hzlo ck hnk hwa hta hjl'
              go_upto_region 25 with fail
              refine stmt25 _ _ _ _ _ _ _ _ _ _ _ _ _ _ _ _ _ _ _ _ _ _ _ _ _ _ _ _ _ _ _ _ _ _ _ _ _ _ _ _ _ _ _ _ _ _ _ _ _ _ _ _ _ _ _ _ _ _ _ _ _ _ _ _ _ _ _ _ _ _ _ _ _ _ _ _ _ _ _ _ _ _ _ _ _ _ _ _ _ _ _ _ _ _ _ _ _ _ _ _ _ _ _ _ _ _ _ _ _ _ _ _ _ _ _ _ _ _ _ _ _ _ _ _ _ _ _ _ _ _ _ _ _ _ _ _ _ _ _ _ _ _ _ _ _ _ _ _ _ _ _ _ _ _ _ _ _ _ _ _ _ _ _ _ _ _ _ _ _ _ _ _ _ _ _ _ _ _ _ _ _ _ _ _ _ _ _ _ _ _ _ _ _ _ _ _ _ _ _ _ _ _ _ _ _ _ _ _ _ _ _ _ _ _ _ _ _ _ _ _ _ _ _ _ _ _ _ _ _ _ _ _ _ _ _ _ _ _ _ _ _ _ _ _ _ _ _ _ _ _ _ _ _ _ _ _ _ _ _ _ _ _ _ _ _ _ _ _ _ _ _ _ _ _ _ _ _ _ _ _ _ _ _ _ _ _ _ _ _ _ _ _ _ _ _ _ _ _ _ _ _ _ _ _ _ _ _ _ _ _ _ _ _ _ _ _ _ _ _ _ _ _ _ _ _ _ _ _ _ _ _ _ _ _ _ _ _ _ wq ab nb cb bK oK nq cq jj x at' (ints K) ha h0' hq20 hnqc hcqm hjl HJJ.out HRQ2.out HNK.out HCK.out HFL.out (fun _ _ _ _ _ h => h) ?_
              intro u145 u146 u147 u148 u149 u150 u151 u152 u153 u154 u155 u156 u157 u158 u159 u160 u161 u162 af cf2 wy hbq
              go_wp2_with fail
              go_meet
              exact ⟨rfl, gr_trans HBR.out hbq⟩
          case rest =>
            obtain ⟨rfl, hbc⟩ := hcut
            have HBC := Lib.hid (gr_trans HBT.out hbc)
            have HRC := Lib.hid (HRB1.out.keep hbc (Nat.le_refl _))
            clear hbc
            have hu : (z % 4294967296).toNat < 4294967296 := by omega
            have hcu : IntKind.u32.wrap z = (((z % 4294967296).toNat : Nat) : Int) := by rw [IntKind.wrap_u32]; omega
            obtain ⟨u, HU⟩ := nm (z % 4294967296).toNat
            rw [HU.out] at hu hcu
            have ean := u32_andNot_nat u 1 hu (by decide)
            rw [show ((1 : Nat) : Int) = 1 from rfl] at ean
            have hev : (u &&& (4294967295 - 1)) % 2 = 0 := by
              have h : (u &&& (4294967295 - 1)).testBit 0 = false := by rw [Nat.testBit_and]; simp
              rw [Nat.testBit_zero] at h
              have := of_decide_eq_false h
              omega
            have helt : u &&& (4294967295 - 1) < 4294967296 := Nat.lt_of_le_of_lt Nat.and_le_left hu
            obtain ⟨e0, HE0⟩ := nm (u &&& (4294967295 - 1))
            rw [HE0.out] at ean hev helt
            have hs1 := strike_even B 0 e0 hev
            have hs2 := strike_below B lo 1 hlo1
            have hs3 := strike_above B hi' (by have := HB8.out; have := HF8.out; omega) hhi2
            have hs4 := strike_over B (by have := HB8.out; omega) (by have := HB8.out; omega)
            obtain ⟨f1, HF1⟩ := nm (8 * B.length - 1)
            rw [HF1.out] at hs4
            have hf1 : (F : Int) - 1 = (f1 : Int) := by have := HF1.out; have := HB8.out; have := HF8.out; omega
            have hbe : betweenE B (B.drop 1) = 2 := by unfold betweenE; rw [if_neg]; rw [List.length_drop]; have := HB8.out; omega
            have HS1 := Lib.hid hs1
            have HS2 := Lib.hid hs2
            have HS3 := Lib.hid hs3
            have HS4 := Lib.hid hs4
            have HBE := Lib.hid hbe
            have hzhi : max z (F : Int) = hi' := HHI0.out
            clear hs1 hs2 hs3 hs4 hbe
            have hcb1 : 1 ≤ cb := by omega
            go_wp2_with fail
            with_reducible refine (strike_any _ B 0 e0 _ HRC.out hBB (by have := HB8.out; omega) helt (by omega)).mono ?_
            rintro e wd1 ⟨vs, rfl, -, hb'⟩
            rw [HS1.out]
            replace HRC := Lib.hid (HRC.out.keep hb' (Nat.le_refl _))
            replace HBC := Lib.hid (gr_trans HBC.out hb')
            clear hb'
            go_wp2_with fail
            have hcall := strike_any _ B lo 1 _ HRC.out hBB (by have := HB8.out; omega) (by decide) (by omega)
            rw [show ((1 : Nat) : Int) = 1 from rfl] at hcall
            with_reducible refine hcall.mono ?_
            clear hcall
            rintro e wd2 ⟨vs, rfl, -, hb'⟩
            rw [HS2.out]
            replace HRC := Lib.hid (HRC.out.keep hb' (Nat.le_refl _))
            replace HBC := Lib.hid (gr_trans HBC.out hb')
            clear hb'
            go_wp2_with fail
            have hcall := strike_any _ B hi' 1 _ HRC.out hBB (by have := HB8.out; omega) (by decide) (by omega)
            rw [show ((1 : Nat) : Int) = 1 from rfl] at hcall
            with_reducible refine hcall.mono ?_
            clear hcall
            rintro e wd3 ⟨vs, rfl, -, hb'⟩
            rw [HS3.out]
            replace HRC := Lib.hid (HRC.out.keep hb' (Nat.le_refl _))
            replace HBC := Lib.hid (gr_trans HBC.out hb')
            clear hb'
            go_wp2_with fail
            have hcall := strike_any _ B (f1 : Int) 3 _ HRC.out hBB (by have := HB8.out; omega) (by decide) (by omega)
            rw [show ((3 : Nat) : Int) = 3 from rfl] at hcall
            with_reducible refine hcall.mono ?_
            clear hcall
            rintro e wd4 ⟨vs, rfl, -, hb'⟩
            rw [HS4.out]
            replace HRC := Lib.hid (HRC.out.keep hb' (Nat.le_refl _))
            replace HBC := Lib.hid (gr_trans HBC.out hb')
            have hBd : Bytes (B.drop 1) := fun y hy => (show ∀ x ∈ B, x < 256 from hBB) y (List.mem_of_mem_drop hy)
            obtain ⟨gb, ob, rfl⟩ : ∃ gb ob, ab = some ⟨gb, ob, none⟩ := by
              obtain ⟨a', c', ee, g1, g2, g3⟩ := HRC.out
              have hca : ab = a' ∧ cb = c' := by cases ee; exact ⟨rfl, rfl⟩
              obtain ⟨e1, e2⟩ := hca
              rcases g3 with g3 | ⟨b', o', e3, -⟩
              · omega
              · exact ⟨b', o', e1.trans e3⟩
            have hsub := reads_fromS HRC.out (show 1 ≤ nb from hnb1)
            clear hb'
            obtain ⟨a2, hif⟩ : ∃ a2, (if cb = 1 then some (⟨gb, ob, none⟩ : Addr) else some ⟨gb, ob + 1, none⟩) = a2 := ⟨_, rfl⟩
            rw [hif] at hsub
            have HSUB := Lib.hid hsub
            clear hsub
            go_wp2_with fail
            with_reducible refine (between_any _ _ B (B.drop 1) wd4 HRC.out HSUB.out (by have := HB8.out; omega) (by rw [List.length_drop]; have := HB8.out; omega) (fun i => hBB.get i) (fun i => hBd.get i)).mono ?_
            rintro e wd5 ⟨⟨vs, rfl, -⟩, hb'⟩
            rw [HBE.out]
            replace HRC := Lib.hid (HRC.out.keep hb' (Nat.le_refl _))
            replace HBC := Lib.hid (gr_trans HBC.out hb')
            clear hb' hif
            go_wp2_with fail
            have hcall := length_any lo 7 (by decide) wd5
            rw [show ((7 : Nat) : Int) = 7 from rfl] at hcall
            with_reducible refine hcall.mono ?_
            clear hcall
            rintro e wd6 ⟨rfl, hb'⟩
            rw [len_below lo 7 hlo1]
            replace HRC := Lib.hid (HRC.out.keep hb' (Nat.le_refl _))
            replace HBC := Lib.hid (gr_trans HBC.out hb')
            clear hb'
            obtain ⟨big, HBIG⟩ := nm (max z ((nb : Int) + 1))
            have hbg : max z ((nb : Int) + 1) = big := HBIG.out
            have hbg2 : (nb : Int) + 1 ≤ big ∧ big ≤ 9223372036854775807 := by omega
            obtain ⟨hbga, hbgb⟩ := hbg2
            have HPC := Lib.hid (show ∀ j, j < 4 → pieceB B.length (prA lo big j) (prB big j) = false from fun j hj => by
              have hBl : (B.length : Int) = (nb : Int) := by have := HB8.out; omega
              match j, hj with
              | 0, _ => exact decide_eq_false (by show ¬ (0 ≤ lo ∧ lo ≤ 1 ∧ (1 : Int) ≤ (B.length : Int)); omega)
              | 1, _ => exact decide_eq_false (by show ¬ (0 ≤ (0 : Int) ∧ 0 ≤ big ∧ big ≤ (B.length : Int)); omega)
              | 2, _ => exact decide_eq_false (by show ¬ (0 ≤ (1 : Int) ∧ (1 : Int) ≤ 0 ∧ (0 : Int) ≤ (B.length : Int)); omega)
              | 3, _ => exact decide_eq_false (by show ¬ (0 ≤ big ∧ big ≤ big ∧ big ≤ (B.length : Int)); omega))
            have HPR := Lib.hid (show ∀ j, j < 4 → (wd6.alloc (.cells #[.int .i64 lo, .int .i64 1, .int .i64 0, .int .i64 big, .int .i64 1, .int .i64 0, .int .i64 big, .int .i64 big] 56)).cell? ⟨wd6.heap.size, 2 * j, none⟩ = some (.int .i64 (prA lo big j)) ∧ (wd6.alloc (.cells #[.int .i64 lo, .int .i64 1, .int .i64 0, .int .i64 big, .int .i64 1, .int .i64 0, .int .i64 big, .int .i64 big] 56)).cell? ⟨wd6.heap.size, 2 * j + 1, none⟩ = some (.int .i64 (prB big j)) from fun j hj => by
              rw [cell_of_row _ _ _ _ _ _ (World.alloc_heap_new wd6 _), cell_of_row _ _ _ _ _ _ (World.alloc_heap_new wd6 _)]
              match j, hj with
              | 0, _ => exact ⟨rfl, rfl⟩
              | 1, _ => exact ⟨rfl, rfl⟩
              | 2, _ => exact ⟨rfl, rfl⟩
              | 3, _ => exact ⟨rfl, rfl⟩)
            have HBA := Lib.hid (bel_alloc wd6 (.cells #[.int .i64 lo, .int .i64 1, .int .i64 0, .int .i64 big, .int .i64 1, .int .i64 0, .int .i64 big, .int .i64 big] 56))
            go_wp2_with fail
            obtain ⟨we, HWE⟩ := nm (wd6.alloc (.cells #[.int .i64 lo, .int .i64 1, .int .i64 0, .int .i64 big, .int .i64 1, .int .i64 0, .int .i64 big, .int .i64 big] 56))
            obtain ⟨gw, HGW⟩ := nm wd6.heap.size
            rw [HWE.out] at HPR HBA ⊢
            rw [HGW.out] at HPR ⊢
            have HRE := Lib.hid (HRC.out.keep HBA.out (Nat.le_refl _))
            have HBE := Lib.hid (gr_trans HBC.out HBA.out)
            clear hbg hbga hbgb
            go_loopw [261] (fun vj wr => ∃ j : Nat, j ≤ 4 ∧ vj = .int .i64 (j : Int) ∧ Below we.heap.size we wr) (fun vj _ => 4 - (intOf vj).toNat)
            case atStart => exact ⟨0, Nat.zero_le _, rfl, Below.refl _ _⟩
            case round =>
              obtain ⟨j, hj, rfl, hBj⟩ := hrel
              by_cases hj4 : j < 4
              · have hj1 : (j : Int) < 4 := by omega
                obtain ⟨p1, p2⟩ := HPR.out j hj4
                have c1 := cell_keep hBj p1 (cell_lt p1)
                have c2 := cell_keep hBj p2 (cell_lt p2)
                have hpc := HPC.out j hj4
                obtain ⟨pa, HPA⟩ := nm (prA lo big j)
                obtain ⟨pb, HPB⟩ := nm (prB big j)
                rw [HPA.out] at c1 hpc
                rw [HPB.out] at c2 hpc
                have HRJ := Lib.hid (HRE.out.keep hBj (Nat.le_refl _))
                have HBJ := Lib.hid hBj
                have HPCJ := Lib.hid hpc
                obtain ⟨wg, rfl⟩ : ∃ wg : World, wg = wr := ⟨_, rfl⟩
                clear hBj p1 p2 hpc
                have c1' := c1
                have c2' := c2
                rw [Nat.mul_comm] at c1' c2'
                obtain ⟨n1, n2, n3, n4⟩ := cell_two wg (.int .i64 0) (.int .i64 0) 56
                obtain ⟨m1, m2, m3, m4⟩ := cell_two wg (.int .i64 pa) (.int .i64 pb) 56
                have HBM := Lib.hid (bel_alloc wg (.cells #[.int .i64 pa, .int .i64 pb] 56))
                have HRM := Lib.hid (HRJ.out.keep HBM.out (Nat.le_refl _))
                go_wp2_with fail
                with_reducible refine (drop_bad _ B pa pb HPCJ.out _ HRM.out).mono ?_
                rintro e w9 ⟨rfl, rfl⟩
                go_wp2_with fail
                with_reducible refine (double_bad _ B pa pb HPCJ.out _ HRM.out).mono ?_
                rintro e w9 ⟨rfl, rfl⟩
                go_wp2_with fail
                with_reducible refine (turn_bad _ B pa pb HPCJ.out _ HRM.out).mono ?_
                rintro e w9 ⟨rfl, rfl⟩
                go_wp2_with fail
                with_reducible refine (swap_bad _ B pa pb (nb : Int) (.inl HPCJ.out) _ HRM.out).mono ?_
                rintro e w9 ⟨rfl, rfl⟩
                go_wp2_with fail
                go_roundw
                case rel => exact ⟨j + 1, by omega, by go_num, gr_trans HBJ.out HBM.out⟩
                case measure => simp [intOf]; omega
              · obtain rfl : j = 4 := by omega
                rw [show ((4 : Nat) : Int) = 4 from rfl]
                have HBJ := Lib.hid (gr_trans HBE.out hBj)
                clear hBj
                have hTz := HT.out.keep HBJ.out (Nat.le_refl _)
                go_wp2_with fail
                refine (found_lit [1, 2, 3] [-1] _ _ rfl _ _ _ _ _ 3 1 rfl rfl (by decide) rfl rfl (by decide) (bytes_lit rfl) (by decide) hTz).mono ?_
                rintro e wy ⟨rfl, hb⟩
                have HBY := Lib.hid (gr_trans HBJ.out hb)
                rw [found_short]
                clear hb
                go_wp2_with fail
                go_ret
                exact ⟨rfl, HBY.out⟩
end Go.Proofs.YtmjigpnpcacefaaDoor
