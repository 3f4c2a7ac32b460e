/- The walk of the law MaskMembers. -/
import Derived.Test.YtjpkldndeakkkaaDoorMskI
import Derived.Test.YtjpkldndeakkkaaDoorMskR
namespace Go.Proofs.YtjpkldndeakkkaaDoor
open Go Go.RowKit Go.Shelf

set_option maxRecDepth 100000 in
set_option maxHeartbeats 8000000 in
theorem maskMembers_all (w : World) (m : Nat) (hm : m < 18446744073709551616) (o : Nat) (ho : o < 18446744073709551616) (n : Nat) (hn : n < 256) (tn : Nat) (ht : tn < 256) (hE : EV w) :
    Calls Tryd.prog 10 #[.int .u64 m, .int .u64 o, .int .u8 n, .int .u8 tn] w fun e w' => e = .returned (.bool true) ∧ Below w.heap.size w w' := by
  have HE := Lib.hid hE
  clear hE
  have hml := members_len m
  have hil := ints_length (members m)
  have HOM := Lib.hid (fun L hp => of_members hm (L := L) hp)
  have HOB := Lib.hid (fun L hp => of_both hm ho (L := L) hp)
  have hca := count_or_and m o 64
  have hmo : m ||| o < 18446744073709551616 := Nat.or_lt_two_pow (n := 64) hm ho
  have hma : m &&& o < 18446744073709551616 := Nat.lt_of_le_of_lt Nat.and_le_left hm
  have eor := u64_or_nat m o hm ho
  have ean := u64_and_nat m o hm ho
  have HHO := Lib.hid (fun c => hasB_or (m := m) (o := o) (c := c))
  obtain ⟨nh, HNH⟩ := nm (members m).length
  rw [HNH.out] at hml hil
  have hca' : (members (m ||| o)).length + (members (m &&& o)).length = nh + (members o).length := by rw [← HNH.out]; exact hca
  obtain ⟨mo, HMO⟩ := nm (m ||| o)
  obtain ⟨ma, HMA⟩ := nm (m &&& o)
  rw [HMO.out] at hca' hmo eor
  rw [HMA.out] at hca' hma ean
  simp only [HMO.out] at HHO HOB
  have hc1 := members_len mo
  have hc2 := members_len ma
  have hc3 := members_len o
  have HC1 := Lib.hid (fun W => mcount_any mo hmo W)
  have HC2 := Lib.hid (fun W => mcount_any ma hma W)
  have HC3 := Lib.hid (fun W => mcount_any o ho W)
  have HC0 := Lib.hid (fun W => mcount_any m hm W)
  obtain ⟨c1, HK1⟩ := nm (members mo).length
  obtain ⟨c2, HK2⟩ := nm (members ma).length
  obtain ⟨c3, HK3⟩ := nm (members o).length
  rw [HK1.out] at hca' hc1
  rw [HK2.out] at hca' hc2
  rw [HK3.out] at hca' hc3
  simp only [HK1.out] at HC1
  simp only [HK2.out] at HC2
  simp only [HK3.out] at HC3
  simp only [HNH.out] at HC0
  obtain ⟨sm, HSM⟩ := nm (nh + c3)
  have hs1 : (c1 : Int) + (c2 : Int) = (sm : Int) := by have := HSM.out; omega
  have hs2 : (nh : Int) + (c3 : Int) = (sm : Int) := by have := HSM.out; omega
  have HMM := Lib.hid (fun W => mmembers_any m hm W)
  have HMO2 := Lib.hid (fun W => mmembers_any o ho W)
  obtain ⟨M, HM⟩ := nm (ints (members m))
  obtain ⟨O, HO⟩ := nm (ints (members o))
  simp only [HM.out] at HMM HOM HOB
  simp only [HO.out] at HMO2 HOB
  rw [HM.out] at hil
  have HIL := Lib.hid hil
  clear hil hca hca'
  go_enter Tryd.func10, Tryd.ntmps10
  go_wp2_with fail
  refine (awakeM_any w HE.out).mono ?_
  rintro e w1 ⟨rfl, hb1⟩
  have HB1 := Lib.hid hb1
  clear hb1
  go_wp2_with fail
  refine (HMM.out _).mono ?_
  rintro e w2 ⟨vl, rfl, hol, hb2⟩
  obtain ⟨aq, nq, cq, rfl, hnq, -⟩ := hol.slice
  have hnq' : nq = nh := by rw [hnq, HIL.out]
  subst hnq'
  have HB2 := Lib.hid hb2
  have HOL := Lib.hid hol
  have hsz2 := hb2.size
  clear hol hnq hb2
  go_wp2_with fail
  go_loopw [23] (fun vk wr => ∃ (k : Nat) (L : List Int), k ≤ nq ∧ vk = .int .i64 (k : Int) ∧ L.Perm M ∧ L.length = nq ∧ OwnsI .i64 3 wr w1.heap.size (.slice aq nq cq) L ∧ Below w1.heap.size w1 wr) (fun vk _ => nq - (intOf vk).toNat)
  case atStart => exact ⟨0, M, Nat.zero_le _, rfl, List.Perm.refl _, HIL.out, HOL.out, HB2.out⟩
  case round =>
    obtain ⟨k, L, hk, rfl, hLp, hLl, hoL, hBr⟩ := hrel
    by_cases hlt : k < nq
    · obtain ⟨j, HJ⟩ := nm (k * tn % nq)
      have hjn : j < nq := by rw [← HJ.out]; exact Nat.mod_lt _ (by omega)
      have hm0 : k * tn ≤ 64 * 256 := Nat.mul_le_mul (by omega) (by omega)
      have hmi : (k : Int) * (tn : Int) = ((k * tn : Nat) : Int) := by simp
      obtain ⟨y, HY⟩ := nm (k * tn)
      rw [HY.out] at hm0 hmi
      have hym : (y : Int) % (nq : Int) = (j : Int) := by have := HJ.out; rw [HY.out] at this; omega
      have hwt : IntKind.i64.wrap (tn : Int) = (tn : Int) := IntWalk.i64_in _ (by omega)
      have hwy : IntKind.i64.wrap (y : Int) = (y : Int) := IntWalk.i64_in _ (by omega)
      have hty : (y : Int).tmod (nq : Int) = (j : Int) := by rw [Int.tmod_eq_emod_of_nonneg (by omega)]; exact hym
      have hn0 : ¬ nq = 0 := by omega
      obtain ⟨gh, rfl, hgb, hgl⟩ : ∃ gh, aq = some ⟨gh, 0, none⟩ ∧ w1.heap.size ≤ gh ∧ gh < wr.heap.size := by
        rcases hoL.form with ⟨_, h⟩ | ⟨g, c, h, h1, h2, _⟩
        · rw [h] at hLl; simp at hLl; omega
        · cases h; exact ⟨g, rfl, h1, h2⟩
      have ck := hoL.cellAt hLl.symm k hlt
      have cj := hoL.cellAt hLl.symm j hjn
      have fk := hoL.frozenAt hLl.symm k
      have fj := hoL.frozenAt hLl.symm j
      have hperm := (swap_perm L (i := k) (j := j) (by omega) (by omega)).trans hLp
      have hset := ((hoL.set hLl.symm k (L[j]?.getD 0) (by omega)).set (by rw [List.length_set]; exact hLl.symm) j (L[k]?.getD 0) (by rw [List.length_set]; omega))
      have hslen : ((L.set k (L[j]?.getD 0)).set j (L[k]?.getD 0)).length = nq := by rw [List.length_set, List.length_set]; exact hLl
      obtain ⟨zk, HZK⟩ := nm (L[k]?.getD 0)
      obtain ⟨zj, HZJ⟩ := nm (L[j]?.getD 0)
      rw [HZK.out] at ck
      rw [HZJ.out] at cj
      rw [HZK.out, HZJ.out] at hperm hset hslen
      obtain ⟨L2, HL2⟩ := nm ((L.set k zj).set j zk)
      rw [HL2.out] at hperm hset hslen
      have HSET := Lib.hid (World.ownsRow.drew hset : OwnsI .i64 3 ((wr.setCell ⟨gh, k, none⟩ (.int .i64 zj)).setCell ⟨gh, j, none⟩ (.int .i64 zk)).drew w1.heap.size _ L2)
      have HBR := Lib.hid (((hBr.setCell (p := ⟨gh, k, none⟩) hgb (.int .i64 zj)).setCell (p := ⟨gh, j, none⟩) hgb (.int .i64 zk)).drew)
      have HPM := Lib.hid hperm
      have HSL := Lib.hid hslen
      have hj0 : (j : Int) < (nq : Int) := by omega
      clear hoL hLp hset hperm hslen hLl hBr hs1 hs2
      by_cases hjk : j = k
      · subst hjk
        obtain rfl : zj = zk := by rw [← HZJ.out, ← HZK.out]
        clear cj fj
        go_wp2_with fail
        go_region
        go_wp2_with fail
        go_roundw
        case rel => exact ⟨j + 1, L2, by omega, by go_num, HPM.out, HSL.out, HSET.out, HBR.out⟩
        case measure => simp [intOf]; omega
      · have hkj : ¬ k = j := fun e => hjk e.symm
        go_wp2_with fail
        go_region
        go_wp2_with fail
        go_roundw
        case rel => exact ⟨k + 1, L2, by omega, by go_num, HPM.out, HSL.out, HSET.out, HBR.out⟩
        case measure => simp [intOf]; omega
    · obtain rfl : k = nq := by omega
      have hof := HOM.out L hLp
      have hob := HOB.out L hLp
      have HOF := Lib.hid hof
      have HOFB := Lib.hid hob
      have HLL := Lib.hid hLl
      have HOLL := Lib.hid hoL
      have HBR := Lib.hid hBr
      clear hof hob hLp hLl hoL hBr HOM HOB HOL HMM
      go_wp2_with fail
      refine (mof_any _ L wr HOLL.out.reads (by rw [HLL.out]; omega)).mono ?_
      rintro e w3 ⟨rfl, hb3⟩
      rw [HOF.out.1, HOF.out.2]
      have HO3 := Lib.hid (HOLL.out.keep hb3 (Nat.le_refl _))
      replace HBR := Lib.hid (HBR.out.trans (hb3.mono HBR.out.size))
      clear hb3
      go_wp2_with fail
      refine (HMO2.out _).mono ?_
      rintro e w4 ⟨vo, rfl, hoo, hb4⟩
      have HOO := Lib.hid hoo
      have HO4 := Lib.hid (HO3.out.keep hb4 (Nat.le_refl _))
      replace HBR := Lib.hid (HBR.out.trans (hb4.mono HBR.out.size))
      have hol : L.length + O.length < 17592186044415 := by
        have h1 := HLL.out
        have h2 : O.length = c3 := by rw [← HO.out, ints_length, HK3.out]
        omega
      have HOLN := Lib.hid hol
      clear hoo hb4 hol
      go_wp2_with (at_builtin; refine wpl_appI rfl (.tmp 59) (.tmp 61) 24 rfl .i64 3 8 Tryd.underlying24 info_int (by decide) w1.heap.size _ L _ HO4.out rfl _ O rfl HOO.out.reads HOLN.out HBR.out.size ?_; intro va w5 hoa hb5)
      have HOA := Lib.hid hoa.reads
      replace HBR := Lib.hid (HBR.out.trans hb5)
      clear hoa hb5
      have hlla : (L ++ O).length < 1000000000 := by
        have h1 := HLL.out
        have h2 : O.length = c3 := by rw [← HO.out, ints_length, HK3.out]
        rw [List.length_append]
        omega
      refine (mof_any _ (L ++ O) w5 HOA.out hlla).mono ?_
      rintro e w6 ⟨rfl, hb6⟩
      rw [HOFB.out.1, HOFB.out.2]
      have HBT := Lib.hid ((HB1.out.trans (HBR.out.mono HB1.out.size)).trans (hb6.mono (Nat.le_trans HB1.out.size HBR.out.size)))
      clear hlla hb6 HBR
      go_wp2_with fail
      refine (HC0.out _).mono ?_
      rintro e w7 ⟨rfl, hb7⟩
      replace HBT := Lib.hid (gr_tr HBT.out hb7)
      clear hb7
      go_wp2_with fail
      refine (HC1.out _).mono ?_
      rintro e w8 ⟨rfl, hb8⟩
      replace HBT := Lib.hid (gr_tr HBT.out hb8)
      clear hb8
      go_wp2_with fail
      refine (HC2.out _).mono ?_
      rintro e w9 ⟨rfl, hb9⟩
      replace HBT := Lib.hid (gr_tr HBT.out hb9)
      clear hb9
      go_wp2_with fail
      refine (HC3.out _).mono ?_
      rintro e w10 ⟨rfl, hb10⟩
      replace HBT := Lib.hid (gr_tr HBT.out hb10)
      have hq65 : n % 65 < 65 := Nat.mod_lt _ (by decide)
      have hqe : (n : Int) % 65 = ((n % 65 : Nat) : Int) := by omega
      obtain ⟨q, HQ⟩ := nm (n % 65)
      rw [HQ.out] at hq65 hqe
      have hAE : allE (q : Int) = 0 := by unfold allE; exact if_pos (by omega)
      have hAV : allV (q : Int) = 2 ^ q - 1 := by unfold allV; rw [if_pos (by omega), Int.toNat_natCast]
      have hal := all_any (q : Int) w10 (by omega)
      rw [hAE, hAV] at hal
      have hAlt : 2 ^ q - 1 < 18446744073709551616 := by rw [← hAV]; exact allV_lt _
      have hcA := members_all (n := q) (by omega)
      have hcP := count_parts (a := 2 ^ q - 1) hm
      have hHA := fun c (hc : c < 64) => hasB_all (n := q) hc
      have hRP := right_part (n := q) (m := m) (by omega)
      obtain ⟨A, HA⟩ := nm (2 ^ q - 1)
      rw [HA.out] at hal hAlt hcA hcP hRP
      simp only [HA.out] at hHA
      rw [hcA] at hcP
      have hAm : A &&& m < 18446744073709551616 := Nat.lt_of_le_of_lt Nat.and_le_left hAlt
      have hAn : A &&& (18446744073709551615 - m) < 18446744073709551616 := Nat.lt_of_le_of_lt Nat.and_le_left hAlt
      have eAm := u64_and_nat A m hAlt hm
      have eAn := u64_andNot_nat A m hAlt hm
      obtain ⟨am, HAM⟩ := nm (A &&& m)
      obtain ⟨an, HAN⟩ := nm (A &&& (18446744073709551615 - m))
      rw [HAM.out] at hAm eAm hcP hRP
      rw [HAN.out] at hAn eAn hcP
      have HCA := Lib.hid (fun W => mcount_any A hAlt W)
      have HCM := Lib.hid (fun W => mcount_any am hAm W)
      have HCN := Lib.hid (fun W => mcount_any an hAn W)
      simp only [hcA] at HCA
      have hcl1 := members_len am
      have hcl2 := members_len an
      obtain ⟨d1, HD1⟩ := nm (members am).length
      obtain ⟨d2, HD2⟩ := nm (members an).length
      rw [HD1.out] at hcP hcl1
      rw [HD2.out] at hcP hcl2
      simp only [HD1.out] at HCM
      simp only [HD2.out] at HCN
      have hsd : (d1 : Int) + (d2 : Int) = (q : Int) := by omega
      have HAL := Lib.hid hal
      have HHA := Lib.hid hHA
      have HRP := Lib.hid hRP
      clear hb10 hal hHA hRP hcA hcP hAE hAV
      go_wp2_with fail
      refine HAL.out.mono ?_
      rintro e w11 ⟨rfl, rfl⟩
      go_wp2_with fail
      refine (HCA.out _).mono ?_
      rintro e w12 ⟨rfl, hb12⟩
      replace HBT := Lib.hid (gr_tr HBT.out hb12)
      clear hb12
      go_wp2_with fail
      refine (HCM.out _).mono ?_
      rintro e w13 ⟨rfl, hb13⟩
      replace HBT := Lib.hid (gr_tr HBT.out hb13)
      clear hb13
      go_wp2_with fail
      refine (HCN.out _).mono ?_
      rintro e w14 ⟨rfl, hb14⟩
      replace HBT := Lib.hid (gr_tr HBT.out hb14)
      clear hb14 hs1 hs2
      go_wp2_with fail
      have hmn : 18446744073709551615 - m < 18446744073709551616 := by omega
      have hni := u64_not hm
      have HHN := Lib.hid (fun c hc => hasB_not (c := c) hm hc)
      obtain ⟨mn, HMN⟩ := nm (18446744073709551615 - m)
      rw [HMN.out] at hmn hni
      simp only [HMN.out] at HHN
      have HRF := Lib.hid (right_full hm)
      obtain ⟨wo, rfl⟩ : ∃ wo : World, wo = w14 := ⟨_, rfl⟩
      clear hsd eAm eAn
      rw [hqe]
      go_loopw [138] (fun vc wz => ∃ c : Nat, c ≤ 64 ∧ vc = .int .i64 (c : Int) ∧ wo = wz) (fun vc _ => 64 - (intOf vc).toNat)
      case atStart => exact ⟨0, by omega, rfl, rfl⟩
      case round =>
        obtain ⟨c, hc, rfl, rfl⟩ := hrel
        by_cases hlt : c < 64
        · have g1 := fun W => has_any A hAlt (c : Int) (by omega) W
          have g2 := fun W => has_any mo hmo (c : Int) (by omega) W
          have g3 := fun W => has_any m hm (c : Int) (by omega) W
          have g4 := fun W => has_any o ho (c : Int) (by omega) W
          have g5 := fun W => has_any mn hmn (c : Int) (by omega) W
          simp only [HHA.out c hlt] at g1
          simp only [HHO.out (c : Int)] at g2
          simp only [HHN.out c hlt] at g5
          obtain ⟨fm, HFM⟩ := nm (hasB m (c : Int))
          obtain ⟨fo, HFO⟩ := nm (hasB o (c : Int))
          obtain ⟨fa, HFA⟩ := nm (decide (c < q))
          simp only [HFM.out, HFO.out] at g2 g3 g4 g5
          simp only [HFA.out] at g1
          have G1 := Lib.hid g1
          have G2 := Lib.hid g2
          have G3 := Lib.hid g3
          have G4 := Lib.hid g4
          have G5 := Lib.hid g5
          have hcq : decide ((c : Int) < (q : Int)) = fa := by rw [← HFA.out, decide_eq_decide]; omega
          have hcq2 : decide (c < q) = fa := HFA.out
          clear g1 g2 g3 g4 g5
          go_wp2_with fail
          refine (G1.out _).mono ?_
          rintro e w15 ⟨rfl, rfl⟩
          cases fa
          all_goals
            go_wp2_with fail
            refine (G2.out _).mono ?_
            rintro e w15 ⟨rfl, rfl⟩
            go_wp2_with fail
            refine (G3.out _).mono ?_
            rintro e w15 ⟨rfl, rfl⟩
            cases fm
            · go_wp2_with fail
              refine (G4.out _).mono ?_
              rintro e w15 ⟨rfl, rfl⟩
              cases fo
              all_goals
                go_wp2_with fail
                refine (G5.out _).mono ?_
                rintro e w15 ⟨rfl, rfl⟩
                go_wp2_with fail
                refine (G3.out _).mono ?_
                rintro e w15 ⟨rfl, rfl⟩
                go_wp2_with fail
                go_roundw
                case rel => exact ⟨c + 1, by omega, by go_num, trivial⟩
                case measure => simp [intOf]; omega
            · go_wp2_with fail
              refine (G5.out _).mono ?_
              rintro e w15 ⟨rfl, rfl⟩
              go_wp2_with fail
              refine (G3.out _).mono ?_
              rintro e w15 ⟨rfl, rfl⟩
              go_wp2_with fail
              go_roundw
              case rel => exact ⟨c + 1, by omega, by go_num, trivial⟩
              case measure => simp [intOf]; omega
        · obtain rfl : c = 64 := by omega
          rw [show ((64 : Nat) : Int) = 64 from rfl]
          have eAm := u64_and_nat A m hAlt hm
          rw [HAM.out] at eAm
          have R1 := mright_any m hm 64 (by omega) wo
          rw [HRF.out] at R1
          have R2 := mright_any am hAm (max 1 q : Nat) (by omega) wo
          rw [HRP.out] at R2
          have hmx : max (1 : Int) (q : Int) = ((max 1 q : Nat) : Int) := by omega
          obtain ⟨b, HBM⟩ := nm (max 1 q)
          rw [HBM.out] at R2 hmx
          have e1 : ((m : Int) != 0) = decide (m ≠ 0) := by rw [bne, Bool.eq_iff_iff]; simp
          have e2 : ((am : Int) != 0) = decide (am ≠ 0) := by rw [bne, Bool.eq_iff_iff]; simp
          obtain ⟨f1, HF1⟩ := nm (decide (m ≠ 0))
          obtain ⟨f2, HF2⟩ := nm (decide (am ≠ 0))
          rw [HF1.out] at R1 e1
          rw [HF2.out] at R2 e2
          have RR1 := Lib.hid R1
          have RR2 := Lib.hid R2
          clear R1 R2
          go_wp2_with fail
          refine RR1.out.mono ?_
          rintro e w15 ⟨rfl, rfl⟩
          cases f1
          all_goals
            go_wp2_with fail
            refine RR2.out.mono ?_
            rintro e w15 ⟨rfl, rfl⟩
            cases f2
            all_goals
              go_wp2_with fail
              go_ret
              exact ⟨by simp, HBT.out⟩
end Go.Proofs.YtjpkldndeakkkaaDoor
