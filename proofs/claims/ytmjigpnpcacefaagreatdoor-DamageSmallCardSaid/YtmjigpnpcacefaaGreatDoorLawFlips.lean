/- The walk of the law DamageFlips. -/
import Derived.Test.YtmjigpnpcacefaaGreatDoorPcs
import Derived.Test.YtmjigpnpcacefaaGreatDoorDRefI
import Derived.Test.YtmjigpnpcacefaaGreatDoorLentK
import Derived.Test.YtmjigpnpcacefaaGreatDoorLawPcs
import Derived.Test.YtmjigpnpcacefaaGreatDoorLawDBur
import Derived.Deep.DeepCutAuto
namespace Go.Proofs.YtmjigpnpcacefaaGreatDoor
open Go Go.RowKit Go.Shelf

theorem flipV_len (xs : List Nat) (l : List Int) : (flipV xs l).length ≤ xs.length := by
  unfold flipV
  split
  · rw [Gf.flips_length]; exact Nat.le_refl _
  · exact Nat.zero_le _
theorem strikeV_len (xs : List Nat) (x : Int) (b : Nat) : (strikeV xs x b).length ≤ xs.length := by
  unfold strikeV
  split
  · exact flipV_len _ _
  · exact Nat.zero_le _
theorem betweenV_len (xs ys : List Nat) : (betweenV xs ys).length ≤ 8 * xs.length := by
  unfold betweenV
  split
  · rw [List.length_map]; exact diffTo_le _ _ _
  · exact Nat.zero_le _
set_option maxRecDepth 100000 in
set_option maxHeartbeats 16000000 in
theorem flips_any (v : Value) (xs : List Nat) (vo : Value) (ys : List Nat) (vl : Value) (l : List Int) (x : Int) (b : Nat) (w : World) (hv : Reads .u8 w v xs) (hx : Bytes xs) (hvo : Reads .u8 w vo ys) (hy : Bytes ys) (hl : ReadsI .i64 w vl l) (hlb : ∀ k ∈ l, -9223372036854775808 ≤ k ∧ k ≤ 9223372036854775807)
    (hxb : -9223372036854775808 ≤ x ∧ x ≤ 9223372036854775807) (hb : b < 4294967296) (hT : Tab w) :
    Calls Tryz.prog 5 #[v, vo, vl, .agg #[.int .i64 x, .int .u32 b]] w fun e w' => e = .returned (.bool true) ∧ Below w.heap.size w w' := by
  have hA := bel_alloc w (.cells #[.int .i64 x, .int .u32 (b : Int)] 26)
  have HV := Lib.hid (hv.keep hA (Nat.le_refl _))
  have HVO := Lib.hid (hvo.keep hA (Nat.le_refl _))
  have HL := Lib.hid (hl.keep hA (Nat.le_refl _))
  have HT := Lib.hid (hT.keep hA (Nat.le_refl _))
  obtain ⟨x1, x2, -, -⟩ := cell_two w (.int .i64 x) (.int .u32 (b : Int)) 26
  have hsz0 : (w.alloc (.cells #[.int .i64 x, .int .u32 (b : Int)] 26)).heap.size = w.heap.size + 1 := by simp
  obtain ⟨av, cv, rfl, hlc, hcm, -⟩ := hv
  obtain ⟨ao, co, rfl, hlco, hcmo, -⟩ := hvo
  obtain ⟨al, cl, rfl, hlcl, hcml, -⟩ := hl
  have HX := Lib.hid hx
  have HY := Lib.hid hy
  have HLB := Lib.hid hlb
  clear hx hy hlb hT
  obtain ⟨n, HN⟩ := nm xs.length
  obtain ⟨no, HNO⟩ := nm ys.length
  obtain ⟨m, HM⟩ := nm l.length
  rw [HN.out] at hlc HV ⊢
  rw [HNO.out] at hlco HVO ⊢
  rw [HM.out] at hlcl HL ⊢
  have HA := Lib.hid hA
  by_cases hbig : 200 < n
  · have hd : decide (200 < (n : Int)) = true := decide_eq_true (by omega)
    go_enter Tryz.func5, Tryz.ntmps5
    go_wp2_with fail
    go_ret
    exact ⟨rfl, HA.out⟩
  have hd : decide (200 < (n : Int)) = false := decide_eq_false (by omega)
  by_cases hbig2 : 200 < no
  · have hd2 : decide (200 < (no : Int)) = true := decide_eq_true (by omega)
    go_enter Tryz.func5, Tryz.ntmps5
    go_wp2_with fail
    go_ret
    exact ⟨rfl, HA.out⟩
  have hd2 : decide (200 < (no : Int)) = false := decide_eq_false (by omega)
  by_cases hbig3 : 60 < m
  · have hd3 : decide (60 < (m : Int)) = true := decide_eq_true (by omega)
    go_enter Tryz.func5, Tryz.ntmps5
    go_wp2_with fail
    go_ret
    exact ⟨rfl, HA.out⟩
  have hd3 : decide (60 < (m : Int)) = false := decide_eq_false (by omega)
  have hx2 : xs.length ≤ 200 := by have := HN.out; omega
  have hy2 : ys.length ≤ 200 := by have := HNO.out; omega
  have hm2 : l.length ≤ 60 := by have := HM.out; omega
  have HLX := Lib.hid (And.intro hx2 (And.intro hy2 hm2))
  have HHB := Lib.hid hb
  have HXB := Lib.hid hxb
  clear hbig hbig2 hbig3 hx2 hy2 hm2 hA hb hxb
  obtain ⟨Bx, HBX⟩ := nm w.heap.size
  go_enter Tryz.func5, Tryz.ntmps5
  go_wp2_with fail
  obtain ⟨u0, HU0⟩ := nm (w.alloc (.cells #[.int .i64 x, .int .u32 (b : Int)] 26))
  rw [HU0.out] at HV HVO HL HT HA x1 x2 hsz0 ⊢
  rw [HBX.out] at x1 x2 hsz0 ⊢
  have HX1 := Lib.hid (And.intro x1 x2)
  have HSZ := Lib.hid hsz0
  clear x1 x2 hsz0 HU0
  have S_0_0 := Lib.hid (bel_refl u0)
  have hlen := lentBytes_any _ xs u0 HV.out (by have := HLX.out; omega)
  rw [HN.out] at hlen
  refine Calls.mono (hlen) ?_
  rintro e u1 ⟨g, c, rfl, hc1, hc2, hg1, hg2, ho, hb⟩
  have S_0_1 := Lib.hid (gr_trans S_0_0.out hb)
  have S_1_1 := Lib.hid (bel_refl u1)
  have SZ1 := Lib.hid hb.size
  have HO1 := Lib.hid ho
  have HC1 := Lib.hid (And.intro hc1 (And.intro hc2 (And.intro hg1 hg2)))
  have hco : ∀ i, i < n + 12 → u1.cell? ⟨g, i, none⟩ = some (.int .u8 (((xs ++ marksB 12)[i]?.getD 0 : Nat) : Int)) := fun i hi => ho.cellAt (by rw [List.length_append, marksB_length, HN.out]) i hi
  have HCO := Lib.hid (fun (W : World) (hW : Below u1.heap.size u1 W) i hi => (show W.cell? ⟨g, i, none⟩ = some (.int .u8 (((xs ++ marksB 12)[i]?.getD 0 : Nat) : Int)) from cell_keep hW (hco i hi) hg2))
  have HOW := Lib.hid (fun (W : World) (hW : Below u1.heap.size u1 W) => lentB_reads HN.out hc1 hc2 (HCO.out W hW))
  clear hlen ho hc1 hc2 hg1 hg2 hco
  clear hb
  go_wp2_with fail
  have hlen := lentInts_any _ l u1 (HL.out.keep S_0_1.out (Nat.le_refl _)) (by have := HLX.out; omega)
  rw [HM.out] at hlen
  refine Calls.mono (hlen) ?_
  rintro e u2 ⟨g2, c2, rfl, hc1, hc2, hg1, hg2, hcells, hb⟩
  have S_0_2 := Lib.hid (gr_trans S_0_1.out hb)
  have S_1_2 := Lib.hid (gr_trans S_1_1.out hb)
  have S_2_2 := Lib.hid (bel_refl u2)
  have SZ2 := Lib.hid hb.size
  have HC2 := Lib.hid (And.intro hc1 hc2)
  have HCI := Lib.hid (fun (W : World) (hW : Below u2.heap.size u2 W) i hi => (show W.cell? ⟨g2, i, none⟩ = some (.int .i64 ((l ++ marksI 12)[i]?.getD 0)) from cell_keep hW (hcells i hi) (cell_lt (hcells i hi))))
  have HOI := Lib.hid (fun (W : World) (hW : Below u2.heap.size u2 W) => lent_reads HM.out hc1 hc2 (HCI.out W hW))
  clear hlen hcells hc1 hc2 hg1 hg2
  clear hb
  go_wp2_with fail
  have hV1 := flipV_len xs l
  have hV2 := strikeV_len xs x b
  have hV3 := betweenV_len xs ys
  have HFLP := Lib.hid (fun (W : World) (hW : Below u2.heap.size u2 W) => flip_any _ xs _ l W (HOW.out W (gr_trans S_1_2.out hW)) HX.out (by have := HLX.out; omega) (HOI.out W hW) HLB.out)
  have HSTK := Lib.hid (fun (W : World) (hW : Below u1.heap.size u1 W) => strike_any _ xs x b W (HOW.out W hW) HX.out (by have := HLX.out; omega) HHB.out HXB.out)
  have HBTW := Lib.hid (fun (W : World) (hW : Below u1.heap.size u1 W) => between_any _ _ xs ys W (HOW.out W hW) (HVO.out.keep (gr_trans S_0_1.out hW) (Nat.le_refl _)) (by have := HLX.out; omega) (by have := HLX.out; omega) (fun i => HX.out.get i) (fun i => HY.out.get i))
  have HFND := Lib.hid (fun (W : World) (hW : Below u2.heap.size u2 W) => found_any _ xs _ l W (HOW.out W (gr_trans S_1_2.out hW)) HX.out (by have := HLX.out; omega) (HOI.out W hW) HLB.out (HT.out.keep (gr_trans S_0_2.out hW) (Nat.le_refl _)))
  have RFLP := Lib.hid (fun (W : World) (hW : Below u0.heap.size u0 W) => rflip13_any _ xs _ l W (HV.out.keep hW (Nat.le_refl _)) HX.out (by have := HLX.out; omega) (HL.out.keep hW (Nat.le_refl _)) HLB.out)
  have RSTK := Lib.hid (fun (W : World) (hW : Below u0.heap.size u0 W) => rstrike13_any _ xs x b W (HV.out.keep hW (Nat.le_refl _)) HX.out (by have := HLX.out; omega) HHB.out HXB.out)
  have RBTW := Lib.hid (fun (W : World) (hW : Below u0.heap.size u0 W) => rbetween13_any _ _ xs ys W (HV.out.keep hW (Nat.le_refl _)) (HVO.out.keep hW (Nat.le_refl _)) HX.out HY.out (by have := HLX.out; omega) (by have := HLX.out; omega))
  have RFND := Lib.hid (fun (W : World) (hW : Below u0.heap.size u0 W) => rfound13_any _ xs _ l W (HV.out.keep hW (Nat.le_refl _)) HX.out (by have := HLX.out; omega) (HL.out.keep hW (Nat.le_refl _)) HLB.out)
  obtain ⟨V1, HV1⟩ := nm (flipV xs l)
  obtain ⟨V2, HV2⟩ := nm (strikeV xs x b)
  obtain ⟨V3, HV3⟩ := nm (betweenV xs ys)
  obtain ⟨E1, HE1⟩ := nm (flipE xs l)
  obtain ⟨E2, HE2⟩ := nm (strikeE xs x b)
  obtain ⟨E3, HE3⟩ := nm (betweenE xs ys)
  obtain ⟨F4, HF4⟩ := nm (foundV xs l)
  obtain ⟨E4, HE4⟩ := nm (foundE xs l)
  simp only [HV1.out, HV2.out, HV3.out, HE1.out, HE2.out, HE3.out, HF4.out, HE4.out] at HFLP HSTK HBTW HFND RFLP RSTK RBTW RFND
  rw [HV1.out] at hV1
  rw [HV2.out] at hV2
  rw [HV3.out] at hV3
  have HVL := Lib.hid (show V1.length ≤ 200 ∧ V2.length ≤ 200 ∧ V3.length ≤ 1600 by have := HLX.out; omega)
  clear hV1 hV2 hV3
  refine Calls.mono (HFLP.out u2 S_2_2.out) ?_
  rintro e u3 ⟨v1, rfl, ho, hb⟩
  have S_0_3 := Lib.hid (gr_trans S_0_2.out hb)
  have S_1_3 := Lib.hid (gr_trans S_1_2.out hb)
  have S_2_3 := Lib.hid (gr_trans S_2_2.out hb)
  have S_3_3 := Lib.hid (bel_refl u3)
  have SZ3 := Lib.hid hb.size
  obtain ⟨a1, m1, cc1, rfl, -⟩ := ho.slice
  have y1 := Lib.hid ho
  have z1 := Lib.hid (owns_block ho)
  clear ho
  clear hb
  have k1 := cell_keep S_0_3.out HX1.out.1 (cell_lt HX1.out.1)
  have k2 := cell_keep S_0_3.out HX1.out.2 (cell_lt HX1.out.2)
  go_wp2_with fail
  clear k1 k2
  refine Calls.mono (HSTK.out u3 S_1_3.out) ?_
  rintro e u4 ⟨v2, rfl, ho, hb⟩
  have S_0_4 := Lib.hid (gr_trans S_0_3.out hb)
  have S_1_4 := Lib.hid (gr_trans S_1_3.out hb)
  have S_2_4 := Lib.hid (gr_trans S_2_3.out hb)
  have S_3_4 := Lib.hid (gr_trans S_3_3.out hb)
  have S_4_4 := Lib.hid (bel_refl u4)
  have SZ4 := Lib.hid hb.size
  obtain ⟨a2, m2, cc2, rfl, -⟩ := ho.slice
  have y2 := Lib.hid ho
  have z2 := Lib.hid (owns_block ho)
  clear ho
  clear hb
  go_wp2_with fail
  refine Calls.mono (HBTW.out u4 S_1_4.out) ?_
  rintro e u5 ⟨⟨v3, rfl, ho⟩, hb⟩
  have S_0_5 := Lib.hid (gr_trans S_0_4.out hb)
  have S_1_5 := Lib.hid (gr_trans S_1_4.out hb)
  have S_2_5 := Lib.hid (gr_trans S_2_4.out hb)
  have S_3_5 := Lib.hid (gr_trans S_3_4.out hb)
  have S_4_5 := Lib.hid (gr_trans S_4_4.out hb)
  have S_5_5 := Lib.hid (bel_refl u5)
  have SZ5 := Lib.hid hb.size
  obtain ⟨a3, m3, cc3, rfl, -⟩ := ho.slice
  have y3 := Lib.hid ho
  clear ho
  clear hb
  go_wp2_with fail
  refine Calls.mono (HFND.out u5 S_2_5.out) ?_
  rintro e u6 ⟨rfl, hb⟩
  have S_0_6 := Lib.hid (gr_trans S_0_5.out hb)
  have S_1_6 := Lib.hid (gr_trans S_1_5.out hb)
  have S_2_6 := Lib.hid (gr_trans S_2_5.out hb)
  have S_3_6 := Lib.hid (gr_trans S_3_5.out hb)
  have S_4_6 := Lib.hid (gr_trans S_4_5.out hb)
  have S_5_6 := Lib.hid (gr_trans S_5_5.out hb)
  have S_6_6 := Lib.hid (bel_refl u6)
  have SZ6 := Lib.hid hb.size
  clear hb
  go_wp2_with fail
  refine Calls.mono (RFLP.out u6 S_0_6.out) ?_
  rintro e u7 ⟨v4, rfl, ho, hb⟩
  have S_0_7 := Lib.hid (gr_trans S_0_6.out hb)
  have S_1_7 := Lib.hid (gr_trans S_1_6.out hb)
  have S_2_7 := Lib.hid (gr_trans S_2_6.out hb)
  have S_3_7 := Lib.hid (gr_trans S_3_6.out hb)
  have S_4_7 := Lib.hid (gr_trans S_4_6.out hb)
  have S_5_7 := Lib.hid (gr_trans S_5_6.out hb)
  have S_6_7 := Lib.hid (gr_trans S_6_6.out hb)
  have S_7_7 := Lib.hid (bel_refl u7)
  have SZ7 := Lib.hid hb.size
  obtain ⟨a4, m4, c4, rfl, -⟩ := ho.slice
  have y4 := Lib.hid ho
  have z4 := Lib.hid (owns_block ho)
  clear ho
  clear hb
  have k1 := cell_keep S_0_7.out HX1.out.1 (cell_lt HX1.out.1)
  have k2 := cell_keep S_0_7.out HX1.out.2 (cell_lt HX1.out.2)
  go_wp2_with fail
  clear k1 k2
  refine Calls.mono (RSTK.out u7 S_0_7.out) ?_
  rintro e u8 ⟨v5, rfl, ho, hb⟩
  have S_0_8 := Lib.hid (gr_trans S_0_7.out hb)
  have S_1_8 := Lib.hid (gr_trans S_1_7.out hb)
  have S_2_8 := Lib.hid (gr_trans S_2_7.out hb)
  have S_3_8 := Lib.hid (gr_trans S_3_7.out hb)
  have S_4_8 := Lib.hid (gr_trans S_4_7.out hb)
  have S_5_8 := Lib.hid (gr_trans S_5_7.out hb)
  have S_6_8 := Lib.hid (gr_trans S_6_7.out hb)
  have S_7_8 := Lib.hid (gr_trans S_7_7.out hb)
  have S_8_8 := Lib.hid (bel_refl u8)
  have SZ8 := Lib.hid hb.size
  obtain ⟨a5, m5, c5, rfl, -⟩ := ho.slice
  have y5 := Lib.hid ho
  have z5 := Lib.hid (owns_block ho)
  clear ho
  clear hb
  go_wp2_with fail
  refine Calls.mono (RBTW.out u8 S_0_8.out) ?_
  rintro e u9 ⟨⟨v6, rfl, ho⟩, hb⟩
  have S_0_9 := Lib.hid (gr_trans S_0_8.out hb)
  have S_1_9 := Lib.hid (gr_trans S_1_8.out hb)
  have S_2_9 := Lib.hid (gr_trans S_2_8.out hb)
  have S_3_9 := Lib.hid (gr_trans S_3_8.out hb)
  have S_4_9 := Lib.hid (gr_trans S_4_8.out hb)
  have S_5_9 := Lib.hid (gr_trans S_5_8.out hb)
  have S_6_9 := Lib.hid (gr_trans S_6_8.out hb)
  have S_7_9 := Lib.hid (gr_trans S_7_8.out hb)
  have S_8_9 := Lib.hid (gr_trans S_8_8.out hb)
  have S_9_9 := Lib.hid (bel_refl u9)
  have SZ9 := Lib.hid hb.size
  obtain ⟨a6, m6, cc6, rfl, -⟩ := ho.slice
  have y6 := Lib.hid ho
  clear ho
  clear hb
  go_wp2_with fail
  refine Calls.mono (RFND.out u9 S_0_9.out) ?_
  rintro e u10 ⟨rfl, hb⟩
  have S_0_10 := Lib.hid (gr_trans S_0_9.out hb)
  have S_1_10 := Lib.hid (gr_trans S_1_9.out hb)
  have S_2_10 := Lib.hid (gr_trans S_2_9.out hb)
  have S_3_10 := Lib.hid (gr_trans S_3_9.out hb)
  have S_4_10 := Lib.hid (gr_trans S_4_9.out hb)
  have S_5_10 := Lib.hid (gr_trans S_5_9.out hb)
  have S_6_10 := Lib.hid (gr_trans S_6_9.out hb)
  have S_7_10 := Lib.hid (gr_trans S_7_9.out hb)
  have S_8_10 := Lib.hid (gr_trans S_8_9.out hb)
  have S_9_10 := Lib.hid (gr_trans S_9_9.out hb)
  have S_10_10 := Lib.hid (bel_refl u10)
  have SZ10 := Lib.hid hb.size
  clear hb
  clear HFLP HSTK HBTW HFND RFLP RSTK RBTW RFND
  go_wp2_with fail
  have hsm := sameBytes_any _ _ _ _ u10 (y1.out.reads.keep S_3_10.out (Nat.le_refl _)) (y4.out.reads.keep S_7_10.out (Nat.le_refl _)) (by have := HVL.out; omega)
  rw [decide_eq_true rfl] at hsm
  refine Calls.mono (hsm) ?_
  rintro e u11 ⟨rfl, hb⟩
  have S_0_11 := Lib.hid (gr_trans S_0_10.out hb)
  have S_1_11 := Lib.hid (gr_trans S_1_10.out hb)
  have S_2_11 := Lib.hid (gr_trans S_2_10.out hb)
  have S_3_11 := Lib.hid (gr_trans S_3_10.out hb)
  have S_4_11 := Lib.hid (gr_trans S_4_10.out hb)
  have S_5_11 := Lib.hid (gr_trans S_5_10.out hb)
  have S_6_11 := Lib.hid (gr_trans S_6_10.out hb)
  have S_7_11 := Lib.hid (gr_trans S_7_10.out hb)
  have S_8_11 := Lib.hid (gr_trans S_8_10.out hb)
  have S_9_11 := Lib.hid (gr_trans S_9_10.out hb)
  have S_10_11 := Lib.hid (gr_trans S_10_10.out hb)
  have S_11_11 := Lib.hid (bel_refl u11)
  have SZ11 := Lib.hid hb.size
  clear hsm
  clear hb
  go_wp2_with fail
  have hsm := sameBytes_any _ _ _ _ u11 (y2.out.reads.keep S_4_11.out (Nat.le_refl _)) (y5.out.reads.keep S_8_11.out (Nat.le_refl _)) (by have := HVL.out; omega)
  rw [decide_eq_true rfl] at hsm
  refine Calls.mono (hsm) ?_
  rintro e u12 ⟨rfl, hb⟩
  have S_0_12 := Lib.hid (gr_trans S_0_11.out hb)
  have S_1_12 := Lib.hid (gr_trans S_1_11.out hb)
  have S_2_12 := Lib.hid (gr_trans S_2_11.out hb)
  have S_3_12 := Lib.hid (gr_trans S_3_11.out hb)
  have S_4_12 := Lib.hid (gr_trans S_4_11.out hb)
  have S_5_12 := Lib.hid (gr_trans S_5_11.out hb)
  have S_6_12 := Lib.hid (gr_trans S_6_11.out hb)
  have S_7_12 := Lib.hid (gr_trans S_7_11.out hb)
  have S_8_12 := Lib.hid (gr_trans S_8_11.out hb)
  have S_9_12 := Lib.hid (gr_trans S_9_11.out hb)
  have S_10_12 := Lib.hid (gr_trans S_10_11.out hb)
  have S_11_12 := Lib.hid (gr_trans S_11_11.out hb)
  have S_12_12 := Lib.hid (bel_refl u12)
  have SZ12 := Lib.hid hb.size
  clear hsm
  clear hb
  go_wp2_with fail
  have hsm := sameInts_any _ _ _ _ u12 (y3.out.reads.keep S_5_12.out (Nat.le_refl _)) (y6.out.reads.keep S_9_12.out (Nat.le_refl _)) (by have := HVL.out; omega)
  rw [decide_eq_true rfl] at hsm
  refine Calls.mono (hsm) ?_
  rintro e u13 ⟨rfl, hb⟩
  have S_0_13 := Lib.hid (gr_trans S_0_12.out hb)
  have S_1_13 := Lib.hid (gr_trans S_1_12.out hb)
  have S_2_13 := Lib.hid (gr_trans S_2_12.out hb)
  have S_3_13 := Lib.hid (gr_trans S_3_12.out hb)
  have S_4_13 := Lib.hid (gr_trans S_4_12.out hb)
  have S_5_13 := Lib.hid (gr_trans S_5_12.out hb)
  have S_6_13 := Lib.hid (gr_trans S_6_12.out hb)
  have S_7_13 := Lib.hid (gr_trans S_7_12.out hb)
  have S_8_13 := Lib.hid (gr_trans S_8_12.out hb)
  have S_9_13 := Lib.hid (gr_trans S_9_12.out hb)
  have S_10_13 := Lib.hid (gr_trans S_10_12.out hb)
  have S_11_13 := Lib.hid (gr_trans S_11_12.out hb)
  have S_12_13 := Lib.hid (gr_trans S_12_12.out hb)
  have S_13_13 := Lib.hid (bel_refl u13)
  have SZ13 := Lib.hid hb.size
  clear hsm
  clear hb
  go_wp2_with fail
  have hkb := keptBytes_any g n c _ xs u13 HN.out HC1.out.1 HC1.out.2.1 (HCO.out u13 S_1_13.out) (HV.out.keep S_0_13.out (Nat.le_refl _)) (by have := HN.out; have := HLX.out; omega)
  refine Calls.mono (hkb) ?_
  rintro e u14 ⟨rfl, hb⟩
  have S_0_14 := Lib.hid (gr_trans S_0_13.out hb)
  have S_1_14 := Lib.hid (gr_trans S_1_13.out hb)
  have S_2_14 := Lib.hid (gr_trans S_2_13.out hb)
  have S_3_14 := Lib.hid (gr_trans S_3_13.out hb)
  have S_4_14 := Lib.hid (gr_trans S_4_13.out hb)
  have S_5_14 := Lib.hid (gr_trans S_5_13.out hb)
  have S_6_14 := Lib.hid (gr_trans S_6_13.out hb)
  have S_7_14 := Lib.hid (gr_trans S_7_13.out hb)
  have S_8_14 := Lib.hid (gr_trans S_8_13.out hb)
  have S_9_14 := Lib.hid (gr_trans S_9_13.out hb)
  have S_10_14 := Lib.hid (gr_trans S_10_13.out hb)
  have S_11_14 := Lib.hid (gr_trans S_11_13.out hb)
  have S_12_14 := Lib.hid (gr_trans S_12_13.out hb)
  have S_13_14 := Lib.hid (gr_trans S_13_13.out hb)
  have S_14_14 := Lib.hid (bel_refl u14)
  have SZ14 := Lib.hid hb.size
  clear hkb
  clear hb
  go_wp2_with fail
  have hkb := keptInts_any g2 m c2 _ l u14 HM.out HC2.out.1 HC2.out.2 (HCI.out u14 S_2_14.out) (HL.out.keep S_0_14.out (Nat.le_refl _)) (by have := HM.out; have := HLX.out; omega)
  refine Calls.mono (hkb) ?_
  rintro e u15 ⟨rfl, hb⟩
  have S_0_15 := Lib.hid (gr_trans S_0_14.out hb)
  have S_1_15 := Lib.hid (gr_trans S_1_14.out hb)
  have S_2_15 := Lib.hid (gr_trans S_2_14.out hb)
  have S_3_15 := Lib.hid (gr_trans S_3_14.out hb)
  have S_4_15 := Lib.hid (gr_trans S_4_14.out hb)
  have S_5_15 := Lib.hid (gr_trans S_5_14.out hb)
  have S_6_15 := Lib.hid (gr_trans S_6_14.out hb)
  have S_7_15 := Lib.hid (gr_trans S_7_14.out hb)
  have S_8_15 := Lib.hid (gr_trans S_8_14.out hb)
  have S_9_15 := Lib.hid (gr_trans S_9_14.out hb)
  have S_10_15 := Lib.hid (gr_trans S_10_14.out hb)
  have S_11_15 := Lib.hid (gr_trans S_11_14.out hb)
  have S_12_15 := Lib.hid (gr_trans S_12_14.out hb)
  have S_13_15 := Lib.hid (gr_trans S_13_14.out hb)
  have S_14_15 := Lib.hid (gr_trans S_14_14.out hb)
  have S_15_15 := Lib.hid (bel_refl u15)
  have SZ15 := Lib.hid hb.size
  clear hkb
  clear hb
  go_wp2_with fail
  obtain ⟨S, hSd⟩ : ∃ S : Nat → Value, S = fun j => match j with
    | 0 => .slice (some ⟨g, 0, none⟩) n c
    | 1 => .slice a1 m1 cc1
    | 2 => .slice a2 m2 cc2
    | _ => .slice none 0 0 := ⟨_, rfl⟩
  obtain ⟨L, hLd⟩ : ∃ L : Nat → List Nat, L = fun j => match j with
    | 0 => xs
    | 1 => V1
    | 2 => V2
    | _ => [] := ⟨_, rfl⟩
  obtain ⟨lo, hlo⟩ : ∃ lo : Nat → Nat, lo = fun j => match j with
    | 0 => u0.heap.size
    | 1 => u2.heap.size
    | 2 => u3.heap.size
    | _ => u4.heap.size := ⟨_, rfl⟩
  have hdis : Dis 3 S := by
    refine dis_of lo (fun j hj b hb => ?_) (fun j => ?_)
    · subst hSd hlo
      match j, hj with
      | 0, _ =>
        obtain rfl : g = b := by simpa [Value.ownBlock] using hb
        exact ⟨HC1.out.2.2.1, show g < u2.heap.size by have := HC1.out.2.2.2; have := SZ2.out; omega⟩
      | 1, _ => exact z1.out b hb
      | 2, _ => exact z2.out b hb
    · subst hlo
      match j with
      | 0 => show u0.heap.size ≤ u2.heap.size; have := SZ1.out; have := SZ2.out; omega
      | 1 => exact SZ3.out
      | 2 => exact SZ4.out
      | (_ + 3) => exact Nat.le_refl _
  have hcel : ∀ j, j < 3 → (u15.alloc (.cells #[.slice (some ⟨g, 0, none⟩) n c, .slice a1 m1 cc1, .slice a2 m2 cc2] 22)).cell? ⟨u15.heap.size, j, none⟩ = some (S j) := fun j hj => by
    subst hSd
    match j, hj with
    | 0, _ => exact (arr_cell (heap_alloc_new u15 _) rfl).1
    | 1, _ => exact (arr_cell (heap_alloc_new u15 _) rfl).1
    | 2, _ => exact (arr_cell (heap_alloc_new u15 _) rfl).1
  have hs0 := SZ1.out
  have hs1 := SZ2.out
  have hs2 := SZ3.out
  have hown : ∀ j, j < 3 → Owns .u8 5 (u15.alloc (.cells #[.slice (some ⟨g, 0, none⟩) n c, .slice a1 m1 cc1, .slice a2 m2 cc2] 22)) u0.heap.size (S j) (L j) := fun j hj => by
    subst hSd hLd
    match j, hj with
    | 0, _ =>
      have h1 := HO1.out.keep S_1_15.out (Nat.le_refl _)
      exact World.ownsRow.alloc (owns_pre h1 HN.out (marksB_length 12)) _
    | 1, _ => exact World.ownsRow.alloc ((y1.out.keep S_3_15.out (Nat.le_refl _)).mono (by omega)) _
    | 2, _ => exact World.ownsRow.alloc ((y2.out.keep S_4_15.out (Nat.le_refl _)).mono (by omega)) _
  have hM2 : ∀ j, (L j).length < 800000 := fun j => by
    subst hLd
    have h1 := HVL.out
    match j with
    | 0 => show xs.length < 800000; have := HLX.out; omega
    | 1 => show V1.length < 800000; omega
    | 2 => show V2.length < 800000; omega
    | (_ + 3) => show ([] : List Nat).length < 800000; decide
  have HAP := Lib.hid (apartBytes_any u15.heap.size 3 3 S L (fun j => (L j).length) (u15.alloc (.cells #[.slice (some ⟨g, 0, none⟩) n c, .slice a1 m1 cc1, .slice a2 m2 cc2] 22)) u0.heap.size (by decide) (by decide) (by decide) (by decide) (fun _ => rfl) hM2 hcel hown hdis (by have := S_0_15.out.size; simp; omega))
  have HBF := Lib.hid (S_0_15.out.alloc S_0_15.out.size (.cells #[.slice (some ⟨g, 0, none⟩) n c, .slice a1 m1 cc1, .slice a2 m2 cc2] 22))
  clear hcel hown hdis hM2 hSd hLd hlo hs0 hs1 hs2
  refine HAP.out.mono ?_
  rintro e wz ⟨rfl, hb⟩
  have HBZ := Lib.hid (HA.out.trans ((HBF.out.trans hb).mono HA.out.size))
  clear hb
  go_wp2_with fail
  go_ret
  exact ⟨rfl, HBZ.out⟩
set_option maxRecDepth 100000 in
theorem damageFlips_all (v : Value) (xs : List Nat) (w : World) (hv : Reads .u8 w v xs) (hx : Bytes xs) (vo : Value) (ys : List Nat) (hvo : Reads .u8 w vo ys) (hy : Bytes ys) (vl : Value) (l : List Int) (hl : ReadsI .i64 w vl l) (hlb : ∀ k ∈ l, -9223372036854775808 ≤ k ∧ k ≤ 9223372036854775807) (x : Int) (hxb : -9223372036854775808 ≤ x ∧ x ≤ 9223372036854775807) (b : Nat) (hb : b < 4294967296) (hT : Tab w) :
    Calls Tryz.prog 3 #[v, vo, vl, .agg #[.int .i64 x, .int .u32 b]] w fun e w' => e = .returned (.bool true) ∧ Below w.heap.size w w' := by
  obtain ⟨x1, x2, -, -⟩ := cell_two w (.int .i64 x) (.int .u32 (b : Int)) 26
  have hA := bel_alloc w (.cells #[.int .i64 x, .int .u32 (b : Int)] 26)
  have HH := Lib.hid (flips_any v xs vo ys vl l x b _ (hv.keep hA (Nat.le_refl _)) hx (hvo.keep hA (Nat.le_refl _)) hy (hl.keep hA (Nat.le_refl _)) hlb hxb hb (hT.keep hA (Nat.le_refl _)))
  have HT := Lib.hid (hT.keep hA (Nat.le_refl _))
  have HA := Lib.hid hA
  obtain ⟨av, cv, rfl, -⟩ := hv
  obtain ⟨ao, co, rfl, -⟩ := hvo
  obtain ⟨al, cl, rfl, -⟩ := hl
  clear hlb hT hA
  go_enter Tryz.func3, Tryz.ntmps3
  go_wp2_with fail
  refine (HH.out).mono ?_
  rintro e w2 ⟨rfl, hb2⟩
  have HT2 := Lib.hid (HT.out.keep hb2 (Nat.le_refl _))
  have HB2 := Lib.hid (HA.out.trans (hb2.mono HA.out.size))
  clear hb2 HT
  go_wp2_with fail
  refine (awakeD_any w2 HT2.out).mono ?_
  rintro e w3 ⟨rfl, hb3⟩
  go_wp2_with fail
  go_ret
  exact ⟨rfl, HB2.out.trans (hb3.mono HB2.out.size)⟩
end Go.Proofs.YtmjigpnpcacefaaGreatDoor

