/- The walk of the law DamageFound. -/
import Derived.Test.YtmjigpnpcacefaaDoorAwakeD
import Derived.Test.YtmjigpnpcacefaaDoorDmgQ
import Derived.Test.YtmjigpnpcacefaaDoorOwnV
namespace Go.Proofs.YtmjigpnpcacefaaDoor
open Go Go.RowKit Go.Shelf

set_option maxRecDepth 100000 in
set_option maxHeartbeats 2000000 in
theorem sealed13_any (v : Value) (xs : List Nat) (z : Nat) (hz : z < 65536) (w : World) (hv : Reads .u8 w v xs) (hx : Bytes xs) (hT : Tab w) :
    Calls Tryd.prog 28 #[v, .int .u16 z] w fun e w' => ∃ v' S, e = .returned (.tuple #[v', .bool true]) ∧ Owns .u8 5 w' w.heap.size v' S ∧ Bytes S ∧ sealedB S = true ∧ 4 ≤ S.length ∧ S.length ≤ 4096 ∧ Below w.heap.size w w' := by
  have HV := Lib.hid hv
  have HT := Lib.hid hT
  obtain ⟨av, cv, rfl, hlv, hcv, hsv⟩ := hv
  obtain ⟨n, HN⟩ := nm xs.length
  rw [HN.out] at hlv HV ⊢
  obtain ⟨N2, HN2⟩ := nm (min n 300)
  have hn2a : N2 ≤ n := by have := HN2.out; omega
  have hn2b : N2 ≤ 300 := by have := HN2.out; omega
  have hmin1 : min (n : Int) 300 = (N2 : Int) := by have := HN2.out; omega
  have hlp : (xs.take N2).length = N2 := by rw [List.length_take, HN.out]; omega
  have hbp : Bytes (xs.take N2) := hx.take N2
  have hrp := reads_pre HV.out hn2a
  obtain ⟨B, HB⟩ := nm (xs.take N2)
  rw [HB.out] at hlp hbp hrp
  have hm1 : (4093 : Int) - (N2 : Int) = ((4093 - N2 : Nat) : Int) := by omega
  have hm2 : (z : Int) % ((4093 - N2 : Nat) : Int) = ((z % (4093 - N2) : Nat) : Int) := by omega
  have hmb : z % (4093 - N2) < 4093 - N2 := Nat.mod_lt _ (by omega)
  obtain ⟨m, HM⟩ := nm (z % (4093 - N2))
  obtain ⟨q, HQ⟩ := nm (4093 - N2)
  rw [HM.out] at hm2 hmb
  rw [HQ.out] at hm1 hm2 hmb
  have hq1 : 0 < q := by omega
  have hwz : IntKind.i64.wrap (z : Int) = (z : Int) := IntWalk.i64_in _ (by omega)
  have hwq : IntKind.i64.wrap (q : Int) = (q : Int) := IntWalk.i64_in _ (by have := HQ.out; omega)
  have htm : (z : Int).tmod (q : Int) = (m : Int) := by rw [Int.tmod_eq_emod_of_nonneg (by omega)]; exact hm2
  have hqn : ¬ q = 0 := by omega
  have hq0 : ((q : Int) == 0) = false := beq_false_of_ne (by omega)
  obtain ⟨v1, w1, hr1, ho1, hb1⟩ := run_app (ty := 28) (t := 28) (k := .u8) (base := w.heap.size) Tryd.underlying28 info_u8 (by decide) (World.ownsRow.drew (owns_empty .u8 5 w w.heap.size (Nat.le_refl _)) : Owns .u8 5 ((w.alloc (.cells #[] 5)).drew) _ _ _) (hrp.keep ((bel_alloc w (.cells #[] 5)).drew) (Nat.le_refl _)) (by rw [hlp]; simp; omega) (by simp)
  rw [List.nil_append] at ho1
  obtain ⟨v2, w2, hr2, ho2, hb2⟩ := run_appz (ty := 28) (t := 28) (tn := 3) (k := .u8) (base := w.heap.size) Tryd.underlying28 Tryd.underlying3 info_u8 (by decide) ho1 m (by rw [hlp]; omega) (Nat.le_trans (by simp) hb1.size)
  have hb12 : Below w.heap.size w w2 := ((bel_alloc w (.cells #[] 5)).drew.trans hb1).trans hb2
  have hyl : (B ++ List.replicate m 0).length = N2 + m := by rw [List.length_append, hlp, List.length_replicate]
  have hyb : Bytes (B ++ List.replicate m 0) := hbp.append (bytes_zeros m)
  obtain ⟨Y, HY⟩ := nm (B ++ List.replicate m 0)
  rw [HY.out] at hyl hyb ho2
  have HR1 := Lib.hid hr1
  have HR2 := Lib.hid hr2
  have HYL := Lib.hid hyl
  obtain ⟨a1, n1, c1, rfl, -⟩ := owns_form3 ho1
  obtain ⟨a2, n2, c2, rfl, hn2, -⟩ := owns_form3 ho2
  have HO2 := Lib.hid ho2
  have HN22 := Lib.hid hn2
  clear hsv hr1 hr2 ho1 ho2 hyl hn2 hT HV hrp hlp
  go_enter Tryd.func28, Tryd.ntmps28
  go_wp2_with fail
  go_region_law (first | (refine step_app rfl (.tmp 14) (.tmp 15) 28 28 rfl _ w1 HR1.out ?_) | (refine step_app rfl (.tmp 16) (.tmp 22) 28 3 rfl _ w2 HR2.out ?_))
  go_wp2_with fail
  refine (seal_any _ Y _ HO2.out.reads hyb (HT.out.keep hb12 (Nat.le_refl _)) (by rw [HYL.out]; omega)).mono ?_
  rintro e w3 ⟨vs, rfl, hs, hb3⟩
  have hB3 := gr_trans hb12 hb3
  have hss := sealedB_seal Y hyb
  have hSb : Bytes (Gf.sealB Y) := Bytes.append hyb (bytes_four _)
  have hSl : (Gf.sealB Y).length = N2 + m + 4 := by have := HYL.out; simp [Gf.sealB, Gf.four]; omega
  obtain ⟨a5, ls, cs, rfl, hls, -⟩ := owns_form3 hs
  obtain ⟨S, HS⟩ := nm (Gf.sealB Y)
  rw [HS.out] at hs hss hSb hSl hls
  have hle : (n2 : Int) + 4 = (ls : Int) := by have := HN22.out; have := HYL.out; omega
  have hlb : ls ≤ 5000 := by omega
  have hq : ((ls : Int) == (ls : Int)) = true := by simp
  have HS2 := Lib.hid (hs.mono hb12.size)
  have HSS := Lib.hid hss
  have HSB := Lib.hid hSb
  have HSL := Lib.hid hSl
  clear hs hss hSb hSl hls hb3
  go_wp2_with fail
  go_ret2
  exact ⟨_, S, rfl, HS2.out, HSB.out, HSS.out, by rw [HSL.out]; omega, by rw [HSL.out]; omega, hB3⟩

theorem cell_three (w : World) (a b c : Value) (t : TypeId) : (w.alloc (.cells #[a, b, c] t)).cell? ⟨w.heap.size, 0, none⟩ = some a ∧ (w.alloc (.cells #[a, b, c] t)).cell? ⟨w.heap.size, 1, none⟩ = some b ∧ (w.alloc (.cells #[a, b, c] t)).cell? ⟨w.heap.size, 2, none⟩ = some c := by
  have h : (w.alloc (.cells #[a, b, c] t)).heap[w.heap.size]? = some (.cells #[a, b, c] t (0, 0)) := World.alloc_heap_new w _
  refine ⟨?_, ?_, ?_⟩ <;> (unfold World.cell?; rw [h]; rfl)
theorem index_three (x y z k : Nat) (hk : k < 3) (w : World) : (Instr.index 61 (.agg #[.int .u16 (x : Int), .int .u16 (y : Int), .int .u16 (z : Int)]) (.int .i64 (k : Int))).run Tryd.prog w = .ok (.int .u16 ((([x, y, z] : List Nat)[k]?.getD 0 : Nat) : Int)) w := by
  rcases (show k = 0 ∨ k = 1 ∨ k = 2 by omega) with rfl | rfl | rfl
  · kernel_rfl
  · kernel_rfl
  · kernel_rfl
set_option maxRecDepth 100000 in
set_option maxHeartbeats 8000000 in
theorem damageFound_all (v : Value) (xs : List Nat) (w : World) (hv : Reads .u8 w v xs) (hx : Bytes xs) (z : Nat) (hz : z < 65536) (k0 k1 k2 : Nat) (hk0 : k0 < 65536) (hk1 : k1 < 65536) (hk2 : k2 < 65536) (at' : Nat) (ha : at' < 65536) (b : Nat) (hb : b < 4294967296) (hT : Tab w) :
    Calls Tryd.prog 9 #[v, .int .u16 z, .agg #[.int .u16 k0, .int .u16 k1, .int .u16 k2], .int .u16 at', .int .u32 b] w fun e w' => e = .returned (.bool true) ∧ Below w.heap.size w w' := by
  have HV := Lib.hid hv
  have HT := Lib.hid hT
  have HC3 := Lib.hid (cell_three w (.int .u16 k0) (.int .u16 k1) (.int .u16 k2) 61)
  clear hv hT
  go_enter Tryd.func9, Tryd.ntmps9
  go_wp2_with fail
  have hT0 := HT.out.keep (bel_alloc w (.cells #[.int .u16 k0, .int .u16 k1, .int .u16 k2] 61)) (Nat.le_refl _)
  refine (awakeD_any _ hT0).mono ?_
  rintro e w1 ⟨rfl, hb1⟩
  have hB1 := gr_trans (bel_alloc w _) hb1
  have HB1 := Lib.hid hB1
  have HT1 := Lib.hid (hT0.keep hb1 (Nat.le_refl _))
  have c0 := cell_keep hb1 HC3.out.1 (cell_lt HC3.out.1)
  have c1 := cell_keep hb1 HC3.out.2.1 (cell_lt HC3.out.2.1)
  have c2 := cell_keep hb1 HC3.out.2.2 (cell_lt HC3.out.2.2)
  have HC := Lib.hid (And.intro c0 (And.intro c1 c2))
  clear hb1 hB1 hT0 c0 c1 c2 HC3
  go_wp2_with fail
  refine (sealed13_any v xs z hz w1 (HV.out.keep HB1.out (Nat.le_refl _)) hx HT1.out).mono ?_
  rintro e w2 ⟨vS, S, rfl, hoS, hSb, hss, hSl1, hSl2, hb2⟩
  obtain ⟨aS, ls, cS, rfl, hls, -⟩ := owns_form3 hoS
  have HB2 := Lib.hid hb2
  have HS := Lib.hid hoS.reads
  have HSB := Lib.hid hSb
  have HSS := Lib.hid hss
  have HLS := Lib.hid hls
  have hl4 : 4 ≤ ls ∧ ls ≤ 4096 := by omega
  clear hoS hb2 hls hSl1 hSl2 hss
  obtain ⟨hl4a, hl4b⟩ := hl4
  go_wp2_with fail
  refine (sealed_any _ S w2 HS.out hSb (HT1.out.keep HB2.out (Nat.le_refl _))).mono ?_
  rintro e w3 ⟨rfl, hb3⟩
  rw [HSS.out]
  have HB3 := Lib.hid (gr_trans HB1.out (gr_trans HB2.out hb3))
  have HS3 := Lib.hid (HS.out.keep hb3 (Nat.le_refl _))
  have HT3 := Lib.hid (HT1.out.keep (gr_trans HB2.out hb3) (Nat.le_refl _))
  have hb23 := gr_trans HB2.out hb3
  have c0 := cell_keep hb23 HC.out.1 (cell_lt HC.out.1)
  have c1 := cell_keep hb23 HC.out.2.1 (cell_lt HC.out.2.1)
  have c2 := cell_keep hb23 HC.out.2.2 (cell_lt HC.out.2.2)
  clear hb23 hb3 HS HT HT1 HV hx HC hSb
  obtain ⟨F, HF⟩ := nm (8 * ls)
  have hF8 : F = 8 * ls := HF.out.symm
  have hF0 : 32 ≤ F ∧ F ≤ 32768 := by omega
  obtain ⟨hF1, hF2⟩ := hF0
  have hF8i : (8 * (ls : Int)) = (F : Int) := by omega
  have hw8 : IntKind.i64.wrap (8 * (ls : Int)) = (F : Int) := by rw [IntWalk.i64_in _ (by omega)]; exact hF8i
  have HF8 := Lib.hid hF8
  have hl3 : ([k0, k1, k2] : List Nat).length = 3 := rfl
  have hk3 : ∀ y ∈ ([k0, k1, k2] : List Nat), y < 65536 := by intro y hy; simp at hy; omega
  obtain ⟨L3, HL3⟩ := nm ([k0, k1, k2] : List Nat)
  rw [HL3.out] at hl3 hk3
  have HK3 := Lib.hid hk3
  have HL := Lib.hid hl3
  have HIX := Lib.hid (fun k hk W => by have h := index_three k0 k1 k2 k hk W; rw [HL3.out] at h; exact h)
  clear hF8 hl3 hk3
  go_wp2_with fail
  clear c0 c1 c2
  go_loopw [13, 45] (fun vq vi wr => ∃ i : Nat, i ≤ 3 ∧ vi = .int .i64 (i : Int) ∧ OwnsI .i64 3 wr w3.heap.size vq (ints (uq F (L3.take i))) ∧ Below w3.heap.size w3 wr) (fun _ vi _ => 3 - (intOf vi).toNat)
  case atStart => exact ⟨0, by omega, rfl, OwnsI.nil _ _ _ _, Below.refl _ _⟩
  case round =>
    obtain ⟨i, hi, rfl, hoq, hBr⟩ := hrel
    by_cases hlt : i < 3
    · have hix := fun W => HIX.out i hlt W
      have hil : i < L3.length := by rw [HL.out]; exact hlt
      have hx16 : L3[i]?.getD 0 < 65536 := HK3.out _ (by rw [List.getElem?_eq_getElem hil]; exact List.getElem_mem hil)
      have htk : L3.take (i + 1) = L3.take i ++ [L3[i]?.getD 0] := by rw [List.take_succ_eq_append_getElem hil, List.getElem?_eq_getElem hil]; rfl
      have hus := uq_snoc F (L3.take i) (L3[i]?.getD 0)
      rw [← htk] at hus
      have hul := uq_length F (L3.take i)
      have hul2 : (L3.take i).length ≤ i := List.length_take_le _ _
      have hun := uq_nodup F (L3.take (i + 1))
      have hub := uq_lt F (by omega) (L3.take (i + 1))
      obtain ⟨x, HX⟩ := nm (L3[i]?.getD 0)
      simp only [HX.out] at hix
      rw [HX.out] at hx16 hus
      obtain ⟨U, HU⟩ := nm (uq F (L3.take i))
      rw [HU.out] at hus hoq hul
      obtain ⟨U2, HU2⟩ := nm (uq F (L3.take (i + 1)))
      rw [HU2.out] at hus hun hub
      have hkF : x % F < F := Nat.mod_lt _ (by omega)
      have hxm : (x : Int) % (F : Int) = ((x % F : Nat) : Int) := by omega
      obtain ⟨k, HK⟩ := nm (x % F)
      rw [HK.out] at hus hkF hxm
      obtain ⟨aq, nq, cq, rfl, hnq, hnc, hncm, hgq⟩ := hoq.slice
      rw [ints_length] at hnq
      have hq3 : nq ≤ i := by omega
      have hcq := fun j (hj : j < nq) => (hoq.reads : ReadsI .i64 wr (.slice aq nq cq) (ints U))
      have HOQ := Lib.hid hoq
      have HUS := Lib.hid hus
      have HUN := Lib.hid hun
      have HUB := Lib.hid hub
      have HNQ := Lib.hid hnq
      have hk0' : (0 : Int) ≤ (k : Int) := by omega
      have hk1' : (k : Int) < (F : Int) := by omega
      clear hoq htk hul hul2 hun hub hus hcq hgq hil
      go_wp2_with fail
      obtain ⟨wo, rfl⟩ : ∃ wo : World, wo = wr := ⟨_, rfl⟩
      go_loopw [17, 56] (fun vf vj wz => ∃ j : Nat, j ≤ nq ∧ vj = .int .i64 (j : Int) ∧ vf = .bool (decide (k ∉ U.take j)) ∧ wo = wz) (fun _ vj _ => nq - (intOf vj).toNat)
      case atStart => exact ⟨0, Nat.zero_le _, rfl, by simp, rfl⟩
      case round =>
        obtain ⟨j, hj, rfl, rfl, rfl⟩ := hrel
        by_cases hjl : j < nq
        · have hjU : j < U.length := by rw [← HNQ.out]; exact hjl
          have htj : U.take (j + 1) = U.take j ++ [U[j]?.getD 0] := by rw [List.take_succ_eq_append_getElem hjU, List.getElem?_eq_getElem hjU]; rfl
          obtain ⟨a', c', ee, _, _, hcs⟩ := (HOQ.out.reads : ReadsI .i64 wo (.slice aq nq cq) (ints U))
          rw [ints_length] at ee hcs
          cases ee
          obtain ⟨gb, go, rfl, hcell⟩ := hcs.resolve_left (fun h => by omega)
          have ck := hcell j hjU
          rw [ints_get] at ck
          have hjl' : (j : Int) < (U.length : Int) := by omega
          have hd : decide (k ∉ U.take (j + 1)) = (decide (k ∉ U.take j) && decide (U[j]?.getD 0 ≠ k)) := by
            rw [htj, Bool.eq_iff_iff]
            simp only [List.mem_append, List.mem_singleton, Bool.and_eq_true, decide_eq_true_iff, not_or]
            constructor
            · exact fun h => ⟨h.1, fun e => h.2 e.symm⟩
            · exact fun h => ⟨h.1, fun e => h.2 e.symm⟩
          obtain ⟨y, HY⟩ := nm (U[j]?.getD 0)
          rw [HY.out] at ck hd
          obtain ⟨f1, HF1⟩ := nm (decide (k ∉ U.take j))
          obtain ⟨f2, HF2⟩ := nm (decide (k ∉ U.take (j + 1)))
          rw [HF1.out] at hd ⊢
          rw [HF2.out] at hd
          have hne : ((y : Int) != (k : Int)) = decide (y ≠ k) := by
            rw [bne, Bool.eq_iff_iff]; simp; omega
          obtain ⟨f3, HF3⟩ := nm (decide (y ≠ k))
          rw [HF3.out] at hd hne
          have HD := Lib.hid hd
          clear hd htj hcs hcell
          cases f1
          · go_wp2_with fail
            go_roundw
            case rel => exact ⟨j + 1, by omega, by go_num, by rw [HF2.out, HD.out]; rfl, trivial⟩
            case measure => simp [intOf]; omega
          · go_wp2_with fail
            go_roundw
            case rel => exact ⟨j + 1, by omega, by go_num, by rw [HF2.out, HD.out]; rfl, trivial⟩
            case measure => simp [intOf]; omega
        · obtain rfl : j = nq := by omega
          rw [show U.take j = U by rw [HNQ.out, List.take_length]]
          by_cases hin : k ∈ U
          · have hus := HUS.out
            rw [if_pos hin] at hus
            have HUS2 := Lib.hid hus
            rw [show decide (k ∉ U) = false from decide_eq_false (fun h => h hin)]
            clear hus hin HUS
            go_wp2_with fail
            go_roundw
            case rel => exact ⟨i + 1, by omega, by go_num, by rw [HU2.out, HUS2.out]; exact HOQ.out, hBr⟩
            case measure => simp [intOf]; omega
          · have hus := HUS.out
            rw [if_neg hin] at hus
            have hU2l : U2.length = j + 1 := by rw [hus, List.length_append, HNQ.out]; rfl
            have HUS2 := Lib.hid hus
            rw [show decide (k ∉ U) = true from decide_eq_true hin]
            have hUL : (ints U).length < 17592186044414 := by rw [ints_length, ← HNQ.out]; omega
            have HUL := Lib.hid hUL
            have hsr := hBr.size
            have hseen := Gf.three_seen S.length U2 (by have := HLS.out; omega) (fun q hq => by have := HUB.out q hq; have := HF8.out; have := HLS.out; omega) HUN.out (by omega) (by omega)
            have hfo := found_of S U2 HSB.out (by have := HLS.out; omega) HSS.out (fun q hq => by have := HUB.out q hq; have := HF8.out; have := HLS.out; omega) HUN.out hseen
            have HFO := Lib.hid hfo
            have HUB2 := Lib.hid (ints_bound HUB.out (by omega))
            clear hus hin HUS hU2l hUL hseen hfo
            go_wp2_with (at_builtin; refine wpl_app1I rfl (.tmp 69) (.tmp 71) 25 rfl .i64 3 8 Tryd.underlying25 info_int (by decide) w3.heap.size _ (ints U) _ HOQ.out rfl (k : Int) rfl HUL.out hsr ?_; intro vq2 w5 hoq5 hb5)
            rw [show ints U ++ [(k : Int)] = ints U2 by rw [HUS2.out]; simp [ints]] at hoq5
            have hb35 := hBr.trans hb5
            have HO5 := Lib.hid hoq5
            have HB35 := Lib.hid hb35
            clear hoq5 hb5 hb35
            refine (found_any _ S _ (ints U2) w5 (HS3.out.keep HB35.out (Nat.le_refl _)) HSB.out (by rw [← HLS.out]; omega) HO5.out.reads HUB2.out (HT3.out.keep HB35.out (Nat.le_refl _))).mono ?_
            rintro e w6 ⟨rfl, hb6⟩
            rw [HFO.out.1, HFO.out.2.1]
            have HO6 := Lib.hid (show OwnsI .i64 3 w6 w3.heap.size vq2 (ints U2) from HO5.out.keep hb6 (Nat.le_refl _))
            have HB36 := Lib.hid (gr_trans HB35.out hb6)
            clear hb6 HO5 HB35
            go_wp2_with fail
            go_roundw
            case rel => exact ⟨i + 1, by omega, by go_num, by rw [HU2.out]; exact HO6.out, HB36.out⟩
            case measure => simp [intOf]; omega
    · obtain rfl : i = 3 := by omega
      rw [show ((3 : Nat) : Int) = 3 from rfl]
      have HBr := Lib.hid hBr
      obtain ⟨aq, nq, cq, rfl, -⟩ := hoq.slice
      clear hoq hBr
      have hor : bits BinOp.or IntKind.u32 (b : Int) 1 = ((b ||| 1 : Nat) : Int) := u32_or_nat b 1 hb (by decide)
      have hP : b ||| 1 < 4294967296 := Nat.or_lt_two_pow (n := 32) hb (by decide)
      have hPo := odd_or b
      obtain ⟨P, HP⟩ := nm (b ||| 1)
      rw [HP.out] at hor hP hPo
      have hlp := (burst_ok 0 P hP hPo (by decide)).2.2.2.2
      have hp1 := odd_plen hPo
      have hp2 := plen_le32 hP
      have hXle : at' % (F - Gf.plen P + 1) + Gf.plen P ≤ F := by have := Nat.mod_lt at' (show 0 < F - Gf.plen P + 1 by omega); omega
      have hXe : (at' : Int) % ((F : Int) - (Gf.plen P : Nat) + 1) = ((at' % (F - Gf.plen P + 1) : Nat) : Int) := by
        rw [show ((F : Int) - (Gf.plen P : Nat) + 1) = ((F - Gf.plen P + 1 : Nat) : Int) by omega]; simp
      obtain ⟨X, HX⟩ := nm (at' % (F - Gf.plen P + 1))
      rw [HX.out] at hXle hXe
      obtain ⟨p, HPL⟩ := nm (Gf.plen P)
      rw [HPL.out] at hlp hp1 hp2 hXle hXe
      have HLP := Lib.hid hlp
      have HXE := Lib.hid hXe
      have HPO := Lib.hid hPo
      clear hlp hXe hPo
      go_wp2_with fail
      have HXC := Lib.hid (cell_two wr (.int .i64 0) (.int .u32 (P : Int)) 24)
      refine (length_any 0 P hP _).mono ?_
      rintro e w11 ⟨rfl, hb11⟩
      have hlp := HLP.out
      rw [show ((0 : Nat) : Int) = 0 from rfl] at hlp
      rw [hlp]
      clear hlp
      have x1 := cell_keep hb11 HXC.out.1 (cell_lt HXC.out.1)
      have x2 := cell_keep hb11 HXC.out.2.1 (cell_lt HXC.out.2.1)
      have x3 := (hb11.frozen (p := ⟨wr.heap.size, 0, none⟩) (cell_lt HXC.out.1)).trans HXC.out.2.2.1
      have HBB := Lib.hid (((bel_alloc wr (.cells #[.int .i64 0, .int .u32 (P : Int)] 24)).trans (hb11.mono (by simp))).setCell (p := ⟨wr.heap.size, 0, none⟩) (Nat.le_refl _) (.int .i64 (X : Int)))
      have hs11 := hb11.size
      rw [World.size_alloc] at hs11
      clear hb11 HXC
      have hxe := HXE.out
      go_wp2_with fail
      have X1 := Lib.hid x1
      clear hxe x1 x3
      have y1 : (w11.setCell ⟨wr.heap.size, 0, none⟩ (.int .i64 (X : Int))).cell? ⟨wr.heap.size, 0, none⟩ = some (.int .i64 (X : Int)) := World.cell?_setCell_same' _ _ _ (by rw [X1.out]; rfl)
      have y2 : (w11.setCell ⟨wr.heap.size, 0, none⟩ (.int .i64 (X : Int))).cell? ⟨wr.heap.size, 1, none⟩ = some (.int .u32 (P : Int)) := (World.cell?_setCell_other _ _ _ _ (by simp)).trans x2
      clear x2 X1
      obtain ⟨w12, HW12⟩ := nm (w11.setCell ⟨wr.heap.size, 0, none⟩ (.int .i64 (X : Int)))
      rw [HW12.out] at HBB y1 y2 ⊢
      have hXS : X + Gf.plen P ≤ 8 * S.length := by have := HF8.out; have := HLS.out; rw [HPL.out]; omega
      have hSlen : S.length < 1000000000 := by have := HLS.out; omega
      have hso := strike_ok S X P hP HPO.out hXS hSlen
      have hbk := burst_ok X P hP HPO.out (by omega)
      have hseen := burst_seen S.length X P hP HPO.out hXS
      have hfo := found_of S (hits X P) HSB.out (by have := HLS.out; omega) HSS.out (fun q hq => by have := hits_lt X P q hq; omega) (rise_nodup (hits_rise X P)) hseen
      have hhb := ints_bound (fun q hq => hits_lt X P q hq : ∀ q ∈ hits X P, q < X + Gf.plen P) (by omega)
      have hDB := Gf.bytes_flips (hits X P) HSB.out
      have hDl : (Gf.flips S (hits X P)).length = ls := by rw [Gf.flips_length]; exact HLS.out.symm
      obtain ⟨H, HH0⟩ := nm (hits X P)
      rw [HH0.out] at hso hbk hfo hDB hDl hhb
      obtain ⟨D, HD0⟩ := nm (Gf.flips S H)
      rw [HD0.out] at hso hfo hDB hDl
      have HSO := Lib.hid hso
      have HBK := Lib.hid hbk
      have HFO := Lib.hid hfo
      have HHB := Lib.hid hhb
      have HDB := Lib.hid hDB
      have HDL := Lib.hid hDl
      have HB12 := Lib.hid (gr_trans HBr.out HBB.out)
      have HS12 := Lib.hid (HS3.out.keep HB12.out (Nat.le_refl _))
      have HT12 := Lib.hid (HT3.out.keep HB12.out (Nat.le_refl _))
      have hXb : -9223372036854775808 ≤ (X : Int) ∧ (X : Int) ≤ 9223372036854775807 := by omega
      clear hso hbk hfo hhb hDB hDl hseen hXS hSlen HBr HBB
      refine (strike_any _ S (X : Int) P w12 HS12.out HSB.out (by rw [← HLS.out]; omega) hP hXb).mono ?_
      rintro e w13 ⟨vd, rfl, hod, hb13⟩
      rw [HSO.out.2] at hod
      rw [HSO.out.1]
      obtain ⟨ad, nd, cd, rfl, hnd, -⟩ := owns_form3 hod
      have hnd' : nd = ls := by rw [hnd, HDL.out]
      subst hnd'
      have HD1 := Lib.hid hod.reads
      have HB13 := Lib.hid hb13
      have y3 := cell_keep hb13 y1 (cell_lt y1)
      have y4 := cell_keep hb13 y2 (cell_lt y2)
      clear hod hb13 y1 y2 hnd
      go_wp2_with fail
      refine (bits_any (X : Int) P hP hXb w13).mono ?_
      rintro e w15 ⟨vh, rfl, hoh, hb15⟩
      rw [HBK.out.2.2.1] at hoh
      rw [HBK.out.2.2.2.1]
      have HH := Lib.hid hoh.reads
      have HB15 := Lib.hid hb15
      have HB1315 := Lib.hid (gr_trans HB13.out hb15)
      clear hoh hb15 y3 y4
      go_wp2_with fail
      refine (found_any _ S _ (ints H) w15 (HS12.out.keep HB1315.out (Nat.le_refl _)) HSB.out (by rw [← HLS.out]; omega) HH.out HHB.out (HT12.out.keep HB1315.out (Nat.le_refl _))).mono ?_
      rintro e w16 ⟨rfl, hb16⟩
      rw [HFO.out.1, HFO.out.2.1]
      have HB16 := Lib.hid (gr_trans HB15.out hb16)
      have HBF := Lib.hid (gr_trans HB1315.out hb16)
      clear hb16
      go_wp2_with fail
      refine (sealed_any _ D w16 (HD1.out.keep HB16.out (Nat.le_refl _)) HDB.out (HT12.out.keep HBF.out (Nat.le_refl _))).mono ?_
      rintro e w17 ⟨rfl, hb17⟩
      rw [HFO.out.2.2]
      have HBE := Lib.hid (gr_trans HB3.out (gr_trans HB12.out (gr_trans HBF.out hb17)))
      clear hb17
      go_wp2_with fail
      go_ret
      exact ⟨by simp, HBE.out⟩
end Go.Proofs.YtmjigpnpcacefaaDoor
