/- The walk of the law CrcSearches. -/
import Derived.Test.YtomddpplhllgcaaDoorRefG
namespace Go.Proofs.YtomddpplhllgcaaDoor
open Go Go.RowKit Go.Shelf

theorem find_all (v : Value) (xs : List Nat) (w : World) (hv : Reads .u8 w v xs) (hx : Bytes xs) (hT : Tab w) :
    Calls Tryd.prog 33 #[v] w fun e w' => e = .returned (.tuple #[.int .i64 (findK xs), .int .i64 (findE xs)]) ∧ Below w.heap.size w w' := by
  by_cases h : xs.length < 4 ∨ 65536 < xs.length
  · refine (find_bad v xs w hv h).mono ?_
    rintro e w' ⟨rfl, rfl⟩
    exact ⟨by unfold findK findE; rw [if_pos h, if_pos h], Below.refl _ _⟩
  · exact find_ok v xs w hv hx hT (by omega) (by omega)
theorem rfind_all (v : Value) (xs : List Nat) (w : World) (hv : Reads .u8 w v xs) (hx : Bytes xs) :
    Calls Tryd.prog 34 #[v] w fun e w' => e = .returned (.tuple #[.int .i64 (findK xs), .int .i64 (findE xs)]) ∧ Below w.heap.size w w' := by
  by_cases h : xs.length < 4 ∨ 65536 < xs.length
  · refine (rfind_bad v xs w hv h).mono ?_
    rintro e w' ⟨rfl, rfl⟩
    exact ⟨by unfold findK findE; rw [if_pos h, if_pos h], Below.refl _ _⟩
  · exact rfind_ok v xs w hv hx (by omega) (by omega)

theorem cell_two (w : World) (t : TypeId) (x y : Value) : (w.alloc (.cells #[x, y] t)).cell? ⟨w.heap.size, 0, none⟩ = some x ∧ (w.alloc (.cells #[x, y] t)).cell? ⟨w.heap.size, 1, none⟩ = some y := by
  rw [World.cell?_alloc_at _ _ _ _ rfl, World.cell?_alloc_at _ _ _ _ rfl]
  exact ⟨rfl, rfl⟩
set_option maxRecDepth 100000 in
set_option maxHeartbeats 4000000 in
theorem crcSearches_all (v : Value) (xs : List Nat) (w : World) (hv : Reads .u8 w v xs) (hx : Bytes xs) (vl : Value) (ls : List Nat) (hvl : Reads .u16 w vl ls) (hls : ∀ t ∈ ls, t < 65536) (hT : Tab w) :
    Calls Tryd.prog 11 #[v, vl] w fun e w' => e = .returned (.bool true) ∧ Below w.heap.size w w' := by
  have hv0 := hv
  have hvl0 := hvl
  obtain ⟨a, cap, rfl, hlc, hcm, hcs⟩ := hv
  obtain ⟨al, cl, rfl, hllc, hlcm, hlcs⟩ := hvl
  obtain ⟨L, HL⟩ := nm xs.length
  obtain ⟨M, HM⟩ := nm ls.length
  rw [HL.out] at hlc hv0 ⊢
  rw [HM.out] at hllc hvl0 ⊢
  have HV := Lib.hid hv0
  have HVL := Lib.hid hvl0
  have HT := Lib.hid hT
  have HLS := Lib.hid hls
  clear hcs hlcs hv0 hvl0 hT hls
  go_enter Tryd.func11, Tryd.ntmps11
  go_upto_region 1 with fail
  go_cut [0] (fun v0 wx => ∃ p : Nat, p ≤ L ∧ p ≤ 40 ∧ v0 = .slice a p cap ∧ w = wx)
  case first =>
    by_cases c1 : L ≤ 40
    · go_wp2_with fail
      go_meet
      exact ⟨L, Nat.le_refl _, c1, rfl, rfl⟩
    · go_wp2_with fail
      go_meet
      exact ⟨40, by omega, Nat.le_refl _, rfl, rfl⟩
  case rest =>
    obtain ⟨p, hp1, hp2, rfl, rfl⟩ := hcut
    have hr := reads_pre HV.out hp1
    have hX : Bytes (xs.take p) := hx.take p
    have hXl : (xs.take p).length = p := by have := HL.out; simp; omega
    obtain ⟨X, HX⟩ := nm (xs.take p)
    rw [HX.out] at hr hX hXl
    have HXL := Lib.hid hXl
    have HRX := Lib.hid hr
    clear hXl hr
    go_wp2_with fail
    refine (rseal_any _ X _ HRX.out hX (by rw [HXL.out]; omega)).mono ?_
    rintro e w1 ⟨vs, rfl, hs, hb1⟩
    have hSb : Bytes (Gf.sealB X) := Bytes.append hX (bytes_four _)
    have hSl : (Gf.sealB X).length = p + 4 := by have := HXL.out; simp [Gf.sealB, Gf.four]; omega
    obtain ⟨a5, n5, c5, rfl, hn5, hgs⟩ := hs.slice
    obtain ⟨S, HS⟩ := nm (Gf.sealB X)
    rw [HS.out] at hs hSb hSl hn5
    have hn5' : n5 = p + 4 := by omega
    have h51 : 4 ≤ n5 := by omega
    have h52 : n5 ≤ 44 := by omega
    have HSS := Lib.hid (show S.length = n5 by omega)
    have HO := Lib.hid hs
    have hgg : ∀ j, (Value.slice a5 n5 c5).ownBlock = some j → w.heap.size ≤ j := fun j hj => (hgs j hj).1
    have HGG := Lib.hid hgg
    clear hSl hn5 hn5' hgs hs hgg
    go_upto_region 3 with fail
    go_cut [26, 27, 28] (fun v0 v1 v2 wx => ∃ r : Nat, r ≤ M ∧ r ≤ 4 ∧ v0 = .slice al r cl ∧ v1 = .int .i64 (r : Int) ∧ v2 = .int .i64 0 ∧ w1 = wx)
    case first =>
      by_cases c1 : M ≤ 4
      · go_wp2_with fail
        go_meet
        exact ⟨M, Nat.le_refl _, c1, rfl, rfl, rfl, rfl⟩
      · go_wp2_with fail
        go_meet
        exact ⟨4, by omega, Nat.le_refl _, rfl, rfl, rfl, rfl⟩
    case rest =>
      obtain ⟨r, hr1, hr2, rfl, rfl, rfl, rfl⟩ := hcut
      go_wp2_with fail
      go_loopw [28] (fun vi wr => ∃ (j : Nat) (F : List Nat), j ≤ r ∧ vi = .int .i64 (j : Int) ∧ Bytes F ∧ F.length = n5 ∧ Owns .u8 5 wr w.heap.size (.slice a5 n5 c5) F ∧ Below w.heap.size w wr) (fun vi _ => r - (intOf vi).toNat)
      case atStart => exact ⟨0, S, Nat.zero_le _, rfl, hSb, HSS.out, HO.out, hb1⟩
      case round =>
        obtain ⟨j, F, hj, rfl, hFb, hFl, hor, hBr⟩ := hrel
        have HFL := Lib.hid hFl
        clear hFl
        by_cases hlt : j < r
        · obtain ⟨ya, cy, ee, _, _, hcell⟩ := (reads_pre HVL.out hr1).keep hBr (Nat.le_refl _)
          have hlen : (ls.take r).length = r := by have := HM.out; simp; omega
          rw [hlen] at ee
          cases ee
          obtain ⟨yb, yo, rfl, hc⟩ := hcell.resolve_left (by omega)
          have ck := hc j (by omega)
          have hk1 : (ls.take r)[j]?.getD 0 < 65536 := by
            have h2 : j < (ls.take r).length := by omega
            rw [List.getElem?_eq_getElem h2]
            exact HLS.out _ (List.mem_of_mem_take (List.getElem_mem h2))
          obtain ⟨k, HK⟩ := nm ((ls.take r)[j]?.getD 0)
          rw [HK.out] at ck hk1
          clear hc hcell hlen
          have ek : (k : Int) % (8 * (n5 : Int)) = ((k % (8 * n5) : Nat) : Int) := by simp
          have hkm : k % (8 * n5) < 8 * n5 := Nat.mod_lt _ (by omega)
          obtain ⟨z, HZ⟩ := nm (k % (8 * n5))
          rw [HZ.out] at ek hkm
          have hz8 : z / 8 < n5 := by omega
          obtain ⟨g, rfl, hg1, hg2, hm, hm2, hm3, hcell, hfr, hset⟩ := hor.at hz8
          have hx1 := hFb.get (z / 8)
          obtain ⟨x, HXX⟩ := nm (F[z / 8]?.getD 0)
          rw [HXX.out] at hcell hx1
          have hp : ∀ i : Nat, i < 8 → (2 : Int) ^ i % 256 = ((2 ^ i : Nat) : Int) := by decide
          have hpk := hp (k % 8) (by omega)
          have hxl : x ^^^ 2 ^ (k % 8) < 256 := Nat.xor_lt_two_pow (n := 8) hx1 (Gf.pow_lt8 (by omega))
          have hxx := u8_xor_nat x (2 ^ (k % 8)) hx1 (Gf.pow_lt8 (by omega))
          rw [← hpk] at hxx
          obtain ⟨q, HQ⟩ := nm (x ^^^ 2 ^ (k % 8))
          rw [HQ.out] at hxx hxl
          have hset2 := hset (q : Int) (by omega)
          rw [Int.toNat_natCast] at hset2
          have HSET := Lib.hid hset2
          have hz0 : (0 : Int) ≤ (z : Int) := by omega
          have hzl : (z : Int) / 8 < (n5 : Int) := by omega
          have hzt : ((z : Int) / 8).toNat = z / 8 := by omega
          have hzd : (z : Int).tdiv 8 = (z : Int) / 8 := Int.tdiv_eq_ediv_of_nonneg (by omega)
          have hwg : w.heap.size ≤ g := hg1
          clear hset hset2 hm hor hp hpk
          go_wp2_with fail
          go_roundw
          case rel => exact ⟨j + 1, _, by omega, by go_num, bytes_set hFb _ q hxl, by rw [List.length_set]; exact HFL.out, HSET.out, hBr.setCell (p := ⟨g, z / 8, none⟩) hwg _⟩
          case measure => simp [intOf]; omega
        · obtain rfl : j = r := by omega
          have hsz := hBr.size
          have hBa := bel_alloc wr (.cells #[.slice a p cap, .slice a5 n5 c5] 25)
          have hBw := hBr.trans (hBa.mono hsz)
          have rX := HRX.out.keep hBw (Nat.le_refl _)
          have rF := hor.reads.keep hBa (Nat.le_refl _)
          have c0 := cell_two wr 25 (.slice a p cap) (.slice a5 n5 c5)
          have RX := Lib.hid rX
          have RF := Lib.hid rF
          have C2 := Lib.hid c0
          have HWA := Lib.hid hBw
          obtain ⟨wo, rfl⟩ : ∃ wo : World, wo = wr := ⟨_, rfl⟩
          clear rX rF c0 hor hBr hBw hBa
          go_wp2_with fail
          go_loopw [52] (fun vi wq => ∃ (i : Nat), i ≤ 2 ∧ vi = .int .i64 (i : Int) ∧ Below (wo.heap.size + 1) (wo.alloc (.cells #[.slice a p cap, .slice a5 n5 c5] 25)) wq) (fun vi _ => 2 - (intOf vi).toNat)
          case atStart => exact ⟨0, by omega, rfl, Below.refl _ _⟩
          case round =>
            obtain ⟨i, hi, rfl, hBq⟩ := hrel
            have hBw := HWA.out.trans (hBq.mono (by omega))
            by_cases hlt2 : i < 2
            · obtain ⟨ax, nx, cx, Y, hcc, hYb, hYl, hYn, hrY⟩ : ∃ (ax : Option Addr) (nx cx : Nat) (Y : List Nat), wr.cell? ⟨wo.heap.size, i, none⟩ = some (.slice ax nx cx) ∧ Bytes Y ∧ Y.length = nx ∧ nx ≤ 44 ∧ Reads .u8 wr (.slice ax nx cx) Y := by
                match i, hlt2 with
                | 0, _ => exact ⟨a, p, cap, X, cell_keep hBq C2.out.1 (by omega), hX, HXL.out, by omega, RX.out.keep hBq (by simp)⟩
                | 1, _ => exact ⟨a5, n5, c5, F, cell_keep hBq C2.out.2 (by omega), hFb, HFL.out, h52, RF.out.keep hBq (by simp)⟩
              have HYL := Lib.hid hYl
              have HRY := Lib.hid hrY
              have hsq := hBq.size
              rw [World.size_alloc] at hsq
              clear hYl hrY
              have hT1 := HT.out.keep hBw (Nat.le_refl _)
              go_wp2_with (at_builtin; refine wpl_app rfl (.tmp 56) (.tmp 57) 25 rfl .u8 5 1 Tryd.underlying25 info_u8 (by decide) wr.heap.size _ [] _ (owns_empty .u8 5 wr wr.heap.size (Nat.le_refl _)) rfl _ Y rfl ?_ ?_ ?_ ?_; (exact HRY.out.keep (bel_alloc wr _) (Nat.le_refl _)); (rw [HYL.out]; simp; omega); (simp); intro vo w4 ho hb4)
              rw [List.nil_append] at ho
              have hb14 := (bel_alloc wr (.cells #[] 5)).trans hb4
              have HO4 := Lib.hid ho.reads
              have hT4 := hT1.keep hb14 (Nat.le_refl _)
              have hrY4 := HRY.out.keep hb14 (Nat.le_refl _)
              have HR4 := Lib.hid hrY4
              have hs14 := hb14.size
              clear ho hb4 hrY4
              go_wp2_with fail
              refine (find_all _ Y _ HO4.out hYb hT4).mono ?_
              rintro e w5 ⟨rfl, hb5⟩
              have hb15 := hb14.trans (hb5.mono hb14.size)
              have HO5 := Lib.hid (HO4.out.keep hb5 (Nat.le_refl _))
              have HR5 := Lib.hid (HR4.out.keep hb5 (Nat.le_refl _))
              obtain ⟨fk, HFK⟩ := nm (findK Y)
              obtain ⟨fe, HFE⟩ := nm (findE Y)
              rw [HFK.out, HFE.out]
              clear hb5 hb14 HO4 HR4
              go_wp2_with fail
              refine (rfind_all _ Y _ HR5.out hYb).mono ?_
              rintro e w6 ⟨rfl, hb6⟩
              rw [HFK.out, HFE.out]
              have hb16 := hb15.trans (hb6.mono hb15.size)
              have k1 := conv_str _ Y w6 (HO5.out.keep hb6 (Nat.le_refl _)) hYb
              have k2 := conv_str _ Y w6 (HR5.out.keep hb6 (Nat.le_refl _)) hYb
              obtain ⟨sY, HSY⟩ := nm (strOf Y)
              rw [HSY.out] at k1 k2
              clear hb6 hb15 HO5 HR5
              go_wp2_with fail
              go_roundw
              case rel => exact ⟨i + 1, by omega, by go_num, hBq.trans (hb16.mono hsq)⟩
              case measure => simp [intOf]; omega
            · obtain rfl : i = 2 := by omega
              go_wp2_with fail
              refine (awake_any _ (HT.out.keep hBw (Nat.le_refl _))).mono ?_
              rintro e w8 ⟨rfl, hb8⟩
              go_wp2_with fail
              go_ret
              exact ⟨rfl, hBw.trans (hb8.mono hBw.size)⟩
end Go.Proofs.YtomddpplhllgcaaDoor
