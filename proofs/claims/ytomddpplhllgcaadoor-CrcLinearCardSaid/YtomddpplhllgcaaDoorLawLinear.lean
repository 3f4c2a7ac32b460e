/- The walk of the law CrcLinear. -/
import Derived.Test.YtomddpplhllgcaaDoorAwake
import Derived.Test.YtomddpplhllgcaaDoorOwnB
import Derived.WalkLawsBesides
import Derived.RegionTactic
import Derived.ChangeAlike
import Derived.Deep.DeepCutAuto
import Derived.Deep.RegionLaw
namespace Go.Proofs.YtomddpplhllgcaaDoor
open Go Go.RowKit Go.Shelf

set_option maxRecDepth 100000 in
set_option maxHeartbeats 2000000 in
/-- The linear part is linear. -/
theorem crcLinear_all (va : Value) (xa : List Nat) (w : World) (hra : Reads .u8 w va xa) (hxa : Bytes xa) (vb : Value) (xb : List Nat) (hrb : Reads .u8 w vb xb) (hxb : Bytes xb) (z : Nat) (hz : z < 65536) (hT : Tab w) :
    Calls Tryd.prog 4 #[va, vb, .int .u16 z] w fun e w' => e = .returned (.bool true) ∧ Below w.heap.size w w' := by
  have hla := hra.len
  have hlb := hrb.len
  have hra0 := hra
  have hrb0 := hrb
  obtain ⟨aa, ca, rfl, hlca, hcma, hcsa⟩ := hra
  obtain ⟨ab, cb, rfl, hlcb, hcmb, hcsb⟩ := hrb
  obtain ⟨la, HLA⟩ := nm xa.length
  obtain ⟨lb, HLB⟩ := nm xb.length
  rw [HLA.out] at hla hlca hcsa hra0 ⊢
  rw [HLB.out] at hlb hlcb hcsb hrb0 ⊢
  have HCA := Lib.hid hcsa
  have HCB := Lib.hid hcsb
  clear hcsa hcsb
  go_enter Tryd.func4, Tryd.ntmps4
  go_upto_region 1 with fail
  go_cut [7] (fun v wx => ∃ n : Nat, v = .int .i64 (n : Int) ∧ n ≤ la ∧ n ≤ lb ∧ n ≤ 300 ∧ w = wx)
  case first =>
    by_cases c1 : lb < la
    · by_cases c2 : lb ≤ 300
      · go_wp2
        go_meet
        exact ⟨lb, rfl, by omega, by omega, by omega, rfl⟩
      · go_wp2
        go_meet
        exact ⟨300, rfl, by omega, by omega, by omega, rfl⟩
    · by_cases c2 : la ≤ 300
      · go_wp2
        go_meet
        exact ⟨la, rfl, by omega, by omega, by omega, rfl⟩
      · go_wp2
        go_meet
        exact ⟨300, rfl, by omega, by omega, by omega, rfl⟩
  case rest =>
    obtain ⟨n, rfl, hn1, hn2, hn3, rfl⟩ := hcut
    go_wp2_with (refine wpl_makeE rfl (.tmp 18) (.tmp 18) 25 rfl .u8 5 1 Tryd.underlying25 info_u8 (by decide) w.heap.size w n _ _ rfl rfl rfl rfl ?_ (Nat.le_refl _) ?_; (omega); intro w1 hown hB1)
    rw [← mixed_zero (fun i => xa[i]?.getD 0 ^^^ xb[i]?.getD 0)] at hown
    go_loopw [22] (fun vk wr => ∃ k : Nat, k ≤ n ∧ vk = .int .i64 (k : Int) ∧ Owns .u8 5 wr w.heap.size (.slice (some ⟨w.heap.size, 0, none⟩) n n) (mixed (fun i => xa[i]?.getD 0 ^^^ xb[i]?.getD 0) n k) ∧ Below w.heap.size w wr)
      (fun vk _ => n - (intOf vk).toNat)
    case atStart => exact ⟨0, Nat.zero_le _, rfl, hown, hB1⟩
    case round =>
      obtain ⟨k, hk, rfl, hownr, hBr⟩ := hrel
      by_cases hlt : k < n
      · obtain ⟨b1, o1, rfl, hc1⟩ := HCA.out.resolve_left (fun h => by omega)
        obtain ⟨b2, o2, rfl, hc2⟩ := HCB.out.resolve_left (fun h => by omega)
        have c1 := cell_keep hBr (hc1 k (by omega)) (cell_lt (hc1 k (by omega)))
        have c2 := cell_keep hBr (hc2 k (by omega)) (cell_lt (hc2 k (by omega)))
        have x1 := hxa.get k
        have x2 := hxb.get k
        have hxx := u8_xor_nat _ _ x1 x2
        have hset := fun c hc => hownr.set (by rw [mixed_length]) k (xa[k]?.getD 0 ^^^ xb[k]?.getD 0) c hc (by rw [mixed_length]; omega)
        rw [mixed_set (fun i => xa[i]?.getD 0 ^^^ xb[i]?.getD 0)] at hset
        have hcg := hownr.cellAt (by rw [mixed_length]) k hlt
        have hfg := hownr.frozenAt (by rw [mixed_length]) k
        obtain ⟨y1, Y1⟩ := nm (xa[k]?.getD 0)
        obtain ⟨y2, Y2⟩ := nm (xb[k]?.getD 0)
        obtain ⟨y, Y⟩ := nm (xa[k]?.getD 0 ^^^ xb[k]?.getD 0)
        obtain ⟨z0, Z0⟩ := nm ((mixed (fun i => xa[i]?.getD 0 ^^^ xb[i]?.getD 0) n k)[k]?.getD 0)
        rw [Y.out] at hxx hset
        rw [Y1.out] at c1 x1 hxx
        rw [Y2.out] at c2 x2 hxx
        rw [Z0.out] at hcg
        have HS := Lib.hid hset
        have HO := Lib.hid hownr
        clear hset hownr hc1 hc2 hown
        go_wp2
        go_region
        go_wp2
        go_roundw
        case rel => exact ⟨k + 1, by omega, by go_num, World.ownsRow.drew (HS.out _ rfl), (hBr.setCell (by exact Nat.le_refl _) _).drew⟩
        case measure => simp [intOf]; omega
      · obtain rfl : k = n := by omega
        rw [mixed_all] at hownr
        have hxe : (List.range k).map (fun i => xa[i]?.getD 0 ^^^ xb[i]?.getD 0) = List.zipWith (· ^^^ ·) (xa.take k) (xb.take k) := by
          apply List.ext_getElem
          · have := HLA.out; have := HLB.out; simp; omega
          · intro i h1 h2
            have hi : i < k := by simpa using h1
            have h3 : i < xa.length := by have := HLA.out; omega
            have h4 : i < xb.length := by have := HLB.out; omega
            simp [h3, h4]
        have hxb' : Bytes (List.zipWith (· ^^^ ·) (xa.take k) (xb.take k)) := by
          rw [← hxe]
          intro y hy
          obtain ⟨i, _, rfl⟩ := List.mem_map.1 hy
          exact Nat.xor_lt_two_pow (n := 8) (hxa.get i) (hxb.get i)
        have hlin := Gf.run_xor (xa.take k) (xb.take k) 0 0 (by have := HLA.out; have := HLB.out; simp; omega)
        have hlin2 := Gf.run_xor (xa.take k) (xb.take k) (Gf.inv 0) (Gf.inv 0) (by have := HLA.out; have := HLB.out; simp; omega)
        rw [Nat.xor_self] at hlin hlin2
        rw [hxe] at hownr
        obtain ⟨X, HX⟩ := nm (List.zipWith (· ^^^ ·) (xa.take k) (xb.take k))
        rw [HX.out] at hownr hxb' hlin hlin2
        have hlX : X.length = k := by have := HLA.out; have := HLB.out; rw [← HX.out]; simp; omega
        have hTr := hT.keep hBr (Nat.le_refl _)
        have ra := (reads_pre hra0 hn1).keep hBr (Nat.le_refl _)
        have rb := (reads_pre hrb0 hn2).keep hBr (Nat.le_refl _)
        have rx := hownr.reads
        have bA := hxa.take k
        have bB := hxb.take k
        obtain ⟨A, HA⟩ := nm (xa.take k)
        obtain ⟨B, HB⟩ := nm (xb.take k)
        rw [HA.out] at ra bA hlin hlin2
        rw [HB.out] at rb bB hlin hlin2
        have dB : ∀ m, Below wr.heap.size wr (wr.drewN m) := fun m => below_drewN (Below.refl _ _) m
        have qx : ∀ m, Calls Tryd.prog 17 #[.slice (some ⟨w.heap.size, 0, none⟩) k k] (wr.drewN m) fun e w' => e = .returned (.int .u32 ((Gf.run 0 X : Nat) : Int)) ∧ w' = wr.drewN m := fun m =>
          (linear_any _ X hxb' _ (hTr.keep (dB m) (Nat.le_refl _)) (rx.keep (dB m) (Nat.le_refl _))).mono fun _ _ h => ⟨h.1, h.2.symm⟩
        have qa : ∀ m, Calls Tryd.prog 17 #[.slice aa k ca] (wr.drewN m) fun e w' => e = .returned (.int .u32 ((Gf.run 0 A : Nat) : Int)) ∧ w' = wr.drewN m := fun m =>
          (linear_any _ A bA _ (hTr.keep (dB m) (Nat.le_refl _)) (ra.keep (dB m) (Nat.le_refl _))).mono fun _ _ h => ⟨h.1, h.2.symm⟩
        have qb : ∀ m, Calls Tryd.prog 17 #[.slice ab k cb] (wr.drewN m) fun e w' => e = .returned (.int .u32 ((Gf.run 0 B : Nat) : Int)) ∧ w' = wr.drewN m := fun m =>
          (linear_any _ B bB _ (hTr.keep (dB m) (Nat.le_refl _)) (rb.keep (dB m) (Nat.le_refl _))).mono fun _ _ h => ⟨h.1, h.2.symm⟩
        have sa : ∀ m, Calls Tryd.prog 18 #[.slice aa k ca] (wr.drewN m) fun e w' => e = .returned (.int .u32 ((Gf.sum A : Nat) : Int)) ∧ w' = wr.drewN m := fun m =>
          (sum_any _ A bA _ (hTr.keep (dB m) (Nat.le_refl _)) (ra.keep (dB m) (Nat.le_refl _))).mono fun _ _ h => ⟨h.1, h.2.symm⟩
        have sb : ∀ m, Calls Tryd.prog 18 #[.slice ab k cb] (wr.drewN m) fun e w' => e = .returned (.int .u32 ((Gf.sum B : Nat) : Int)) ∧ w' = wr.drewN m := fun m =>
          (sum_any _ B bB _ (hTr.keep (dB m) (Nat.le_refl _)) (rb.keep (dB m) (Nat.le_refl _))).mono fun _ _ h => ⟨h.1, h.2.symm⟩
        have lA : Gf.run 0 A < 4294967296 := Gf.run_lt (by decide) bA
        have lB : Gf.run 0 B < 4294967296 := Gf.run_lt (by decide) bB
        have lX : Gf.run 0 X < 4294967296 := Gf.run_lt (by decide) hxb'
        have iA : Gf.run (Gf.inv 0) A < 4294967296 := Gf.run_lt (Gf.inv_lt _) bA
        have iB : Gf.run (Gf.inv 0) B < 4294967296 := Gf.run_lt (Gf.inv_lt _) bB
        have sl1 := Gf.update_lt 0 A
        have sl2 := Gf.update_lt 0 B
        have e1 := u32_xor_nat _ _ lA lB
        rw [← hlin] at e1
        have e2 := u32_xor_nat _ _ (show Gf.sum A < 4294967296 from sl1) (show Gf.sum B < 4294967296 from sl2)
        have hsx : Gf.sum A ^^^ Gf.sum B = Gf.run 0 X := by
          show Gf.inv _ ^^^ Gf.inv _ = _
          rw [Gf.inv_eq iA, Gf.inv_eq iB, Gf.xor_xor_comm, Nat.xor_self, Nat.xor_zero]
          exact hlin2.symm
        rw [hsx] at e2
        obtain ⟨rA, RA⟩ := nm (Gf.run 0 A)
        obtain ⟨rB, RB⟩ := nm (Gf.run 0 B)
        obtain ⟨rX, RX⟩ := nm (Gf.run 0 X)
        obtain ⟨tA, TA⟩ := nm (Gf.sum A)
        obtain ⟨tB, TB⟩ := nm (Gf.sum B)
        rw [RA.out, RB.out, RX.out] at e1
        rw [TA.out, TB.out, RX.out] at e2
        rw [RA.out] at qa lA
        rw [RB.out] at qb lB
        rw [RX.out] at qx lX
        rw [TA.out] at sa
        rw [TB.out] at sb
        have QX := Lib.hid qx
        have QA := Lib.hid qa
        have QB := Lib.hid qb
        have SA := Lib.hid sa
        have SB := Lib.hid sb
        have HO := Lib.hid hownr
        have HLX := Lib.hid hlX
        have hbz := Lib.hid hxb'
        clear qx qa qb sa sb hownr hlX hxb' dB hsx hlin hlin2 sl1 sl2 iA iB ra rb rx bA bB hxe hown
        have hk1 : (k : Int) ≤ (ca : Int) := by omega
        have hk2 : (k : Int) ≤ (cb : Int) := by omega
        go_wp2_with fail
        go_quiet ((first | (go_at_call 17; first | (with_reducible exact Calls.quiet_of_same (QX.out _)) | (with_reducible exact Calls.quiet_of_same (QA.out _)) | (with_reducible exact Calls.quiet_of_same (QB.out _))) | (go_at_call 18; first | (with_reducible exact Calls.quiet_of_same (SA.out _)) | (with_reducible exact Calls.quiet_of_same (SB.out _)))))
        have hB2 : Below wr.heap.size wr (wr.drewN nq) := below_drewN (Below.refl _ _) nq
        obtain ⟨w2, HW2⟩ := nm (wr.drewN nq)
        rw [HW2.out] at hB2 ⊢
        clear e1 e2 hk1 hk2
        have hB02 := hBr.trans (hB2.mono hBr.size)
        have hT2 := hTr.keep hB2 (Nat.le_refl _)
        have hO2 := HO.out.keep hB2 (Nat.le_refl _)
        go_wp2_with fail
        refine (linear_any _ X hbz.out _ hT2 hO2.reads).mono ?_
        rintro e w2' ⟨rfl, rfl⟩
        rw [RX.out]
        go_wp2_with fail
        refine (shift_any rX _ lX (by omega) (by omega) _).mono ?_
        rintro e w3 ⟨rfl, hb3⟩
        have hT3 := hT2.keep hb3 (Nat.le_refl _)
        have hO3 := hO2.keep hb3 (Nat.le_refl _)
        have hB03 := hB02.trans (hb3.mono hB02.size)
        clear hT2 hO2 hB02
        obtain ⟨j, hj⟩ : ∃ j : Nat, (z : Int) % 301 = (j : Int) := ⟨z % 301, by simp⟩
        have hj2 : j < 301 := by omega
        have HJ := Lib.hid hj
        have hsl := Gf.stepN_lt (8 * ((z : Int) % 301).toNat) lX
        rw [HJ.out, Int.toNat_natCast] at hsl ⊢
        clear hj
        obtain ⟨mv, HM⟩ := nm (Gf.stepN (8 * j) rX)
        rw [HM.out] at hsl ⊢
        have hsz3 := hB03.size
        have HO3 := Lib.hid hO3
        clear hO3
        go_wp2_with first | (refine wpl_unguard rfl ?_; refine wpl_makeE rfl (.tmp 77) (.tmp 77) 25 rfl .u8 5 1 Tryd.underlying25 info_u8 (by decide) w3.heap.size w3 j _ _ rfl rfl rfl rfl ?_ (Nat.le_refl _) ?_; (omega); intro w4 ho4 hb4; have HO4 := Lib.hid ho4; clear ho4) | (at_builtin; refine wpl_unguard rfl ?_; refine wpl_app rfl (.tmp 78) (.tmp 79) 25 rfl .u8 5 1 Tryd.underlying25 info_u8 (by decide) w3.heap.size _ (List.replicate j 0) w4 HO4.out rfl _ X rfl ?_ ?_ hb4.size ?_; (exact (HO3.out.keep hb4 (Nat.le_refl _)).reads); (rw [HLX.out]; simp; omega); intro v5 w5 ho5 hb5)
        have hb35 := hb4.trans hb5
        have hz0 : Bytes (List.replicate j 0) := fun x hx => by rw [(List.mem_replicate.1 hx).2]; decide
        have hB05 := hB03.trans (hb35.mono hB03.size)
        have hT5 := hT3.keep hb35 (Nat.le_refl _)
        refine (linear_any _ (List.replicate j 0 ++ X) (hz0.append hbz.out) _ hT5 ho5.reads).mono ?_
        rintro e w6 ⟨rfl, rfl⟩
        rw [Gf.run_zeros_left, RX.out]
        have hO5 := HO3.out.keep hb35 (Nat.le_refl _)
        clear ho5 hb4 HO4 hb5
        go_wp2_with fail
        refine (linear_any _ X hbz.out _ hT5 hO5.reads).mono ?_
        rintro e w6 ⟨rfl, rfl⟩
        rw [RX.out]
        go_wp2_with first | (at_builtin; refine wpl_unguard rfl ?_; refine wpl_app rfl (.tmp 87) (.tmp 88) 25 rfl .u8 5 1 Tryd.underlying25 info_u8 (by decide) w5.heap.size _ [] _ (owns_empty .u8 5 w5 w5.heap.size (Nat.le_refl _)) rfl _ X rfl ?_ ?_ ?_ ?_; (exact (hO5.keep (bel_alloc w5 _) (Nat.le_refl _)).reads); (rw [HLX.out]; simp; omega); (simp); intro v7 w7 ho7 hb7; have HO7 := Lib.hid ho7; clear ho7) | (at_builtin; refine wpl_unguard rfl ?_; refine wpl_appz rfl (.tmp 89) (.tmp 90) 25 3 rfl .u8 5 1 Tryd.underlying25 Tryd.underlying3 info_u8 (by decide) w5.heap.size _ ([] ++ X) w7 HO7.out rfl j _ rfl rfl ?_ ?_ ?_; (rw [List.nil_append, HLX.out]; omega); (have := hb7.size; simp at this; omega); intro v8 w8 ho8 hb8)
        have hb58 : Below w5.heap.size w5 w8 := ((bel_alloc w5 (.cells #[] 5)).trans hb7).trans hb8
        have hB08 := hB05.trans (hb58.mono hB05.size)
        have hT8 := hT5.keep hb58 (Nat.le_refl _)
        refine (linear_any _ ([] ++ X ++ List.replicate j 0) ((Bytes.append (a := []) (fun x hx => by cases hx) hbz.out).append hz0) _ hT8 ho8.reads).mono ?_
        rintro e w9 ⟨rfl, rfl⟩
        rw [List.nil_append, Gf.run_append, RX.out, Gf.run_zeros, HM.out]
        clear ho8 HO7 hb7 hb8
        go_wp2_with fail
        refine (awake_any _ hT8).mono ?_
        rintro e w9 ⟨rfl, hb9⟩
        go_wp2_with fail
        go_ret
        exact ⟨rfl, hB08.trans (hb9.mono hB08.size)⟩
end Go.Proofs.YtomddpplhllgcaaDoor
