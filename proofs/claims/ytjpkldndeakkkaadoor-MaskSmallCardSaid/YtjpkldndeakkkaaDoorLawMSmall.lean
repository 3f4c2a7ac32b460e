/- The walk of the law MaskSmall. -/
import Derived.Test.YtjpkldndeakkkaaDoorLawMLists
import Derived.Test.YtjpkldndeakkkaaDoorLawMReads
import Derived.Test.YtjpkldndeakkkaaDoorLawMTells
namespace Go.Proofs.YtjpkldndeakkkaaDoor
open Go Go.RowKit Go.Shelf

def sgC : Array Value := #[.string ⟨#[]⟩, .string ⟨#[48]⟩, .string ⟨#[49]⟩, .string ⟨#[54]⟩, .string ⟨#[45]⟩, .string ⟨#[44]⟩, .string ⟨#[51]⟩]
def sgN : Nat → ByteArray
  | 0 => ⟨#[]⟩
  | 1 => ⟨#[48]⟩
  | 2 => ⟨#[49]⟩
  | 3 => ⟨#[54]⟩
  | 4 => ⟨#[45]⟩
  | 5 => ⟨#[44]⟩
  | _ => ⟨#[51]⟩
theorem sgN_size : ∀ j, j < 7 → (sgN j).size ≤ 1 := by decide +kernel
def fsC : Array Value := #[.string ⟨#[48, 45, 51, 44, 53, 44, 54, 51]⟩, .string ⟨#[48, 45, 54, 51]⟩, .string ⟨#[57, 44, 49, 49, 45, 49, 50]⟩, .string ⟨#[54, 50, 45, 54, 51]⟩]
def fsN : Nat → ByteArray
  | 0 => ⟨#[48, 45, 51, 44, 53, 44, 54, 51]⟩
  | 1 => ⟨#[48, 45, 54, 51]⟩
  | 2 => ⟨#[57, 44, 49, 49, 45, 49, 50]⟩
  | _ => ⟨#[54, 50, 45, 54, 51]⟩
theorem fsN_size : ∀ j, j < 4 → (fsN j).size ≤ 8 := by decide +kernel
def csC : Array Value := #[.string ⟨#[48]⟩, .string ⟨#[57]⟩, .string ⟨#[45]⟩, .string ⟨#[44]⟩, .string ⟨#[32]⟩, .string ⟨#[43]⟩]
def csN : Nat → ByteArray
  | 0 => ⟨#[48]⟩
  | 1 => ⟨#[57]⟩
  | 2 => ⟨#[45]⟩
  | 3 => ⟨#[44]⟩
  | 4 => ⟨#[32]⟩
  | _ => ⟨#[43]⟩
theorem csN_size : ∀ j, j < 6 → (csN j).size ≤ 1 := by decide +kernel
theorem readsI_nil (W : World) : ReadsI .i64 W (.slice none 0 0) [] := ⟨none, 0, rfl, Nat.le_refl _, by decide, .inl rfl⟩
def fourN (a b c d : Nat) : Nat → Nat
  | 0 => a
  | 1 => b
  | 2 => c
  | _ => d

set_option maxRecDepth 100000 in
set_option maxHeartbeats 8000000 in
theorem maskSmall_all (w : World) (hE : EV w) :
    Calls Tryd.prog 9 #[] w fun e w' => e = .returned (.bool true) ∧ Below w.heap.size w w' := by
  have HTL := Lib.hid (fun (m : Nat) hm c hc n hn W => tells_any m hm c hc n hn W)
  have HRD := Lib.hid (fun sv W (hB : Below w.heap.size w W) => reads_any sv W (hE.keep hB (Nat.le_refl _)))
  have HTX := Lib.hid (fun (m : Nat) hm W => rtext_any m hm W)
  have HLS := Lib.hid (fun v l W h => lists_any v l W h)
  have HAW := Lib.hid (fun W (hB : Below w.heap.size w W) => awakeM_any W (hE.keep hB (Nat.le_refl _)))
  clear hE
  go_enter Tryd.func9, Tryd.ntmps9
  go_wp2_with fail
  go_loopw [14] (fun vk wr => ∃ k : Nat, k ≤ 256 ∧ vk = .int .u64 (k : Int) ∧ Below w.heap.size w wr) (fun vk _ => 256 - (intOf vk).toNat)
  case atStart => exact ⟨0, Nat.zero_le _, rfl, bel_refl _⟩
  case round =>
    obtain ⟨k, hk, rfl, hB1⟩ := hrel
    by_cases hlt : k < 256
    · have hk1 : (k : Int) < 256 := by omega
      obtain ⟨wo, rfl⟩ : ∃ wo : World, wo = wr := ⟨_, rfl⟩
      have hm1 : k * 72057594037927936 < 18446744073709551616 := by omega
      have e1 : (k : Int) * 72057594037927936 = ((k * 72057594037927936 : Nat) : Int) := by omega
      have e2 := u64_or_nat (k * 72057594037927936) k hm1 (by omega)
      have e3 := u64_not (m := k) (by omega)
      have hm2 : (k * 72057594037927936 ||| k) < 18446744073709551616 := Nat.or_lt_two_pow (n := 64) hm1 (by omega)
      have hm3 : 18446744073709551615 - k < 18446744073709551616 := by omega
      obtain ⟨m1, HM1⟩ := nm (k * 72057594037927936)
      rw [HM1.out] at hm1 e1 e2 hm2
      obtain ⟨m2, HM2⟩ := nm (m1 ||| k)
      rw [HM2.out] at e2 hm2
      obtain ⟨m3, HM3⟩ := nm (18446744073709551615 - k)
      rw [HM3.out] at e3 hm3
      have hr1 : (k : Int).tmod 3 = ((k % 3 : Nat) : Int) := by rw [Int.tmod_eq_emod_of_nonneg (by omega)]; omega
      have hr2 : (k : Int) % 3 = ((k % 3 : Nat) : Int) := by omega
      have hr3 : k % 3 < 3 := Nat.mod_lt _ (by decide)
      obtain ⟨r, HR⟩ := nm (k % 3)
      rw [HR.out] at hr1 hr2 hr3
      have HMM := Lib.hid (show ∀ j, j < 4 → fourN k m1 m2 m3 j < 18446744073709551616 from fun j hj => by
        match j, hj with
        | 0, _ => exact Nat.lt_trans hlt (by decide)
        | 1, _ => exact hm1
        | 2, _ => exact hm2
        | 3, _ => exact hm3)
      have HCELL := Lib.hid (show ∀ j, j < 4 → (wo.alloc (.cells #[.int .u64 (k : Int), .int .u64 (m1 : Int), .int .u64 (m2 : Int), .int .u64 (m3 : Int)] 26)).cell? ⟨wo.heap.size, j, none⟩ = some (.int .u64 ((fourN k m1 m2 m3 j : Nat) : Int)) from fun j hj => by
        refine cell_four (World.alloc_heap_new wo _) j ?_
        match j, hj with
        | 0, _ => rfl
        | 1, _ => rfl
        | 2, _ => rfl
        | 3, _ => rfl)
      have HBA := Lib.hid (hB1.alloc hB1.size (.cells #[.int .u64 (k : Int), .int .u64 (m1 : Int), .int .u64 (m2 : Int), .int .u64 (m3 : Int)] 26))
      clear hm1 hm2 hm3 hB1
      go_wp2_with fail
      obtain ⟨wp, HWP⟩ := nm (wo.alloc (.cells #[.int .u64 (k : Int), .int .u64 (m1 : Int), .int .u64 (m2 : Int), .int .u64 (m3 : Int)] 26))
      obtain ⟨g, HG⟩ := nm wo.heap.size
      rw [HWP.out] at HCELL HBA ⊢
      rw [HG.out] at HCELL ⊢
      clear e1 e2 e3
      go_loopw [28] (fun vj wr => ∃ j : Nat, j ≤ 4 ∧ vj = .int .i64 (j : Int) ∧ Below wp.heap.size wp wr) (fun vj _ => 4 - (intOf vj).toNat)
      case atStart => exact ⟨0, Nat.zero_le _, rfl, bel_refl _⟩
      case round =>
        obtain ⟨j, hj, rfl, hB2⟩ := hrel
        by_cases hlt2 : j < 4
        · have hj1 : (j : Int) < 4 := by omega
          have ck := cell_keep hB2 (HCELL.out j hlt2) (cell_lt (HCELL.out j hlt2))
          have HM := Lib.hid (HMM.out j hlt2)
          obtain ⟨m, HMN⟩ := nm (fourN k m1 m2 m3 j)
          rw [HMN.out] at ck HM
          have HB2 := Lib.hid (HBA.out.trans (hB2.mono HBA.out.size))
          have HBP := Lib.hid hB2
          obtain ⟨wq, rfl⟩ : ∃ wq : World, wq = wr := ⟨_, rfl⟩
          clear hB2
          go_wp2_with fail
          go_loopw [4] (fun vc wr => ∃ t : Nat, t ≤ 23 ∧ vc = .int .i64 (3 * (t : Int) - 2) ∧ Below wq.heap.size wq wr) (fun vc _ => (67 - intOf vc).toNat)
          case atStart => exact ⟨0, Nat.zero_le _, rfl, bel_refl _⟩
          case round =>
            obtain ⟨t, ht, rfl, hB3⟩ := hrel
            have HCV := Lib.hid (show 3 * ((t + 1 : Nat) : Int) - 2 = 3 * (t : Int) - 2 + 3 from by omega)
            have hcb : -2 ≤ 3 * (t : Int) - 2 ∧ 3 * (t : Int) - 2 ≤ 67 := by omega
            have HT67 := Lib.hid (show 3 * (t : Int) - 2 < 67 ↔ t < 23 from by omega)
            obtain ⟨C, HC⟩ := nm (3 * (t : Int) - 2)
            rw [HC.out] at hcb HCV HT67 ⊢
            by_cases hlt3 : t < 23
            · have hd : decide (C < 67) = true := decide_eq_true (HT67.out.2 hlt3)
              have hwa : IntKind.i64.wrap (C + (r : Int)) = C + (r : Int) := IntWalk.i64_in _ (by omega)
              have hwb : IntKind.i64.wrap (C + 3) = C + 3 := IntWalk.i64_in _ (by omega)
              have HB3 := Lib.hid hB3
              clear hB3
              go_wp2_with fail
              refine (HTL.out m HM.out (C + (r : Int)) (by omega) C (by omega) _).mono ?_
              rintro e w5 ⟨rfl, hb⟩
              replace HB3 := Lib.hid (HB3.out.trans (hb.mono HB3.out.size))
              clear hb
              go_wp2_with fail
              refine (HTX.out m HM.out _).mono ?_
              rintro e w6 ⟨rfl, hb⟩
              replace HB3 := Lib.hid (HB3.out.trans (hb.mono HB3.out.size))
              clear hb
              go_wp2_with fail
              refine (HRD.out _ _ (HB2.out.trans (HB3.out.mono HB2.out.size))).mono ?_
              rintro e w7 ⟨rfl, hb⟩
              replace HB3 := Lib.hid (HB3.out.trans (hb.mono HB3.out.size))
              clear hb
              go_wp2_with fail
              go_roundw
              case rel => exact ⟨t + 1, by omega, by rw [HCV.out], HB3.out⟩
              case measure => have := HT67.out.2 hlt3; simp [intOf]; omega
            · have hd : decide (C < 67) = false := decide_eq_false (fun q => hlt3 (HT67.out.1 q))
              have HB3 := Lib.hid (HBP.out.trans (hB3.mono HBP.out.size))
              clear hB3
              go_wp2_with fail
              go_roundw
              case rel => exact ⟨j + 1, by omega, by go_num, HB3.out⟩
              case measure => simp [intOf]; omega
        · obtain rfl : j = 4 := by omega
          have HB2 := Lib.hid (HBA.out.trans (hB2.mono HBA.out.size))
          rw [show ((4 : Nat) : Int) = 4 from rfl]
          clear hB2
          go_wp2_with fail
          go_roundw
          case rel => exact ⟨k + 1, by omega, by go_num, HB2.out⟩
          case measure => simp [intOf]; omega
    · obtain rfl : k = 256 := by omega
      rw [show ((256 : Nat) : Int) = 256 from rfl]
      have HBA := Lib.hid hB1
      obtain ⟨wa, rfl⟩ : ∃ wa : World, wa = wr := ⟨_, rfl⟩
      clear hB1
      go_wp2_with fail
      go_loopw [53] (fun vk wr => ∃ k : Nat, k ≤ 64 ∧ vk = .int .i64 (k : Int) ∧ Below w.heap.size w wr) (fun vk _ => 64 - (intOf vk).toNat)
      case atStart => exact ⟨0, Nat.zero_le _, rfl, HBA.out⟩
      case round =>
        obtain ⟨k, hk, rfl, hB1⟩ := hrel
        by_cases hlt : k < 64
        · have hk1 : (k : Int) < 64 := by omega
          have hw := wrap_shl_one hlt
          have hl1 := one_shl_lt hlt
          obtain ⟨q, HQ⟩ := nm (1 <<< k : Nat)
          rw [HQ.out] at hw hl1
          have hno := u64_not hl1
          have hl2 : 18446744073709551615 - q < 18446744073709551616 := by omega
          obtain ⟨q2, HQ2⟩ := nm (18446744073709551615 - q)
          rw [HQ2.out] at hno hl2
          have HL1 := Lib.hid hl1
          have HL2 := Lib.hid hl2
          have HB1 := Lib.hid hB1
          obtain ⟨wb, rfl⟩ : ∃ wb : World, wb = wr := ⟨_, rfl⟩
          clear hB1 hl2 hl1
          go_wp2_with fail
          go_loopw [6] (fun vn wr => ∃ t : Nat, t ≤ 67 ∧ vn = .int .i64 ((t : Int) - 1) ∧ Below w.heap.size w wr) (fun vn _ => (66 - intOf vn).toNat)
          case atStart => exact ⟨0, Nat.zero_le _, rfl, HB1.out⟩
          case round =>
            obtain ⟨t, ht, rfl, hB2⟩ := hrel
            have HCV := Lib.hid (show ((t + 1 : Nat) : Int) - 1 = (t : Int) - 1 + 1 from by omega)
            have hcb : -1 ≤ (t : Int) - 1 ∧ (t : Int) - 1 ≤ 66 := by omega
            have HT67 := Lib.hid (show (t : Int) - 1 < 66 ↔ t < 67 from by omega)
            obtain ⟨C, HC⟩ := nm ((t : Int) - 1)
            rw [HC.out] at hcb HCV HT67 ⊢
            have HB2 := Lib.hid hB2
            clear hB2
            by_cases hlt3 : t < 67
            · have hd : decide (C < 66) = true := decide_eq_true (HT67.out.2 hlt3)
              have hwb : IntKind.i64.wrap (C + 1) = C + 1 := IntWalk.i64_in _ (by omega)
              go_wp2_with fail
              refine (HTL.out q HL1.out C (by omega) C (by omega) _).mono ?_
              rintro e w5 ⟨rfl, hb⟩
              replace HB2 := Lib.hid (HB2.out.trans (hb.mono HB2.out.size))
              clear hb
              go_wp2_with fail
              refine (HTL.out q2 HL2.out C (by omega) C (by omega) _).mono ?_
              rintro e w6 ⟨rfl, hb⟩
              replace HB2 := Lib.hid (HB2.out.trans (hb.mono HB2.out.size))
              clear hb
              have hli := reads_litI .i64 w6 [(k : Int), C, 5] 3 #[.int .i64 (k : Int), .int .i64 C, .int .i64 5] 3 rfl rfl (by decide)
              have HLI := Lib.hid (HLS.out _ _ _ hli)
              have HBL := Lib.hid (HB2.out.alloc HB2.out.size (.cells #[.int .i64 (k : Int), .int .i64 C, .int .i64 5] 3))
              clear hli
              go_wp2_with fail
              refine (HLI.out).mono ?_
              rintro e w7 ⟨rfl, hb⟩
              replace HB2 := Lib.hid (HBL.out.trans (hb.mono HBL.out.size))
              clear hb
              go_wp2_with fail
              go_roundw
              case rel => exact ⟨t + 1, by omega, by rw [HCV.out], HB2.out⟩
              case measure => have := HT67.out.2 hlt3; simp [intOf]; omega
            · have hd : decide (C < 66) = false := decide_eq_false (fun q => hlt3 (HT67.out.1 q))
              go_wp2_with fail
              go_roundw
              case rel => exact ⟨k + 1, by omega, by go_num, HB2.out⟩
              case measure => simp [intOf]; omega
        · obtain rfl : k = 64 := by omega
          rw [show ((64 : Nat) : Int) = 64 from rfl]
          have HB1 := Lib.hid hB1
          obtain ⟨wb, rfl⟩ : ∃ wb : World, wb = wr := ⟨_, rfl⟩
          clear hB1 HBA
          have HCS := Lib.hid (show ∀ j, j < 7 → (wb.alloc (.cells sgC 9)).cell? ⟨wb.heap.size, j, none⟩ = some (.string (sgN j)) from fun j hj => by
            refine cell_four (World.alloc_heap_new wb _) j ?_
            match j, hj with
            | 0, _ => rfl
            | 1, _ => rfl
            | 2, _ => rfl
            | 3, _ => rfl
            | 4, _ => rfl
            | 5, _ => rfl
            | 6, _ => rfl)
          have HBS := Lib.hid (HB1.out.alloc HB1.out.size (.cells sgC 9))
          have HWS := Lib.hid (show wb.alloc (.cells sgC 9) = wb.alloc (.cells #[.string ⟨#[]⟩, .string ⟨#[48]⟩, .string ⟨#[49]⟩, .string ⟨#[54]⟩, .string ⟨#[45]⟩, .string ⟨#[44]⟩, .string ⟨#[51]⟩] 9) from rfl)
          go_wp2_with fail
          rw [← HWS.out]
          obtain ⟨wc, HWC⟩ := nm (wb.alloc (.cells sgC 9))
          obtain ⟨gs, HGS⟩ := nm wb.heap.size
          rw [HWC.out] at HCS HBS ⊢
          rw [HGS.out] at HCS ⊢
          go_loopw [84] (fun vn wr => ∃ n : Nat, n ≤ 2401 ∧ vn = .int .i64 (n : Int) ∧ Below wc.heap.size wc wr) (fun vn _ => 2401 - (intOf vn).toNat)
          case atStart => exact ⟨0, Nat.zero_le _, rfl, bel_refl _⟩
          case round =>
            obtain ⟨n, hn, rfl, hB3⟩ := hrel
            by_cases hn2 : n < 2401
            · have hn1 : (n : Int) < 2401 := by omega
              obtain ⟨wd, rfl⟩ : ∃ wd : World, wd = wr := ⟨_, rfl⟩
              have d1 : (n : Int).tmod 7 = ((n % 7 : Nat) : Int) := by rw [Int.tmod_eq_emod_of_nonneg (by omega)]; omega
              have d1' : (n : Int) % 7 = ((n % 7 : Nat) : Int) := by omega
              have d2 : (n : Int).tdiv 7 = ((n / 7 : Nat) : Int) := by rw [Int.tdiv_eq_ediv_of_nonneg (by omega)]; omega
              have d2' : (n : Int) / 7 = ((n / 7 : Nat) : Int) := by omega
              have d3 : (n : Int).tdiv 49 = ((n / 49 : Nat) : Int) := by rw [Int.tdiv_eq_ediv_of_nonneg (by omega)]; omega
              have d3' : (n : Int) / 49 = ((n / 49 : Nat) : Int) := by omega
              have d4 : (n : Int).tdiv 343 = ((n / 343 : Nat) : Int) := by rw [Int.tdiv_eq_ediv_of_nonneg (by omega)]; omega
              have d4' : (n : Int) / 343 = ((n / 343 : Nat) : Int) := by omega
              have b1 : n % 7 < 7 := Nat.mod_lt _ (by decide)
              have b2 : n / 7 % 7 < 7 := Nat.mod_lt _ (by decide)
              have b3 : n / 49 % 7 < 7 := Nat.mod_lt _ (by decide)
              have b4 : n / 343 < 7 := by omega
              obtain ⟨p1, HP1⟩ := nm (n % 7)
              obtain ⟨q2, HQ2⟩ := nm (n / 7)
              obtain ⟨q3, HQ3⟩ := nm (n / 49)
              obtain ⟨p4, HP4⟩ := nm (n / 343)
              rw [HP1.out] at d1 d1' b1
              rw [HQ2.out] at d2 d2' b2
              rw [HQ3.out] at d3 d3' b3
              rw [HP4.out] at d4 d4' b4
              have e2 : (q2 : Int).tmod 7 = ((q2 % 7 : Nat) : Int) := by rw [Int.tmod_eq_emod_of_nonneg (by omega)]; omega
              have e2' : (q2 : Int) % 7 = ((q2 % 7 : Nat) : Int) := by omega
              have e3 : (q3 : Int).tmod 7 = ((q3 % 7 : Nat) : Int) := by rw [Int.tmod_eq_emod_of_nonneg (by omega)]; omega
              have e3' : (q3 : Int) % 7 = ((q3 % 7 : Nat) : Int) := by omega
              obtain ⟨p2, HP2⟩ := nm (q2 % 7)
              obtain ⟨p3, HP3⟩ := nm (q3 % 7)
              rw [HP2.out] at e2 e2' b2
              rw [HP3.out] at e3 e3' b3
              have w2 : IntKind.i64.wrap (q2 : Int) = (q2 : Int) := IntWalk.i64_in _ (by have := HQ2.out; omega)
              have w3 : IntKind.i64.wrap (q3 : Int) = (q3 : Int) := IntWalk.i64_in _ (by have := HQ3.out; omega)
              have w4 : IntKind.i64.wrap (p4 : Int) = (p4 : Int) := IntWalk.i64_in _ (by have := HP4.out; omega)
              have c1 := cell_keep hB3 (HCS.out p1 b1) (cell_lt (HCS.out p1 b1))
              have c2 := cell_keep hB3 (HCS.out p2 b2) (cell_lt (HCS.out p2 b2))
              have c3 := cell_keep hB3 (HCS.out p3 b3) (cell_lt (HCS.out p3 b3))
              have c4 := cell_keep hB3 (HCS.out p4 b4) (cell_lt (HCS.out p4 b4))
              have s1 := sgN_size p1 b1
              have s2 := sgN_size p2 b2
              have s3 := sgN_size p3 b3
              have s4 := sgN_size p4 b4
              obtain ⟨x1, HX1⟩ := nm (sgN p1)
              obtain ⟨x2, HX2⟩ := nm (sgN p2)
              obtain ⟨x3, HX3⟩ := nm (sgN p3)
              obtain ⟨x4, HX4⟩ := nm (sgN p4)
              rw [HX1.out] at c1 s1
              rw [HX2.out] at c2 s2
              rw [HX3.out] at c3 s3
              rw [HX4.out] at c4 s4
              have z1 : ¬ 9223372036854775807 < x1.size + x2.size := by omega
              have z2 : ¬ 9223372036854775807 < x1.size + x2.size + x3.size := by omega
              have z3 : ¬ 9223372036854775807 < x1.size + x2.size + x3.size + x4.size := by omega
              have f1 : (0 : Int) ≤ (p1 : Int) ∧ (p1 : Int) < 7 := by omega
              have f2 : (0 : Int) ≤ (p2 : Int) ∧ (p2 : Int) < 7 := by omega
              have f3 : (0 : Int) ≤ (p3 : Int) ∧ (p3 : Int) < 7 := by omega
              have f4 : (0 : Int) ≤ (p4 : Int) ∧ (p4 : Int) < 7 := by omega
              obtain ⟨f1a, f1b⟩ := f1
              obtain ⟨f2a, f2b⟩ := f2
              obtain ⟨f3a, f3b⟩ := f3
              obtain ⟨f4a, f4b⟩ := f4
              have HB1 := Lib.hid (HBS.out.trans (hB3.mono HBS.out.size))
              have HB13 := Lib.hid hB3
              have HKK := Lib.hid (fun W (hW : Below wd.heap.size wd W) => (show Below wd.heap.size wd W ∧ W.cell? ⟨gs, p1, none⟩ = some (.string x1) ∧ W.cell? ⟨gs, p2, none⟩ = some (.string x2) ∧ W.cell? ⟨gs, p3, none⟩ = some (.string x3) ∧ W.cell? ⟨gs, p4, none⟩ = some (.string x4) from
                ⟨hW, cell_keep hW c1 (cell_lt c1), cell_keep hW c2 (cell_lt c2), cell_keep hW c3 (cell_lt c3), cell_keep hW c4 (cell_lt c4)⟩))
              have hD : Below wd.heap.size wd wd.drew := (bel_refl wd).drew
              clear hB3 c1 c2 c3 c4 b1 b2 b3 b4
              go_wp2_with fail
              refine wp_region_held_drew (S := fun W => Below wd.heap.size wd W ∧ W.cell? ⟨gs, p1, none⟩ = some (.string x1) ∧ W.cell? ⟨gs, p2, none⟩ = some (.string x2) ∧ W.cell? ⟨gs, p3, none⟩ = some (.string x3) ∧ W.cell? ⟨gs, p4, none⟩ = some (.string x4)) (by kernel_rfl) (HKK.out _ hD) (fun hS => ?_)
              refine wpAnyH_takeD (i := 0) (d := some 87) (v := ?_) rfl rfl (by kernel_rfl) (by kernel_rfl) (by kernel_rfl) (fun _ _ _ h => h) (Or.inl ⟨by rfl, fun w hSw => ?_⟩) (by assumption) ?_
              rotate_left
              · first | (go_simp; done) | (go_simp; with_reducible rfl)
              simp only [Act.put, List.setIfInBounds_toArray, List.set_cons_zero, List.set_cons_succ]
              refine wpAnyH_takeD (i := 1) (d := some 88) (v := ?_) rfl rfl (by kernel_rfl) (by kernel_rfl) (by kernel_rfl) (fun _ _ _ h => h) (Or.inl ⟨by rfl, fun w hSw => ?_⟩) (by assumption) ?_
              rotate_left
              · first | (go_simp; done) | (go_simp; with_reducible rfl)
              simp only [Act.put, List.setIfInBounds_toArray, List.set_cons_zero, List.set_cons_succ]
              refine wpAnyH_takeD (i := 2) (d := some 89) (v := ?_) rfl rfl (by kernel_rfl) (by kernel_rfl) (by kernel_rfl) (fun _ _ _ h => h) (Or.inl ⟨by rfl, fun w hSw => ?_⟩) (by assumption) ?_
              rotate_left
              · first | (go_simp; done) | (go_simp; with_reducible rfl)
              simp only [Act.put, List.setIfInBounds_toArray, List.set_cons_zero, List.set_cons_succ]
              refine wpAnyH_takeD (i := 3) (d := some 90) (v := ?_) rfl rfl (by kernel_rfl) (by kernel_rfl) (by kernel_rfl) (fun _ _ _ h => h) (Or.inl ⟨by rfl, fun w hSw => ?_⟩) (by assumption) ?_
              rotate_left
              · first | (go_simp; done) | (go_simp; with_reducible rfl)
              simp only [Act.put, List.setIfInBounds_toArray, List.set_cons_zero, List.set_cons_succ]
              refine wpAnyH_takeD (i := 4) (d := some 91) (v := ?_) rfl rfl (by kernel_rfl) (by kernel_rfl) (by kernel_rfl) (fun _ _ _ h => h) (Or.inl ⟨by rfl, fun w hSw => ?_⟩) (by assumption) ?_
              rotate_left
              · first | (go_simp; done) | (go_simp; with_reducible rfl)
              simp only [Act.put, List.setIfInBounds_toArray, List.set_cons_zero, List.set_cons_succ]
              refine wpAnyH_takeD (i := 5) (d := some 92) (v := ?_) rfl rfl (by kernel_rfl) (by kernel_rfl) (by kernel_rfl) (fun _ _ _ h => h) (Or.inl ⟨by rfl, fun w hSw => ?_⟩) (by assumption) ?_
              rotate_left
              · first | (go_simp; done) | (go_simp; with_reducible rfl)
              simp only [Act.put, List.setIfInBounds_toArray, List.set_cons_zero, List.set_cons_succ]
              refine wpAnyH_takeD (i := 6) (d := some 93) (v := ?_) rfl rfl (by kernel_rfl) (by kernel_rfl) (by kernel_rfl) (fun _ _ _ h => h) (Or.inl ⟨by rfl, fun w hSw => ?_⟩) (by assumption) ?_
              rotate_left
              · first | (go_simp; done) | (go_simp; with_reducible rfl)
              simp only [Act.put, List.setIfInBounds_toArray, List.set_cons_zero, List.set_cons_succ]
              refine wpAnyH_takeD (i := 7) (d := some 94) (v := ?_) rfl rfl (by kernel_rfl) (by kernel_rfl) (by kernel_rfl) (fun _ _ _ h => h) (Or.inl ⟨by rfl, fun w hSw => ?_⟩) (by assumption) ?_
              rotate_left
              · first | (go_simp; done) | (go_simp; with_reducible rfl)
              simp only [Act.put, List.setIfInBounds_toArray, List.set_cons_zero, List.set_cons_succ]
              refine wpAnyH_takeD (i := 8) (d := some 95) (v := ?_) rfl rfl (by kernel_rfl) (by kernel_rfl) (by kernel_rfl) (fun _ _ _ h => h) (Or.inl ⟨by rfl, fun w hSw => ?_⟩) (by assumption) ?_
              rotate_left
              · first | (go_simp; done) | (go_simp; with_reducible rfl)
              simp only [Act.put, List.setIfInBounds_toArray, List.set_cons_zero, List.set_cons_succ]
              refine wpAnyH_takeD (i := 9) (d := some 96) (v := ?_) rfl rfl (by kernel_rfl) (by kernel_rfl) (by kernel_rfl) (fun _ _ _ h => h) (Or.inl ⟨by rfl, fun w hSw => ?_⟩) (by assumption) ?_
              rotate_left
              · first | (go_simp; done) | (go_simp; with_reducible rfl)
              simp only [Act.put, List.setIfInBounds_toArray, List.set_cons_zero, List.set_cons_succ]
              refine wpAnyH_takeD (i := 10) (d := some 97) (v := ?_) rfl rfl (by kernel_rfl) (by kernel_rfl) (by kernel_rfl) (fun _ _ _ h => h) (Or.inl ⟨by rfl, fun w hSw => ?_⟩) (by assumption) ?_
              rotate_left
              · first | (go_simp; done) | (go_simp; with_reducible rfl)
              simp only [Act.put, List.setIfInBounds_toArray, List.set_cons_zero, List.set_cons_succ]
              refine wpAnyH_takeD (i := 11) (d := some 98) (v := ?_) rfl rfl (by kernel_rfl) (by kernel_rfl) (by kernel_rfl) (fun _ _ _ h => h) (Or.inl ⟨by rfl, fun w hSw => ?_⟩) (by assumption) ?_
              rotate_left
              · first | (go_simp; done) | (go_simp; with_reducible rfl)
              simp only [Act.put, List.setIfInBounds_toArray, List.set_cons_zero, List.set_cons_succ]
              refine wpAnyH_takeD (i := 12) (d := some 99) (v := ?_) rfl rfl (by kernel_rfl) (by kernel_rfl) (by kernel_rfl) (fun _ _ _ h => h) (Or.inl ⟨by rfl, fun w hSw => ?_⟩) (by assumption) ?_
              rotate_left
              · first | (go_simp; done) | (go_simp; with_reducible rfl)
              simp only [Act.put, List.setIfInBounds_toArray, List.set_cons_zero, List.set_cons_succ]
              refine wpAnyH_takeD (i := 13) (d := some 100) (v := ?_) rfl rfl (by kernel_rfl) (by kernel_rfl) (by kernel_rfl) (fun _ _ _ h => h) (Or.inl ⟨by rfl, fun w hSw => ?_⟩) (by assumption) ?_
              rotate_left
              · first | (go_simp; done) | (go_simp; with_reducible rfl)
              simp only [Act.put, List.setIfInBounds_toArray, List.set_cons_zero, List.set_cons_succ]
              refine wpAnyH_takeD (i := 14) (d := some 101) (v := ?_) rfl rfl (by kernel_rfl) (by kernel_rfl) (by kernel_rfl) (fun _ _ _ h => h) (Or.inl ⟨by rfl, fun w hSw => ?_⟩) (by assumption) ?_
              rotate_left
              · first | (go_simp; done) | (go_simp; with_reducible rfl)
              simp only [Act.put, List.setIfInBounds_toArray, List.set_cons_zero, List.set_cons_succ]
              refine wpAnyH_takeD (i := 15) (d := some 102) (v := ?_) rfl rfl (by kernel_rfl) (by kernel_rfl) (by kernel_rfl) (fun _ _ _ h => h) (Or.inl ⟨by rfl, fun w hSw => ?_⟩) (by assumption) ?_
              rotate_left
              · first | (go_simp; done) | (go_simp; with_reducible rfl)
              simp only [Act.put, List.setIfInBounds_toArray, List.set_cons_zero, List.set_cons_succ]
              refine wpAnyH_takeD (i := 16) (d := some 103) (v := ?_) rfl rfl (by kernel_rfl) (by kernel_rfl) (by kernel_rfl) (fun _ _ _ h => h) (Or.inl ⟨by rfl, fun w hSw => ?_⟩) (by assumption) ?_
              rotate_left
              · first | (go_simp; done) | (go_simp; with_reducible rfl)
              simp only [Act.put, List.setIfInBounds_toArray, List.set_cons_zero, List.set_cons_succ]
              refine wpAnyH_takeD (i := 17) (d := some 104) (v := ?_) rfl rfl (by kernel_rfl) (by kernel_rfl) (by kernel_rfl) (fun _ _ _ h => h) (Or.inl ⟨by rfl, fun w hSw => ?_⟩) (by assumption) ?_
              rotate_left
              · first | (go_simp; done) | (go_simp; with_reducible rfl)
              simp only [Act.put, List.setIfInBounds_toArray, List.set_cons_zero, List.set_cons_succ]
              refine wpAnyH_takeD (i := 18) (d := some 105) (v := ?_) rfl rfl (by kernel_rfl) (by kernel_rfl) (by kernel_rfl) (fun _ _ _ h => h) (Or.inl ⟨by rfl, fun w hSw => ?_⟩) (by assumption) ?_
              rotate_left
              · first | (go_simp; done) | (go_simp; with_reducible rfl)
              simp only [Act.put, List.setIfInBounds_toArray, List.set_cons_zero, List.set_cons_succ]
              refine wpAnyH_takeD (i := 19) (d := some 106) (v := ?_) rfl rfl (by kernel_rfl) (by kernel_rfl) (by kernel_rfl) (fun _ _ _ h => h) (Or.inl ⟨by rfl, fun w hSw => ?_⟩) (by assumption) ?_
              rotate_left
              · first | (go_simp; done) | (go_simp; with_reducible rfl)
              simp only [Act.put, List.setIfInBounds_toArray, List.set_cons_zero, List.set_cons_succ]
              refine wpAnyH_takeD (i := 20) (d := some 107) (v := ?_) rfl rfl (by kernel_rfl) (by kernel_rfl) (by kernel_rfl) (fun _ _ _ h => h) (Or.inl ⟨by rfl, fun w hSw => ?_⟩) (by assumption) ?_
              rotate_left
              · first | (go_simp; done) | (go_simp; with_reducible rfl)
              simp only [Act.put, List.setIfInBounds_toArray, List.set_cons_zero, List.set_cons_succ]
              refine wpAnyH_takeD (i := 21) (d := some 108) (v := ?_) rfl rfl (by kernel_rfl) (by kernel_rfl) (by kernel_rfl) (fun _ _ _ h => h) (Or.inl ⟨by rfl, fun w hSw => ?_⟩) (by assumption) ?_
              rotate_left
              · first | (go_simp; done) | (go_simp; with_reducible rfl)
              simp only [Act.put, List.setIfInBounds_toArray, List.set_cons_zero, List.set_cons_succ]
              refine wpAnyH_takeD (i := 22) (d := some 109) (v := ?_) rfl rfl (by kernel_rfl) (by kernel_rfl) (by kernel_rfl) (fun _ _ _ h => h) (Or.inl ⟨by rfl, fun w hSw => ?_⟩) (by assumption) ?_
              rotate_left
              · first | (go_simp; done) | (go_simp; with_reducible rfl)
              simp only [Act.put, List.setIfInBounds_toArray, List.set_cons_zero, List.set_cons_succ]
              refine wpAnyH_takeD (i := 23) (d := some 110) (v := ?_) rfl rfl (by kernel_rfl) (by kernel_rfl) (by kernel_rfl) (fun _ _ _ h => h) (Or.inl ⟨by rfl, fun w hSw => ?_⟩) (by assumption) ?_
              rotate_left
              · first | (go_simp; done) | (go_simp; with_reducible rfl)
              simp only [Act.put, List.setIfInBounds_toArray, List.set_cons_zero, List.set_cons_succ]
              refine wpAnyH_takeD (i := 24) (d := some 111) (v := ?_) rfl rfl (by kernel_rfl) (by kernel_rfl) (by kernel_rfl) (fun _ _ _ h => h) (Or.inl ⟨by rfl, fun w hSw => ?_⟩) (by assumption) ?_
              rotate_left
              · first | (go_simp; done) | (go_simp; with_reducible rfl)
              simp only [Act.put, List.setIfInBounds_toArray, List.set_cons_zero, List.set_cons_succ]
              refine wpAnyH_ready (rs := [25]) (by kernel_rfl) (by simp) ?_
              refine AllReadyH.cons rfl (fun K hK => ?_) AllReadyH.nil
              go_simp
              refine (HRD.out _ _ (HB1.out.trans (hD.mono HB1.out.size))).mono ?_
              rintro e wb2 ⟨rfl, hb⟩
              have hD1 := hD.trans (hb.mono hD.size)
              clear hb
              refine hK _ _ (HKK.out _ hD1) (fun hS' => ?_)
              clear hK K hS
              have hS := hS'
              clear hS'
              try simp only [Act.put, List.setIfInBounds_toArray, List.set_cons_zero, List.set_cons_succ]
              refine wpAnyH_takeD (i := 26) (d := some 113) (v := ?_) rfl rfl (by kernel_rfl) (by kernel_rfl) (by kernel_rfl) (fun _ _ _ h => h) (Or.inl ⟨by rfl, fun w hSw => ?_⟩) (by assumption) ?_
              rotate_left
              · first | (go_simp; done) | (go_simp; with_reducible rfl)
              simp only [Act.put, List.setIfInBounds_toArray, List.set_cons_zero, List.set_cons_succ]
              refine wpAnyH_done (by kernel_rfl) ?_ _
              go_wp2_with fail
              go_roundw
              case rel => exact ⟨n + 1, by omega, by go_num, HB13.out.trans (hD1.mono HB13.out.size)⟩
              case measure => simp [intOf]; omega
            · obtain rfl : n = 2401 := by omega
              rw [show ((2401 : Nat) : Int) = 2401 from rfl]
              have HB1 := Lib.hid (HBS.out.trans (hB3.mono HBS.out.size))
              obtain ⟨wd, rfl⟩ : ∃ wd : World, wd = wr := ⟨_, rfl⟩
              clear hB3 HBS
              have HCF := Lib.hid (show ∀ j, j < 4 → (wd.alloc (.cells fsC 9)).cell? ⟨wd.heap.size, j, none⟩ = some (.string (fsN j)) from fun j hj => by
                refine cell_four (World.alloc_heap_new wd _) j ?_
                match j, hj with
                | 0, _ => rfl
                | 1, _ => rfl
                | 2, _ => rfl
                | 3, _ => rfl)
              have HBF := Lib.hid (HB1.out.alloc HB1.out.size (.cells fsC 9))
              have HWF := Lib.hid (show wd.alloc (.cells fsC 9) = wd.alloc (.cells #[.string ⟨#[48, 45, 51, 44, 53, 44, 54, 51]⟩, .string ⟨#[48, 45, 54, 51]⟩, .string ⟨#[57, 44, 49, 49, 45, 49, 50]⟩, .string ⟨#[54, 50, 45, 54, 51]⟩] 9) from rfl)
              go_wp2_with fail
              rw [← HWF.out]
              obtain ⟨we, HWE⟩ := nm (wd.alloc (.cells fsC 9))
              obtain ⟨gf, HGF⟩ := nm wd.heap.size
              rw [HWE.out] at HCF HBF ⊢
              rw [HGF.out] at HCF ⊢
              go_loopw [117] (fun vj wr => ∃ j : Nat, j ≤ 4 ∧ vj = .int .i64 (j : Int) ∧ Below we.heap.size we wr) (fun vj _ => 4 - (intOf vj).toNat)
              case atStart => exact ⟨0, Nat.zero_le _, rfl, bel_refl _⟩
              case round =>
                obtain ⟨j, hj, rfl, hBj⟩ := hrel
                by_cases hj4 : j < 4
                · have hj1 : (j : Int) < 4 := by omega
                  have ck := cell_keep hBj (HCF.out j hj4) (cell_lt (HCF.out j hj4))
                  have hsz := fsN_size j hj4
                  obtain ⟨S, HSS⟩ := nm (fsN j)
                  rw [HSS.out] at ck hsz
                  obtain ⟨L, HLL⟩ := nm S.size
                  have hSz : S.size = L := HLL.out
                  rw [hSz] at hsz
                  have hwL : IntKind.i64.wrap ((L : Int) + 1) = ((L + 1 : Nat) : Int) := by rw [IntWalk.i64_in _ (by omega)]; omega
                  obtain ⟨L1, HL1⟩ := nm (L + 1)
                  rw [HL1.out] at hwL
                  have HBJ := Lib.hid hBj
                  obtain ⟨wg, rfl⟩ : ∃ wg : World, wg = wr := ⟨_, rfl⟩
                  clear hBj
                  go_wp2_with fail
                  go_loopw [124] (fun vi wr => ∃ i : Nat, i ≤ L1 ∧ vi = .int .i64 (i : Int) ∧ Below wg.heap.size wg wr) (fun vi _ => L1 - (intOf vi).toNat)
                  case atStart => exact ⟨0, Nat.zero_le _, rfl, bel_refl _⟩
                  case round =>
                    obtain ⟨i, hi, rfl, hBi⟩ := hrel
                    by_cases hiL : i < L1
                    · have hi1 : (i : Int) < (L1 : Int) := by omega
                      have hiL2 : i ≤ L := by have := HL1.out; omega
                      obtain ⟨wh, rfl⟩ : ∃ wh : World, wh = wr := ⟨_, rfl⟩
                      have HCC := Lib.hid (show ∀ k, k < 6 → (wh.alloc (.cells csC 9)).cell? ⟨wh.heap.size, k, none⟩ = some (.string (csN k)) from fun k hk => by
                        refine cell_four (World.alloc_heap_new wh _) k ?_
                        match k, hk with
                        | 0, _ => rfl
                        | 1, _ => rfl
                        | 2, _ => rfl
                        | 3, _ => rfl
                        | 4, _ => rfl
                        | 5, _ => rfl)
                      have HBI := Lib.hid (hBi.alloc hBi.size (.cells csC 9))
                      have HWI := Lib.hid (show wh.alloc (.cells csC 9) = wh.alloc (.cells #[.string ⟨#[48]⟩, .string ⟨#[57]⟩, .string ⟨#[45]⟩, .string ⟨#[44]⟩, .string ⟨#[32]⟩, .string ⟨#[43]⟩] 9) from rfl)
                      clear hBi
                      go_wp2_with fail
                      rw [← HWI.out]
                      obtain ⟨wk, HWK⟩ := nm (wh.alloc (.cells csC 9))
                      obtain ⟨gc, HGC⟩ := nm wh.heap.size
                      rw [HWK.out] at HCC HBI ⊢
                      rw [HGC.out] at HCC ⊢
                      go_loopw [129] (fun vk wr => ∃ k : Nat, k ≤ 6 ∧ vk = .int .i64 (k : Int) ∧ Below wk.heap.size wk wr) (fun vk _ => 6 - (intOf vk).toNat)
                      case atStart => exact ⟨0, Nat.zero_le _, rfl, bel_refl _⟩
                      case round =>
                        obtain ⟨k, hk, rfl, hBk⟩ := hrel
                        by_cases hk6 : k < 6
                        · have hk1 : (k : Int) < 6 := by omega
                          have cc := cell_keep hBk (HCC.out k hk6) (cell_lt (HCC.out k hk6))
                          have hcs := csN_size k hk6
                          obtain ⟨C, HCN⟩ := nm (csN k)
                          rw [HCN.out] at cc hcs
                          have HBK := Lib.hid hBk
                          obtain ⟨wz, rfl⟩ : ∃ wz : World, wz = wr := ⟨_, rfl⟩
                          have HBG := Lib.hid (HBF.out.trans ((HBJ.out.trans ((HBI.out.trans (hBk.mono HBI.out.size)).mono HBJ.out.size)).mono HBF.out.size))
                          have hiI : (i : Int) ≤ (L : Int) := by omega
                          have hi0 : (0 : Int) ≤ (i : Int) := by omega
                          have sA : (S.extract 0 i).size ≤ 8 := by rw [ByteArray.size_extract, hSz]; omega
                          have sB : (S.extract i L).size ≤ 8 := by rw [ByteArray.size_extract, hSz]; omega
                          have sD : (S.extract (i + 1) L).size ≤ 8 := by rw [ByteArray.size_extract, hSz]; omega
                          have hwi : IntKind.i64.wrap ((i : Int) + 1) = ((i + 1 : Nat) : Int) := by rw [IntWalk.i64_in _ (by omega)]; omega
                          obtain ⟨i1, HI1⟩ := nm (i + 1)
                          rw [HI1.out] at sD hwi
                          obtain ⟨A, HAA⟩ := nm (S.extract 0 i)
                          obtain ⟨B, HBB⟩ := nm (S.extract i L)
                          obtain ⟨D, HDD⟩ := nm (S.extract i1 L)
                          rw [HAA.out] at sA
                          rw [HBB.out] at sB
                          rw [HDD.out] at sD
                          have hA := HAA.out
                          have hB := HBB.out
                          have hDD := HDD.out
                          have z1 : ¬ 9223372036854775807 < A.size + C.size := by omega
                          have z2 : ¬ 9223372036854775807 < A.size + C.size + B.size := by omega
                          have z3 : ¬ 9223372036854775807 < A.size + C.size + D.size := by omega
                          have z4 : ¬ 9223372036854775807 < A.size + D.size := by omega
                          have hD0 : Below wz.heap.size wz wz.drew := (bel_refl wz).drew
                          clear hBk sA sB sD hcs
                          by_cases hiLt : i < L
                          · have hq : (i : Int) < (L : Int) := by omega
                            have hi1L : (i1 : Int) ≤ (L : Int) := by have := HI1.out; omega
                            have hi1n : i1 ≤ L := by have := HI1.out; omega
                            have hi10 : (0 : Int) ≤ (i1 : Int) := by omega
                            go_wp2_with fail
                            refine wp_region_held_drew (S := fun W => Below wz.heap.size wz W) (by kernel_rfl) hD0 (fun hS => ?_)
                            refine wpAnyH_takeD (i := 0) (d := some 133) (v := ?_) rfl rfl (by kernel_rfl) (by kernel_rfl) (by kernel_rfl) (fun _ _ _ h => h) (Or.inl ⟨by rfl, fun w hSw => ?_⟩) (by assumption) ?_
                            rotate_left
                            · first | (go_simp; done) | (go_simp; with_reducible rfl)
                            simp only [Act.put, List.setIfInBounds_toArray, List.set_cons_zero, List.set_cons_succ]
                            refine wpAnyH_takeD (i := 1) (d := some 134) (v := ?_) rfl rfl (by kernel_rfl) (by kernel_rfl) (by kernel_rfl) (fun _ _ _ h => h) (Or.inl ⟨by rfl, fun w hSw => ?_⟩) (by assumption) ?_
                            rotate_left
                            · first | (go_simp; done) | (go_simp; with_reducible rfl)
                            simp only [Act.put, List.setIfInBounds_toArray, List.set_cons_zero, List.set_cons_succ]
                            refine wpAnyH_takeD (i := 2) (d := some 135) (v := ?_) rfl rfl (by kernel_rfl) (by kernel_rfl) (by kernel_rfl) (fun _ _ _ h => h) (Or.inl ⟨by rfl, fun w hSw => ?_⟩) (by assumption) ?_
                            rotate_left
                            · first | (go_simp; done) | (go_simp; with_reducible rfl)
                            simp only [Act.put, List.setIfInBounds_toArray, List.set_cons_zero, List.set_cons_succ]
                            refine wpAnyH_takeD (i := 3) (d := some 136) (v := ?_) rfl rfl (by kernel_rfl) (by kernel_rfl) (by kernel_rfl) (fun _ _ _ h => h) (Or.inl ⟨by rfl, fun w hSw => ?_⟩) (by assumption) ?_
                            rotate_left
                            · first | (go_simp; done) | (go_simp; with_reducible rfl)
                            simp only [Act.put, List.setIfInBounds_toArray, List.set_cons_zero, List.set_cons_succ]
                            refine wpAnyH_takeD (i := 4) (d := some 137) (v := ?_) rfl rfl (by kernel_rfl) (by kernel_rfl) (by kernel_rfl) (fun _ _ _ h => h) (Or.inl ⟨by rfl, fun w hSw => ?_⟩) (by assumption) ?_
                            rotate_left
                            · first | (go_simp; done) | (go_simp; with_reducible rfl)
                            simp only [Act.put, List.setIfInBounds_toArray, List.set_cons_zero, List.set_cons_succ]
                            refine wpAnyH_takeD (i := 5) (d := some 138) (v := ?_) rfl rfl (by kernel_rfl) (by kernel_rfl) (by kernel_rfl) (fun _ _ _ h => h) (Or.inl ⟨by rfl, fun w hSw => ?_⟩) (by assumption) ?_
                            rotate_left
                            · first | (go_simp; done) | (go_simp; with_reducible rfl)
                            simp only [Act.put, List.setIfInBounds_toArray, List.set_cons_zero, List.set_cons_succ]
                            refine wpAnyH_takeD (i := 6) (d := some 139) (v := ?_) rfl rfl (by kernel_rfl) (by kernel_rfl) (by kernel_rfl) (fun _ _ _ h => h) (Or.inl ⟨by rfl, fun w hSw => ?_⟩) (by assumption) ?_
                            rotate_left
                            · first | (go_simp; done) | (go_simp; with_reducible rfl)
                            simp only [Act.put, List.setIfInBounds_toArray, List.set_cons_zero, List.set_cons_succ]
                            refine wpAnyH_takeD (i := 7) (d := some 140) (v := ?_) rfl rfl (by kernel_rfl) (by kernel_rfl) (by kernel_rfl) (fun _ _ _ h => h) (Or.inl ⟨by rfl, fun w hSw => ?_⟩) (by assumption) ?_
                            rotate_left
                            · first | (go_simp; done) | (go_simp; with_reducible rfl)
                            simp only [Act.put, List.setIfInBounds_toArray, List.set_cons_zero, List.set_cons_succ]
                            refine wpAnyH_takeD (i := 8) (d := some 141) (v := ?_) rfl rfl (by kernel_rfl) (by kernel_rfl) (by kernel_rfl) (fun _ _ _ h => h) (Or.inl ⟨by rfl, fun w hSw => ?_⟩) (by assumption) ?_
                            rotate_left
                            · first | (go_simp; done) | (go_simp; with_reducible rfl)
                            simp only [Act.put, List.setIfInBounds_toArray, List.set_cons_zero, List.set_cons_succ]
                            refine wpAnyH_ready (rs := [9]) (by kernel_rfl) (by simp) ?_
                            refine AllReadyH.cons rfl (fun K hK => ?_) AllReadyH.nil
                            go_simp
                            refine (HRD.out _ _ (HBG.out.trans (hD0.mono HBG.out.size))).mono ?_
                            rintro e wb1 ⟨rfl, hb⟩
                            have hD1 := hD0.trans (hb.mono hD0.size)
                            clear hb
                            refine hK _ _ hD1 (fun hS' => ?_)
                            clear hK K hS
                            have hS := hS'
                            clear hS'
                            try simp only [Act.put, List.setIfInBounds_toArray, List.set_cons_zero, List.set_cons_succ]
                            refine wpAnyH_takeD (i := 10) (d := some 143) (v := ?_) rfl rfl (by kernel_rfl) (by kernel_rfl) (by kernel_rfl) (fun _ _ _ h => h) (Or.inl ⟨by rfl, fun w hSw => ?_⟩) (by assumption) ?_
                            rotate_left
                            · first | (go_simp; done) | (go_simp; with_reducible rfl)
                            simp only [Act.put, List.setIfInBounds_toArray, List.set_cons_zero, List.set_cons_succ]
                            refine wpAnyH_takeD (i := 11) (d := some 144) (v := ?_) rfl rfl (by kernel_rfl) (by kernel_rfl) (by kernel_rfl) (fun _ _ _ h => h) (Or.inl ⟨by rfl, fun w hSw => ?_⟩) (by assumption) ?_
                            rotate_left
                            · first | (go_simp; done) | (go_simp; with_reducible rfl)
                            simp only [Act.put, List.setIfInBounds_toArray, List.set_cons_zero, List.set_cons_succ]
                            refine wpAnyH_takeD (i := 12) (d := some 145) (v := ?_) rfl rfl (by kernel_rfl) (by kernel_rfl) (by kernel_rfl) (fun _ _ _ h => h) (Or.inl ⟨by rfl, fun w hSw => ?_⟩) (by assumption) ?_
                            rotate_left
                            · first | (go_simp; done) | (go_simp; with_reducible rfl)
                            simp only [Act.put, List.setIfInBounds_toArray, List.set_cons_zero, List.set_cons_succ]
                            refine wpAnyH_takeD (i := 13) (d := some 146) (v := ?_) rfl rfl (by kernel_rfl) (by kernel_rfl) (by kernel_rfl) (fun _ _ _ h => h) (Or.inl ⟨by rfl, fun w hSw => ?_⟩) (by assumption) ?_
                            rotate_left
                            · first | (go_simp; done) | (go_simp; with_reducible rfl)
                            simp only [Act.put, List.setIfInBounds_toArray, List.set_cons_zero, List.set_cons_succ]
                            refine wpAnyH_takeD (i := 14) (d := some 147) (v := ?_) rfl rfl (by kernel_rfl) (by kernel_rfl) (by kernel_rfl) (fun _ _ _ h => h) (Or.inl ⟨by rfl, fun w hSw => ?_⟩) (by assumption) ?_
                            rotate_left
                            · first | (go_simp; done) | (go_simp; with_reducible rfl)
                            simp only [Act.put, List.setIfInBounds_toArray, List.set_cons_zero, List.set_cons_succ]
                            refine wpAnyH_takeD (i := 15) (d := some 148) (v := ?_) rfl rfl (by kernel_rfl) (by kernel_rfl) (by kernel_rfl) (fun _ _ _ h => h) (Or.inl ⟨by rfl, fun w hSw => ?_⟩) (by assumption) ?_
                            rotate_left
                            · first | (go_simp; done) | (go_simp; with_reducible rfl)
                            simp only [Act.put, List.setIfInBounds_toArray, List.set_cons_zero, List.set_cons_succ]
                            refine wpAnyH_takeD (i := 16) (d := some 149) (v := ?_) rfl rfl (by kernel_rfl) (by kernel_rfl) (by kernel_rfl) (fun _ _ _ h => h) (Or.inl ⟨by rfl, fun w hSw => ?_⟩) (by assumption) ?_
                            rotate_left
                            · first | (go_simp; done) | (go_simp; with_reducible rfl)
                            simp only [Act.put, List.setIfInBounds_toArray, List.set_cons_zero, List.set_cons_succ]
                            refine wpAnyH_takeD (i := 17) (d := some 150) (v := ?_) rfl rfl (by kernel_rfl) (by kernel_rfl) (by kernel_rfl) (fun _ _ _ h => h) (Or.inl ⟨by rfl, fun w hSw => ?_⟩) (by assumption) ?_
                            rotate_left
                            · first | (go_simp; done) | (go_simp; with_reducible rfl)
                            simp only [Act.put, List.setIfInBounds_toArray, List.set_cons_zero, List.set_cons_succ]
                            refine wpAnyH_takeD (i := 18) (d := some 151) (v := ?_) rfl rfl (by kernel_rfl) (by kernel_rfl) (by kernel_rfl) (fun _ _ _ h => h) (Or.inl ⟨by rfl, fun w hSw => ?_⟩) (by assumption) ?_
                            rotate_left
                            · first | (go_simp; done) | (go_simp; with_reducible rfl)
                            simp only [Act.put, List.setIfInBounds_toArray, List.set_cons_zero, List.set_cons_succ]
                            refine wpAnyH_takeD (i := 19) (d := some 152) (v := ?_) rfl rfl (by kernel_rfl) (by kernel_rfl) (by kernel_rfl) (fun _ _ _ h => h) (Or.inl ⟨by rfl, fun w hSw => ?_⟩) (by assumption) ?_
                            rotate_left
                            · first | (go_simp; done) | (go_simp; with_reducible rfl)
                            simp only [Act.put, List.setIfInBounds_toArray, List.set_cons_zero, List.set_cons_succ]
                            refine wpAnyH_takeD (i := 20) (d := some 153) (v := ?_) rfl rfl (by kernel_rfl) (by kernel_rfl) (by kernel_rfl) (fun _ _ _ h => h) (Or.inl ⟨by rfl, fun w hSw => ?_⟩) (by assumption) ?_
                            rotate_left
                            · first | (go_simp; done) | (go_simp; with_reducible rfl)
                            simp only [Act.put, List.setIfInBounds_toArray, List.set_cons_zero, List.set_cons_succ]
                            refine wpAnyH_takeD (i := 21) (d := some 154) (v := ?_) rfl rfl (by kernel_rfl) (by kernel_rfl) (by kernel_rfl) (fun _ _ _ h => h) (Or.inl ⟨by rfl, fun w hSw => ?_⟩) (by assumption) ?_
                            rotate_left
                            · first | (go_simp; done) | (go_simp; with_reducible rfl)
                            simp only [Act.put, List.setIfInBounds_toArray, List.set_cons_zero, List.set_cons_succ]
                            refine wpAnyH_takeD (i := 22) (d := some 155) (v := ?_) rfl rfl (by kernel_rfl) (by kernel_rfl) (by kernel_rfl) (fun _ _ _ h => h) (Or.inl ⟨by rfl, fun w hSw => ?_⟩) (by assumption) ?_
                            rotate_left
                            · first | (go_simp; done) | (go_simp; with_reducible rfl)
                            simp only [Act.put, List.setIfInBounds_toArray, List.set_cons_zero, List.set_cons_succ]
                            refine wpAnyH_takeD (i := 23) (d := some 156) (v := ?_) rfl rfl (by kernel_rfl) (by kernel_rfl) (by kernel_rfl) (fun _ _ _ h => h) (Or.inl ⟨by rfl, fun w hSw => ?_⟩) (by assumption) ?_
                            rotate_left
                            · first | (go_simp; done) | (go_simp; with_reducible rfl)
                            simp only [Act.put, List.setIfInBounds_toArray, List.set_cons_zero, List.set_cons_succ]
                            refine wpAnyH_takeD (i := 24) (d := some 157) (v := ?_) rfl rfl (by kernel_rfl) (by kernel_rfl) (by kernel_rfl) (fun _ _ _ h => h) (Or.inl ⟨by rfl, fun w hSw => ?_⟩) (by assumption) ?_
                            rotate_left
                            · first | (go_simp; done) | (go_simp; with_reducible rfl)
                            simp only [Act.put, List.setIfInBounds_toArray, List.set_cons_zero, List.set_cons_succ]
                            refine wpAnyH_takeD (i := 25) (d := some 158) (v := ?_) rfl rfl (by kernel_rfl) (by kernel_rfl) (by kernel_rfl) (fun _ _ _ h => h) (Or.inl ⟨by rfl, fun w hSw => ?_⟩) (by assumption) ?_
                            rotate_left
                            · first | (go_simp; done) | (go_simp; with_reducible rfl)
                            simp only [Act.put, List.setIfInBounds_toArray, List.set_cons_zero, List.set_cons_succ]
                            refine wpAnyH_takeD (i := 26) (d := some 159) (v := ?_) rfl rfl (by kernel_rfl) (by kernel_rfl) (by kernel_rfl) (fun _ _ _ h => h) (Or.inl ⟨by rfl, fun w hSw => ?_⟩) (by assumption) ?_
                            rotate_left
                            · first | (go_simp; done) | (go_simp; with_reducible rfl)
                            simp only [Act.put, List.setIfInBounds_toArray, List.set_cons_zero, List.set_cons_succ]
                            refine wpAnyH_ready (rs := [27]) (by kernel_rfl) (by simp) ?_
                            refine AllReadyH.cons rfl (fun K hK => ?_) AllReadyH.nil
                            go_simp
                            refine (HRD.out _ _ (HBG.out.trans (hD1.mono HBG.out.size))).mono ?_
                            rintro e wb2 ⟨rfl, hb⟩
                            have hD2 := hD1.trans (hb.mono hD1.size)
                            clear hb
                            refine hK _ _ hD2 (fun hS' => ?_)
                            clear hK K hS
                            have hS := hS'
                            clear hS'
                            try simp only [Act.put, List.setIfInBounds_toArray, List.set_cons_zero, List.set_cons_succ]
                            refine wpAnyH_takeD (i := 28) (d := some 161) (v := ?_) rfl rfl (by kernel_rfl) (by kernel_rfl) (by kernel_rfl) (fun _ _ _ h => h) (Or.inl ⟨by rfl, fun w hSw => ?_⟩) (by assumption) ?_
                            rotate_left
                            · first | (go_simp; done) | (go_simp; with_reducible rfl)
                            simp only [Act.put, List.setIfInBounds_toArray, List.set_cons_zero, List.set_cons_succ]
                            refine wpAnyH_takeD (i := 29) (d := some 162) (v := ?_) rfl rfl (by kernel_rfl) (by kernel_rfl) (by kernel_rfl) (fun _ _ _ h => h) (Or.inl ⟨by rfl, fun w hSw => ?_⟩) (by assumption) ?_
                            rotate_left
                            · first | (go_simp; done) | (go_simp; with_reducible rfl)
                            simp only [Act.put, List.setIfInBounds_toArray, List.set_cons_zero, List.set_cons_succ]
                            refine wpAnyH_takeD (i := 30) (d := some 163) (v := ?_) rfl rfl (by kernel_rfl) (by kernel_rfl) (by kernel_rfl) (fun _ _ _ h => h) (Or.inl ⟨by rfl, fun w hSw => ?_⟩) (by assumption) ?_
                            rotate_left
                            · first | (go_simp; done) | (go_simp; with_reducible rfl)
                            simp only [Act.put, List.setIfInBounds_toArray, List.set_cons_zero, List.set_cons_succ]
                            refine wpAnyH_takeD (i := 31) (d := some 164) (v := ?_) rfl rfl (by kernel_rfl) (by kernel_rfl) (by kernel_rfl) (fun _ _ _ h => h) (Or.inl ⟨by rfl, fun w hSw => ?_⟩) (by assumption) ?_
                            rotate_left
                            · first | (go_simp; done) | (go_simp; with_reducible rfl)
                            simp only [Act.put, List.setIfInBounds_toArray, List.set_cons_zero, List.set_cons_succ]
                            refine wpAnyH_takeD (i := 32) (d := some 165) (v := ?_) rfl rfl (by kernel_rfl) (by kernel_rfl) (by kernel_rfl) (fun _ _ _ h => h) (Or.inl ⟨by rfl, fun w hSw => ?_⟩) (by assumption) ?_
                            rotate_left
                            · first | (go_simp; done) | (go_simp; with_reducible rfl)
                            simp only [Act.put, List.setIfInBounds_toArray, List.set_cons_zero, List.set_cons_succ]
                            refine wpAnyH_takeD (i := 33) (d := some 166) (v := ?_) rfl rfl (by kernel_rfl) (by kernel_rfl) (by kernel_rfl) (fun _ _ _ h => h) (Or.inl ⟨by rfl, fun w hSw => ?_⟩) (by assumption) ?_
                            rotate_left
                            · first | (go_simp; done) | (go_simp; with_reducible rfl)
                            simp only [Act.put, List.setIfInBounds_toArray, List.set_cons_zero, List.set_cons_succ]
                            refine wpAnyH_takeD (i := 34) (d := some 167) (v := ?_) rfl rfl (by kernel_rfl) (by kernel_rfl) (by kernel_rfl) (fun _ _ _ h => h) (Or.inl ⟨by rfl, fun w hSw => ?_⟩) (by assumption) ?_
                            rotate_left
                            · first | (go_simp; done) | (go_simp; with_reducible rfl)
                            simp only [Act.put, List.setIfInBounds_toArray, List.set_cons_zero, List.set_cons_succ]
                            refine wpAnyH_takeD (i := 35) (d := some 168) (v := ?_) rfl rfl (by kernel_rfl) (by kernel_rfl) (by kernel_rfl) (fun _ _ _ h => h) (Or.inl ⟨by rfl, fun w hSw => ?_⟩) (by assumption) ?_
                            rotate_left
                            · first | (go_simp; done) | (go_simp; with_reducible rfl)
                            simp only [Act.put, List.setIfInBounds_toArray, List.set_cons_zero, List.set_cons_succ]
                            refine wpAnyH_takeD (i := 36) (d := some 169) (v := ?_) rfl rfl (by kernel_rfl) (by kernel_rfl) (by kernel_rfl) (fun _ _ _ h => h) (Or.inl ⟨by rfl, fun w hSw => ?_⟩) (by assumption) ?_
                            rotate_left
                            · first | (go_simp; done) | (go_simp; with_reducible rfl)
                            simp only [Act.put, List.setIfInBounds_toArray, List.set_cons_zero, List.set_cons_succ]
                            refine wpAnyH_takeD (i := 37) (d := some 170) (v := ?_) rfl rfl (by kernel_rfl) (by kernel_rfl) (by kernel_rfl) (fun _ _ _ h => h) (Or.inl ⟨by rfl, fun w hSw => ?_⟩) (by assumption) ?_
                            rotate_left
                            · first | (go_simp; done) | (go_simp; with_reducible rfl)
                            simp only [Act.put, List.setIfInBounds_toArray, List.set_cons_zero, List.set_cons_succ]
                            refine wpAnyH_ready (rs := [38]) (by kernel_rfl) (by simp) ?_
                            refine AllReadyH.cons rfl (fun K hK => ?_) AllReadyH.nil
                            go_simp
                            refine (HRD.out _ _ (HBG.out.trans (hD2.mono HBG.out.size))).mono ?_
                            rintro e wb3 ⟨rfl, hb⟩
                            have hD3 := hD2.trans (hb.mono hD2.size)
                            clear hb
                            refine hK _ _ hD3 (fun hS' => ?_)
                            clear hK K hS
                            have hS := hS'
                            clear hS'
                            try simp only [Act.put, List.setIfInBounds_toArray, List.set_cons_zero, List.set_cons_succ]
                            refine wpAnyH_takeD (i := 39) (d := some 172) (v := ?_) rfl rfl (by kernel_rfl) (by kernel_rfl) (by kernel_rfl) (fun _ _ _ h => h) (Or.inl ⟨by rfl, fun w hSw => ?_⟩) (by assumption) ?_
                            rotate_left
                            · first | (go_simp; done) | (go_simp; with_reducible rfl)
                            simp only [Act.put, List.setIfInBounds_toArray, List.set_cons_zero, List.set_cons_succ]
                            refine wpAnyH_takeD (i := 40) (d := some 173) (v := ?_) rfl rfl (by kernel_rfl) (by kernel_rfl) (by kernel_rfl) (fun _ _ _ h => h) (Or.inl ⟨by rfl, fun w hSw => ?_⟩) (by assumption) ?_
                            rotate_left
                            · first | (go_simp; done) | (go_simp; with_reducible rfl)
                            simp only [Act.put, List.setIfInBounds_toArray, List.set_cons_zero, List.set_cons_succ]
                            refine wpAnyH_takeD (i := 41) (d := some 174) (v := ?_) rfl rfl (by kernel_rfl) (by kernel_rfl) (by kernel_rfl) (fun _ _ _ h => h) (Or.inl ⟨by rfl, fun w hSw => ?_⟩) (by assumption) ?_
                            rotate_left
                            · first | (go_simp; done) | (go_simp; with_reducible rfl)
                            simp only [Act.put, List.setIfInBounds_toArray, List.set_cons_zero, List.set_cons_succ]
                            refine wpAnyH_takeD (i := 42) (d := some 175) (v := ?_) rfl rfl (by kernel_rfl) (by kernel_rfl) (by kernel_rfl) (fun _ _ _ h => h) (Or.inl ⟨by rfl, fun w hSw => ?_⟩) (by assumption) ?_
                            rotate_left
                            · first | (go_simp; done) | (go_simp; with_reducible rfl)
                            simp only [Act.put, List.setIfInBounds_toArray, List.set_cons_zero, List.set_cons_succ]
                            refine wpAnyH_done (by kernel_rfl) ?_ _
                            go_wp2_with fail
                            go_roundw
                            case rel => exact ⟨k + 1, by omega, by go_num, HBK.out.trans (hD3.mono HBK.out.size)⟩
                            case measure => simp [intOf]; omega
                          · have hq : ¬ (i : Int) < (L : Int) := by omega
                            go_wp2_with fail
                            refine wp_region_held_drew (S := fun W => Below wz.heap.size wz W) (by kernel_rfl) hD0 (fun hS => ?_)
                            refine wpAnyH_takeD (i := 0) (d := some 133) (v := ?_) rfl rfl (by kernel_rfl) (by kernel_rfl) (by kernel_rfl) (fun _ _ _ h => h) (Or.inl ⟨by rfl, fun w hSw => ?_⟩) (by assumption) ?_
                            rotate_left
                            · first | (go_simp; done) | (go_simp; with_reducible rfl)
                            simp only [Act.put, List.setIfInBounds_toArray, List.set_cons_zero, List.set_cons_succ]
                            refine wpAnyH_takeD (i := 1) (d := some 134) (v := ?_) rfl rfl (by kernel_rfl) (by kernel_rfl) (by kernel_rfl) (fun _ _ _ h => h) (Or.inl ⟨by rfl, fun w hSw => ?_⟩) (by assumption) ?_
                            rotate_left
                            · first | (go_simp; done) | (go_simp; with_reducible rfl)
                            simp only [Act.put, List.setIfInBounds_toArray, List.set_cons_zero, List.set_cons_succ]
                            refine wpAnyH_takeD (i := 2) (d := some 135) (v := ?_) rfl rfl (by kernel_rfl) (by kernel_rfl) (by kernel_rfl) (fun _ _ _ h => h) (Or.inl ⟨by rfl, fun w hSw => ?_⟩) (by assumption) ?_
                            rotate_left
                            · first | (go_simp; done) | (go_simp; with_reducible rfl)
                            simp only [Act.put, List.setIfInBounds_toArray, List.set_cons_zero, List.set_cons_succ]
                            refine wpAnyH_takeD (i := 3) (d := some 136) (v := ?_) rfl rfl (by kernel_rfl) (by kernel_rfl) (by kernel_rfl) (fun _ _ _ h => h) (Or.inl ⟨by rfl, fun w hSw => ?_⟩) (by assumption) ?_
                            rotate_left
                            · first | (go_simp; done) | (go_simp; with_reducible rfl)
                            simp only [Act.put, List.setIfInBounds_toArray, List.set_cons_zero, List.set_cons_succ]
                            refine wpAnyH_takeD (i := 4) (d := some 137) (v := ?_) rfl rfl (by kernel_rfl) (by kernel_rfl) (by kernel_rfl) (fun _ _ _ h => h) (Or.inl ⟨by rfl, fun w hSw => ?_⟩) (by assumption) ?_
                            rotate_left
                            · first | (go_simp; done) | (go_simp; with_reducible rfl)
                            simp only [Act.put, List.setIfInBounds_toArray, List.set_cons_zero, List.set_cons_succ]
                            refine wpAnyH_takeD (i := 5) (d := some 138) (v := ?_) rfl rfl (by kernel_rfl) (by kernel_rfl) (by kernel_rfl) (fun _ _ _ h => h) (Or.inl ⟨by rfl, fun w hSw => ?_⟩) (by assumption) ?_
                            rotate_left
                            · first | (go_simp; done) | (go_simp; with_reducible rfl)
                            simp only [Act.put, List.setIfInBounds_toArray, List.set_cons_zero, List.set_cons_succ]
                            refine wpAnyH_takeD (i := 6) (d := some 139) (v := ?_) rfl rfl (by kernel_rfl) (by kernel_rfl) (by kernel_rfl) (fun _ _ _ h => h) (Or.inl ⟨by rfl, fun w hSw => ?_⟩) (by assumption) ?_
                            rotate_left
                            · first | (go_simp; done) | (go_simp; with_reducible rfl)
                            simp only [Act.put, List.setIfInBounds_toArray, List.set_cons_zero, List.set_cons_succ]
                            refine wpAnyH_takeD (i := 7) (d := some 140) (v := ?_) rfl rfl (by kernel_rfl) (by kernel_rfl) (by kernel_rfl) (fun _ _ _ h => h) (Or.inl ⟨by rfl, fun w hSw => ?_⟩) (by assumption) ?_
                            rotate_left
                            · first | (go_simp; done) | (go_simp; with_reducible rfl)
                            simp only [Act.put, List.setIfInBounds_toArray, List.set_cons_zero, List.set_cons_succ]
                            refine wpAnyH_takeD (i := 8) (d := some 141) (v := ?_) rfl rfl (by kernel_rfl) (by kernel_rfl) (by kernel_rfl) (fun _ _ _ h => h) (Or.inl ⟨by rfl, fun w hSw => ?_⟩) (by assumption) ?_
                            rotate_left
                            · first | (go_simp; done) | (go_simp; with_reducible rfl)
                            simp only [Act.put, List.setIfInBounds_toArray, List.set_cons_zero, List.set_cons_succ]
                            refine wpAnyH_ready (rs := [9]) (by kernel_rfl) (by simp) ?_
                            refine AllReadyH.cons rfl (fun K hK => ?_) AllReadyH.nil
                            go_simp
                            refine (HRD.out _ _ (HBG.out.trans (hD0.mono HBG.out.size))).mono ?_
                            rintro e wb1 ⟨rfl, hb⟩
                            have hD1 := hD0.trans (hb.mono hD0.size)
                            clear hb
                            refine hK _ _ hD1 (fun hS' => ?_)
                            clear hK K hS
                            have hS := hS'
                            clear hS'
                            try simp only [Act.put, List.setIfInBounds_toArray, List.set_cons_zero, List.set_cons_succ]
                            refine wpAnyH_takeD (i := 10) (d := some 143) (v := ?_) rfl rfl (by kernel_rfl) (by kernel_rfl) (by kernel_rfl) (fun _ _ _ h => h) (Or.inl ⟨by rfl, fun w hSw => ?_⟩) (by assumption) ?_
                            rotate_left
                            · first | (go_simp; done) | (go_simp; with_reducible rfl)
                            simp only [Act.put, List.setIfInBounds_toArray, List.set_cons_zero, List.set_cons_succ]
                            refine wpAnyH_takeD (i := 11) (d := some 144) (v := ?_) rfl rfl (by kernel_rfl) (by kernel_rfl) (by kernel_rfl) (fun _ _ _ h => h) (Or.inl ⟨by rfl, fun w hSw => ?_⟩) (by assumption) ?_
                            rotate_left
                            · first | (go_simp; done) | (go_simp; with_reducible rfl)
                            simp only [Act.put, List.setIfInBounds_toArray, List.set_cons_zero, List.set_cons_succ]
                            refine wpAnyH_takeD (i := 12) (d := some 145) (v := ?_) rfl rfl (by kernel_rfl) (by kernel_rfl) (by kernel_rfl) (fun _ _ _ h => h) (Or.inl ⟨by rfl, fun w hSw => ?_⟩) (by assumption) ?_
                            rotate_left
                            · first | (go_simp; done) | (go_simp; with_reducible rfl)
                            simp only [Act.put, List.setIfInBounds_toArray, List.set_cons_zero, List.set_cons_succ]
                            refine wpAnyH_takeD (i := 13) (d := some 146) (v := ?_) rfl rfl (by kernel_rfl) (by kernel_rfl) (by kernel_rfl) (fun _ _ _ h => h) (Or.inl ⟨by rfl, fun w hSw => ?_⟩) (by assumption) ?_
                            rotate_left
                            · first | (go_simp; done) | (go_simp; with_reducible rfl)
                            simp only [Act.put, List.setIfInBounds_toArray, List.set_cons_zero, List.set_cons_succ]
                            refine wpAnyH_takeD (i := 14) (d := some 147) (v := ?_) rfl rfl (by kernel_rfl) (by kernel_rfl) (by kernel_rfl) (fun _ _ _ h => h) (Or.inl ⟨by rfl, fun w hSw => ?_⟩) (by assumption) ?_
                            rotate_left
                            · first | (go_simp; done) | (go_simp; with_reducible rfl)
                            simp only [Act.put, List.setIfInBounds_toArray, List.set_cons_zero, List.set_cons_succ]
                            refine wpAnyH_takeD (i := 15) (d := some 148) (v := ?_) rfl rfl (by kernel_rfl) (by kernel_rfl) (by kernel_rfl) (fun _ _ _ h => h) (Or.inl ⟨by rfl, fun w hSw => ?_⟩) (by assumption) ?_
                            rotate_left
                            · first | (go_simp; done) | (go_simp; with_reducible rfl)
                            simp only [Act.put, List.setIfInBounds_toArray, List.set_cons_zero, List.set_cons_succ]
                            refine wpAnyH_takeD (i := 16) (d := some 149) (v := ?_) rfl rfl (by kernel_rfl) (by kernel_rfl) (by kernel_rfl) (fun _ _ _ h => h) (Or.inl ⟨by rfl, fun w hSw => ?_⟩) (by assumption) ?_
                            rotate_left
                            · first | (go_simp; done) | (go_simp; with_reducible rfl)
                            simp only [Act.put, List.setIfInBounds_toArray, List.set_cons_zero, List.set_cons_succ]
                            refine wpAnyH_takeD (i := 17) (d := some 150) rfl rfl (by kernel_rfl) (by kernel_rfl) (by kernel_rfl) (fun _ _ _ h => h) (Or.inr ⟨by rfl, rfl⟩) (by assumption) ?_
                            simp only [Act.put, List.setIfInBounds_toArray, List.set_cons_zero, List.set_cons_succ]
                            refine wpAnyH_takeD (i := 18) (d := some 151) rfl rfl (by kernel_rfl) (by kernel_rfl) (by kernel_rfl) (fun _ _ _ h => h) (Or.inr ⟨by rfl, rfl⟩) (by assumption) ?_
                            simp only [Act.put, List.setIfInBounds_toArray, List.set_cons_zero, List.set_cons_succ]
                            refine wpAnyH_takeD (i := 19) (d := some 152) rfl rfl (by kernel_rfl) (by kernel_rfl) (by kernel_rfl) (fun _ _ _ h => h) (Or.inr ⟨by rfl, rfl⟩) (by assumption) ?_
                            simp only [Act.put, List.setIfInBounds_toArray, List.set_cons_zero, List.set_cons_succ]
                            refine wpAnyH_takeD (i := 20) (d := some 153) rfl rfl (by kernel_rfl) (by kernel_rfl) (by kernel_rfl) (fun _ _ _ h => h) (Or.inr ⟨by rfl, rfl⟩) (by assumption) ?_
                            simp only [Act.put, List.setIfInBounds_toArray, List.set_cons_zero, List.set_cons_succ]
                            refine wpAnyH_takeD (i := 21) (d := some 154) rfl rfl (by kernel_rfl) (by kernel_rfl) (by kernel_rfl) (fun _ _ _ h => h) (Or.inr ⟨by rfl, rfl⟩) (by assumption) ?_
                            simp only [Act.put, List.setIfInBounds_toArray, List.set_cons_zero, List.set_cons_succ]
                            refine wpAnyH_takeD (i := 22) (d := some 155) rfl rfl (by kernel_rfl) (by kernel_rfl) (by kernel_rfl) (fun _ _ _ h => h) (Or.inr ⟨by rfl, rfl⟩) (by assumption) ?_
                            simp only [Act.put, List.setIfInBounds_toArray, List.set_cons_zero, List.set_cons_succ]
                            refine wpAnyH_takeD (i := 23) (d := some 156) rfl rfl (by kernel_rfl) (by kernel_rfl) (by kernel_rfl) (fun _ _ _ h => h) (Or.inr ⟨by rfl, rfl⟩) (by assumption) ?_
                            simp only [Act.put, List.setIfInBounds_toArray, List.set_cons_zero, List.set_cons_succ]
                            refine wpAnyH_takeD (i := 24) (d := some 157) rfl rfl (by kernel_rfl) (by kernel_rfl) (by kernel_rfl) (fun _ _ _ h => h) (Or.inr ⟨by rfl, rfl⟩) (by assumption) ?_
                            simp only [Act.put, List.setIfInBounds_toArray, List.set_cons_zero, List.set_cons_succ]
                            refine wpAnyH_takeD (i := 25) (d := some 158) rfl rfl (by kernel_rfl) (by kernel_rfl) (by kernel_rfl) (fun _ _ _ h => h) (Or.inr ⟨by rfl, rfl⟩) (by assumption) ?_
                            simp only [Act.put, List.setIfInBounds_toArray, List.set_cons_zero, List.set_cons_succ]
                            refine wpAnyH_takeD (i := 26) (d := some 159) rfl rfl (by kernel_rfl) (by kernel_rfl) (by kernel_rfl) (fun _ _ _ h => h) (Or.inr ⟨by rfl, rfl⟩) (by assumption) ?_
                            simp only [Act.put, List.setIfInBounds_toArray, List.set_cons_zero, List.set_cons_succ]
                            refine wpAnyH_takeD (i := 27) (d := some 160) rfl rfl (by kernel_rfl) (by kernel_rfl) (by kernel_rfl) (fun _ _ _ h => h) (Or.inr ⟨by rfl, rfl⟩) (by assumption) ?_
                            simp only [Act.put, List.setIfInBounds_toArray, List.set_cons_zero, List.set_cons_succ]
                            refine wpAnyH_takeD (i := 28) (d := some 161) rfl rfl (by kernel_rfl) (by kernel_rfl) (by kernel_rfl) (fun _ _ _ h => h) (Or.inr ⟨by rfl, rfl⟩) (by assumption) ?_
                            simp only [Act.put, List.setIfInBounds_toArray, List.set_cons_zero, List.set_cons_succ]
                            refine wpAnyH_takeD (i := 29) (d := some 162) rfl rfl (by kernel_rfl) (by kernel_rfl) (by kernel_rfl) (fun _ _ _ h => h) (Or.inr ⟨by rfl, rfl⟩) (by assumption) ?_
                            simp only [Act.put, List.setIfInBounds_toArray, List.set_cons_zero, List.set_cons_succ]
                            refine wpAnyH_takeD (i := 30) (d := some 163) rfl rfl (by kernel_rfl) (by kernel_rfl) (by kernel_rfl) (fun _ _ _ h => h) (Or.inr ⟨by rfl, rfl⟩) (by assumption) ?_
                            simp only [Act.put, List.setIfInBounds_toArray, List.set_cons_zero, List.set_cons_succ]
                            refine wpAnyH_takeD (i := 31) (d := some 164) rfl rfl (by kernel_rfl) (by kernel_rfl) (by kernel_rfl) (fun _ _ _ h => h) (Or.inr ⟨by rfl, rfl⟩) (by assumption) ?_
                            simp only [Act.put, List.setIfInBounds_toArray, List.set_cons_zero, List.set_cons_succ]
                            refine wpAnyH_takeD (i := 32) (d := some 165) rfl rfl (by kernel_rfl) (by kernel_rfl) (by kernel_rfl) (fun _ _ _ h => h) (Or.inr ⟨by rfl, rfl⟩) (by assumption) ?_
                            simp only [Act.put, List.setIfInBounds_toArray, List.set_cons_zero, List.set_cons_succ]
                            refine wpAnyH_takeD (i := 33) (d := some 166) rfl rfl (by kernel_rfl) (by kernel_rfl) (by kernel_rfl) (fun _ _ _ h => h) (Or.inr ⟨by rfl, rfl⟩) (by assumption) ?_
                            simp only [Act.put, List.setIfInBounds_toArray, List.set_cons_zero, List.set_cons_succ]
                            refine wpAnyH_takeD (i := 34) (d := some 167) rfl rfl (by kernel_rfl) (by kernel_rfl) (by kernel_rfl) (fun _ _ _ h => h) (Or.inr ⟨by rfl, rfl⟩) (by assumption) ?_
                            simp only [Act.put, List.setIfInBounds_toArray, List.set_cons_zero, List.set_cons_succ]
                            refine wpAnyH_takeD (i := 35) (d := some 168) rfl rfl (by kernel_rfl) (by kernel_rfl) (by kernel_rfl) (fun _ _ _ h => h) (Or.inr ⟨by rfl, rfl⟩) (by assumption) ?_
                            simp only [Act.put, List.setIfInBounds_toArray, List.set_cons_zero, List.set_cons_succ]
                            refine wpAnyH_takeD (i := 36) (d := some 169) rfl rfl (by kernel_rfl) (by kernel_rfl) (by kernel_rfl) (fun _ _ _ h => h) (Or.inr ⟨by rfl, rfl⟩) (by assumption) ?_
                            simp only [Act.put, List.setIfInBounds_toArray, List.set_cons_zero, List.set_cons_succ]
                            refine wpAnyH_takeD (i := 37) (d := some 170) rfl rfl (by kernel_rfl) (by kernel_rfl) (by kernel_rfl) (fun _ _ _ h => h) (Or.inr ⟨by rfl, rfl⟩) (by assumption) ?_
                            simp only [Act.put, List.setIfInBounds_toArray, List.set_cons_zero, List.set_cons_succ]
                            refine wpAnyH_takeD (i := 38) (d := some 171) rfl rfl (by kernel_rfl) (by kernel_rfl) (by kernel_rfl) (fun _ _ _ h => h) (Or.inr ⟨by rfl, rfl⟩) (by assumption) ?_
                            simp only [Act.put, List.setIfInBounds_toArray, List.set_cons_zero, List.set_cons_succ]
                            refine wpAnyH_takeD (i := 39) (d := some 172) rfl rfl (by kernel_rfl) (by kernel_rfl) (by kernel_rfl) (fun _ _ _ h => h) (Or.inr ⟨by rfl, rfl⟩) (by assumption) ?_
                            simp only [Act.put, List.setIfInBounds_toArray, List.set_cons_zero, List.set_cons_succ]
                            refine wpAnyH_takeD (i := 40) (d := some 173) rfl rfl (by kernel_rfl) (by kernel_rfl) (by kernel_rfl) (fun _ _ _ h => h) (Or.inr ⟨by rfl, rfl⟩) (by assumption) ?_
                            simp only [Act.put, List.setIfInBounds_toArray, List.set_cons_zero, List.set_cons_succ]
                            refine wpAnyH_takeD (i := 41) (d := some 174) (v := ?_) rfl rfl (by kernel_rfl) (by kernel_rfl) (by kernel_rfl) (fun _ _ _ h => h) (Or.inl ⟨by rfl, fun w hSw => ?_⟩) (by assumption) ?_
                            rotate_left
                            · first | (go_simp; done) | (go_simp; with_reducible rfl)
                            simp only [Act.put, List.setIfInBounds_toArray, List.set_cons_zero, List.set_cons_succ]
                            refine wpAnyH_takeD (i := 42) (d := some 175) (v := ?_) rfl rfl (by kernel_rfl) (by kernel_rfl) (by kernel_rfl) (fun _ _ _ h => h) (Or.inl ⟨by rfl, fun w hSw => ?_⟩) (by assumption) ?_
                            rotate_left
                            · first | (go_simp; done) | (go_simp; with_reducible rfl)
                            simp only [Act.put, List.setIfInBounds_toArray, List.set_cons_zero, List.set_cons_succ]
                            refine wpAnyH_done (by kernel_rfl) ?_ _
                            go_wp2_with fail
                            go_roundw
                            case rel => exact ⟨k + 1, by omega, by go_num, HBK.out.trans (hD1.mono HBK.out.size)⟩
                            case measure => simp [intOf]; omega
                        · obtain rfl : k = 6 := by omega
                          rw [show ((6 : Nat) : Int) = 6 from rfl]
                          have HBK := Lib.hid (HBI.out.trans (hBk.mono HBI.out.size))
                          clear hBk
                          go_wp2_with fail
                          go_roundw
                          case rel => exact ⟨i + 1, by omega, by go_num, HBK.out⟩
                          case measure => simp [intOf]; omega
                    · obtain rfl : i = L1 := by omega
                      have HBI := Lib.hid (HBJ.out.trans (hBi.mono HBJ.out.size))
                      clear hBi
                      go_wp2_with fail
                      go_roundw
                      case rel => exact ⟨j + 1, by omega, by go_num, HBI.out⟩
                      case measure => simp [intOf]; omega
                · obtain rfl : j = 4 := by omega
                  rw [show ((4 : Nat) : Int) = 4 from rfl]
                  have HBZ := Lib.hid (HBF.out.trans (hBj.mono HBF.out.size))
                  clear hBj
                  have ht1 := fun W => HTL.out 0 (by decide) (-9223372036854775808) (by decide) (-9223372036854775808) (by decide) W
                  have ht2 := fun W => HTL.out 18446744073709551615 (by decide) 9223372036854775807 (by decide) 9223372036854775807 (by decide) W
                  have ht3 := fun W => HTL.out 6 (by decide) (-9223372036854775808) (by decide) 64 (by decide) W
                  rw [show ((0 : Nat) : Int) = 0 from rfl] at ht1
                  rw [show ((18446744073709551615 : Nat) : Int) = 18446744073709551615 from rfl] at ht2
                  rw [show ((6 : Nat) : Int) = 6 from rfl] at ht3
                  have HT1 := Lib.hid ht1
                  have HT2 := Lib.hid ht2
                  have HT3 := Lib.hid ht3
                  have HL4 := Lib.hid (fun W => HLS.out (.slice none 0 0) [] W (readsI_nil W))
                  clear ht1 ht2 ht3
                  go_wp2_with fail
                  refine (HT1.out _).mono ?_
                  rintro e w5 ⟨rfl, hb⟩
                  replace HBZ := Lib.hid (HBZ.out.trans (hb.mono HBZ.out.size))
                  clear hb
                  go_wp2_with fail
                  refine (HT2.out _).mono ?_
                  rintro e w6 ⟨rfl, hb⟩
                  replace HBZ := Lib.hid (HBZ.out.trans (hb.mono HBZ.out.size))
                  clear hb
                  go_wp2_with fail
                  refine (HT3.out _).mono ?_
                  rintro e w7 ⟨rfl, hb⟩
                  replace HBZ := Lib.hid (HBZ.out.trans (hb.mono HBZ.out.size))
                  clear hb
                  go_wp2_with fail
                  refine (HL4.out _).mono ?_
                  rintro e w8 ⟨rfl, hb⟩
                  replace HBZ := Lib.hid (HBZ.out.trans (hb.mono HBZ.out.size))
                  clear hb
                  go_wp2_with fail
                  refine (HAW.out _ HBZ.out).mono ?_
                  rintro e w9 ⟨rfl, hb⟩
                  replace HBZ := Lib.hid (HBZ.out.trans (hb.mono HBZ.out.size))
                  clear hb
                  go_wp2_with fail
                  go_ret
                  exact ⟨rfl, HBZ.out⟩
end Go.Proofs.YtjpkldndeakkkaaDoor
