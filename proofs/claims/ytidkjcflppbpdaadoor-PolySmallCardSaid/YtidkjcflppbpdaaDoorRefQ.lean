/- The reference of polynomials: the walks of Power, Order, Irreducible. -/
import Derived.Test.YtidkjcflppbpdaaDoorRefP
import Derived.Test.YtidkjcflppbpdaaDoorStr
import Derived.Test.YtidkjcflppbpdaaDoorOwnB
import Derived.Test.YtidkjcflppbpdaaDoorOrder
import Derived.Test.YtidkjcflppbpdaaDoorIrrD
namespace Go.Proofs.YtidkjcflppbpdaaDoor
open Go Go.RowKit Go.Shelf

theorem rpower_zero (n : Int) (w : World) :
    Calls Tryd.prog 38 #[.int .i64 n, .int .u64 0] w fun e w' => e = .returned (.tuple #[.int .u64 0, .int .i64 2]) ∧ w = w' := by
  go_enter Tryd.func38, Tryd.ntmps38
  go_wp2_with fail
  go_ret2
  exact ⟨rfl, rfl⟩
theorem rpower_neg (n : Int) (m : Nat) (hn : n < 0) (hm0 : m ≠ 0) (w : World) :
    Calls Tryd.prog 38 #[.int .i64 n, .int .u64 m] w fun e w' => e = .returned (.tuple #[.int .u64 0, .int .i64 2]) ∧ w = w' := by
  have hbz : ((m : Int) == 0) = false := by simpa using hm0
  go_enter Tryd.func38, Tryd.ntmps38
  go_wp2_with fail
  go_ret2
  exact ⟨rfl, rfl⟩

theorem pow_sq {m : Nat} (hm : m ≠ 0) (h : Nat) : Gf.pmod (Gf.pmul (Gf.xm m h) (Gf.xm m h)) m = Gf.xm m (2 * h) := by
  unfold Gf.xm
  rw [Gf.pmod_mul_left _ _ hm, Gf.pmod_mul_right _ _ hm, Gf.xpow_add, Nat.two_mul]
theorem pow_sqx {m : Nat} (hm : m ≠ 0) (h : Nat) : Gf.pmod (Gf.pmul (Gf.pmul (Gf.xm m h) (Gf.xm m h)) 2) m = Gf.xm m (2 * h + 1) := by
  rw [← Gf.pmod_mul_left _ _ hm, pow_sq hm]
  unfold Gf.xm
  rw [Gf.pmod_mul_left _ _ hm, show (2 : Nat) = Gf.xpow 1 from rfl, Gf.xpow_add]
theorem half_bit (n k : Nat) : n / 2 ^ k = 2 * (n / 2 ^ (k + 1)) + (n.testBit k).toNat := by
  rw [Nat.toNat_testBit, Nat.pow_succ, ← Nat.div_div_eq_div_mul]
  exact (Nat.div_add_mod _ 2).symm
theorem coeffs_two : coeffs 2 = [0, 1] := rfl
theorem plen_two' : Gf.plen 2 = 2 := rfl

set_option maxRecDepth 100000 in
set_option maxHeartbeats 2000000 in
theorem rpower_any (n m : Nat) (hn : n ≤ 9223372036854775807) (hm : m < 18446744073709551616) (hm0 : m ≠ 0) (w : World) :
    Calls Tryd.prog 38 #[.int .i64 (n : Int), .int .u64 m] w fun e w' => e = .returned (.tuple #[.int .u64 (Gf.xm m n), .int .i64 0]) ∧ Below w.heap.size w w' := by
  have lm := plen_le64 hm
  have hbz : ((m : Int) == 0) = false := by simpa using hm0
  have hnz : decide ((n : Int) < 0) = false := decide_eq_false (by omega)
  have hpl : ∀ j, Gf.plen (Gf.xm m j) ≤ 64 := fun j => by have := Gf.plen_pmod (Gf.xpow j) hm0; unfold Gf.xm; omega
  have hn63 : n / 2 ^ 63 = 0 := Nat.div_eq_of_lt (by omega)
  have hA : Below w.heap.size w (w.alloc (.cells #[.int .i64 1] 3)) := bel_alloc w _
  have hq1 := reads_one .i64 w 1 3 1 rfl
  have HN63 := Lib.hid hn63
  have Q1 := Lib.hid hq1
  have HPL := Lib.hid hpl
  clear hn63 hq1 hpl
  go_enter Tryd.func38, Tryd.ntmps38
  go_wp2_with fail
  refine (of_any m hm _).mono ?_
  rintro e w1 ⟨v1, rfl, hr1, hb1⟩
  have hB1 := bel_trans hA hb1 (by simp)
  have R0 := Lib.hid (Q1.out.keep hb1 (Nat.le_refl _))
  have R1 := Lib.hid hr1
  clear hb1 hr1 Q1 hA
  go_wp2_with fail
  refine (divide_any 1 m _ _ _ (by rw [coeffs_one]; exact R0.out) R1.out hm0 (by decide)).mono ?_
  rintro e w2 ⟨vq, vr, rfl, hrq, hrr, hb2⟩
  have hB2 := hB1.trans (hb2.mono hB1.size)
  clear hrq hb2 R0 R1
  go_wp2_with fail
  go_loopw [7, 8] (fun vo vi wr => ∃ k : Nat, k ≤ 63 ∧ vi = .int .i64 ((k : Int) - 1) ∧ Reads .i64 wr vo (coeffs (Gf.xm m (n / 2 ^ k))) ∧ Below w.heap.size w wr)
    (fun _ vi _ => (intOf vi + 1).toNat)
  case atStart => exact ⟨63, by omega, rfl, by rw [HN63.out]; exact hrr, hB2⟩
  case round =>
    obtain ⟨k, hk, rfl, hro, hBr⟩ := hrel
    have RO := Lib.hid hro
    clear hro hrr
    cases k with
    | zero =>
      have RO' := RO.out
      rw [Nat.pow_zero, Nat.div_one] at RO'
      have RO2 := Lib.hid RO'
      have n2 := numV_fit (HPL.out n)
      have N2 := Lib.hid n2
      clear RO' RO n2
      go_wp2_with fail
      refine (rnum_any _ _ _ RO2.out).mono ?_
      rintro e w4 ⟨rfl, rfl⟩
      rw [N2.out]
      go_wp2_with fail
      go_ret2
      exact ⟨rfl, hBr⟩
    | succ k =>
      have hh := half_bit n k
      have hx0 := pow_sq hm0 (n / 2 ^ (k + 1))
      have hx1 := pow_sqx hm0 (n / 2 ^ (k + 1))
      have hxl := HPL.out (n / 2 ^ (k + 1))
      have h2 := rem2_u64 n k (by omega)
      obtain ⟨h, HH⟩ := nm (n / 2 ^ (k + 1))
      rw [HH.out] at hh hx0 hx1 hxl
      have RO1 : Hid (Reads .i64 wr (u7) (coeffs (Gf.xm m h))) := by rw [← HH.out]; exact RO
      have lp := plen_pmul_le' (Gf.xm m h) (Gf.xm m h)
      have lp2 := plen_pmul_le' (Gf.pmul (Gf.xm m h) (Gf.xm m h)) 2
      rw [plen_two'] at lp2
      have HH0 := Lib.hid hh
      have HX0 := Lib.hid hx0
      have HX1 := Lib.hid hx1
      clear hh hx0 hx1
      go_wp2_with fail
      refine (rprod_any (Gf.xm m h) (Gf.xm m h) _ _ _ RO1.out RO1.out (by omega) (by omega)).mono ?_
      rintro e w3 ⟨v3, rfl, hr3, hb3⟩
      have hB3 := hBr.trans (hb3.mono hBr.size)
      have R3 := Lib.hid hr3
      clear hb3 hr3 RO RO1
      cases hbt : n.testBit k
      · rw [hbt] at h2
        have HB := Lib.hid hbt
        clear hbt
        go_wp2_with fail
        refine (of_any m hm _).mono ?_
        rintro e w4 ⟨v4, rfl, hr4, hb4⟩
        have hB4 := hB3.trans (hb4.mono hB3.size)
        have R3' := Lib.hid (R3.out.keep hb4 (Nat.le_refl _))
        have R4 := Lib.hid hr4
        clear hb4 hr4 R3 hB3
        go_wp2_with fail
        refine (divide_any _ m _ _ _ R3'.out R4.out hm0 (by omega)).mono ?_
        rintro e w5 ⟨vq5, vr5, rfl, hrq5, hrr5, hb5⟩
        have hB5 := hB4.trans (hb5.mono hB4.size)
        clear hb5 hrq5
        go_wp2_with fail
        go_roundw
        case rel => exact ⟨k, by omega, rfl, by rw [HH0.out, HB.out, show false.toNat = 0 from rfl, Nat.add_zero, ← HX0.out]; exact hrr5, hB5⟩
        case measure => simp [intOf]
      · rw [hbt] at h2
        have HB := Lib.hid hbt
        have hA3 := hB3.alloc hB3.size (.cells #[.int .i64 0, .int .i64 1] 3)
        have hr2 := reads_lit .i64 w3 [0, 1] 3 (0, 0) #[.int .i64 0, .int .i64 1] 2 rfl rfl (by decide)
        have R2 := Lib.hid hr2
        have R3' := Lib.hid (R3.out.keep (bel_alloc w3 (.cells #[.int .i64 0, .int .i64 1] 3)) (Nat.le_refl _))
        clear hbt hr2 R3
        go_wp2_with fail
        refine (rprod_any _ 2 _ _ _ R3'.out (by rw [coeffs_two]; exact R2.out) (by omega) (by decide)).mono ?_
        rintro e w4 ⟨v4, rfl, hr4, hb4⟩
        have hB4 := bel_trans hA3 hb4 (by simp; exact Nat.le_succ_of_le hB3.size)
        have R4 := Lib.hid hr4
        clear hb4 hr4 R3' R2 hB3 hA3
        go_wp2_with fail
        refine (of_any m hm _).mono ?_
        rintro e w5 ⟨v5, rfl, hr5, hb5⟩
        have hB5 := hB4.trans (hb5.mono hB4.size)
        have R4' := Lib.hid (R4.out.keep hb5 (Nat.le_refl _))
        have R5 := Lib.hid hr5
        clear hb5 hr5 R4 hB4
        go_wp2_with fail
        refine (divide_any _ m _ _ _ R4'.out R5.out hm0 (by omega)).mono ?_
        rintro e w6 ⟨vq6, vr6, rfl, hrq6, hrr6, hb6⟩
        have hB6 := hB5.trans (hb6.mono hB5.size)
        clear hb6 hrq6
        go_wp2_with fail
        go_roundw
        case rel => exact ⟨k, by omega, rfl, by rw [HH0.out, HB.out, show true.toNat = 1 from rfl, ← HX1.out]; exact hrr6, hB6⟩
        case measure => simp [intOf]

set_option maxRecDepth 100000 in
set_option maxHeartbeats 1000000 in
theorem rorder_any (m : Nat) (hm : m < 18446744073709551616) (w : World) :
    Calls Tryd.prog 29 #[.int .u64 m] w fun e w' => e = .returned (.tuple #[.int .i64 (ordV m), .int .i64 (ordE m)]) ∧ Below w.heap.size w w' := by
  have hd := of_any m hm
  have hpl64 := plen_le64 hm
  have hmo : (m : Int).tmod 2 = ((m % 2 : Nat) : Int) := rfl
  by_cases h1 : Gf.plen m < 2
  · have hv : ordV m = 0 := by unfold ordV; rw [if_pos (.inl h1)]
    have he : ordE m = 2 := by unfold ordE; rw [if_pos (.inl h1)]
    rw [hv, he]
    have HD := Lib.hid hd
    clear hv he hmo hd
    go_enter Tryd.func29, Tryd.ntmps29
    go_wp2_with fail
    refine (HD.out _).mono ?_
    rintro e w1 ⟨v1, rfl, ⟨a, cap, rfl, _, _, hx⟩, hb1⟩
    clear hx
    rw [coeffs_length]
    obtain ⟨pm, HPM⟩ := nm (Gf.plen m)
    rw [HPM.out] at h1 hpl64 ⊢
    go_wp2_with fail
    go_ret2
    exact ⟨rfl, hb1⟩
  · by_cases h2 : 21 < Gf.plen m
    · have hv : ordV m = 0 := by unfold ordV; rw [if_pos (.inr (.inl h2))]
      have he : ordE m = 2 := by unfold ordE; rw [if_pos (.inr h2)]
      rw [hv, he]
      have HD := Lib.hid hd
      clear hv he hmo hd
      go_enter Tryd.func29, Tryd.ntmps29
      go_wp2_with fail
      refine (HD.out _).mono ?_
      rintro e w1 ⟨v1, rfl, ⟨a, cap, rfl, _, _, hx⟩, hb1⟩
      clear hx
      rw [coeffs_length]
      obtain ⟨pm, HPM⟩ := nm (Gf.plen m)
      rw [HPM.out] at h1 h2 hpl64 ⊢
      go_wp2_with fail
      go_ret2
      exact ⟨rfl, hb1⟩
    · by_cases h3 : m % 2 = 0
      · have hv : ordV m = 0 := by unfold ordV; rw [if_pos (.inr (.inr h3))]
        have he : ordE m = 6 := by unfold ordE; rw [if_neg (by omega), if_pos h3]
        rw [hv, he]
        rw [h3] at hmo
        have HD := Lib.hid hd
        clear hv he h3 hd
        go_enter Tryd.func29, Tryd.ntmps29
        go_wp2_with fail
        refine (HD.out _).mono ?_
        rintro e w1 ⟨v1, rfl, ⟨a, cap, rfl, _, _, hx⟩, hb1⟩
        clear hx
        rw [coeffs_length]
        obtain ⟨pm, HPM⟩ := nm (Gf.plen m)
        rw [HPM.out] at h1 h2 hpl64 ⊢
        go_wp2_with fail
        go_ret2
        exact ⟨rfl, hb1⟩
      · have ho : m % 2 = 1 := by omega
        have hv : ordV m = Gf.ord m := by unfold ordV; rw [if_neg (by omega)]
        have he : ordE m = 0 := by unfold ordE; rw [if_neg (by omega), if_neg h3]
        rw [hv, he]
        rw [ho] at hmo
        have hm0 : m ≠ 0 := by omega
        obtain ⟨N1, N2, N3, N4⟩ := Gf.ord_ok (m := m) (by omega) ho
        have hx0 : Gf.xm m 0 = 1 := Gf.xm_zero (m := m) (by omega)
        have hp := rpower_any 0 m (by decide) hm hm0
        rw [hx0] at hp
        have hsu := fun n => Gf.xm_succ hm0 n
        have hxl := fun n => Gf.plen_pmod (Gf.xpow n) hm0
        have hst := fun n => Gf.pmod_step (a := Gf.xm m n) hm0 (hxl n)
        obtain ⟨pm, HPM⟩ := nm (Gf.plen m)
        rw [HPM.out] at h1 h2 hpl64 N3
        simp only [HPM.out] at hxl hst
        obtain ⟨dd, hdd⟩ : ∃ dd : Nat, pm = dd + 1 := ⟨pm - 1, by omega⟩
        have hni : (pm : Int) - 1 = (dd : Int) := by omega
        have hdl : dd ≤ 20 := by omega
        have hdl1 : 1 ≤ dd := by omega
        have hN : Gf.ord m ≤ 1048576 := Nat.le_trans N3 (by rw [hdd]; exact show 2 ^ dd ≤ 2 ^ 20 from Nat.pow_le_pow_right (by decide) hdl)
        obtain ⟨N, HN⟩ := nm (Gf.ord m)
        rw [HN.out] at N1 N2 N4 hN ⊢
        have HN1 := Lib.hid N1
        have HN4 := Lib.hid N4
        have HNI := Lib.hid hni
        have HDD := Lib.hid hdd
        have HD := Lib.hid hd
        have HP := Lib.hid hp
        have HSUA := Lib.hid hsu
        have HXL := Lib.hid hxl
        have HST := Lib.hid hst
        have HX0 := Lib.hid hx0
        clear hv he h3 ho N1 N3 N4 hni hdd hd hp hsu hxl hst hx0
        go_enter Tryd.func29, Tryd.ntmps29
        go_wp2_with fail
        refine (HD.out _).mono ?_
        rintro e w1 ⟨v1, rfl, ⟨a, cap, rfl, _, _, hx⟩, hb1⟩
        clear hx
        rw [coeffs_length, HPM.out]
        go_wp2_with fail
        rw [HNI.out]
        refine (HP.out _).mono ?_
        rintro e w2 ⟨rfl, hb2⟩
        have hB2 := hb1.trans (hb2.mono hb1.size)
        clear hb1 hb2
        go_wp2_with fail
        go_loopw [7, 8] (fun va vn wr => ∃ n : Nat, n < N ∧ va = .int .u64 ((Gf.xm m n : Nat) : Int) ∧ vn = .int .i64 ((n : Int) + 1) ∧ w2 = wr) (fun _ vn _ => N - (intOf vn).toNat)
        case atStart => exact ⟨0, by omega, by rw [HX0.out]; rfl, rfl, rfl⟩
        case round =>
          obtain ⟨n, hn2, rfl, rfl, rfl⟩ := hrel
          have hsu := HSUA.out n
          have hst := HST.out n
          have hxl : Gf.plen (Gf.xm m n) ≤ dd := by
            have := HXL.out n
            rw [HDD.out] at this
            show Gf.plen (Gf.pmod _ m) ≤ dd
            omega
          rw [HDD.out, show dd + 1 - 1 = dd from rfl] at hst
          rw [hst] at hsu
          obtain ⟨x, HX⟩ := nm (Gf.xm m n)
          rw [HX.out] at hsu hxl ⊢
          have hx20 : x < 1048576 := Nat.lt_of_lt_of_le (Gf.plen_le.1 hxl) (show 2 ^ dd ≤ 2 ^ 20 from Nat.pow_le_pow_right (by decide) hdl)
          have hs21 : x <<< 1 < 2097152 := by rw [Nat.shiftLeft_eq]; omega
          have hsl : (x : Int) * (2 : Int) = ((x <<< 1 : Nat) : Int) := by rw [Nat.shiftLeft_eq]; omega
          have hbt := rem2_u64 (x <<< 1) dd (by omega)
          have hxx := u64_xor_nat (x <<< 1) m (by omega) hm
          obtain ⟨s, HS⟩ := nm (x <<< 1)
          rw [HS.out] at hsl hs21 hbt hxx hsu
          obtain ⟨sx, HSX⟩ := nm (s ^^^ m)
          rw [HSX.out] at hxx hsu
          have hone : ∀ z : Nat, Gf.xm m (n + 1) = z → (n + 1 < N → ((z : Int) == 1) = false) ∧ (n + 1 = N → ((z : Int) == 1) = true) := by
            intro z hz
            refine ⟨fun h => beq_false_of_ne fun h2 => HN4.out (n + 1) (by omega) h (by rw [hz]; omega), fun h => ?_⟩
            have := HN1.out
            rw [← h, hz] at this
            rw [this]; rfl
          have HSU := Lib.hid hsu
          have HONE := Lib.hid hone
          clear hsu hst hone
          by_cases hlt : n + 1 < N
          · cases hbit : s.testBit dd
            · rw [hbit] at hbt HSU
              have h1' := (HONE.out s HSU.out).1 hlt
              clear hbit
              go_wp2_with fail
              go_roundw
              case rel => exact ⟨n + 1, hlt, by rw [HSU.out]; rfl, by go_num, (by first | rfl | trivial)⟩
              case measure => simp [intOf]; omega
            · rw [hbit] at hbt HSU
              have h1' := (HONE.out sx HSU.out).1 hlt
              clear hbit
              go_wp2_with fail
              go_roundw
              case rel => exact ⟨n + 1, hlt, by rw [HSU.out]; rfl, by go_num, (by first | rfl | trivial)⟩
              case measure => simp [intOf]; omega
          · have heq : n + 1 = N := by omega
            cases hbit : s.testBit dd
            · rw [hbit] at hbt HSU
              have h1' := (HONE.out s HSU.out).2 heq
              have HEQ := Lib.hid heq
              clear hbit heq
              go_wp2_with fail
              go_ret2
              exact ⟨by rw [← HEQ.out]; rfl, hB2⟩
            · rw [hbit] at hbt HSU
              have h1' := (HONE.out sx HSU.out).2 heq
              have HEQ := Lib.hid heq
              clear hbit heq
              go_wp2_with fail
              go_ret2
              exact ⟨by rw [← HEQ.out]; rfl, hB2⟩
set_option maxRecDepth 100000 in
set_option maxHeartbeats 1000000 in
theorem rirr_small (p : Nat) (hp : p < 18446744073709551616) (h2 : Gf.plen p < 2) (w : World) :
    Calls Tryd.prog 30 #[.int .u64 p] w fun e w' => e = .returned (.bool (irrB p)) ∧ Below w.heap.size w w' := by
  have hi : irrB p = false := by unfold irrB; rw [if_pos h2]
  rw [hi]
  clear hi
  go_enter Tryd.func30, Tryd.ntmps30
  go_wp2_with fail
  refine (of_any p hp _).mono ?_
  rintro e w1 ⟨v1, rfl, ⟨a, cap, rfl, _, _, hx⟩, hb1⟩
  clear hx
  rw [coeffs_length]
  obtain ⟨pm, HPM⟩ := nm (Gf.plen p)
  rw [HPM.out] at h2 ⊢
  go_wp2_with fail
  go_ret
  exact ⟨rfl, hb1⟩
set_option maxRecDepth 100000 in
set_option maxHeartbeats 1000000 in
theorem rirr_true (p : Nat) (hp : p < 131072) (h2 : 2 ≤ Gf.plen p) (hi : irrB p = true) (w : World) :
    Calls Tryd.prog 30 #[.int .u64 p] w fun e w' => e = .returned (.bool true) ∧ Below w.heap.size w w' := by
  have hl : Gf.plen p ≤ 17 := Gf.plen_le.2 hp
  have hno := fun b => @irrB_no p b hi
  have o1 := of_any p (by omega)
  have d1 := fun b (hb : 2 ≤ b) (hb2 : b ≤ 512) => rdiv_any p b (by omega) (by omega) (by omega)
  have hcl := coeffs_length p
  obtain ⟨pm, HPM⟩ := nm (Gf.plen p)
  rw [HPM.out] at h2 hl hcl
  simp only [HPM.out] at hno
  obtain ⟨dd, hdd⟩ : ∃ dd : Nat, pm = dd + 1 := ⟨pm - 1, by omega⟩
  have hni : (pm : Int) - 1 = (dd : Int) := by omega
  have hdl : 1 ≤ dd ∧ dd ≤ 16 := by omega
  have hno2 : ∀ b, 2 ≤ b → Gf.plen b ≤ dd / 2 + 1 → Gf.pmod p b ≠ 0 := fun b h1 h3 => hno b h1 (by rw [hdd]; omega)
  have O1 := Lib.hid o1
  have D1 := Lib.hid d1
  have HCL := Lib.hid hcl
  have HNI := Lib.hid hni
  have HNO := Lib.hid hno2
  clear o1 d1 hcl hni hno hno2 hdd hi
  go_enter Tryd.func30, Tryd.ntmps30
  go_wp2_with fail
  refine (O1.out _).mono ?_
  rintro e w1 ⟨v1, rfl, ⟨a, cap, rfl, _, _, hx⟩, hb1⟩
  clear hx
  rw [HCL.out]
  go_wp2_with fail
  rw [HNI.out]
  go_wp2_with fail
  go_loopw [4] (fun vb wr => ∃ b : Nat, 2 ≤ b ∧ b ≤ 512 ∧ vb = .int .u64 (b : Int) ∧ Below w.heap.size w wr) (fun vb _ => 512 - (intOf vb).toNat)
  case atStart => exact ⟨2, by omega, by omega, rfl, hb1⟩
  case round =>
    obtain ⟨b, hb2, hb512, rfl, hBr⟩ := hrel
    have o2 := of_any b (by omega)
    have hcl := coeffs_length b
    have hb9 : Gf.plen b ≤ 9 → b < 512 := fun h => Gf.plen_le.1 h
    have hb64 := plen_le64 (a := b) (by omega)
    have hno := HNO.out b hb2
    obtain ⟨pb, HPB⟩ := nm (Gf.plen b)
    rw [HPB.out] at hcl hb9 hno hb64
    have O2 := Lib.hid o2
    have HCB := Lib.hid hcl
    clear o2 hcl
    go_wp2_with fail
    refine (O2.out _).mono ?_
    rintro e w2 ⟨v2, rfl, ⟨a2, cap2, rfl, _, _, hx⟩, hb2'⟩
    clear hx
    rw [HCB.out]
    have hB2 := hBr.trans (hb2'.mono hBr.size)
    clear hb2' hBr
    by_cases hle : pb ≤ dd / 2 + 1
    · have hn := hno hle
      have d2 := D1.out b hb2 hb512
      have hb5 := hb9 (by omega)
      obtain ⟨r, HR⟩ := nm (Gf.pmod p b)
      obtain ⟨q, HQ⟩ := nm (Gf.pdiv p b)
      rw [HR.out, HQ.out] at d2
      rw [HR.out] at hn
      have hrz : ((r : Int) == 0) = false := beq_false_of_ne (by omega)
      have D2 := Lib.hid d2
      clear d2 hn hno hb9
      go_wp2_with fail
      refine (D2.out _).mono ?_
      rintro e w3 ⟨rfl, hb3⟩
      have hB3 := hB2.trans (hb3.mono hB2.size)
      clear hb3 hB2
      go_wp2_with fail
      go_roundw
      case rel => exact ⟨b + 1, by omega, by omega, by go_num, hB3⟩
      case measure => simp [intOf]; omega
    · clear hno hb9
      go_wp2_with fail
      go_ret
      exact ⟨rfl, hB2⟩
set_option maxRecDepth 100000 in
set_option maxHeartbeats 1000000 in
theorem rirr_false (p : Nat) (hp : p < 131072) (h2 : 2 ≤ Gf.plen p) (hi : irrB p = false) (w : World) :
    Calls Tryd.prog 30 #[.int .u64 p] w fun e w' => e = .returned (.bool false) ∧ Below w.heap.size w w' := by
  have hl : Gf.plen p ≤ 17 := Gf.plen_le.2 hp
  obtain ⟨f, hf2, hfl, hfd⟩ := irrB_div h2 hl hi
  have hmono := fun b (h : b ≤ f) => Gf.plen_mono h
  have hf512 : f < 512 := (Gf.plen_le (n := 9)).1 (by omega)
  have o1 := of_any p (by omega)
  have d1 := fun b (hb : 2 ≤ b) (hb2 : b ≤ 512) => rdiv_any p b (by omega) (by omega) (by omega)
  have hcl := coeffs_length p
  obtain ⟨pm, HPM⟩ := nm (Gf.plen p)
  rw [HPM.out] at h2 hl hcl hfl
  obtain ⟨dd, hdd⟩ : ∃ dd : Nat, pm = dd + 1 := ⟨pm - 1, by omega⟩
  have hni : (pm : Int) - 1 = (dd : Int) := by omega
  have hdl : 1 ≤ dd ∧ dd ≤ 16 := by omega
  have hle' : ∀ b, b ≤ f → Gf.plen b ≤ dd / 2 + 1 := fun b h => by have := hmono b h; rw [hdd] at hfl; omega
  have O1 := Lib.hid o1
  have D1 := Lib.hid d1
  have HCL := Lib.hid hcl
  have HNI := Lib.hid hni
  have HLE := Lib.hid hle'
  have HFD := Lib.hid hfd
  clear o1 d1 hcl hni hle' hdd hi hmono hfl hfd
  go_enter Tryd.func30, Tryd.ntmps30
  go_wp2_with fail
  refine (O1.out _).mono ?_
  rintro e w1 ⟨v1, rfl, ⟨a, cap, rfl, _, _, hx⟩, hb1⟩
  clear hx
  rw [HCL.out]
  go_wp2_with fail
  rw [HNI.out]
  go_wp2_with fail
  go_loopw [4] (fun vb wr => ∃ b : Nat, 2 ≤ b ∧ b ≤ f ∧ vb = .int .u64 (b : Int) ∧ Below w.heap.size w wr) (fun vb _ => 512 - (intOf vb).toNat)
  case atStart => exact ⟨2, by omega, by omega, rfl, hb1⟩
  case round =>
    obtain ⟨b, hb2, hbf, rfl, hBr⟩ := hrel
    have o2 := of_any b (by omega)
    have hcl := coeffs_length b
    have hle := HLE.out b hbf
    obtain ⟨pb, HPB⟩ := nm (Gf.plen b)
    rw [HPB.out] at hcl hle
    have O2 := Lib.hid o2
    have HCB := Lib.hid hcl
    clear o2 hcl
    go_wp2_with fail
    refine (O2.out _).mono ?_
    rintro e w2 ⟨v2, rfl, ⟨a2, cap2, rfl, _, _, hx⟩, hb2'⟩
    clear hx
    rw [HCB.out]
    have hB2 := hBr.trans (hb2'.mono hBr.size)
    clear hb2' hBr
    have d2 := D1.out b hb2 (by omega)
    have hbn : Gf.pmod p b ≠ 0 → b < f := fun h => by
      rcases Nat.lt_or_ge b f with h' | h'
      · exact h'
      · obtain rfl : b = f := by omega
        exact absurd HFD.out h
    obtain ⟨r, HR⟩ := nm (Gf.pmod p b)
    obtain ⟨q, HQ⟩ := nm (Gf.pdiv p b)
    rw [HR.out, HQ.out] at d2
    rw [HR.out] at hbn
    have D2 := Lib.hid d2
    clear d2
    by_cases hr0 : r = 0
    · have hrz : ((r : Int) == 0) = true := by rw [hr0]; rfl
      clear hr0 hbn
      go_wp2_with fail
      refine (D2.out _).mono ?_
      rintro e w3 ⟨rfl, hb3⟩
      have hB3 := hB2.trans (hb3.mono hB2.size)
      clear hb3 hB2
      go_wp2_with fail
      go_ret
      exact ⟨rfl, hB3⟩
    · have hrz : ((r : Int) == 0) = false := beq_false_of_ne (by omega)
      have hbl := hbn hr0
      clear hr0 hbn
      go_wp2_with fail
      refine (D2.out _).mono ?_
      rintro e w3 ⟨rfl, hb3⟩
      have hB3 := hB2.trans (hb3.mono hB2.size)
      clear hb3 hB2
      go_wp2_with fail
      go_roundw
      case rel => exact ⟨b + 1, by omega, by omega, by go_num, hB3⟩
      case measure => simp [intOf]; omega
theorem rirr_any (p : Nat) (hp : p < 131072) (w : World) :
    Calls Tryd.prog 30 #[.int .u64 p] w fun e w' => e = .returned (.bool (irrB p)) ∧ Below w.heap.size w w' := by
  by_cases h2 : Gf.plen p < 2
  · exact rirr_small p (by omega) h2 w
  · cases hi : irrB p with
    | true => exact rirr_true p hp (by omega) hi w
    | false => exact rirr_false p hp (by omega) hi w
end Go.Proofs.YtidkjcflppbpdaaDoor
