/- The walks of poly.Div, times, MulMod, Power and Reverse. -/
import Derived.Test.YtidkjcflppbpdaaDoorIter
import Derived.Test.YtidkjcflppbpdaaDoorCrc
namespace Go.Proofs.YtidkjcflppbpdaaDoor
open Go Go.RowKit Go.Shelf

theorem bel_refl (w : World) : Below w.heap.size w w := Below.refl _ _
theorem bel_trans {n : Nat} {A B C : World} (h : Below n A B) (h' : Below B.heap.size B C) (hn : n ≤ B.heap.size) : Below n A C := h.trans (h'.mono hn)

theorem wrap_shl {b m : Nat} (h : b * 2 ^ m < 18446744073709551616) : IntKind.u64.wrap ((b : Int) * 2 ^ m) = ((b <<< m : Nat) : Int) := by
  rw [IntKind.wrap_u64, Nat.shiftLeft_eq, show ((b : Int) * 2 ^ m) = ((b * 2 ^ m : Nat) : Int) by simp]
  omega
theorem two_pow_lt {m : Nat} (h : m < 64) : 2 ^ m < 18446744073709551616 := show 2 ^ m < 2 ^ 64 from Nat.pow_lt_pow_right (by decide) h
theorem one_shl_lt {m : Nat} (h : m < 64) : 1 <<< m < 18446744073709551616 := by rw [Nat.one_shiftLeft]; exact two_pow_lt h
theorem plen_le64 {a : Nat} (h : a < 18446744073709551616) : Gf.plen a ≤ 64 := Gf.plen_le.2 h
theorem lt64_of_plen {a : Nat} (h : Gf.plen a ≤ 64) : a < 18446744073709551616 := (Gf.plen_le (n := 64)).1 h
theorem wrap_shl_one {m : Nat} (h : m < 64) : IntKind.u64.wrap ((2 : Int) ^ m) = ((1 <<< m : Nat) : Int) := by
  have := wrap_shl (b := 1) (m := m) (by rw [Nat.one_mul]; exact two_pow_lt h)
  simpa using this
theorem xor_shl {a b m : Nat} (ha : a < 18446744073709551616) (h : b <<< m < 18446744073709551616) :
    bits BinOp.xor IntKind.u64 (a : Int) (IntKind.u64.wrap ((b : Int) * 2 ^ m)) = ((a ^^^ b <<< m : Nat) : Int) := by
  rw [wrap_shl (by rw [← Nat.shiftLeft_eq]; exact h), u64_xor_nat _ _ ha h]
theorem or_xor {a b : Nat} (h : ∀ i, b.testBit i = true → a.testBit i = false) : a ||| b = a ^^^ b := by
  apply Nat.eq_of_testBit_eq
  intro i
  rw [Nat.testBit_or, Nat.testBit_xor]
  have := h i
  cases ha : a.testBit i <;> cases hb : b.testBit i <;> simp_all
theorem one_shl_bit (m i : Nat) : (1 <<< m).testBit i = decide (i = m) := by
  rw [Nat.one_shiftLeft, Nat.testBit_two_pow]
  simp [eq_comm]
theorem or_shl_one {q m : Nat} (hq : q < 18446744073709551616) (h : m < 64) (hb : q.testBit m = false) :
    bits BinOp.or IntKind.u64 (q : Int) (IntKind.u64.wrap ((2 : Int) ^ m)) = ((q ^^^ 1 <<< m : Nat) : Int) := by
  have hl := one_shl_lt h
  rw [wrap_shl_one h, u64_or_nat _ _ hq hl, or_xor]
  intro i hi
  rw [one_shl_bit] at hi
  have : i = m := by simpa using hi
  rw [this]; exact hb

theorem div_zero (a : Nat) (w : World) :
    Calls Tryd.prog 15 #[.int .u64 a, .int .u64 0] w fun e w' => e = .returned (.tuple #[.int .u64 0, .int .u64 0, .int .i64 2]) ∧ w = w' := by
  go_enter Tryd.func15, Tryd.ntmps15
  go_wp2_with fail
  go_ret3
  exact ⟨rfl, rfl⟩

set_option maxHeartbeats 1000000 in
theorem div_any (a b : Nat) (ha : a < 18446744073709551616) (hb : b < 18446744073709551616) (hb0 : b ≠ 0) (w : World) :
    Calls Tryd.prog 15 #[.int .u64 a, .int .u64 b] w fun e w' => e = .returned (.tuple #[.int .u64 (Gf.pdiv a b), .int .u64 (Gf.pmod a b), .int .i64 0]) ∧ Below w.heap.size w w' := by
  have hbz : ((b : Int) == 0) = false := by simpa using hb0
  go_enter Tryd.func15, Tryd.ntmps15
  go_wp2_with fail
  refine (degree_any b hb _).mono ?_
  rintro e w1 ⟨rfl, hb1⟩
  go_wp2_with fail
  refine (degree_any a ha _).mono ?_
  rintro e w2 ⟨rfl, hb2⟩
  go_wp2_with fail
  have hB2 : Below w.heap.size w w2 := hb1.trans (hb2.mono hb1.size)
  go_loopw [0, 7, 9] (fun va vq vd wr => ∃ (a' q : Nat), va = .int .u64 (a' : Int) ∧ vq = .int .u64 (q : Int) ∧ vd = .int .i64 ((Gf.plen a' : Int) - 1) ∧ a' < 18446744073709551616 ∧ q < 18446744073709551616 ∧
      (∀ i, i + Gf.plen b ≤ Gf.plen a' → q.testBit i = false) ∧ Hid (a = Gf.pmul q b ^^^ a') ∧ Below w.heap.size w wr)
    (fun va _ _ _ => Gf.plen (intOf va).toNat)
  case atStart => exact ⟨a, 0, rfl, rfl, rfl, ha, by decide, by simp, Lib.hid (by rw [Gf.pmul_zero_left, Nat.zero_xor]), hB2⟩
  case round =>
    obtain ⟨a', q, rfl, rfl, rfl, ha', hq', hz, He, hBr⟩ := hrel
    have pb := Gf.plen_pos hb0
    by_cases hlt : Gf.plen b ≤ Gf.plen a'
    · obtain ⟨k, hk⟩ : ∃ k, Gf.plen a' = Gf.plen b + k := ⟨_, (Nat.add_sub_cancel' hlt).symm⟩
      have h64 := plen_le64 ha'
      have hk64 : k < 64 := by omega
      have hm : Gf.plen a' - 1 - (Gf.plen b - 1) = k := by omega
      have hbk : b <<< k < 18446744073709551616 := lt64_of_plen (by rw [Gf.plen_shl hb0]; omega)
      have HX := Lib.hid (xor_shl ha' hbk)
      have HQ := Lib.hid (or_shl_one hq' hk64 (hz k (by omega)))
      have hlen := Gf.pdm_step_lt hb0 hlt
      rw [show Gf.plen a' - Gf.plen b = k by omega] at hlen
      have hx64 : a' ^^^ b <<< k < 18446744073709551616 := Nat.xor_lt_two_pow (n := 64) ha' hbk
      have hq64 : q ^^^ 1 <<< k < 18446744073709551616 := Nat.xor_lt_two_pow (n := 64) hq' (one_shl_lt hk64)
      have HK := Lib.hid hk
      have HM := Lib.hid hm
      clear hk hm
      go_wp2_with fail
      rw [HM.out, HX.out, HQ.out]
      refine (degree_any _ hx64 _).mono ?_
      rintro e w3 ⟨rfl, hb3⟩
      go_wp2_with fail
      go_roundw
      case rel =>
        refine ⟨a' ^^^ b <<< k, q ^^^ 1 <<< k, rfl, rfl, rfl, hx64, hq64, ?_, ?_, hBr.trans (hb3.mono hBr.size)⟩
        · intro i hi
          rw [Nat.testBit_xor, hz i (by have := HK.out; omega), one_shl_bit]
          have := HK.out
          simp; omega
        · refine Lib.hid ?_
          rw [Gf.pmul_xor_left, Gf.pmul_shl_left, Gf.pmul_one_left, Nat.xor_assoc, Nat.xor_comm a', Gf.xor_cancel']
          exact He
      case measure => simp [intOf]; exact hlen
    · go_wp2_with fail
      go_ret3
      have hd := Gf.div_unique hb0 He (by omega)
      refine ⟨?_, hBr⟩
      rw [← hd.1, ← hd.2]
      rfl

theorem shl_one_u64 {a : Nat} (h : a < 9223372036854775808) : IntKind.u64.wrap ((a : Int) * 2) = ((a <<< 1 : Nat) : Int) := by
  have := wrap_shl (b := a) (m := 1) (by omega)
  simpa using this

set_option maxHeartbeats 2000000 in
theorem times_any (a b m : Nat) (hm : m < 18446744073709551616) (hm0 : m ≠ 0) (ha : Gf.plen a < Gf.plen m) (hb : b < 18446744073709551616) (w : World) :
    Calls Tryd.prog 32 #[.int .u64 a, .int .u64 b, .int .u64 m] w fun e w' => e = .returned (.int .u64 (Gf.pmod (Gf.pmul a b) m)) ∧ Below w.heap.size w w' := by
  have hm64 := plen_le64 hm
  have ha64 : a < 18446744073709551616 := lt64_of_plen (by omega)
  obtain ⟨n, hn⟩ : ∃ n, Gf.plen m = n + 1 := ⟨Gf.plen m - 1, by have := Gf.plen_pos hm0; omega⟩
  have hni : (Gf.plen m : Int) - 1 = (n : Int) := by omega
  have HN := Lib.hid hn
  have HNI := Lib.hid hni
  have hn64 : n ≤ 63 := by omega
  have ha' : Gf.plen a ≤ n := by omega
  clear hn hni
  go_enter Tryd.func32, Tryd.ntmps32
  go_wp2_with fail
  refine (degree_any m hm _).mono ?_
  rintro e w1 ⟨rfl, hb1⟩
  rw [HNI.out]
  go_wp2_with fail
  go_loopw [7, 9] (fun vo vi wr => ∃ (k : Nat), k ≤ 64 ∧ vi = .int .i64 ((k : Int) - 1) ∧ vo = .int .u64 ((Gf.pmod (Gf.pmul a (b >>> k)) m : Nat) : Int) ∧ w1 = wr)
    (fun _ vi _ => (intOf vi + 1).toNat)
  case atStart =>
    refine ⟨64, by omega, rfl, ?_, rfl⟩
    have : b >>> 64 = 0 := by rw [Nat.shiftRight_eq_div_pow]; exact Nat.div_eq_of_lt hb
    rw [this, Gf.pmul_zero_right, Gf.pmod_zero hm0]; rfl
  case round =>
    obtain ⟨k, hk, rfl, rfl, rfl⟩ := hrel
    cases k with
    | zero =>
      go_wp2_with fail
      go_ret
      exact ⟨by simp, hb1⟩
    | succ k =>
      have hh := Gf.horner b k hm0 (a := a) (by have := HN.out; omega)
      obtain ⟨out, ho⟩ : ∃ out, Gf.pmod (Gf.pmul a (b >>> (k + 1))) m = out := ⟨_, rfl⟩
      have hol : Gf.plen out ≤ n := by have := Gf.plen_pmod (Gf.pmul a (b >>> (k + 1))) hm0; rw [ho, HN.out] at this; omega
      rw [ho] at hh
      rw [ho]
      have hst := Gf.pmod_step (a := out) hm0 (by rw [HN.out]; omega)
      rw [hst, HN.out] at hh
      have ho63 : out < 9223372036854775808 := Nat.lt_of_lt_of_le (Gf.plen_le.1 hol) (show 2 ^ n ≤ 2 ^ 63 from Nat.pow_le_pow_right (by decide) hn64)
      have hsl := shl_one_u64 ho63
      have hs64 : out <<< 1 < 18446744073709551616 := lt64_of_plen (by have := Gf.plen_shl_le out 1; omega)
      have hx1 := u64_xor_nat (out <<< 1) m hs64 hm
      have hx1l : out <<< 1 ^^^ m < 18446744073709551616 := Nat.xor_lt_two_pow (n := 64) hs64 hm
      have hx2 := u64_xor_nat (out <<< 1) a hs64 ha64
      have hx3 := u64_xor_nat (out <<< 1 ^^^ m) a hx1l ha64
      have hbk := and_bit_beq b k hb
      have HH := Lib.hid hh
      clear hh ho hst
      by_cases hn0 : n = 0
      · subst hn0
        obtain rfl : out = 0 := Gf.plen_eq_zero.1 (by omega)
        obtain rfl : a = 0 := Gf.plen_eq_zero.1 (by omega)
        clear hsl hx1 hx2 hx3
        have hxx := u64_xor_nat 0 0 (by decide) (by decide)
        have h0 : Gf.pmod (Gf.pmul 0 (b >>> k)) m = 0 := by rw [Gf.pmul_zero_left, Gf.pmod_zero hm0]
        have H0 := Lib.hid h0
        clear h0
        go_wp2_with fail
        all_goals
          go_roundw
          case rel => exact ⟨k, by omega, rfl, by rw [H0.out]; rfl, trivial⟩
          case measure => simp [intOf]
      · have hov := and_bit_beq out (n - 1) (by omega)
        have hn1 : 0 < n := by omega
        have htop : (out <<< 1).testBit (n + 1 - 1) = out.testBit (n - 1) := by rw [Nat.testBit_shiftLeft]; simp; omega
        rw [htop] at HH
        clear htop hn0
        generalize out <<< 1 = s at *
        cases hcv : out.testBit (n - 1) <;> cases hcb : b.testBit k <;> rw [hcv] at hov HH <;> rw [hcb] at hbk HH <;> clear hcv hcb
        all_goals
          go_wp2_with fail
          go_roundw
          case rel => exact ⟨k, by omega, rfl, by rw [HH.out]; simp, by first | rfl | trivial⟩
          case measure => simp [intOf]

theorem mulmod_zero (a b : Nat) (w : World) :
    Calls Tryd.prog 20 #[.int .u64 a, .int .u64 b, .int .u64 0] w fun e w' => e = .returned (.tuple #[.int .u64 0, .int .i64 2]) ∧ w = w' := by
  go_enter Tryd.func20, Tryd.ntmps20
  go_wp2_with fail
  refine (div_zero a _).mono ?_
  rintro e w1 ⟨rfl, rfl⟩
  go_wp2_with fail
  refine (div_zero b _).mono ?_
  rintro e w1 ⟨rfl, rfl⟩
  go_wp2_with fail
  go_ret2
  exact ⟨rfl, rfl⟩

set_option maxHeartbeats 1000000 in
theorem mulmod_any (a b m : Nat) (ha : a < 18446744073709551616) (hb : b < 18446744073709551616) (hm : m < 18446744073709551616) (hm0 : m ≠ 0) (w : World) :
    Calls Tryd.prog 20 #[.int .u64 a, .int .u64 b, .int .u64 m] w fun e w' => e = .returned (.tuple #[.int .u64 (Gf.pmod (Gf.pmul a b) m), .int .i64 0]) ∧ Below w.heap.size w w' := by
  have l1 := Gf.plen_pmod a hm0
  have l2 := Gf.plen_pmod b hm0
  have hm64 := plen_le64 hm
  have hv : Gf.pmod (Gf.pmul (Gf.pmod a m) (Gf.pmod b m)) m = Gf.pmod (Gf.pmul a b) m := by rw [Gf.pmod_mul_left _ _ hm0, Gf.pmod_mul_right _ _ hm0]
  have HV := Lib.hid hv
  clear hv
  go_enter Tryd.func20, Tryd.ntmps20
  go_wp2_with fail
  refine (div_any a m ha hm hm0 _).mono ?_
  rintro e w1 ⟨rfl, hb1⟩
  go_wp2_with fail
  refine (div_any b m hb hm hm0 _).mono ?_
  rintro e w2 ⟨rfl, hb2⟩
  go_wp2_with fail
  refine (times_any _ _ m hm hm0 l1 (lt64_of_plen (by omega)) _).mono ?_
  rintro e w3 ⟨rfl, hb3⟩
  rw [HV.out]
  go_wp2_with fail
  go_ret2
  exact ⟨rfl, hb1.trans ((hb2.trans (hb3.mono hb2.size)).mono hb1.size)⟩

theorem reverse_err (p n : Int) (hn : n < 0 ∨ 64 < n) (w : World) :
    Calls Tryd.prog 24 #[.int .u64 p, .int .i64 n] w fun e w' => e = .returned (.tuple #[.int .u64 0, .int .i64 2]) ∧ w = w' := by
  rcases hn with hn | hn
  · go_enter Tryd.func24, Tryd.ntmps24
    go_wp2_with fail
    go_ret2
    exact ⟨rfl, rfl⟩
  · have hn0 : ¬ n < 0 := by omega
    go_enter Tryd.func24, Tryd.ntmps24
    go_wp2_with fail
    go_ret2
    exact ⟨rfl, rfl⟩

set_option maxHeartbeats 1000000 in
theorem reverse_any (p n : Nat) (hp : p < 18446744073709551616) (hn : n ≤ 64) (w : World) :
    Calls Tryd.prog 24 #[.int .u64 p, .int .i64 n] w fun e w' => e = .returned (.tuple #[.int .u64 (Gf.rev p n), .int .i64 0]) ∧ w = w' := by
  have hd1 : decide ((n : Int) < 0) = false := decide_eq_false (by omega)
  have hd2 : decide (64 < (n : Int)) = false := decide_eq_false (by omega)
  go_enter Tryd.func24, Tryd.ntmps24
  go_wp2_with fail
  go_loop [6, 15] (fun vo vi => ∃ (k : Nat), k ≤ n ∧ vi = .int .i64 (k : Int) ∧ vo = .int .u64 ((Gf.rev p k : Nat) : Int))
    (fun _ vi => n - (intOf vi).toNat)
  case atStart => exact ⟨0, by omega, rfl, rfl⟩
  case round =>
    obtain ⟨k, hk, rfl, rfl⟩ := hrel
    by_cases hlt : k < n
    · have hr : Gf.rev p (k + 1) = 2 * Gf.rev p k + p / 2 ^ k % 2 := rfl
      have hl := Gf.rev_lt p k
      have hl63 : Gf.rev p k < 9223372036854775808 := Nat.lt_of_lt_of_le hl (show 2 ^ k ≤ 2 ^ 63 from Nat.pow_le_pow_right (by decide) (by omega))
      generalize Gf.rev p k = out at *
      have h2 := and_bit p k hp
      have ht : p / 2 ^ k % 2 < 2 := Nat.mod_lt _ (by decide)
      generalize p / 2 ^ k % 2 = t at *
      have h1 : IntKind.u64.wrap ((out : Int) * 2) = ((2 * out : Nat) : Int) := by rw [IntKind.wrap_u64]; omega
      have h3 : bits BinOp.or IntKind.u64 ((2 * out : Nat) : Int) (t : Int) = ((2 * out + t : Nat) : Int) := by
        rw [u64_or_nat _ _ (by omega) (by omega), nat_join 1 (2 * out) t (by omega) (by omega)]
      rw [← hr] at h3
      clear hr
      obtain ⟨r, hrr⟩ : ∃ r, Gf.rev p (k + 1) = r := ⟨_, rfl⟩
      rw [hrr] at h3
      have HR := Lib.hid hrr
      clear hrr
      generalize 2 * out = s at *
      go_wp2_with fail
      go_round
      case rel => exact ⟨k + 1, by omega, by go_num, by rw [HR.out]⟩
      case measure => simp [intOf]; omega
    · go_wp2_with fail
      go_ret2
      exact ⟨by rw [show n = k by omega]; rfl, rfl⟩
end Go.Proofs.YtidkjcflppbpdaaDoor
