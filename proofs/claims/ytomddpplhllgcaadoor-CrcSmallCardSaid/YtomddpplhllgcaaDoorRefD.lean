/- The reference of checksums: the walks of Linear, Shift, Update, Sum. -/
import Derived.Test.YtomddpplhllgcaaDoorRefC
namespace Go.Proofs.YtomddpplhllgcaaDoor
open Go Go.RowKit Go.Shelf

theorem lin_bp32 (xs : List Nat) : Gf.lin xs = Gf.rev (Gf.pmod (bp32 xs) 4374732215) 32 := by
  unfold Gf.lin bp32 Gf.G; rfl

set_option maxRecDepth 100000 in
set_option maxHeartbeats 2000000 in
theorem rlinear_any (xs : List Nat) (v : Value) (w : World) (hv : Reads .u8 w v xs) (hx : Bytes xs) (hlen : xs.length < 1099511627776) :
    Calls Tryd.prog 44 #[v] w fun e w' => e = .returned (.int .u32 (Gf.lin xs)) ∧ Below w.heap.size w w' := by
  have hG0 : (4374732215 : Nat) ≠ 0 := by decide
  have hGl : Gf.plen 4374732215 = 33 := Gf.plen_G
  have hP := Gf.plen_pmod (bp32 xs) hG0
  rw [hGl] at hP
  have hXl := bp32_len xs
  have hlb := lin_bp32 xs
  obtain ⟨P, HP⟩ := nm (Gf.pmod (bp32 xs) 4374732215)
  rw [HP.out] at hP hlb
  have HL := Lib.hid hlb
  clear hlb hGl
  go_enter Tryd.func44, Tryd.ntmps44
  go_wp2_with fail
  refine (rbits_any xs v _ hv hx hlen).mono ?_
  rintro e w1 ⟨v1, rfl, hr1, hb1⟩
  go_wp2_with fail
  refine (of_any 4374732215 (by decide) _).mono ?_
  rintro e w2 ⟨v2, rfl, hr2, hb2⟩
  go_wp2_with fail
  refine (divide_any (bp32 xs) 4374732215 _ _ _ (hr1.keep hb2 (Nat.le_refl _)) hr2 hG0 (by omega)).mono ?_
  rintro e w3 ⟨vq, vr, rfl, hrq, hrr, hb3⟩
  rw [HP.out] at hrr
  have hB3 := bel_trans (hb1.trans (hb2.mono hb1.size)) hb3 (Nat.le_trans hb1.size hb2.size)
  obtain ⟨a, cap, rfl, hlc, hcm, hcs⟩ := hrr
  rw [coeffs_length] at hlc hcs ⊢
  obtain ⟨L, HLP⟩ := nm (Gf.plen P)
  rw [HLP.out] at hlc hcs hP ⊢
  clear hr1 hr2 hrq
  go_wp2_with fail
  go_loop [5, 6] (fun vc vk => ∃ k : Nat, k ≤ L ∧ vk = .int .i64 (k : Int) ∧ vc = .int .u32 ((Gf.rev P k * 2 ^ (32 - k) : Nat) : Int))
    (fun _ vk => L - (intOf vk).toNat)
  case atStart => exact ⟨0, Nat.zero_le _, rfl, by simp [Gf.rev]⟩
  case round =>
    obtain ⟨k, hk, rfl, rfl⟩ := hrel
    by_cases hlt : k < L
    · obtain ⟨b, off, rfl, hcell⟩ := hcs.resolve_left (fun h => by omega)
      have hc := hcell k hlt
      rw [show (coeffs P)[k]?.getD 0 = (P.testBit k).toNat from bitsN_get P _ _ (by rw [HLP.out]; exact hlt)] at hc
      have hstep : Gf.rev P (k + 1) * 2 ^ (32 - (k + 1)) = Gf.rev P k * 2 ^ (32 - k) + (P.testBit k).toNat * 2 ^ (31 - k) := by
        rw [Gf.rev, Nat.add_mul, show 32 - (k + 1) = 31 - k by omega, show 32 - k = 31 - k + 1 by omega, Nat.pow_succ, Nat.testBit_eq_decide_div_mod_eq]
        have e1 : 2 * Gf.rev P k * 2 ^ (31 - k) = Gf.rev P k * (2 ^ (31 - k) * 2) := by rw [Nat.mul_comm 2, Nat.mul_assoc, Nat.mul_comm 2]
        rw [e1]
        congr 2
        rcases Nat.mod_two_eq_zero_or_one (P / 2 ^ k) with h | h <;> rw [h] <;> rfl
      have hlt32 : Gf.rev P (k + 1) * 2 ^ (32 - (k + 1)) < 4294967296 := by
        have := Gf.rev_lt P (k + 1)
        calc _ < 2 ^ (k + 1) * 2 ^ (32 - (k + 1)) := Nat.mul_lt_mul_of_pos_right this (Nat.two_pow_pos _)
          _ = 2 ^ 32 := by rw [← Nat.pow_add]; congr 1; omega
          _ = 4294967296 := rfl
      rw [hstep] at hlt32
      obtain ⟨c0, HC0⟩ := nm (Gf.rev P k * 2 ^ (32 - k))
      have HST := Lib.hid hstep
      rw [HC0.out] at hlt32 ⊢
      clear hstep hcell hcs
      cases hb : P.testBit k
      · rw [hb] at hc hlt32
        have HB := Lib.hid hb
        clear hb
        go_wp2_with fail
        go_round
        case rel => exact ⟨k + 1, by omega, by go_num, by rw [HST.out, HC0.out, HB.out]; simp⟩
        case measure => simp [intOf]; omega
      · rw [hb] at hc hlt32
        have HB := Lib.hid hb
        clear hb
        simp only [Bool.toNat_true, Nat.one_mul] at hlt32
        obtain ⟨t, HT⟩ := nm (2 ^ (31 - k) : Nat)
        rw [HT.out] at hlt32
        have hw1 : IntKind.u32.wrap ((2 : Int) ^ (31 - k)) = (t : Int) := by
          rw [show ((2 : Int) ^ (31 - k)) = (t : Int) by rw [← HT.out]; simp, IntKind.wrap_u32]; omega
        go_wp2_with fail
        go_round
        case rel => exact ⟨k + 1, by omega, by go_num, by rw [HST.out, HC0.out, HB.out, HT.out]; simp⟩
        case measure => simp [intOf]; omega
    · obtain rfl : k = L := by omega
      have hfin : Gf.rev P k * 2 ^ (32 - k) = Gf.rev P 32 := Gf.rev_up (by rw [← HLP.out]; exact Gf.lt_two_plen P) (by omega)
      have HF := Lib.hid hfin
      clear hfin hcs
      go_wp2_with fail
      go_ret
      exact ⟨by rw [HL.out, ← HF.out]; rfl, hB3⟩

theorem rshift_err (c n : Int) (hn : n < 0 ∨ 16777216 < n) (w : World) :
    Calls Tryd.prog 37 #[.int .u32 c, .int .i64 n] w fun e w' => e = .returned (.tuple #[.int .u32 0, .int .i64 2]) ∧ w = w' := by
  rcases hn with hn | hn
  · go_enter Tryd.func37, Tryd.ntmps37
    go_wp2_with fail
    go_ret2
    exact ⟨rfl, rfl⟩
  · have hn0 : ¬ n < 0 := by omega
    go_enter Tryd.func37, Tryd.ntmps37
    go_wp2_with fail
    go_ret2
    exact ⟨rfl, rfl⟩

/-- One byte by the definition, as the reference reckons it. -/
theorem byteR_zero (c : Nat) : Gf.byteR c 0 = c / 256 ^^^ Gf.lin [c % 256] := by
  have := Gf.byteR_lin (c := c) (x := 0) (by decide)
  rwa [Nat.xor_zero] at this

set_option maxHeartbeats 2000000 in
theorem rshift_any (c n : Nat) (hc : c < 4294967296) (hn : n ≤ 16777216) (w : World) :
    Calls Tryd.prog 37 #[.int .u32 c, .int .i64 n] w fun e w' => e = .returned (.tuple #[.int .u32 (Gf.stepN (8 * n) c), .int .i64 0]) ∧ Below w.heap.size w w' := by
  have hd1 : decide ((n : Int) < 0) = false := decide_eq_false (by omega)
  have hd2 : decide (16777216 < (n : Int)) = false := decide_eq_false (by omega)
  go_enter Tryd.func37, Tryd.ntmps37
  go_wp2_with fail
  go_loopw [0, 6] (fun vc vi wr => ∃ i : Nat, i ≤ n ∧ vi = .int .i64 (i : Int) ∧ vc = .int .u32 ((Gf.stepN (8 * i) c : Nat) : Int) ∧ Below w.heap.size w wr)
    (fun _ vi _ => n - (intOf vi).toNat)
  case atStart => exact ⟨0, Nat.zero_le _, rfl, rfl, Below.refl _ _⟩
  case round =>
    obtain ⟨i, hi, rfl, rfl, hBr⟩ := hrel
    by_cases hlt : i < n
    · have hc0 := Gf.stepN_lt (8 * i) hc
      have hnx : Gf.stepN (8 * (i + 1)) c = Gf.byteR (Gf.stepN (8 * i) c) 0 := by
        rw [show 8 * (i + 1) = 8 * i + 8 by omega, Gf.stepN_add]; unfold Gf.byteR; rw [Nat.xor_zero]
      rw [byteR_zero] at hnx
      obtain ⟨c0, HC⟩ := nm (Gf.stepN (8 * i) c)
      rw [HC.out] at hc0 hnx ⊢
      have hcm : c0 % 256 < 256 := Nat.mod_lt _ (by decide)
      have hll : Gf.lin [c0 % 256] < 4294967296 := by
        rw [Gf.lin_eq _ (by simpa using hcm)]; exact Gf.run_lt (by decide) (by simpa using hcm)
      have hxx : bits BinOp.xor IntKind.u32 ((c0 : Int) / 256) ((Gf.lin [c0 % 256] : Nat) : Int) = ((c0 / 256 ^^^ Gf.lin [c0 % 256] : Nat) : Int) := by
        rw [← u32_xor_nat (c0 / 256) _ (by omega) hll]; simp
      rw [← hnx] at hxx
      obtain ⟨l0, HL0⟩ := nm (Gf.lin [c0 % 256])
      obtain ⟨c1, HC1⟩ := nm (Gf.stepN (8 * (i + 1)) c)
      rw [HL0.out, HC1.out] at hxx
      rw [HL0.out] at hll
      have HNX := Lib.hid hnx
      clear hnx
      have hone := reads_one .u8 wr ((c0 : Int) % 256) 5 (c0 % 256) (by simp)
      have hAl : Below wr.heap.size wr (wr.alloc (.cells #[.int .u8 ((c0 : Int) % 256)] 5)) := (bel_refl _).alloc (Nat.le_refl _) _
      go_wp2_with fail
      refine (rlinear_any [c0 % 256] _ _ hone (fun x hx => by simp at hx; omega) (by simp)).mono ?_
      rintro e w1 ⟨rfl, hb1⟩
      rw [HL0.out]
      go_wp2_with fail
      go_roundw
      case rel => exact ⟨i + 1, by omega, by go_num, by rw [HC1.out], hBr.trans ((bel_trans hAl hb1 (by simp)).mono hBr.size)⟩
      case measure => simp [intOf]; omega
    · obtain rfl : i = n := by omega
      obtain ⟨c0, HC⟩ := nm (Gf.stepN (8 * i) c)
      rw [HC.out]
      go_wp2_with fail
      go_ret2
      exact ⟨by rw [HC.out]; rfl, hBr⟩

set_option maxHeartbeats 2000000 in
theorem rupdate_any (c : Nat) (v : Value) (xs : List Nat) (hc : c < 4294967296) (hx : Bytes xs) (w : World) (hv : Reads .u8 w v xs) :
    Calls Tryd.prog 43 #[.int .u32 c, v] w fun e w' => e = .returned (.int .u32 (Gf.update c xs)) ∧ Below w.heap.size w w' := by
  have hl := hv.len
  obtain ⟨a, cap, rfl, hlc, hcm, hcs⟩ := hv
  have hinv : IntKind.u32.wrap (4294967295 - (c : Int)) = ((Gf.inv c : Nat) : Int) := by unfold Gf.inv; rw [IntKind.wrap_u32]; omega
  have hil := Gf.inv_lt c
  go_enter Tryd.func43, Tryd.ntmps43
  go_wp2_with fail
  go_loopw [0, 5] (fun vc vi wr => ∃ i : Nat, i ≤ xs.length ∧ vi = .int .i64 (i : Int) ∧ vc = .int .u32 ((Gf.run (Gf.inv c) (xs.take i) : Nat) : Int) ∧ Below w.heap.size w wr)
    (fun _ vi _ => xs.length - (intOf vi).toNat)
  case atStart => exact ⟨0, Nat.zero_le _, rfl, rfl, Below.refl _ _⟩
  case round =>
    obtain ⟨i, hi, rfl, rfl, hBr⟩ := hrel
    have hc0 : Gf.run (Gf.inv c) (xs.take i) < 4294967296 := Gf.run_lt hil (fun y hy => hx y (List.mem_of_mem_take hy))
    by_cases hlt : i < xs.length
    · obtain ⟨b, off, rfl, hcell⟩ := hcs.resolve_left (fun h => by omega)
      have hck := cell_keep hBr (hcell i hlt) (cell_lt (hcell i hlt))
      have hxi := hx.get i
      have hnx : Gf.run (Gf.inv c) (xs.take (i + 1)) = Gf.byteR (Gf.run (Gf.inv c) (xs.take i)) (xs[i]?.getD 0) := by
        rw [List.take_succ_eq_append_getElem hlt, Gf.run_snoc]
        simp [hlt]
      rw [Gf.byteR_lin hxi] at hnx
      obtain ⟨c0, HC⟩ := nm (Gf.run (Gf.inv c) (xs.take i))
      obtain ⟨x, HX⟩ := nm (xs[i]?.getD 0)
      rw [HC.out] at hc0 hnx ⊢
      rw [HX.out] at hck hxi hnx
      have hx8 : bits BinOp.xor IntKind.u8 ((c0 : Int) % 256) (x : Int) = ((c0 % 256 ^^^ x : Nat) : Int) := by
        rw [← u8_xor_nat (c0 % 256) x (by omega) hxi]; simp
      have hcm : c0 % 256 ^^^ x < 256 := Nat.xor_lt_two_pow (n := 8) (by omega) (by omega)
      obtain ⟨y, HY⟩ := nm (c0 % 256 ^^^ x)
      rw [HY.out] at hx8 hcm hnx
      have hll : Gf.lin [y] < 4294967296 := by
        rw [Gf.lin_eq _ (by simpa using hcm)]; exact Gf.run_lt (by decide) (by simpa using hcm)
      have hxx : bits BinOp.xor IntKind.u32 ((c0 : Int) / 256) ((Gf.lin [y] : Nat) : Int) = ((c0 / 256 ^^^ Gf.lin [y] : Nat) : Int) := by
        rw [← u32_xor_nat (c0 / 256) _ (by omega) hll]; simp
      rw [← hnx] at hxx
      obtain ⟨l0, HL0⟩ := nm (Gf.lin [y])
      obtain ⟨c1, HC1⟩ := nm (Gf.run (Gf.inv c) (xs.take (i + 1)))
      rw [HL0.out, HC1.out] at hxx
      rw [HL0.out] at hll
      clear hnx hcell hcs
      have hone := reads_one .u8 wr (y : Int) 5 y rfl
      have hAl : Below wr.heap.size wr (wr.alloc (.cells #[.int .u8 (y : Int)] 5)) := (bel_refl _).alloc (Nat.le_refl _) _
      go_wp2_with fail
      refine (rlinear_any [y] _ _ hone (fun z hz => by simp at hz; omega) (by simp)).mono ?_
      rintro e w1 ⟨rfl, hb1⟩
      rw [HL0.out]
      go_wp2_with fail
      go_roundw
      case rel => exact ⟨i + 1, by omega, by go_num, by rw [HC1.out], hBr.trans ((bel_trans hAl hb1 (by simp)).mono hBr.size)⟩
      case measure => simp [intOf]; omega
    · obtain rfl : i = xs.length := by omega
      rw [List.take_length] at hc0 ⊢
      have hu : IntKind.u32.wrap (4294967295 - ((Gf.run (Gf.inv c) xs : Nat) : Int)) = ((Gf.update c xs : Nat) : Int) := by
        unfold Gf.update
        rw [IntKind.wrap_u32, show Gf.inv (Gf.run (Gf.inv c) xs) = 4294967295 - Gf.run (Gf.inv c) xs from rfl]; omega
      have hul := Gf.update_lt c xs
      obtain ⟨c0, HC⟩ := nm (Gf.run (Gf.inv c) xs)
      obtain ⟨u, HU⟩ := nm (Gf.update c xs)
      rw [HC.out] at hc0 hu ⊢
      rw [HU.out] at hu hul
      clear hcs
      have hu2 : 4294967295 - (c0 : Int) = (u : Int) := by rw [IntKind.wrap_u32] at hu; omega
      clear hu
      have HU2 := Lib.hid hu2
      clear hu2
      go_wp2_with fail
      go_ret
      exact ⟨by rw [HU.out, ← HU2.out]; rfl, hBr⟩
theorem rsum4_any (v : Value) (xs : List Nat) (hx : Bytes xs) (w : World) (hv : Reads .u8 w v xs) :
    Calls Tryd.prog 42 #[v] w fun e w' => e = .returned (.int .u32 (Gf.sum xs)) ∧ Below w.heap.size w w' := by
  go_enter Tryd.func42, Tryd.ntmps42
  go_wp2_with fail
  refine (rupdate_any 0 v xs (by decide) hx _ hv).mono ?_
  rintro e w1 ⟨rfl, hb⟩
  go_wp2_with fail
  go_ret
  exact ⟨rfl, hb⟩
end Go.Proofs.YtomddpplhllgcaaDoor
