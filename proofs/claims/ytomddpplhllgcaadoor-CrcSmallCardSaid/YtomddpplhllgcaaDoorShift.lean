/- The walks of crc.turned, Shift, Join, bit, Bit. -/
import Derived.Test.YtomddpplhllgcaaDoorMem
namespace Go.Proofs.YtomddpplhllgcaaDoor
open Go Go.RowKit Go.Shelf

theorem turned_any (c : Nat) (hc : c < 4294967296) (w : World) :
    Calls Tryd.prog 41 #[.int .u32 c] w fun e w' => e = .returned (.int .u64 (Gf.rev c 32)) ∧ w = w' := by
  go_enter Tryd.func41, Tryd.ntmps41
  go_wp2_with fail
  refine (reverse_any c 32 (by omega) (by decide) _).mono ?_
  rintro e w1 ⟨rfl, rfl⟩
  go_wp2_with fail
  go_ret
  exact ⟨rfl, rfl⟩
theorem shift_err (c n : Int) (hn : n < 0 ∨ 16777216 < n) (w : World) :
    Calls Tryd.prog 19 #[.int .u32 c, .int .i64 n] w fun e w' => e = .returned (.tuple #[.int .u32 0, .int .i64 2]) ∧ w = w' := by
  rcases hn with hn | hn
  · go_enter Tryd.func19, Tryd.ntmps19
    go_wp2_with fail
    go_ret2
    exact ⟨rfl, rfl⟩
  · have hn0 : ¬ n < 0 := by omega
    go_enter Tryd.func19, Tryd.ntmps19
    go_wp2_with fail
    go_ret2
    exact ⟨rfl, rfl⟩
set_option maxHeartbeats 1000000 in
theorem shift_any (c : Nat) (n : Int) (hc : c < 4294967296) (h0 : 0 ≤ n) (hn : n ≤ 16777216) (w : World) :
    Calls Tryd.prog 19 #[.int .u32 c, .int .i64 n] w fun e w' => e = .returned (.tuple #[.int .u32 (Gf.stepN (8 * n.toNat) c), .int .i64 0]) ∧ Below w.heap.size w w' := by
  have hn0 : ¬ n < 0 := by omega
  have hn1 : ¬ 16777216 < n := by omega
  have hG : Gf.G = 4374732215 := rfl
  have hG0 := Gf.G_ne
  have hpG := Gf.plen_G
  rw [hG] at hG0 hpG
  have hr := Gf.rev_lt c 32
  have he := Gf.shift_eq hc (8 * n.toNat)
  rw [hG, ← Gf.pmod_pmod (1 <<< (8 * n.toNat)) hG0] at he
  have hlp : ∀ a, Gf.pmod a 4374732215 < 4294967296 := fun a => (Gf.plen_le (n := 32)).1 (by have := Gf.plen_pmod a hG0; omega)
  have hr32 : ∀ a, Gf.rev a 32 < 4294967296 := fun a => Gf.rev_lt a 32
  rw [Gf.pmod_pmod _ hG0] at he
  have HE := Lib.hid he
  have HR := Lib.hid hr32
  have HP := Lib.hid hlp
  clear he hr32 hlp hG hpG hr
  go_enter Tryd.func19, Tryd.ntmps19
  go_wp2_with fail
  refine (power_any (8 * n) 4374732215 (by omega) (by omega) (by decide) hG0 _).mono ?_
  rintro e w1 ⟨rfl, hb1⟩
  rw [show (8 * n).toNat = 8 * n.toNat by omega]
  have hp1 := HP.out (1 <<< (8 * n.toNat))
  obtain ⟨p, hp⟩ : ∃ p, Gf.pmod (1 <<< (8 * n.toNat)) 4374732215 = p := ⟨_, rfl⟩
  rw [hp] at hp1 ⊢
  have HPP := Lib.hid hp
  clear hp
  go_wp2_with fail
  refine (turned_any c hc _).mono ?_
  rintro e w2 ⟨rfl, rfl⟩
  have hrc := HR.out c
  go_wp2_with fail
  refine (mulmod_any (Gf.rev c 32) p 4374732215 (by omega) (by omega) (by decide) hG0 _).mono ?_
  rintro e w3 ⟨rfl, hb3⟩
  have hq1 := HP.out (Gf.pmul (Gf.rev c 32) p)
  obtain ⟨q, hq⟩ : ∃ q, Gf.pmod (Gf.pmul (Gf.rev c 32) p) 4374732215 = q := ⟨_, rfl⟩
  rw [hq] at hq1 ⊢
  have HQ := Lib.hid hq
  clear hq
  go_wp2_with fail
  refine (turned_any q hq1 _).mono ?_
  rintro e w4 ⟨rfl, rfl⟩
  have ht := HR.out q
  have hfin : Gf.rev q 32 = Gf.stepN (8 * n.toNat) c := by
    have h1 := HE.out
    have h2 := HPP.out
    have h3 := HQ.out
    rw [h2, h3] at h1
    exact h1
  rw [hfin] at ht ⊢
  clear hfin
  obtain ⟨r, HRR⟩ := nm (Gf.stepN (8 * n.toNat) c)
  rw [HRR.out] at ht ⊢
  go_wp2_with fail
  go_ret2
  exact ⟨by rw [HRR.out]; rfl, hb1.trans (hb3.mono hb1.size)⟩
theorem join_err (a b n : Int) (hn : n < 0 ∨ 16777216 < n) (w : World) :
    Calls Tryd.prog 27 #[.int .u32 a, .int .u32 b, .int .i64 n] w fun e w' => e = .returned (.tuple #[.int .u32 0, .int .i64 2]) ∧ w = w' := by
  go_enter Tryd.func27, Tryd.ntmps27
  go_wp2_with fail
  refine (shift_err a n hn _).mono ?_
  rintro e w1 ⟨rfl, rfl⟩
  go_wp2_with fail
  go_ret2
  exact ⟨rfl, rfl⟩
theorem join_any (a b : Nat) (n : Int) (ha : a < 4294967296) (hb : b < 4294967296) (h0 : 0 ≤ n) (hn : n ≤ 16777216) (w : World) :
    Calls Tryd.prog 27 #[.int .u32 a, .int .u32 b, .int .i64 n] w fun e w' => e = .returned (.tuple #[.int .u32 ((Gf.stepN (8 * n.toNat) a ^^^ b : Nat) : Int), .int .i64 0]) ∧ Below w.heap.size w w' := by
  have hs := Gf.stepN_lt (8 * n.toNat) ha
  have hx := u32_xor_nat _ b hs hb
  go_enter Tryd.func27, Tryd.ntmps27
  go_wp2_with fail
  refine (shift_any a n ha h0 hn _).mono ?_
  rintro e w1 ⟨rfl, hb1⟩
  obtain ⟨r, HRR⟩ := nm (Gf.stepN (8 * n.toNat) a)
  rw [HRR.out] at hx hs ⊢
  go_wp2_with fail
  go_ret2
  exact ⟨by rw [HRR.out]; rfl, hb1⟩

/-- The linear part of bytes of which one bit alone is set. -/
theorem bit_any (n k : Int) (hn : n ≤ 16777216) (h0 : 0 ≤ k) (hk : k < 8 * n) (w : World) (hT : Tab w) :
    Calls Tryd.prog 48 #[.int .i64 n, .int .i64 k] w fun e w' => e = .returned (.int .u32 (Gf.stepN (8 * n.toNat - 1 - k.toNat) Gf.R)) ∧ Below w.heap.size w w' := by
  obtain ⟨j, hj⟩ : ∃ j : Nat, (k % 8).toNat = j := ⟨_, rfl⟩
  have hj8 : j < 8 := by omega
  have hp : ∀ j : Nat, j < 8 → (2 : Int) ^ j % 256 = ((2 ^ j : Nat) : Int) ∧ 2 ^ j < 256 := by decide
  obtain ⟨hp, hp2⟩ := hp j hj8
  have HJ := Lib.hid hj
  have HP := Lib.hid hp
  clear hp hj
  have hA : Below w.heap.size w (w.alloc (.cells #[.int .u8 (2 ^ (k % 8).toNat % 256)] 5)) := (bel_refl _).alloc (Nat.le_refl _) _
  have hR := reads_one .u8 w (2 ^ (k % 8).toNat % 256) 5 (2 ^ j) (by rw [HJ.out]; exact HP.out)
  have hv : Gf.stepN (8 * (n - 1 - k / 8).toNat) (Gf.run 0 [2 ^ j]) = Gf.stepN (8 * n.toNat - 1 - k.toNat) Gf.R := by
    have : Gf.run 0 [2 ^ j] = Gf.stepN 8 (2 ^ j) := by simp [Gf.run, Gf.byteR]
    rw [this, Gf.bit_val _ _ hj8]
    congr 1
    have := HJ.out
    omega
  have HV := Lib.hid hv
  clear hv
  have hl : Gf.run 0 [2 ^ j] < 4294967296 := Gf.run_lt (by decide) (by simpa using hp2)
  obtain ⟨r, HR⟩ := nm (Gf.run 0 [2 ^ j])
  rw [HR.out] at hl
  go_enter Tryd.func48, Tryd.ntmps48
  go_wp2_with fail
  refine (linear_any _ [2 ^ j] (fun x hx => by simp at hx; omega) _ (hT.keep hA (Nat.le_refl _)) hR).mono ?_
  rintro e w1 ⟨rfl, rfl⟩
  rw [HR.out]
  go_wp2_with fail
  refine (shift_any r _ hl (by omega) (by omega) _).mono ?_
  rintro e w2 ⟨rfl, hb2⟩
  rw [← HR.out, HV.out]
  go_wp2_with fail
  go_ret
  exact ⟨rfl, bel_trans hA hb2 (by simp)⟩

theorem cbit_err (n k : Int) (h : n < 1 ∨ 16777216 < n ∨ k < 0 ∨ 8 * n ≤ k) (w : World) :
    Calls Tryd.prog 29 #[.int .i64 n, .int .i64 k] w fun e w' => e = .returned (.tuple #[.int .u32 0, .int .i64 2]) ∧ w = w' := by
  by_cases h1 : n < 1
  · go_enter Tryd.func29, Tryd.ntmps29
    go_wp2_with fail
    go_ret2
    exact ⟨rfl, rfl⟩
  · by_cases h2 : 16777216 < n
    · go_enter Tryd.func29, Tryd.ntmps29
      go_wp2_with fail
      go_ret2
      exact ⟨rfl, rfl⟩
    · by_cases h3 : k < 0
      · go_enter Tryd.func29, Tryd.ntmps29
        go_wp2_with fail
        go_ret2
        exact ⟨rfl, rfl⟩
      · have h4 : 8 * n ≤ k := by omega
        clear h
        go_enter Tryd.func29, Tryd.ntmps29
        go_wp2_with fail
        go_ret2
        exact ⟨rfl, rfl⟩
theorem cbit_any (n k : Int) (h1 : 1 ≤ n) (hn : n ≤ 16777216) (h0 : 0 ≤ k) (hk : k < 8 * n) (w : World) (hT : Tab w) :
    Calls Tryd.prog 29 #[.int .i64 n, .int .i64 k] w fun e w' => e = .returned (.tuple #[.int .u32 (Gf.stepN (8 * n.toNat - 1 - k.toNat) Gf.R), .int .i64 0]) ∧ Below w.heap.size w w' := by
  go_enter Tryd.func29, Tryd.ntmps29
  go_wp2_with fail
  refine (bit_any n k hn h0 hk _ hT).mono ?_
  rintro e w2 ⟨rfl, hb2⟩
  go_wp2_with fail
  go_ret2
  exact ⟨rfl, hb2⟩
end Go.Proofs.YtomddpplhllgcaaDoor
