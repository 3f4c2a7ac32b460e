/- The table of the checksum; the walks of crc.run, Update, Sum, Linear. The walks of crc.turned, Shift, Join, bit, Bit. The walks of crc.Seal, Sealed, Open. Strings of bytes: what a conversion of a slice of bytes gives. -/
import Derived.Test.YthplekkigkalhaaDoorReads
import Derived.Test.YthplekkigkalhaaDoorOwnV
import Derived.Deep.QuietTactic
import Derived.BigQuiet
import Derived.WalkSmall
import Derived.IntWalk
import Derived.Deep.Cut
import Derived.Laws.BytesString
namespace Go.Proofs.YthplekkigkalhaaDoor
open Go Go.RowKit Go.Shelf

/-- The table of crc. -/
def Tab (w : World) : Prop := ∀ i, i < 16 → w.cell? ⟨0, i, none⟩ = some (.int .u32 ((Gf.half i : Nat) : Int))
theorem Tab.keep {w w' : World} {n : Nat} (h : Tab w) (hB : Below n w w') (hn : w.heap.size ≤ n) : Tab w' := fun i hi => cell_keep hB (h i hi) (Nat.lt_of_lt_of_le (cell_lt (h i hi)) hn)

theorem half_lt {t : Nat} (h : t < 16) : Gf.half t < 4294967296 := Gf.stepN_lt 4 (by omega)
theorem and15 (c : Nat) (h : c < 4294967296) : bits BinOp.and IntKind.u32 (c : Int) 15 = ((c % 16 : Nat) : Int) := by
  rw [show (15 : Int) = ((15 : Nat) : Int) from rfl, u32_and_nat _ _ h (by decide), nat_mask4]

theorem x16 (c g : Nat) (h : c < 4294967296) (hg : g < 4294967296) : bits BinOp.xor IntKind.u32 ((c : Int) / 16) (g : Int) = ((c / 16 ^^^ g : Nat) : Int) := by
  rw [← u32_xor_nat (c / 16) g (by omega) hg]; simp

set_option maxHeartbeats 1000000 in
theorem run_any (c : Nat) (v : Value) (xs : List Nat) (hc : c < 4294967296) (hx : Bytes xs) (w : World) (hT : Tab w) (hv : Reads .u8 w v xs) :
    Calls Tryd.prog 30 #[.int .u32 c, v] w fun e w' => e = .returned (.int .u32 (Gf.run c xs)) ∧ w = w' := by
  have hl := hv.len
  obtain ⟨a, cap, rfl, hlc, hcm, hcs⟩ := hv
  go_enter Tryd.func30, Tryd.ntmps30
  go_wp2_with fail
  go_loop [0, 9] (fun vc vi => ∃ (k : Nat), k ≤ xs.length ∧ vi = .int .i64 (k : Int) ∧ vc = .int .u32 ((Gf.run c (xs.take k) : Nat) : Int))
    (fun _ vi => xs.length - (intOf vi).toNat)
  case atStart => exact ⟨0, by omega, rfl, rfl⟩
  case round =>
    obtain ⟨k, hk, rfl, rfl⟩ := hrel
    by_cases hlt : k < xs.length
    · obtain ⟨b, off, rfl, hcell⟩ := hcs.resolve_left (fun h => by omega)
      have hck := hcell k hlt
      clear hcell hcs
      have hxk := hx.get k
      have hsn : Gf.run c (xs.take (k + 1)) = Gf.byteR (Gf.run c (xs.take k)) (xs[k]?.getD 0) := by
        rw [List.take_succ_eq_append_getElem hlt, Gf.run_snoc]
        simp [hlt]
      have hr := Gf.run_lt (bs := xs.take k) hc (fun y hy => hx y (List.mem_of_mem_take hy))
      generalize Gf.run c (xs.take k) = c0 at *
      generalize xs[k]?.getD 0 = x at *
      have h1 := u32_xor_nat c0 x hr (by omega)
      have hc1 : c0 ^^^ x < 4294967296 := Nat.xor_lt_two_pow (n := 32) hr (by omega)
      rw [Gf.byteR_halves] at hsn
      generalize c0 ^^^ x = c1 at *
      have h2 := and15 c1 hc1
      have t1 := hT (c1 % 16) (by omega)
      have h3 := x16 c1 (Gf.half (c1 % 16)) hc1 (half_lt (by omega))
      rw [← Gf.half_step] at h3
      have hc2 := Gf.stepN_lt 4 hc1
      have hm1 : c1 % 16 < 16 := by omega
      generalize Gf.half (c1 % 16) = g1 at *
      generalize c1 % 16 = m1 at *
      generalize Gf.stepN 4 c1 = c2 at *
      have h4 := and15 c2 hc2
      have t2 := hT (c2 % 16) (by omega)
      have h5 := x16 c2 (Gf.half (c2 % 16)) hc2 (half_lt (by omega))
      rw [← Gf.half_step, ← hsn] at h5
      clear hsn
      obtain ⟨c3, h3e⟩ : ∃ c3, Gf.run c (xs.take (k + 1)) = c3 := ⟨_, rfl⟩
      rw [h3e] at h5
      have HS := Lib.hid h3e
      clear h3e
      have hm2 : c2 % 16 < 16 := by omega
      generalize Gf.half (c2 % 16) = g2 at *
      generalize c2 % 16 = m2 at *
      go_wp2_with fail
      go_round
      case rel => exact ⟨k + 1, by omega, by go_num, by rw [HS.out]⟩
      case measure => simp [intOf]; omega
    · go_wp2_with fail
      go_ret
      exact ⟨by rw [show k = xs.length by omega]; simp, rfl⟩

theorem inv_u32 (c : Nat) (h : c < 4294967296) : bits BinOp.xor IntKind.u32 IntKind.u32.max (c : Int) = ((Gf.inv c : Nat) : Int) := by
  rw [show IntKind.u32.max = ((4294967295 : Nat) : Int) from rfl, u32_xor_nat _ _ (by decide) h, Nat.xor_comm, Gf.inv_eq h]

theorem update_any (c : Nat) (v : Value) (xs : List Nat) (hc : c < 4294967296) (hx : Bytes xs) (w : World) (hT : Tab w) (hv : Reads .u8 w v xs) :
    Calls Tryd.prog 29 #[.int .u32 c, v] w fun e w' => e = .returned (.int .u32 (Gf.update c xs)) ∧ w = w' := by
  have hs : IntKind.u32.signed = false := rfl
  have h1 := inv_u32 c hc
  have h2 := inv_u32 (Gf.run (Gf.inv c) xs) (Gf.run_lt (Gf.inv_lt c) hx)
  have hl := Gf.inv_lt c
  have he : Gf.inv (Gf.run (Gf.inv c) xs) = Gf.update c xs := rfl
  rw [he] at h2
  clear he
  generalize Gf.inv c = c' at *
  generalize Gf.update c xs = u at *
  go_enter Tryd.func29, Tryd.ntmps29
  go_wp2_with fail
  refine (run_any c' v xs hl hx _ hT hv).mono ?_
  rintro e w1 ⟨rfl, rfl⟩
  generalize Gf.run c' xs = r at *
  go_wp2_with fail
  go_ret
  exact ⟨rfl, rfl⟩
theorem sum_any (v : Value) (xs : List Nat) (hx : Bytes xs) (w : World) (hT : Tab w) (hv : Reads .u8 w v xs) :
    Calls Tryd.prog 15 #[v] w fun e w' => e = .returned (.int .u32 (Gf.sum xs)) ∧ w = w' := by
  go_enter Tryd.func15, Tryd.ntmps15
  go_wp2_with fail
  refine (update_any 0 v xs (by decide) hx _ hT hv).mono ?_
  rintro e w1 ⟨rfl, rfl⟩
  go_wp2_with fail
  go_ret
  exact ⟨rfl, rfl⟩
theorem linear_any (v : Value) (xs : List Nat) (hx : Bytes xs) (w : World) (hT : Tab w) (hv : Reads .u8 w v xs) :
    Calls Tryd.prog 16 #[v] w fun e w' => e = .returned (.int .u32 (Gf.run 0 xs)) ∧ w = w' := by
  go_enter Tryd.func16, Tryd.ntmps16
  go_wp2_with fail
  refine (run_any 0 v xs (by decide) hx _ hT hv).mono ?_
  rintro e w1 ⟨rfl, rfl⟩
  go_wp2_with fail
  go_ret
  exact ⟨rfl, rfl⟩
end Go.Proofs.YthplekkigkalhaaDoor
namespace Go.Proofs.YthplekkigkalhaaDoor
open Go Go.RowKit Go.Shelf

theorem turned_any (c : Nat) (hc : c < 4294967296) (w : World) :
    Calls Tryd.prog 33 #[.int .u32 c] w fun e w' => e = .returned (.int .u64 (Gf.rev c 32)) ∧ w = w' := by
  go_enter Tryd.func33, Tryd.ntmps33
  go_wp2_with fail
  refine (reverse_any c 32 (by omega) (by decide) _).mono ?_
  rintro e w1 ⟨rfl, rfl⟩
  go_wp2_with fail
  go_ret
  exact ⟨rfl, rfl⟩
theorem shift_err (c n : Int) (hn : n < 0 ∨ 16777216 < n) (w : World) :
    Calls Tryd.prog 17 #[.int .u32 c, .int .i64 n] w fun e w' => e = .returned (.tuple #[.int .u32 0, .int .i64 2]) ∧ w = w' := by
  rcases hn with hn | hn
  · go_enter Tryd.func17, Tryd.ntmps17
    go_wp2_with fail
    go_ret2
    exact ⟨rfl, rfl⟩
  · have hn0 : ¬ n < 0 := by omega
    go_enter Tryd.func17, Tryd.ntmps17
    go_wp2_with fail
    go_ret2
    exact ⟨rfl, rfl⟩
set_option maxHeartbeats 1000000 in
theorem shift_any (c : Nat) (n : Int) (hc : c < 4294967296) (h0 : 0 ≤ n) (hn : n ≤ 16777216) (w : World) :
    Calls Tryd.prog 17 #[.int .u32 c, .int .i64 n] w fun e w' => e = .returned (.tuple #[.int .u32 (Gf.stepN (8 * n.toNat) c), .int .i64 0]) ∧ Below w.heap.size w w' := by
  have hn0 : ¬ n < 0 := by omega
  have hn1 : ¬ 16777216 < n := by omega
  have hG : Gf.G = 4374732215 := rfl
  have hG0 := Gf.G_ne
  have hpG := Gf.plen_G
  rw [hG] at hG0 hpG
  have hr := Gf.rev_lt c 32
  have he := Gf.shift_eq hc (8 * n.toNat)
  rw [hG, ← Gf.pmod_pmod (1 <<< (8 * n.toNat)) hG0] at he
  have hlp : ∀ a, Gf.pmod a 4374732215 < 4294967296 := fun a => (Gf.plen_le (n := 32)).1 (by have := Gf.plen_pmod a hG0; omega)
  have hr32 : ∀ a, Gf.rev a 32 < 4294967296 := fun a => Gf.rev_lt a 32
  rw [Gf.pmod_pmod _ hG0] at he
  have HE := Lib.hid he
  have HR := Lib.hid hr32
  have HP := Lib.hid hlp
  clear he hr32 hlp hG hpG hr
  go_enter Tryd.func17, Tryd.ntmps17
  go_wp2_with fail
  refine (power_any (8 * n) 4374732215 (by omega) (by omega) (by decide) hG0 _).mono ?_
  rintro e w1 ⟨rfl, hb1⟩
  rw [show (8 * n).toNat = 8 * n.toNat by omega]
  have hp1 := HP.out (1 <<< (8 * n.toNat))
  obtain ⟨p, hp⟩ : ∃ p, Gf.pmod (1 <<< (8 * n.toNat)) 4374732215 = p := ⟨_, rfl⟩
  rw [hp] at hp1 ⊢
  have HPP := Lib.hid hp
  clear hp
  go_wp2_with fail
  refine (turned_any c hc _).mono ?_
  rintro e w2 ⟨rfl, rfl⟩
  have hrc := HR.out c
  go_wp2_with fail
  refine (mulmod_any (Gf.rev c 32) p 4374732215 (by omega) (by omega) (by decide) hG0 _).mono ?_
  rintro e w3 ⟨rfl, hb3⟩
  have hq1 := HP.out (Gf.pmul (Gf.rev c 32) p)
  obtain ⟨q, hq⟩ : ∃ q, Gf.pmod (Gf.pmul (Gf.rev c 32) p) 4374732215 = q := ⟨_, rfl⟩
  rw [hq] at hq1 ⊢
  have HQ := Lib.hid hq
  clear hq
  go_wp2_with fail
  refine (turned_any q hq1 _).mono ?_
  rintro e w4 ⟨rfl, rfl⟩
  have ht := HR.out q
  have hfin : Gf.rev q 32 = Gf.stepN (8 * n.toNat) c := by
    have h1 := HE.out
    have h2 := HPP.out
    have h3 := HQ.out
    rw [h2, h3] at h1
    exact h1
  rw [hfin] at ht ⊢
  clear hfin
  obtain ⟨r, HRR⟩ := nm (Gf.stepN (8 * n.toNat) c)
  rw [HRR.out] at ht ⊢
  go_wp2_with fail
  go_ret2
  exact ⟨by rw [HRR.out]; rfl, hb1.trans (hb3.mono hb1.size)⟩
theorem join_err (a b n : Int) (hn : n < 0 ∨ 16777216 < n) (w : World) :
    Calls Tryd.prog 14 #[.int .u32 a, .int .u32 b, .int .i64 n] w fun e w' => e = .returned (.tuple #[.int .u32 0, .int .i64 2]) ∧ w = w' := by
  go_enter Tryd.func14, Tryd.ntmps14
  go_wp2_with fail
  refine (shift_err a n hn _).mono ?_
  rintro e w1 ⟨rfl, rfl⟩
  go_wp2_with fail
  go_ret2
  exact ⟨rfl, rfl⟩
theorem join_any (a b : Nat) (n : Int) (ha : a < 4294967296) (hb : b < 4294967296) (h0 : 0 ≤ n) (hn : n ≤ 16777216) (w : World) :
    Calls Tryd.prog 14 #[.int .u32 a, .int .u32 b, .int .i64 n] w fun e w' => e = .returned (.tuple #[.int .u32 ((Gf.stepN (8 * n.toNat) a ^^^ b : Nat) : Int), .int .i64 0]) ∧ Below w.heap.size w w' := by
  have hs := Gf.stepN_lt (8 * n.toNat) ha
  have hx := u32_xor_nat _ b hs hb
  go_enter Tryd.func14, Tryd.ntmps14
  go_wp2_with fail
  refine (shift_any a n ha h0 hn _).mono ?_
  rintro e w1 ⟨rfl, hb1⟩
  obtain ⟨r, HRR⟩ := nm (Gf.stepN (8 * n.toNat) a)
  rw [HRR.out] at hx hs ⊢
  go_wp2_with fail
  go_ret2
  exact ⟨by rw [HRR.out]; rfl, hb1⟩

/-- The linear part of bytes of which one bit alone is set. -/
theorem bit_any (n k : Int) (hn : n ≤ 16777216) (h0 : 0 ≤ k) (hk : k < 8 * n) (w : World) (hT : Tab w) :
    Calls Tryd.prog 8 #[.int .i64 n, .int .i64 k] w fun e w' => e = .returned (.int .u32 (Gf.stepN (8 * n.toNat - 1 - k.toNat) Gf.R)) ∧ Below w.heap.size w w' := by
  obtain ⟨j, hj⟩ : ∃ j : Nat, (k % 8).toNat = j := ⟨_, rfl⟩
  have hj8 : j < 8 := by omega
  have hp : ∀ j : Nat, j < 8 → (2 : Int) ^ j % 256 = ((2 ^ j : Nat) : Int) ∧ 2 ^ j < 256 := by decide
  obtain ⟨hp, hp2⟩ := hp j hj8
  have HJ := Lib.hid hj
  have HP := Lib.hid hp
  clear hp hj
  have hA : Below w.heap.size w (w.alloc (.cells #[.int .u8 (2 ^ (k % 8).toNat % 256)] 5)) := (bel_refl _).alloc (Nat.le_refl _) _
  have hR := reads_one .u8 w (2 ^ (k % 8).toNat % 256) 5 (2 ^ j) (by rw [HJ.out]; exact HP.out)
  have hv : Gf.stepN (8 * (n - 1 - k / 8).toNat) (Gf.run 0 [2 ^ j]) = Gf.stepN (8 * n.toNat - 1 - k.toNat) Gf.R := by
    have : Gf.run 0 [2 ^ j] = Gf.stepN 8 (2 ^ j) := by simp [Gf.run, Gf.byteR]
    rw [this, Gf.bit_val _ _ hj8]
    congr 1
    have := HJ.out
    omega
  have HV := Lib.hid hv
  clear hv
  have hl : Gf.run 0 [2 ^ j] < 4294967296 := Gf.run_lt (by decide) (by simpa using hp2)
  obtain ⟨r, HR⟩ := nm (Gf.run 0 [2 ^ j])
  rw [HR.out] at hl
  go_enter Tryd.func8, Tryd.ntmps8
  go_wp2_with fail
  refine (linear_any _ [2 ^ j] (fun x hx => by simp at hx; omega) _ (hT.keep hA (Nat.le_refl _)) hR).mono ?_
  rintro e w1 ⟨rfl, rfl⟩
  rw [HR.out]
  go_wp2_with fail
  refine (shift_any r _ hl (by omega) (by omega) _).mono ?_
  rintro e w2 ⟨rfl, hb2⟩
  rw [← HR.out, HV.out]
  go_wp2_with fail
  go_ret
  exact ⟨rfl, bel_trans hA hb2 (by simp)⟩

theorem cbit_err (n k : Int) (h : n < 1 ∨ 16777216 < n ∨ k < 0 ∨ 8 * n ≤ k) (w : World) :
    Calls Tryd.prog 4 #[.int .i64 n, .int .i64 k] w fun e w' => e = .returned (.tuple #[.int .u32 0, .int .i64 2]) ∧ w = w' := by
  by_cases h1 : n < 1
  · go_enter Tryd.func4, Tryd.ntmps4
    go_wp2_with fail
    go_ret2
    exact ⟨rfl, rfl⟩
  · by_cases h2 : 16777216 < n
    · go_enter Tryd.func4, Tryd.ntmps4
      go_wp2_with fail
      go_ret2
      exact ⟨rfl, rfl⟩
    · by_cases h3 : k < 0
      · go_enter Tryd.func4, Tryd.ntmps4
        go_wp2_with fail
        go_ret2
        exact ⟨rfl, rfl⟩
      · have h4 : 8 * n ≤ k := by omega
        clear h
        go_enter Tryd.func4, Tryd.ntmps4
        go_wp2_with fail
        go_ret2
        exact ⟨rfl, rfl⟩
theorem cbit_any (n k : Int) (h1 : 1 ≤ n) (hn : n ≤ 16777216) (h0 : 0 ≤ k) (hk : k < 8 * n) (w : World) (hT : Tab w) :
    Calls Tryd.prog 4 #[.int .i64 n, .int .i64 k] w fun e w' => e = .returned (.tuple #[.int .u32 (Gf.stepN (8 * n.toNat - 1 - k.toNat) Gf.R), .int .i64 0]) ∧ Below w.heap.size w w' := by
  go_enter Tryd.func4, Tryd.ntmps4
  go_wp2_with fail
  refine (bit_any n k hn h0 hk _ hT).mono ?_
  rintro e w2 ⟨rfl, hb2⟩
  go_wp2_with fail
  go_ret2
  exact ⟨rfl, hb2⟩
end Go.Proofs.YthplekkigkalhaaDoor
namespace Go.Proofs.YthplekkigkalhaaDoor
open Go Go.RowKit Go.Shelf

theorem Bytes.append {a b : List Nat} (ha : Bytes a) (hb : Bytes b) : Bytes (a ++ b) := fun x hx => (List.mem_append.1 hx).elim (ha x) (hb x)
theorem Bytes.take {a : List Nat} (ha : Bytes a) (n : Nat) : Bytes (a.take n) := fun x hx => ha x (List.mem_of_mem_take hx)
theorem bytes_four (c : Nat) : Bytes (Gf.four c) := by
  intro x hx
  simp only [Gf.four, List.mem_cons, List.not_mem_nil, or_false] at hx
  omega
theorem reads_four (w : World) (c : Nat) (t : TypeId) (z0 z1 z2 z3 : Int) (h0 : z0 = ((c % 256 : Nat) : Int)) (h1 : z1 = ((c / 256 % 256 : Nat) : Int)) (h2 : z2 = ((c / 65536 % 256 : Nat) : Int)) (h3 : z3 = ((c / 16777216 % 256 : Nat) : Int)) :
    Reads .u8 (w.alloc (.cells #[.int .u8 z0, .int .u8 z1, .int .u8 z2, .int .u8 z3] t)) (.slice (some ⟨w.heap.size, 0, none⟩) 4 4) (Gf.four c) := by
  refine ⟨_, 4, rfl, by simp [Gf.four], by decide, .inr ⟨_, _, rfl, fun i hi => ?_⟩⟩
  subst h0 h1 h2 h3
  have hi4 : i < 4 := by simpa [Gf.four] using hi
  rw [Nat.zero_add, World.cell?_alloc_at _ _ _ _ rfl]
  match i, hi4 with
  | 0, _ => rfl
  | 1, _ => rfl
  | 2, _ => rfl
  | 3, _ => rfl

theorem seal_long (v : Value) (xs : List Nat) (w : World) (hv : Reads .u8 w v xs) (hl : 16777216 < xs.length) :
    Calls Tryd.prog 13 #[v] w fun e w' => e = .returned (.tuple #[.slice none 0 0, .int .i64 3]) ∧ w = w' := by
  obtain ⟨a, cap, rfl, hlc, hcm, hcs⟩ := hv
  clear hcs
  go_enter Tryd.func13, Tryd.ntmps13
  go_wp2_with fail
  go_ret2
  exact ⟨rfl, rfl⟩

set_option maxRecDepth 100000 in
set_option maxHeartbeats 1000000 in
theorem seal_any (v : Value) (xs : List Nat) (w : World) (hv : Reads .u8 w v xs) (hx : Bytes xs) (hT : Tab w) (hl : xs.length ≤ 16777216) :
    Calls Tryd.prog 13 #[v] w fun e w' => ∃ v', e = .returned (.tuple #[v', .int .i64 0]) ∧ Owns .u8 5 w' w.heap.size v' (Gf.sealB xs) ∧ Below w.heap.size w w' := by
  have hv0 := hv
  have hs := sum_any v xs hx w hT hv
  have hul := Gf.update_lt 0 xs
  have hd : decide (16777216 < (xs.length : Int)) = false := decide_eq_false (by omega)
  obtain ⟨a, cap, rfl, hlc, hcm, hcs⟩ := hv
  clear hcs
  have HS := Lib.hid hs
  clear hs
  go_enter Tryd.func13, Tryd.ntmps13
  go_wp2_with fail
  refine HS.out.mono ?_
  rintro e w1 ⟨rfl, rfl⟩
  obtain ⟨c, HC⟩ := nm (Gf.sum xs)
  have hc : c < 4294967296 := by rw [← HC.out]; exact hul
  rw [HC.out]
  clear hul
  have HR := Lib.hid hv0
  clear hv0
  go_upto_region 5 with first | (refine wpl_make0 rfl (.const (.int .i64 0)) (.tmp 13) 37 rfl .u8 5 1 Tryd.underlying37 info_u8 (by decide) w.heap.size w (xs.length + 4) _ rfl rfl ?_ ?_ (Nat.le_refl _) ?_; (omega); (omega); intro v1 w1 hown hB1) | (at_builtin; refine wpl_app rfl (.tmp 14) (.tmp 15) 37 rfl .u8 5 1 Tryd.underlying37 info_u8 (by decide) w.heap.size _ [] w1 hown rfl _ xs rfl ?_ ?_ hB1.size ?_; (exact HR.out.keep hB1 (Nat.le_refl _)); (simp; omega); intro v2 w2 hown2 hB2)
  have hR4 := reads_four w2 c 5 ((c : Int) % 256) ((c : Int) / 256 % 256) ((c : Int) / 65536 % 256) ((c : Int) / 16777216) (by simp) (by simp) (by simp) (by omega)
  have hB3 : Below w.heap.size w w2 := hB1.trans hB2
  have hA4 : Below w2.heap.size w2 (w2.alloc (.cells #[.int .u8 ((c : Int) % 256), .int .u8 ((c : Int) / 256 % 256), .int .u8 ((c : Int) / 65536 % 256), .int .u8 ((c : Int) / 16777216)] 5)) := (bel_refl _).alloc (Nat.le_refl _) _
  have hO3 := hown2.keep hA4 (Nat.le_refl _)
  have hsz3 := hB3.size
  go_wp2_with (at_builtin; refine wpl_app rfl (.tmp 17) (.tmp 29) 37 rfl .u8 5 1 Tryd.underlying37 info_u8 (by decide) w.heap.size _ ([] ++ xs) _ hO3 rfl _ (Gf.four c) rfl hR4 ?_ ?_ ?_; (simp [Gf.four]; omega); (simp; omega); intro v3 w3 hown3 hB4)
  go_ret2
  refine ⟨v3, rfl, ?_, hB3.trans ((hA4.mono hB3.size).trans hB4)⟩
  unfold Gf.sealB
  rw [HC.out]
  exact hown3

/-- The bytes end with the checksum of those before them. -/
def le4 (xs : List Nat) (n : Nat) : Nat := xs[n]?.getD 0 + 256 * xs[n + 1]?.getD 0 + 65536 * xs[n + 2]?.getD 0 + 16777216 * xs[n + 3]?.getD 0
def sealedB (xs : List Nat) : Bool := decide (4 ≤ xs.length) && decide (Gf.sum (xs.take (xs.length - 4)) = le4 xs (xs.length - 4))


theorem reads_take {k : IntKind} {w : World} {b off cap : Nat} {xs : List Nat} {n : Nat} (hn : n ≤ xs.length) (hlc : xs.length ≤ cap) (hcm : cap ≤ 9223372036854775807)
    (hc : ∀ i, i < xs.length → w.cell? ⟨b, off + i, none⟩ = some (.int k ((xs[i]?.getD 0 : Nat) : Int))) : Reads k w (.slice (some ⟨b, off, none⟩) n cap) (xs.take n) := by
  refine ⟨_, cap, by simp [Nat.min_eq_left hn], by simp; omega, hcm, .inr ⟨b, off, rfl, fun i hi => ?_⟩⟩
  have hi2 : i < n := by simp at hi; omega
  rw [hc i (by omega), List.getElem?_take, if_pos hi2]

theorem or_bytes (x0 x1 x2 x3 : Nat) (h0 : x0 < 256) (h1 : x1 < 256) (h2 : x2 < 256) (h3 : x3 < 256) :
    bits BinOp.or IntKind.u32 (x0 : Int) ((x1 : Int) * 256) = ((x0 + 256 * x1 : Nat) : Int) ∧
    bits BinOp.or IntKind.u32 ((x0 + 256 * x1 : Nat) : Int) ((x2 : Int) * 65536) = ((x0 + 256 * x1 + 65536 * x2 : Nat) : Int) ∧
    bits BinOp.or IntKind.u32 ((x0 + 256 * x1 + 65536 * x2 : Nat) : Int) ((x3 : Int) * 16777216) = ((x0 + 256 * x1 + 65536 * x2 + 16777216 * x3 : Nat) : Int) := by
  refine ⟨?_, ?_, ?_⟩
  · rw [show ((x1 : Int) * 256) = ((256 * x1 : Nat) : Int) by omega, u32_or_nat _ _ (by omega) (by omega), Nat.or_comm, nat_join 8 (256 * x1) x0 (by omega) (by omega)]; omega
  · rw [show ((x2 : Int) * 65536) = ((65536 * x2 : Nat) : Int) by omega, u32_or_nat _ _ (by omega) (by omega), Nat.or_comm, nat_join 16 (65536 * x2) _ (by omega) (by omega)]; omega
  · rw [show ((x3 : Int) * 16777216) = ((16777216 * x3 : Nat) : Int) by omega, u32_or_nat _ _ (by omega) (by omega), Nat.or_comm, nat_join 24 (16777216 * x3) _ (by omega) (by omega)]; omega

end Go.Proofs.YthplekkigkalhaaDoor
namespace Go.Proofs.YthplekkigkalhaaDoor
open Go Go.RowKit Go.Shelf

/-- The string of some bytes. -/
def strOf (xs : List Nat) : ByteArray := (xs.map fun (x : Nat) => (x : Int)).foldl (fun r n => r.push (UInt8.ofNat n.toNat)) ByteArray.empty
theorem foldl_push (ns : List Int) : ∀ s : ByteArray, (ns.foldl (fun r n => r.push (UInt8.ofNat n.toNat)) s).data.toList = s.data.toList ++ ns.map (fun n => UInt8.ofNat n.toNat) := by
  induction ns with
  | nil => intro s; simp
  | cons n ns ih => intro s; rw [List.foldl_cons, ih]; simp [ByteArray.push]
theorem strOf_data (xs : List Nat) : (strOf xs).data.toList = xs.map UInt8.ofNat := by
  unfold strOf
  rw [foldl_push]
  simp [Function.comp_def]
theorem conv_str (v : Value) (xs : List Nat) (w : World) (hv : Reads .u8 w v xs) (hx : ∀ x ∈ xs, x < 256) :
    (convert 37 9 v).run Tryd.prog w = .ok (.string (strOf xs)) w := by
  obtain ⟨a, cap, rfl, hl, hm, hc⟩ := hv
  rw [run_convert_bytes_string w _ _ 5 a _ _ Tryd.underlying37 Tryd.underlying5 Tryd.underlying9]
  rcases hc with rfl | ⟨b, off, rfl, hcell⟩
  · obtain rfl : xs = [] := List.length_eq_zero_iff.1 (by omega)
    cases a with
    | none => rfl
    | some ad =>
      refine run_bytesToString w _ _ _ [] ?_
      have := run_loadCells_list (P := Tryd.prog) (w := w) ad [] (fun j u hu => by simp at hu)
      simpa using this
  · refine run_bytesToString w _ _ _ (xs.map fun (x : Nat) => (x : Int)) ?_
    have := run_loadCells_list (P := Tryd.prog) (w := w) ⟨b, off, none⟩ (vals .u8 xs) (fun j u hu => by
      have hj : j < xs.length := by
        apply Classical.byContradiction; intro hn
        rw [List.getElem?_eq_none (by rw [vals_length]; omega)] at hu; cases hu
      rw [vals_get _ xs j hj] at hu
      cases hu
      have ha : (⟨b, off, none⟩ : Addr).add j = ⟨b, off + j, none⟩ := by simp [Addr.add]
      rw [ha]
      exact hcell j hj)
    rw [vals_length] at this
    rw [this]
    simp [vals, Function.comp_def]

theorem strOf_inj {xs ys : List Nat} (hx : ∀ x ∈ xs, x < 256) (hy : ∀ y ∈ ys, y < 256) (h : (strOf xs).data.toList = (strOf ys).data.toList) : xs = ys := by
  rw [strOf_data, strOf_data] at h
  have h2 := congrArg (List.map UInt8.toNat) h
  rw [List.map_map, List.map_map] at h2
  have e : ∀ zs : List Nat, (∀ z ∈ zs, z < 256) → zs.map (UInt8.toNat ∘ UInt8.ofNat) = zs := by
    intro zs hz
    conv => rhs; rw [← List.map_id zs]
    apply List.map_congr_left
    intro z h
    have := hz z h
    simp; omega
  rw [e xs hx, e ys hy] at h2
  exact h2
theorem str_beq {xs ys : List Nat} (hx : ∀ x ∈ xs, x < 256) (hy : ∀ y ∈ ys, y < 256) : ((strOf xs).toList == (strOf ys).toList) = decide (xs = ys) := by
  rw [ByteArray.toList_eq, ByteArray.toList_eq]
  by_cases h : xs = ys
  · subst h; simp
  · rw [decide_eq_false h, beq_eq_false_iff_ne]
    exact fun e => h (strOf_inj hx hy e)
/-- A slice of constants. -/
theorem reads_lit (k : IntKind) (w : World) (xs : List Nat) (t : TypeId) (fz : Nat × Nat) (cs : Array Value) (n : Nat) (hc : cs = (vals k xs).toArray) (hn : n = xs.length) (hl : n ≤ 9223372036854775807) :
    Reads k (w.alloc (.cells cs t fz)) (.slice (some ⟨w.heap.size, 0, none⟩) n n) xs := by
  subst hn hc
  refine ⟨_, _, rfl, Nat.le_refl _, hl, .inr ⟨_, _, rfl, fun i hi => ?_⟩⟩
  have h0 : (w.alloc (.cells (vals k xs).toArray t fz)).heap[w.heap.size]? = some (.cells (vals k xs).toArray t fz) := World.alloc_heap_new w _
  rw [Nat.zero_add, cell_of_row _ w.heap.size i _ t fz h0, List.getElem?_toArray, vals_get k xs i hi]
end Go.Proofs.YthplekkigkalhaaDoor
