/- The walk of awake of chapter 4: the examples of the chapter. -/
import Derived.Test.YtomddpplhllgcaaDoorSeal
import Derived.Test.YtomddpplhllgcaaDoorStr
import Derived.Test.YtomddpplhllgcaaDoorOwnB
import Derived.Lib.SlBytesConst
namespace Go.Proofs.YtomddpplhllgcaaDoor
open Go Go.RowKit Go.Shelf

theorem aw_seal : Gf.sealB [] = [0, 0, 0, 0] := by decide +kernel
theorem aw_s1 : Gf.sum [49, 50, 51, 52] = 2615402659 := by decide +kernel
theorem aw_s2 : Gf.sum [53, 54, 55, 56, 57] = 320708720 := by decide +kernel
theorem aw_j : Gf.stepN 40 2615402659 ^^^ 320708720 = 3421780262 := by decide +kernel
theorem aw_b : Gf.stepN 0 Gf.R = 3988292384 := by decide +kernel
theorem aw_s0 : Gf.sum [] = 0 := by decide +kernel
theorem aw_s9 : Gf.sum [49, 50, 51, 52, 53, 54, 55, 56, 57] = 3421780262 := by decide +kernel
theorem aw_sz : Gf.sum [0] = 3523407757 := by decide +kernel
theorem aw_l128 : Gf.run 0 [128] = 3988292384 := by decide +kernel
theorem aw_l1 : Gf.run 0 [1] = 1996959894 := by decide +kernel
theorem aw_str : (strOf [0, 0, 0, 0]).toList = [0, 0, 0, 0] := by decide +kernel

theorem sum_lit (xs : List Nat) (r : Nat) (hr : Gf.sum xs = r) (hx : Bytes xs) (w : World) (hT : Tab w) (t : TypeId) (fz : Nat × Nat) (cs : Array Value) (n : Nat) (hc : cs = (vals .u8 xs).toArray) (hn : n = xs.length) (hl : n ≤ 9223372036854775807) :
    Calls Tryd.prog 18 #[.slice (some ⟨w.heap.size, 0, none⟩) n n] (w.alloc (.cells cs t fz)) fun e w' => e = .returned (.int .u32 (r : Int)) ∧ Below w.heap.size w w' := by
  refine (sum_any _ xs hx _ (hT.keep (bel_alloc w _) (Nat.le_refl _)) (reads_lit .u8 w xs t fz cs n hc hn hl)).mono ?_
  rintro e w' ⟨rfl, rfl⟩
  exact ⟨by rw [hr], bel_alloc w _⟩
theorem linear_lit (xs : List Nat) (r : Nat) (hr : Gf.run 0 xs = r) (hx : Bytes xs) (w : World) (hT : Tab w) (t : TypeId) (fz : Nat × Nat) (cs : Array Value) (n : Nat) (hc : cs = (vals .u8 xs).toArray) (hn : n = xs.length) (hl : n ≤ 9223372036854775807) :
    Calls Tryd.prog 17 #[.slice (some ⟨w.heap.size, 0, none⟩) n n] (w.alloc (.cells cs t fz)) fun e w' => e = .returned (.int .u32 (r : Int)) ∧ Below w.heap.size w w' := by
  refine (linear_any _ xs hx _ (hT.keep (bel_alloc w _) (Nat.le_refl _)) (reads_lit .u8 w xs t fz cs n hc hn hl)).mono ?_
  rintro e w' ⟨rfl, rfl⟩
  exact ⟨by rw [hr], bel_alloc w _⟩
set_option maxRecDepth 100000 in
set_option maxHeartbeats 2000000 in
theorem awake_any (w : World) (hT : Tab w) :
    Calls Tryd.prog 15 #[] w fun e w' => e = .returned (.bool true) ∧ Below w.heap.size w w' := by
  have hnil : ∀ w : World, Reads .u8 w (.slice none 0 0) [] := fun w => ⟨none, 0, rfl, by simp, by decide, .inl rfl⟩
  have hcv := fun (w : World) (C : Array Value) (n c : Nat) => Lib.run_convert_bytes_const (P := Tryd.prog) w 25 5 C n c Tryd.underlying25 Tryd.underlying5
  have HN := Lib.hid hnil
  have hbn : Bytes [] := by intro x hx; cases hx
  clear hnil
  go_enter Tryd.func15, Tryd.ntmps15
  go_wp2_with fail
  refine (seal_any _ [] _ (HN.out _) hbn hT (by decide)).mono ?_
  rintro e w1 ⟨vs, rfl, hs, hb1⟩
  rw [aw_seal] at hs
  have hT1 := hT.keep hb1 (Nat.le_refl _)
  go_wp2_with fail
  refine (sum_lit [49, 50, 51, 52] _ aw_s1 (bytes_lit rfl) w1 hT1 _ _ _ 4 rfl rfl (by decide)).mono ?_
  rintro e w2 ⟨rfl, hb2⟩
  have hT2 := hT1.keep hb2 (Nat.le_refl _)
  have hB2 := hb1.trans (hb2.mono hb1.size)
  clear hb1
  go_wp2_with fail
  refine (sum_lit [53, 54, 55, 56, 57] _ aw_s2 (bytes_lit rfl) w2 hT2 _ _ _ 5 rfl rfl (by decide)).mono ?_
  rintro e w3 ⟨rfl, hb3⟩
  have hT3 := hT2.keep hb3 (Nat.le_refl _)
  have hB3 := hB2.trans (hb3.mono hB2.size)
  clear hB2 hT2
  go_wp2_with fail
  refine (join_any 2615402659 320708720 5 (by decide) (by decide) (by decide) (by decide) _).mono ?_
  rintro e w4 ⟨rfl, hb4⟩
  rw [show 8 * (5 : Int).toNat = 40 from rfl, aw_j]
  have hT4 := hT3.keep hb4 (Nat.le_refl _)
  have hB4 := hB3.trans (hb4.mono hB3.size)
  clear hB3 hT3
  go_wp2_with fail
  refine (cbit_any 1 7 (by decide) (by decide) (by decide) (by decide) _ hT4).mono ?_
  rintro e w5 ⟨rfl, hb5⟩
  rw [show 8 * (1 : Int).toNat - 1 - (7 : Int).toNat = 0 from rfl, aw_b]
  have hT5 := hT4.keep hb5 (Nat.le_refl _)
  have hB5 := hB4.trans (hb5.mono hB4.size)
  have hs5 := hs.keep (((hb2.trans (hb3.mono hb2.size)).trans (hb4.mono (Nat.le_trans hb2.size hb3.size))).trans (hb5.mono (Nat.le_trans (Nat.le_trans hb2.size hb3.size) hb4.size))) (Nat.le_refl _)
  have hcs := conv_str vs [0, 0, 0, 0] w5 hs5.reads (bytes_lit rfl)
  have hst := aw_str
  clear hB4 hT4
  go_wp2_with fail
  refine (sum_any _ [] hbn _ hT5 (HN.out _)).mono ?_
  rintro e w6 ⟨rfl, rfl⟩
  rw [aw_s0]
  go_wp2_with fail
  refine (sum_lit [49, 50, 51, 52, 53, 54, 55, 56, 57] _ aw_s9 (bytes_lit rfl) w5 hT5 _ _ _ 9 rfl rfl (by decide)).mono ?_
  rintro e w6 ⟨rfl, hb6⟩
  have hT6 := hT5.keep hb6 (Nat.le_refl _)
  have hB6 := hB5.trans (hb6.mono hB5.size)
  clear hB5 hT5
  go_wp2_with fail
  refine (sum_lit [0] _ aw_sz (bytes_lit rfl) w6 hT6 _ _ _ 1 rfl rfl (by decide)).mono ?_
  rintro e w7 ⟨rfl, hb7⟩
  have hT7 := hT6.keep hb7 (Nat.le_refl _)
  have hB7 := hB6.trans (hb7.mono hB6.size)
  clear hB6 hT6
  go_wp2_with fail
  refine (linear_lit [128] _ aw_l128 (bytes_lit rfl) w7 hT7 _ _ _ 1 rfl rfl (by decide)).mono ?_
  rintro e w8 ⟨rfl, hb8⟩
  have hT8 := hT7.keep hb8 (Nat.le_refl _)
  have hB8 := hB7.trans (hb8.mono hB7.size)
  clear hB7 hT7
  go_wp2_with fail
  refine (linear_lit [1] _ aw_l1 (bytes_lit rfl) w8 hT8 _ _ _ 1 rfl rfl (by decide)).mono ?_
  rintro e w9 ⟨rfl, hb9⟩
  have hB9 := hB8.trans (hb9.mono hB8.size)
  go_wp2_with fail
  go_ret
  exact ⟨rfl, hB9⟩
end Go.Proofs.YtomddpplhllgcaaDoor
