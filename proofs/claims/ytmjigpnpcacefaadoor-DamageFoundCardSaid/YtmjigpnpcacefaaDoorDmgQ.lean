/- Plain laws: what is found in sealed bytes. No program in sight. -/
import Derived.Test.YtmjigpnpcacefaaDoorDmgP
import Derived.Test.YtmjigpnpcacefaaDoorOwnV
import Derived.Test.YtmjigpnpcacefaaDoorTri
namespace Gf
theorem bitv_ne (n k : Nat) : bitv n k ≠ 0 := fun h => by
  have := stepN_inj0 _ (c := R) (by decide) h
  revert this; decide
theorem bitv_sep (n x y : Nat) (hn : n ≤ 4096) (hxy : x < y) (hy : y < 8 * n) : bitv n x ≠ bitv n y := by
  intro h
  have e1 : bitv n x = stepN (8 * n - 1 - y) (stepN (y - x) R) := by
    rw [← stepN_add]
    show stepN (8 * n - 1 - x) R = _
    congr 1; omega
  have e2 : bitv n y = stepN (8 * n - 1 - y) R := rfl
  have e3 : stepN (8 * n - 1 - y) (stepN (y - x) R ^^^ R) = 0 := by rw [stepN_xor, ← e1, ← e2, h, Nat.xor_self]
  have e4 := stepN_inj0 _ (Nat.xor_lt_two_pow (n := 32) (stepN_lt _ (by decide)) (by decide)) e3
  exact duo (y - x) (by omega) (by omega) (xor_eq_zero.1 e4)
theorem bitv_inj (n x y : Nat) (hn : n ≤ 4096) (hx : x < 8 * n) (hy : y < 8 * n) (h : bitv n x = bitv n y) : x = y := by
  rcases Nat.lt_trichotomy x y with h1 | h1 | h1
  · exact absurd h (bitv_sep n x y hn h1 hy)
  · exact h1
  · exact absurd h.symm (bitv_sep n y x hn h1 hx)
theorem three_lt (n x y z : Nat) (hn : n ≤ 4096) (hxy : x < z) (hyz : y < z) (hz : z < 8 * n) : bitv n x ^^^ bitv n y ^^^ bitv n z ≠ 0 := by
  intro h
  have e1 : bitv n x = stepN (8 * n - 1 - z) (stepN (z - x) R) := by
    rw [← stepN_add]
    show stepN (8 * n - 1 - x) R = _
    congr 1; omega
  have e2 : bitv n y = stepN (8 * n - 1 - z) (stepN (z - y) R) := by
    rw [← stepN_add]
    show stepN (8 * n - 1 - y) R = _
    congr 1; omega
  have e3 : bitv n z = stepN (8 * n - 1 - z) R := rfl
  rw [e1, e2, e3, ← stepN_xor, ← stepN_xor] at h
  have e4 := stepN_inj0 _ (Nat.xor_lt_two_pow (n := 32) (Nat.xor_lt_two_pow (n := 32) (stepN_lt _ (by decide)) (stepN_lt _ (by decide))) (by decide)) h
  refine tri (z - x) (z - y) (by omega) (by omega) (by omega) (by omega) (xor_eq_zero.1 ?_)
  rw [← Nat.xor_assoc]
  exact e4
theorem bitv_three (n x y z : Nat) (hn : n ≤ 4096) (hx : x < 8 * n) (hy : y < 8 * n) (hz : z < 8 * n) (hxy : x ≠ y) (hyz : y ≠ z) (hxz : x ≠ z) : bitv n x ^^^ bitv n y ^^^ bitv n z ≠ 0 := by
  by_cases h1 : x < z
  · by_cases h2 : y < z
    · exact three_lt n x y z hn h1 h2 hz
    · rw [xor_right_comm]; exact three_lt n x z y hn (by omega) (by omega) hy
  · by_cases h2 : y < x
    · rw [Nat.xor_comm (bitv n x), xor_right_comm]; exact three_lt n y z x hn (by omega) (by omega) hx
    · rw [xor_right_comm]; exact three_lt n x z y hn (by omega) (by omega) hy
/-- One, two or three different bits are never nothing together. -/
theorem three_seen (n : Nat) (ks : List Nat) (hn : n ≤ 4096) (hk : ∀ k ∈ ks, k < 8 * n) (hd : ks.Nodup) (h1 : 1 ≤ ks.length) (h3 : ks.length ≤ 3) : bitvs n ks ≠ 0 := by
  match ks, h1, h3 with
  | [x], _, _ => simp [bitvs, bitv_ne]
  | [x, y], _, _ =>
    have hxy : x ≠ y := by simp at hd; exact hd
    have : bitv n x ^^^ bitv n y ≠ 0 := fun h => hxy (bitv_inj n x y hn (hk x (by simp)) (hk y (by simp)) (xor_eq_zero.1 h))
    simpa [bitvs] using this
  | [x, y, z], _, _ =>
    simp at hd
    have := bitv_three n x y z hn (hk x (by simp)) (hk y (by simp)) (hk z (by simp)) hd.1.1 hd.2 hd.1.2
    simpa [bitvs] using this
theorem Bur.up {n b i : Nat} {ks : List Nat} (h : Bur n b i ks) : ∀ {j : Nat}, i ≤ j → Bur n b j ks
  | 0, hj => by
    obtain rfl : i = 0 := by omega
    exact h
  | j + 1, hj => by
    by_cases e : i = j + 1
    · subst e; exact h
    · exact (Bur.up h (show i ≤ j by omega)).skip
end Gf
namespace Go.Proofs.YtmjigpnpcacefaaDoor
open Go Go.RowKit Go.Shelf

theorem bur_hits (n X P : Nat) : ∀ m : Nat, m ≤ 32 → X + m ≤ 8 * n → Gf.Bur n X m (((List.range m).filter fun i => P.testBit i).map fun i => X + i)
  | 0, _, _ => Gf.bur_zero n X
  | m + 1, h1, h2 => by
    have ih := bur_hits n X P m (by omega) (by omega)
    rw [List.range_succ, List.filter_append, List.map_append]
    by_cases hb : P.testBit m = true
    · have e : List.map (fun i => X + i) (List.filter (fun i => P.testBit i) [m]) = [X + m] := by simp [hb]
      rw [e]
      exact ih.take (by omega) (by omega)
    · have e : List.map (fun i => X + i) (List.filter (fun i => P.testBit i) [m]) = [] := by simp [hb]
      rw [e, List.append_nil]
      exact ih.skip
theorem burst_seen (n X P : Nat) (hP : P < 4294967296) (ho : P % 2 = 1) (hX : X + Gf.plen P ≤ 8 * n) : Gf.bitvs n (hits X P) ≠ 0 := by
  have hb : Gf.Bur n X 32 (hits X P) := (bur_hits n X P (Gf.plen P) (plen_le32 hP) hX).up (plen_le32 hP)
  intro h
  have h1 := (hits_ends X P ho).1
  rw [hb.fin.1 h] at h1
  simp at h1
/-- Changed bits that are something together are found. -/
theorem found_of (xs ks : List Nat) (hx : Bytes xs) (hl : 4 ≤ xs.length) (hs : sealedB xs = true) (hk : ∀ k ∈ ks, k < 8 * xs.length) (hd : ks.Nodup) (hb : Gf.bitvs xs.length ks ≠ 0) :
    foundE xs (ints ks) = 0 ∧ foundV xs (ints ks) = true ∧ sealedB (Gf.flips xs ks) = false := by
  have hk8 : ∀ k ∈ ks, k / 8 < xs.length := fun k h => by have := hk k h; omega
  obtain ⟨h1, h2⟩ := flip_ok xs ks hk8 hd
  have h3 := sealedB_flips xs hx hl hs ks hk8
  rw [decide_eq_false hb] at h3
  unfold foundE foundV
  rw [if_pos hs, h1, h2, hs, h3]
  exact ⟨rfl, rfl, rfl⟩
end Go.Proofs.YtmjigpnpcacefaaDoor
