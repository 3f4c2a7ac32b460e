/- The walk of the law CrcFinds. -/
import Derived.Test.YtomddpplhllgcaaDoorRefG
import Derived.Test.YtomddpplhllgcaaDoorTri
namespace Go.Proofs.YtomddpplhllgcaaDoor
open Go Go.RowKit Go.Shelf

theorem stepR_inj (i j : Nat) (hi : i ≤ 32767) (hj : j ≤ 32767) (h : Gf.stepN i Gf.R = Gf.stepN j Gf.R) : i = j := by
  have main : ∀ i j : Nat, j ≤ 32767 → i < j → Gf.stepN i Gf.R ≠ Gf.stepN j Gf.R := by
    intro i j hj hlt h
    have e1 : Gf.stepN j Gf.R = Gf.stepN i (Gf.stepN (j - i) Gf.R) := by rw [← Gf.stepN_add]; congr 1; omega
    have e2 : Gf.stepN i (Gf.stepN (j - i) Gf.R ^^^ Gf.R) = 0 := by rw [Gf.stepN_xor, ← e1, h, Nat.xor_self]
    have e3 := Gf.stepN_inj0 _ (Nat.xor_lt_two_pow (n := 32) (Gf.stepN_lt _ (by decide)) (by decide)) e2
    exact Gf.duo (j - i) (by omega) (by omega) (Gf.xor_eq_zero.1 e3)
  rcases Nat.lt_trichotomy i j with h1 | h1 | h1
  · exact absurd h (main i j hj h1)
  · exact h1
  · exact absurd h.symm (main j i hi h1)
theorem atOf_more (m c a : Nat) : ∀ b, (∀ d, a ≤ d → d < a + b → Gf.stepN d Gf.R ≠ c) → atOf m c (List.range (a + b)) = atOf m c (List.range a)
  | 0, _ => rfl
  | b + 1, h => by
    rw [← Nat.add_assoc, List.range_succ, atOf_snoc, if_neg (h (a + b) (by omega) (by omega))]
    exact atOf_more m c a b (fun d h1 h2 => h d h1 (by omega))
theorem atOf_cases (m c : Nat) : ∀ n, atOf m c (List.range n) = -1 ∨ ∃ d, d < n ∧ Gf.stepN d Gf.R = c ∧ atOf m c (List.range n) = 8 * (m : Int) - 1 - (d : Int)
  | 0 => .inl rfl
  | n + 1 => by
    rw [List.range_succ, atOf_snoc]
    by_cases h : Gf.stepN n Gf.R = c
    · rw [if_pos h]; exact .inr ⟨n, by omega, h, rfl⟩
    · rw [if_neg h]
      rcases atOf_cases m c n with h1 | ⟨d, h1, h2, h3⟩
      · exact .inl h1
      · exact .inr ⟨d, by omega, h2, h3⟩
/-- Sealed bytes: nothing is found. -/
theorem find_sealed (xs : List Nat) (h1 : 4 ≤ xs.length) (h2 : xs.length ≤ 65536) (hs : syn xs = 0) : findK xs = 0 ∧ findE xs = 6 := by
  unfold findK findE
  rw [if_neg (by omega), if_neg (by omega), hs, atOf_zero]
  exact ⟨rfl, rfl⟩
/-- One changed bit is found. -/
theorem find_one (xs : List Nat) (h1 : 4 ≤ xs.length) (h2 : xs.length ≤ 4096) (k : Nat) (hk : k < 8 * xs.length) (hs : syn xs = Gf.bitv xs.length k) : findK xs = (k : Int) ∧ findE xs = 0 := by
  have hat : atOf xs.length (syn xs) (List.range (8 * xs.length)) = (k : Int) := by
    have e : 8 * xs.length = (8 * xs.length - k) + k := by omega
    rw [e, atOf_more]
    · exact atOf_hit _ _ k hk hs.symm
    · intro d hd1 hd2 h
      have := stepR_inj d (8 * xs.length - 1 - k) (by omega) (by omega) (h.trans hs)
      omega
  unfold findK findE
  rw [if_neg (by omega), if_neg (by omega), hat, if_neg (by omega), Int.max_eq_right (by omega)]
  exact ⟨rfl, rfl⟩
/-- What is found makes the bytes sealed. -/
theorem find_any (xs : List Nat) (h1 : 4 ≤ xs.length) (h2 : xs.length ≤ 65536) : (findK xs = 0 ∧ findE xs = 6) ∨ ∃ k : Nat, k < 8 * xs.length ∧ findK xs = (k : Int) ∧ findE xs = 0 ∧ syn xs = Gf.bitv xs.length k := by
  unfold findK findE
  rw [if_neg (by omega), if_neg (by omega)]
  rcases atOf_cases xs.length (syn xs) (8 * xs.length) with h | ⟨d, hd, hh, h⟩
  · rw [h]; exact .inl ⟨rfl, rfl⟩
  · refine .inr ⟨8 * xs.length - 1 - d, by omega, ?_, ?_, ?_⟩
    · rw [h, Int.max_eq_right (by omega)]; omega
    · rw [h, if_neg (by omega)]
    · rw [← hh, show Gf.bitv xs.length (8 * xs.length - 1 - d) = Gf.stepN (8 * xs.length - 1 - (8 * xs.length - 1 - d)) Gf.R from rfl]
      congr 1
      omega

set_option maxRecDepth 100000 in
set_option maxHeartbeats 4000000 in
theorem crcFinds_all (v : Value) (xs : List Nat) (w : World) (hv : Reads .u8 w v xs) (hx : Bytes xs) (n : Nat) (hn : n < 65536) (x : Nat) (hx1 : x < 65536) (y : Nat) (hy1 : y < 65536) (hT : Tab w) :
    Calls Tryd.prog 12 #[v, .int .u16 n, .int .u16 x, .int .u16 y] w fun e w' => e = .returned (.bool true) ∧ Below w.heap.size w w' := by
  have HV := Lib.hid hv
  have HT := Lib.hid hT
  clear hv hT
  have hm1 : n % 997 ≤ 996 := by omega
  have e1 : (n : Int) % 997 = ((n % 997 : Nat) : Int) := by omega
  obtain ⟨m, HM⟩ := nm (n % 997)
  rw [HM.out] at hm1 e1
  have E1 := Lib.hid e1
  clear e1
  go_enter Tryd.func12, Tryd.ntmps12
  go_wp2_with fail
  rw [E1.out]
  refine (long_any _ xs m (by omega) _ HV.out hx).mono ?_
  rintro e w1 ⟨ao, co, ys, rfl, ho, hys, hyb, hb1⟩
  have HYS := Lib.hid hys
  clear hys
  have hT1 := HT.out.keep hb1 (Nat.le_refl _)
  go_wp2_with fail
  refine (seal_any _ ys _ ho.reads hyb hT1 (by rw [HYS.out]; omega)).mono ?_
  rintro e w2 ⟨vs, rfl, hs, hb2⟩
  have hB2 := hb1.trans (hb2.mono hb1.size)
  have hT2 := HT.out.keep hB2 (Nat.le_refl _)
  have hss := sealedB_seal ys hyb
  have hSb : Bytes (Gf.sealB ys) := Bytes.append hyb (bytes_four _)
  have hSl : (Gf.sealB ys).length = m + 4 := by have := HYS.out; simp [Gf.sealB, Gf.four]; omega
  obtain ⟨a5, ls, cs, rfl, hls, hgs⟩ := hs.slice
  obtain ⟨S, HS⟩ := nm (Gf.sealB ys)
  rw [HS.out] at hs hss hSb hSl hls
  rw [sealedB_syn S hSb (by omega)] at hss
  have hsyn : syn S = 0 := of_decide_eq_true hss
  have hlb1 : 4 ≤ ls := by omega
  have hlb2 : ls ≤ 1000 := by omega
  have hSl' : S.length = ls := by omega
  have hf0 := find_sealed S (by omega) (by omega) hsyn
  have hgg : ∀ j, (Value.slice a5 ls cs).ownBlock = some j → w.heap.size ≤ j := fun j hj => Nat.le_trans hb1.size (hgs j hj).1
  have HGG := Lib.hid hgg
  have HSL := Lib.hid hSl'
  have HF0 := Lib.hid hf0
  have HSYN := Lib.hid hsyn
  clear hSl hls hSl' hss hgs ho hb1 hb2 hT1 hf0 hsyn hgg
  go_wp2_with fail
  refine (find_ok _ S _ hs.reads hSb hT2 (by rw [HSL.out]; omega) (by rw [HSL.out]; omega)).mono ?_
  rintro e w3 ⟨rfl, hb3⟩
  rw [HF0.out.1, HF0.out.2]
  have hB3 := hB2.trans (hb3.mono hB2.size)
  have hT3 := HT.out.keep hB3 (Nat.le_refl _)
  have hs3 := hs.keep hb3 (Nat.le_refl _)
  clear hB2 hT2 hs hb3
  have ex : (x : Int) % (8 * (ls : Int)) = ((x % (8 * ls) : Nat) : Int) := by simp
  have ey : (y : Int) % (8 * (ls : Int)) = ((y % (8 * ls) : Nat) : Int) := by simp
  have hkl : x % (8 * ls) < 8 * ls := Nat.mod_lt _ (by omega)
  have hml : y % (8 * ls) < 8 * ls := Nat.mod_lt _ (by omega)
  obtain ⟨k, HK⟩ := nm (x % (8 * ls))
  obtain ⟨q, HQ⟩ := nm (y % (8 * ls))
  rw [HK.out] at ex hkl
  rw [HQ.out] at ey hml
  have h8 : (8 : Int) * (ls : Int) ≠ 0 := by omega
  have h8' : (1 : Int) ≤ 8 * (ls : Int) := by omega
  go_wp2_with fail
  go_region
  rw [ex, ey]
  have EX := Lib.hid ex
  clear ex ey h8 h8'
  obtain ⟨g, x1, q1, rfl, hg1, hg2, hcell, hfr, hxl, hxx, HSET, hzl, hzt, hzd, hcl, hcm⟩ := flip_step hs3 hSb hkl
  have hwg : w.heap.size ≤ g := HGG.out g rfl
  have hk0 : (0 : Int) ≤ (k : Int) := by omega
  have S1b := Gf.bytes_flip hSb k
  have S1l : (Gf.flip S k).length = ls := by rw [Gf.flip_length]; exact HSL.out
  have S1s : syn (Gf.flip S k) = Gf.bitv (Gf.flip S k).length k := by rw [syn_flip S k (by rw [HSL.out]; omega), HSYN.out, Nat.zero_xor, Gf.flip_length]
  have hf1 := find_one (Gf.flip S k) (by omega) (by omega) k (by omega) S1s
  obtain ⟨S1, HS1⟩ := nm (Gf.flip S k)
  rw [HS1.out] at S1b S1l S1s hf1 HSET
  rw [S1l] at S1s
  have HF1 := Lib.hid hf1
  have S1S := Lib.hid S1s
  have S1L := Lib.hid S1l
  clear hs3 hf1 S1s S1l
  go_wp2_with fail
  go_region
  have hB4 : Below w.heap.size w (w3.setCell ⟨g, k / 8, none⟩ (.int .u8 (q1 : Int))).drew.drew := ((hB3.setCell (p := ⟨g, k / 8, none⟩) hwg _).drew).drew
  have ho4 : Owns .u8 5 (w3.setCell ⟨g, k / 8, none⟩ (.int .u8 (q1 : Int))).drew.drew w1.heap.size (.slice (some ⟨g, 0, none⟩) ls cs) S1 := World.ownsRow.drew (World.ownsRow.drew HSET.out)
  have HO4 := Lib.hid ho4
  have hT4 := HT.out.keep hB4 (Nat.le_refl _)
  clear ho4 hcell hfr hxx hB3 hT3 hzt hzd hzl
  go_wp2_with fail
  refine (find_ok _ S1 _ HO4.out.reads S1b hT4 (by rw [S1L.out]; omega) (by rw [S1L.out]; omega)).mono ?_
  rintro e w5 ⟨rfl, hb5⟩
  rw [HF1.out.1, HF1.out.2]
  have hB5 := hB4.trans (hb5.mono hB4.size)
  have ho5 := HO4.out.keep hb5 (Nat.le_refl _)
  clear hB4 hT4 HO4 hb5
  obtain ⟨g', x2, q2, hge, _, hg22, hcell, hfr, hxl2, hxx, HSET2, hzl, hzt, hzd, _, _⟩ := flip_step ho5 S1b hml
  cases hge
  have hq0 : (0 : Int) ≤ (q : Int) := by omega
  have S2b := Gf.bytes_flip S1b q
  have S2l : (Gf.flip S1 q).length = ls := by rw [Gf.flip_length]; exact S1L.out
  have hf2 := find_any (Gf.flip S1 q) (by omega) (by omega)
  obtain ⟨S2, HS2⟩ := nm (Gf.flip S1 q)
  rw [HS2.out] at S2b S2l hf2 HSET2
  rw [S2l] at hf2
  have HF2 := Lib.hid hf2
  have S2L := Lib.hid S2l
  clear ho5 hf2 S2l
  go_wp2_with fail
  go_region
  have hB6 : Below w.heap.size w (w5.setCell ⟨g, q / 8, none⟩ (.int .u8 (q2 : Int))).drew := (hB5.setCell (p := ⟨g, q / 8, none⟩) hwg _).drew
  have ho6 : Owns .u8 5 (w5.setCell ⟨g, q / 8, none⟩ (.int .u8 (q2 : Int))).drew w1.heap.size (.slice (some ⟨g, 0, none⟩) ls cs) S2 := World.ownsRow.drew HSET2.out
  have HO6 := Lib.hid ho6
  have hT6 := HT.out.keep hB6 (Nat.le_refl _)
  clear ho6 hcell hfr hxx hB5 hzt hzd hzl
  go_wp2_with fail
  refine (find_ok _ S2 _ HO6.out.reads S2b hT6 (by rw [S2L.out]; omega) (by rw [S2L.out]; omega)).mono ?_
  rintro e w7 ⟨rfl, hb7⟩
  have hB7 := hB6.trans (hb7.mono hB6.size)
  have ho7 := HO6.out.keep hb7 (Nat.le_refl _)
  clear hB6 hT6 HO6 hb7
  rcases HF2.out with ⟨h1, h2⟩ | ⟨z, hz, h1, h2, h3⟩
  · rw [h1, h2]
    clear h1 h2 ho7
    go_wp2_with fail
    refine (awake_any _ (HT.out.keep hB7 (Nat.le_refl _))).mono ?_
    rintro e w8 ⟨rfl, hb8⟩
    go_wp2_with fail
    go_ret
    exact ⟨rfl, hB7.trans (hb8.mono hB7.size)⟩
  · rw [h1, h2]
    obtain ⟨g', x3, q3, hge, _, hg32, hcell, hfr, hxl3, hxx, HSET3, hzl, hzt, hzd, _, _⟩ := flip_step ho7 S2b hz
    cases hge
    have hz0 : (0 : Int) ≤ (z : Int) := by omega
    have hz1 : (z : Int) < 8 * (ls : Int) := by omega
    have S3b := Gf.bytes_flip S2b z
    have S3s : sealedB (Gf.flip S2 z) = true := by
      rw [sealedB_syn _ S3b (by rw [Gf.flip_length, S2L.out]; exact hlb1), syn_flip S2 z (by rw [S2L.out]; omega), h3, S2L.out, Nat.xor_self]; rfl
    have S3S := Lib.hid S3s
    clear h1 h2 h3 ho7 S3s
    go_wp2_with fail
    go_region
    have hB8 : Below w.heap.size w (w7.setCell ⟨g, z / 8, none⟩ (.int .u8 (q3 : Int))).drew := (hB7.setCell (p := ⟨g, z / 8, none⟩) hwg _).drew
    have ho8 : Owns .u8 5 (w7.setCell ⟨g, z / 8, none⟩ (.int .u8 (q3 : Int))).drew w1.heap.size (.slice (some ⟨g, 0, none⟩) ls cs) (Gf.flip S2 z) := World.ownsRow.drew HSET3.out
    have HO8 := Lib.hid ho8
    have hT8 := HT.out.keep hB8 (Nat.le_refl _)
    clear ho8 hcell hfr hxx hB7 hzt hzd hzl
    go_wp2_with fail
    refine (sealed_any _ _ _ HO8.out.reads S3b hT8).mono ?_
    rintro e w9 ⟨rfl, hb9⟩
    rw [S3S.out]
    have hB9 := hB8.trans (hb9.mono hB8.size)
    clear hB8 hb9 hT8
    go_wp2_with fail
    refine (awake_any _ (HT.out.keep hB9 (Nat.le_refl _))).mono ?_
    rintro e w10 ⟨rfl, hb10⟩
    go_wp2_with fail
    go_ret
    exact ⟨rfl, hB9.trans (hb10.mono hB9.size)⟩
end Go.Proofs.YtomddpplhllgcaaDoor
