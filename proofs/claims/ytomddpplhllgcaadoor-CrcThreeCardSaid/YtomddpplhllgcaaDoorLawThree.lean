/- The walk of the law CrcThree. -/
import Derived.Test.YtomddpplhllgcaaDoorConcat
import Derived.Test.YtomddpplhllgcaaDoorLawBursts
import Derived.Test.YtomddpplhllgcaaDoorTri
namespace Gf
/-- How many bits are left changed, as the statement counts. -/
def leftN (l : List Nat) : Nat → Int
  | 0 => 0
  | i + 1 => leftN l i + if l[i]?.getD 0 ∈ l.take i then -1 else 1
theorem leftN_bound (l : List Nat) : ∀ i : Nat, -(i : Int) ≤ leftN l i ∧ leftN l i ≤ (i : Int)
  | 0 => by simp [leftN]
  | i + 1 => by
    have := leftN_bound l i
    unfold leftN
    split <;> omega
theorem bitv_eq (n k : Nat) : bitv n k = stepN (8 * n - 1 - k) R := rfl
theorem bitv_ne (n k : Nat) : bitv n k ≠ 0 := fun h => by
  have := stepN_inj0 _ (c := R) (by decide) h
  revert this; decide
theorem bitv_sep (n x y : Nat) (hn : n ≤ 4096) (hxy : x < y) (hy : y < 8 * n) : bitv n x ≠ bitv n y := by
  intro h
  have e1 : bitv n x = stepN (8 * n - 1 - y) (stepN (y - x) R) := by rw [← stepN_add, bitv_eq]; congr 1; omega
  have e2 : bitv n y = stepN (8 * n - 1 - y) R := rfl
  have e3 : stepN (8 * n - 1 - y) (stepN (y - x) R ^^^ R) = 0 := by rw [stepN_xor, ← e1, ← e2, h, Nat.xor_self]
  have e4 := stepN_inj0 _ (Nat.xor_lt_two_pow (n := 32) (stepN_lt _ (by decide)) (by decide)) e3
  exact duo (y - x) (by omega) (by omega) (xor_eq_zero.1 e4)
theorem bitv_inj (n x y : Nat) (hn : n ≤ 4096) (hx : x < 8 * n) (hy : y < 8 * n) (h : bitv n x = bitv n y) : x = y := by
  rcases Nat.lt_trichotomy x y with h1 | h1 | h1
  · exact absurd h (bitv_sep n x y hn h1 hy)
  · exact h1
  · exact absurd h.symm (bitv_sep n y x hn h1 hx)
theorem three_lt (n x y z : Nat) (hn : n ≤ 4096) (hxy : x < z) (hyz : y < z) (hz : z < 8 * n) : bitv n x ^^^ bitv n y ^^^ bitv n z ≠ 0 := by
  intro h
  have e1 : bitv n x = stepN (8 * n - 1 - z) (stepN (z - x) R) := by rw [← stepN_add, bitv_eq]; congr 1; omega
  have e2 : bitv n y = stepN (8 * n - 1 - z) (stepN (z - y) R) := by rw [← stepN_add, bitv_eq]; congr 1; omega
  have e3 : bitv n z = stepN (8 * n - 1 - z) R := rfl
  rw [e1, e2, e3, ← stepN_xor, ← stepN_xor] at h
  have e4 := stepN_inj0 _ (Nat.xor_lt_two_pow (n := 32) (Nat.xor_lt_two_pow (n := 32) (stepN_lt _ (by decide)) (stepN_lt _ (by decide))) (by decide)) h
  refine tri (z - x) (z - y) (by omega) (by omega) (by omega) (by omega) (xor_eq_zero.1 ?_)
  rw [← Nat.xor_assoc]
  exact e4
theorem bitv_three (n x y z : Nat) (hn : n ≤ 4096) (hx : x < 8 * n) (hy : y < 8 * n) (hz : z < 8 * n) (hxy : x ≠ y) (hyz : y ≠ z) (hxz : x ≠ z) : bitv n x ^^^ bitv n y ^^^ bitv n z ≠ 0 := by
  by_cases h1 : x < z
  · by_cases h2 : y < z
    · exact three_lt n x y z hn h1 h2 hz
    · rw [xor_right_comm]; exact three_lt n x z y hn (by omega) (by omega) hy
  · by_cases h2 : y < x
    · rw [Nat.xor_comm (bitv n x), xor_right_comm]; exact three_lt n y z x hn (by omega) (by omega) hx
    · rw [xor_right_comm]; exact three_lt n x z y hn (by omega) (by omega) hy
/-- What the statement's count says, and what the bits are together. -/
def leftOf (x y z : Nat) (m : Nat) : Int := if m = 3 ∧ x = y ∧ y = z then 1 else leftN [x, y, z] m
theorem left_ok (n x y z m : Nat) (hn : n ≤ 4096) (hx : x < 8 * n) (hy : y < 8 * n) (hz : z < 8 * n) (hm : m ≤ 3) : decide (0 < leftOf x y z m) = !decide (bitvs n ([x, y, z].take m) = 0) := by
  have h1 := bitv_ne n x
  have h2 := bitv_ne n y
  have h3 := bitv_ne n z
  have i1 := bitv_inj n x y hn hx hy
  have i2 := bitv_inj n y z hn hy hz
  have i3 := bitv_inj n x z hn hx hz
  have t := bitv_three n x y z hn hx hy hz
  match m, hm with
  | 0, _ => simp [leftOf, leftN, bitvs]
  | 1, _ => simp [leftOf, leftN, bitvs, h1]
  | 2, _ =>
    by_cases e : x = y
    · subst e; simp [leftOf, leftN, bitvs]
    · have : bitv n x ^^^ bitv n y ≠ 0 := fun h => e (i1 (xor_eq_zero.1 h))
      simp [leftOf, leftN, bitvs, Ne.symm e, this]
  | 3, _ =>
    by_cases e1 : x = y
    · subst e1
      by_cases e2 : x = z
      · subst e2; simp [leftOf, leftN, bitvs, h1]
      · simp [leftOf, leftN, bitvs, e2, Ne.symm e2, h3]
    · by_cases e2 : y = z
      · subst e2
        have : bitv n x ^^^ bitv n y ^^^ bitv n y ≠ 0 := by rw [xor_cancel]; exact h1
        simp [leftOf, leftN, bitvs, e1, Ne.symm e1, this]
      · by_cases e3 : x = z
        · subst e3
          have : bitv n x ^^^ bitv n y ^^^ bitv n x ≠ 0 := by rw [xor_right_comm, Nat.xor_self, Nat.zero_xor]; exact h2
          simp [leftOf, leftN, bitvs, e1, Ne.symm e1, this]
        · have := t e1 e2 e3
          simp [leftOf, leftN, bitvs, e1, e2, e3, Ne.symm e1, Ne.symm e2, Ne.symm e3, this]
end Gf
namespace Go.Proofs.YtomddpplhllgcaaDoor
open Go Go.RowKit Go.Shelf

theorem mem_cast (q : Nat) (l : List Nat) : ((q : Int) ∈ l.map fun (y : Nat) => (y : Int)) ↔ q ∈ l := by
  rw [List.mem_map]
  constructor
  · rintro ⟨y, hy, e⟩
    have : y = q := by omega
    exact this ▸ hy
  · exact fun h => ⟨q, h, rfl⟩
/-- One bit of a slice of the call's own is changed: what the walk needs. -/
theorem flip_step {w : World} {base : Nat} {ac : Option Addr} {lc cc z : Nat} {F : List Nat} (hoc : Owns .u8 5 w base (.slice ac lc cc) F) (hF : Bytes F) (hz : z < 8 * lc) :
    ∃ g x q : Nat, ac = some ⟨g, 0, none⟩ ∧ base ≤ g ∧ g < w.heap.size ∧ w.cell? ⟨g, z / 8, none⟩ = some (.int .u8 (x : Int)) ∧ w.frozen? ⟨g, z / 8, none⟩ = false ∧ x < 256 ∧ bits .xor .u8 (x : Int) (2 ^ (z % 8) % 256) = (q : Int) ∧
      Hid (Owns .u8 5 (w.setCell ⟨g, z / 8, none⟩ (.int .u8 (q : Int))) base (.slice (some ⟨g, 0, none⟩) lc cc) (Gf.flip F z)) ∧ (z : Int) / 8 < (lc : Int) ∧ ((z : Int) / 8).toNat = z / 8 ∧ (z : Int).tdiv 8 = (z : Int) / 8 ∧ lc ≤ cc ∧ cc ≤ 9223372036854775807 := by
  have hz8 : z / 8 < lc := by omega
  obtain ⟨g, rfl, hg1, hg2, hm, hm2, hm3, hcell, hfr, hset⟩ := hoc.at hz8
  have hx1 := hF.get (z / 8)
  have hp : ∀ i : Nat, i < 8 → (2 : Int) ^ i % 256 = ((2 ^ i : Nat) : Int) := by decide
  have hpk := hp (z % 8) (by omega)
  have hxx := u8_xor_nat (F[z / 8]?.getD 0) (2 ^ (z % 8)) hx1 (Gf.pow_lt8 (by omega))
  rw [← hpk] at hxx
  refine ⟨g, F[z / 8]?.getD 0, _, rfl, hg1, hg2, hcell, hfr, hx1, hxx, Lib.hid ?_, by omega, by omega, Int.tdiv_eq_ediv_of_nonneg (by omega), hm2, hm3⟩
  have := hset ((F[z / 8]?.getD 0 ^^^ 2 ^ (z % 8) : Nat) : Int) (by omega)
  rw [Int.toNat_natCast] at this
  exact this

set_option maxRecDepth 100000 in
set_option maxHeartbeats 8000000 in
theorem crcThree_all (v : Value) (xs : List Nat) (w : World) (hv : Reads .u8 w v xs) (hx : Bytes xs) (n : Nat) (hn : n < 65536) (x : Nat) (hx1 : x < 65536) (y : Nat) (hy1 : y < 65536) (z : Nat) (hz1 : z < 65536) (hT : Tab w) :
    Calls Tryd.prog 10 #[v, .int .u16 n, .int .u16 x, .int .u16 y, .int .u16 z] w fun e w' => e = .returned (.bool true) ∧ Below w.heap.size w w' := by
  have HV := Lib.hid hv
  have HT := Lib.hid hT
  clear hv hT
  have hm1 : n % 4093 ≤ 4092 := by omega
  have e1 : (n : Int) % 4093 = ((n % 4093 : Nat) : Int) := by omega
  obtain ⟨m, HM⟩ := nm (n % 4093)
  rw [HM.out] at hm1 e1
  have E1 := Lib.hid e1
  clear e1
  go_enter Tryd.func10, Tryd.ntmps10
  go_wp2_with fail
  rw [E1.out]
  refine (long_any _ xs m (by omega) _ HV.out hx).mono ?_
  rintro e w1 ⟨ao, co, ys, rfl, ho, hys, hyb, hb1⟩
  have HYS := Lib.hid hys
  clear hys
  have hT1 := HT.out.keep hb1 (Nat.le_refl _)
  go_wp2_with fail
  refine (seal_any _ ys _ ho.reads hyb hT1 (by rw [HYS.out]; omega)).mono ?_
  rintro e w2 ⟨vs, rfl, hs, hb2⟩
  have hB2 := hb1.trans (hb2.mono hb1.size)
  have hss := sealedB_seal ys hyb
  have hSb : Bytes (Gf.sealB ys) := Bytes.append hyb (bytes_four _)
  have hSl : (Gf.sealB ys).length = m + 4 := by have := HYS.out; simp [Gf.sealB, Gf.four]; omega
  obtain ⟨a5, ls, cs, rfl, hls, hgs⟩ := hs.slice
  obtain ⟨S, HS⟩ := nm (Gf.sealB ys)
  rw [HS.out] at hs hss hSb hSl hls
  have hlb1 : 4 ≤ ls := by omega
  have hlb2 : ls ≤ 4096 := by omega
  have hSl' : S.length = ls := by omega
  have HSL := Lib.hid hSl'
  have HSS := Lib.hid hss
  have hS2 := hs.reads
  clear hSl hls hSl' hss hgs ho hb1 hb2 hT1 hs
  have hra := reads_lit .u16 w2 [x, y, z] 26 (0, 0) #[.int .u16 x, .int .u16 y, .int .u16 z] 3 rfl rfl (by decide)
  have HRA := Lib.hid hra
  have hxyz : ∀ t ∈ [x, y, z], t < 65536 := by intro t ht; simp at ht; omega
  have HXYZ := Lib.hid hxyz
  have hB20 : Below w.heap.size w (w2.alloc (.cells #[.int .u16 x, .int .u16 y, .int .u16 z] 26)) := hB2.trans ((bel_alloc w2 _).mono hB2.size)
  have hs2 := hB2.size
  clear hra hxyz
  obtain ⟨L3, HL3⟩ := nm ([x, y, z].map (· % (8 * ls)))
  have hl3 : L3.length = 3 := by rw [← HL3.out]; rfl
  have HLL := Lib.hid hl3
  have hlm : ∀ t ∈ L3, t < 8 * ls := by
    intro t ht
    rw [← HL3.out] at ht
    obtain ⟨u, _, rfl⟩ := List.mem_map.1 ht
    exact Nat.mod_lt _ (by omega)
  have HLM := Lib.hid hlm
  clear hl3 hlm
  go_wp2_with fail
  go_loopw [13, 44] (fun vb vi wr => ∃ k : Nat, k ≤ 3 ∧ vi = .int .i64 (k : Int) ∧ Owns .i64 3 wr (w2.heap.size + 1) vb (L3.take k) ∧ Below (w2.heap.size + 1) (w2.alloc (.cells #[.int .u16 x, .int .u16 y, .int .u16 z] 26)) wr)
    (fun _ vi _ => 3 - (intOf vi).toNat)
  case atStart => exact ⟨0, by omega, rfl, Owns.nil _ _ _ _, Below.refl _ _⟩
  case round =>
    obtain ⟨k, hk, rfl, hob, hBr⟩ := hrel
    by_cases hlt : k < 3
    · obtain ⟨ya, cy, ee, _, _, hcell⟩ := HRA.out.keep hBr (by simp)
      cases ee
      obtain ⟨yb, yo, ee, hc⟩ := hcell.resolve_left (by decide)
      cases ee
      have ck := hc k hlt
      rw [Nat.zero_add] at ck
      have hbt := HXYZ.out (([x, y, z] : List Nat)[k]?.getD 0) (by
        rw [List.getElem?_eq_getElem (show k < [x, y, z].length from hlt)]; exact List.getElem_mem _)
      have hts : L3.take (k + 1) = L3.take k ++ [([x, y, z] : List Nat)[k]?.getD 0 % (8 * ls)] := by
        have h3 : k < L3.length := by rw [HLL.out]; exact hlt
        rw [List.take_succ_eq_append_getElem h3]
        have e0 : L3[k] = getElem ([x, y, z].map (· % (8 * ls))) k (by simpa using hlt) := by congr 1; exact HL3.out.symm
        rw [e0, List.getElem_map, List.getElem?_eq_getElem (show k < [x, y, z].length from hlt)]
        rfl
      have HTS := Lib.hid hts
      clear hc hcell hts
      obtain ⟨t, HTT⟩ := nm (([x, y, z] : List Nat)[k]?.getD 0)
      rw [HTT.out] at ck hbt HTS
      have e2 : (t : Int) % (8 * (ls : Int)) = ((t % (8 * ls) : Nat) : Int) := by simp
      obtain ⟨q, HQ⟩ := nm (t % (8 * ls))
      rw [HQ.out] at e2 HTS
      have hszr := hBr.size
      have hkt : (L3.take k).length ≤ 3 := by have := HLL.out; simp; omega
      go_wp2_with (at_builtin; refine wpl_app1 rfl (.tmp 48) (.tmp 55) 33 rfl .i64 3 8 Tryd.underlying33 info_int (by decide) (w2.heap.size + 1) _ (L3.take k) wr hob rfl _ q rfl rfl ?_ ?_ ?_; (omega); (simp at hszr; omega); intro vb2 w5 hob5 hb5)
      go_roundw
      case rel => exact ⟨k + 1, by omega, by go_num, by rw [HTS.out]; exact hob5, hBr.trans hb5⟩
      case measure => simp [intOf]; omega
    · obtain rfl : k = 3 := by omega
      rw [show L3.take 3 = L3 by rw [List.take_of_length_le (by rw [HLL.out]; omega)]] at hob
      have hBw := hB20.trans (hBr.mono (by omega))
      have hs3 := hBr.size
      rw [World.size_alloc] at hs3
      have hSr := hS2.keep ((bel_alloc w2 _).trans (hBr.mono (by omega))) (Nat.le_refl _)
      clear hBr hS2 hB20 hB2 HRA
      obtain ⟨X, hX⟩ := nm (x % (8 * ls))
      obtain ⟨Y, hY⟩ := nm (y % (8 * ls))
      obtain ⟨Z, hZ⟩ := nm (z % (8 * ls))
      have hL3 : L3 = [X, Y, Z] := by rw [← HL3.out, ← hX.out, ← hY.out, ← hZ.out]; rfl
      subst hL3
      have hXl : X < 8 * ls := HLM.out X (by simp)
      have hYl : Y < 8 * ls := HLM.out Y (by simp)
      have hZl : Z < 8 * ls := HLM.out Z (by simp)
      obtain ⟨g, cb, rfl, hgb, hgl, hcb, hcb2⟩ : ∃ g cb, u13 = .slice (some ⟨g, 0, none⟩) 3 cb ∧ w2.heap.size + 1 ≤ g ∧ g < wr.heap.size ∧ 3 ≤ cb ∧ cb ≤ 9223372036854775807 := by
        rcases hob.form with ⟨_, e⟩ | ⟨g, cb, e, h1, h2, h3, h4⟩
        · simp at e
        · exact ⟨g, cb, e, h1, h2, h3, h4⟩
      have hbr := hob.reads
      have HBR := Lib.hid hbr
      have HSR := Lib.hid hSr
      clear hob hbr hSr hgb
      go_wp2_with fail
      obtain ⟨wo, rfl⟩ : ∃ wo : World, wo = wr := ⟨_, rfl⟩
      go_loopw [58] (fun vi wq => ∃ k : Nat, k ≤ 4 ∧ vi = .int .i64 (k : Int) ∧ Below wo.heap.size wo wq) (fun vi _ => 4 - (intOf vi).toNat)
      case atStart => exact ⟨0, by omega, rfl, Below.refl _ _⟩
      case round =>
        obtain ⟨k, hk4, rfl, hBq⟩ := hrel
        by_cases hlt4 : k < 4
        · have hsq := hBq.size
          have hk3 : (k : Int) ≤ (cb : Int) := by omega
          have hk0 : (0 : Int) ≤ (k : Int) := by omega
          have hSq := HSR.out.keep hBq (Nat.le_refl _)
          go_wp2_with (at_builtin; (refine wpl_app rfl (.tmp 61) (.tmp 62) 25 rfl .u8 5 1 Tryd.underlying25 info_u8 (by decide) wr.heap.size _ [] _ (owns_empty .u8 5 wr wr.heap.size (Nat.le_refl _)) rfl _ S rfl ?_ ?_ ?_ ?_; (exact hSq.keep (bel_alloc wr _) (Nat.le_refl _)); (rw [HSL.out]; simp; omega); (simp); intro vc w4 hc hb4))
          rw [List.nil_append] at hc
          obtain ⟨ac, lc, cc, rfl, hlc, hgc⟩ := hc.slice
          have hlc' : lc = ls := by have := HSL.out; omega
          subst hlc'
          have hb44 := hBq.trans (((bel_alloc wr (.cells #[] 5)).trans hb4).mono hsq)
          have hsb4 := hb4.size
          have hOC : Owns .u8 5 w4 wr.heap.size (.slice ac lc cc) (Gf.flips S []) := hc
          clear hc hlc hb4 hSq
          have HOC := Lib.hid hOC
          have hgc' : ∀ j, (Value.slice ac lc cc).ownBlock = some j → wo.heap.size ≤ j := fun j hj => Nat.le_trans hsq (hgc j hj).1
          have HGC := Lib.hid hgc'
          clear hOC hgc hgc'
          go_wp2_with fail
          obtain ⟨wp, rfl⟩ : ∃ wp : World, wp = wr := ⟨_, rfl⟩
          go_loopw [18, 68] (fun vl vi wq => ∃ i : Nat, i ≤ k ∧ vi = .int .i64 (i : Int) ∧ vl = .int .i64 (Gf.leftN [X, Y, Z] i) ∧ Owns .u8 5 wq wp.heap.size (.slice ac lc cc) (Gf.flips S (([X, Y, Z] : List Nat).take i)) ∧ Below wo.heap.size wo wq) (fun _ vi _ => k - (intOf vi).toNat)
          case atStart => exact ⟨0, Nat.zero_le _, rfl, rfl, HOC.out, hb44⟩
          case round =>
            obtain ⟨i, hi, rfl, rfl, hoc, hBr⟩ := hrel
            clear HOC hb44
            have hlN := Gf.leftN_bound [X, Y, Z] i
            by_cases hik : i < k
            · have hbr := HBR.out.keep hBr (Nat.le_refl _)
              obtain ⟨ya, cy, ee, _, _, hcell⟩ := hbr
              cases ee
              obtain ⟨yb, yo, ee, hc⟩ := hcell.resolve_left (by omega)
              cases ee
              have hi3 : i < ([X, Y, Z] : List Nat).length := by show i < 3; omega
              have ck := hc i hi3
              rw [Nat.zero_add] at ck
              have hzm := HLM.out (([X, Y, Z] : List Nat)[i]?.getD 0) (by rw [List.getElem?_eq_getElem hi3]; exact List.getElem_mem _)
              have hts : ([X, Y, Z] : List Nat).take (i + 1) = ([X, Y, Z] : List Nat).take i ++ [([X, Y, Z] : List Nat)[i]?.getD 0] := by
                rw [List.take_succ_eq_append_getElem hi3, List.getElem?_eq_getElem hi3]; rfl
              have hls : Gf.leftN [X, Y, Z] (i + 1) = Gf.leftN [X, Y, Z] i + if ([X, Y, Z] : List Nat)[i]?.getD 0 ∈ ([X, Y, Z] : List Nat).take i then -1 else 1 := rfl
              have hFb := Gf.bytes_flips (([X, Y, Z] : List Nat).take i) hSb
              have hrp := reads_pre (HBR.out) (show i ≤ 3 by omega)
              have HRP := Lib.hid (readsI_of hrp)
              have HTS := Lib.hid hts
              have HLS := Lib.hid hls
              have hil : (i : Int) ≤ 3 := by omega
              have hic : (i : Int) ≤ (cb : Int) := by omega
              clear hc hcell hts hls hrp
              obtain ⟨q0, HQ0⟩ := nm (([X, Y, Z] : List Nat)[i]?.getD 0)
              rw [HQ0.out] at ck hzm HTS HLS
              obtain ⟨F, HF⟩ := nm (Gf.flips S (([X, Y, Z] : List Nat).take i))
              rw [HF.out] at hoc hFb
              obtain ⟨lf, HLF⟩ := nm (Gf.leftN [X, Y, Z] i)
              rw [HLF.out] at hlN HLS ⊢
              obtain ⟨gc, xv, qv, rfl, hgc1, hgc2, hcell, hfr, hxv, hxx, HSET, hzl, hzt, hzd, hlcc, hcc⟩ := flip_step hoc hFb hzm
              have hgo : wo.heap.size ≤ gc := HGC.out gc rfl
              clear hoc
              obtain ⟨hl1, hl2⟩ := hlN
              go_wp2_with fail
              go_region
              clear hzt hzd hxx hzl
              have hBs := (hBr.setCell (p := ⟨gc, q0 / 8, none⟩) hgo (.int .u8 (qv : Int))).drew
              have hrk := HRP.out.keep (hBs) (Nat.le_refl _)
              have hmm : ((q0 : Int) ∈ (([X, Y, Z] : List Nat).take i).map fun (y : Nat) => (y : Int)) ↔ q0 ∈ ([X, Y, Z] : List Nat).take i := mem_cast _ _
              have HMM := Lib.hid hmm
              clear hmm
              go_wp2_with fail
              refine (contains_any _ _ q0 _ hrk).mono ?_
              rintro e w6 ⟨rfl, rfl⟩
              rw [show decide ((q0 : Int) ∈ (([X, Y, Z] : List Nat).take i).map fun (y : Nat) => (y : Int)) = decide (q0 ∈ ([X, Y, Z] : List Nat).take i) by rw [decide_eq_decide]; exact HMM.out]
              by_cases hmem : q0 ∈ ([X, Y, Z] : List Nat).take i
              · have HME := Lib.hid hmem
                rw [show decide (q0 ∈ ([X, Y, Z] : List Nat).take i) = true by simp only [HME.out, decide_true]]
                clear hmem hrk
                go_wp2_with fail
                go_roundw
                case rel => exact ⟨i + 1, by omega, by go_num, by rw [HLS.out, if_pos HME.out]; go_num, by rw [HTS.out, Gf.flips_snoc, HF.out]; exact World.ownsRow.drew HSET.out, hBs⟩
                case measure => simp [intOf]; omega
              · have HME := Lib.hid hmem
                rw [show decide (q0 ∈ ([X, Y, Z] : List Nat).take i) = false by simp only [HME.out, decide_false]]
                clear hmem hrk
                go_wp2_with fail
                go_roundw
                case rel => exact ⟨i + 1, by omega, by go_num, by rw [HLS.out, if_neg HME.out], by rw [HTS.out, Gf.flips_snoc, HF.out]; exact World.ownsRow.drew HSET.out, hBs⟩
                case measure => simp [intOf]; omega
            · obtain rfl : i = k := by omega
              have hk3' : i ≤ 3 := by omega
              have hlk := Gf.left_ok lc X Y Z i hlb2 hXl hYl hZl hk3'
              have hks : ∀ q ∈ ([X, Y, Z] : List Nat).take i, q < 8 * lc := fun q hq => HLM.out q (List.mem_of_mem_take hq)
              have hkl : (([X, Y, Z] : List Nat).take i).length = i := by simp; omega
              have hd := dam_nat lc (by omega) (by omega) (([X, Y, Z] : List Nat).take i) hks (by omega)
              have hsf := sealedB_flips S hSb (by rw [HSL.out]; omega) HSS.out (([X, Y, Z] : List Nat).take i) (fun q hq => by have := hks q hq; have := HSL.out; omega)
              rw [HSL.out] at hsf
              have hrp := (readsI_of (reads_pre (HBR.out) hk3')).keep hBr (Nat.le_refl _)
              have hFb := Gf.bytes_flips (([X, Y, Z] : List Nat).take i) hSb
              have hBw2 := hBw.trans (hBr.mono hBw.size)
              have hTr := HT.out.keep hBw2 (Nat.le_refl _)
              have hbnd : ∀ x ∈ (([X, Y, Z] : List Nat).take i).map (fun (y : Nat) => (y : Int)), -9223372036854775808 ≤ x ∧ x ≤ 9223372036854775807 := by
                intro x hx
                obtain ⟨y, hy, rfl⟩ := List.mem_map.1 hx
                have := hks y hy
                omega
              have hbr := HBR.out.keep hBr (Nat.le_refl _)
              obtain ⟨ya, cy, ee, _, _, hcell⟩ := hbr
              cases ee
              obtain ⟨yb, yo, ee, hc⟩ := hcell.resolve_left (by omega)
              cases ee
              have ck0 := hc 0 (by show 0 < 3; omega)
              have ck1 := hc 1 (by show 1 < 3; omega)
              have ck2 := hc 2 (by show 2 < 3; omega)
              rw [Nat.zero_add] at ck0 ck1 ck2
              have HD := Lib.hid hd
              have HSF := Lib.hid hsf
              have HBD := Lib.hid hbnd
              have HKS := Lib.hid hks
              have HRP := Lib.hid hrp
              have HLK := Lib.hid hlk
              have hoc' := hoc.reads
              have HRC := Lib.hid hoc'
              have hleft : Hid (Gf.leftOf X Y Z i = if i = 3 ∧ X = Y ∧ Y = Z then 1 else Gf.leftN [X, Y, Z] i) := Lib.hid rfl
              clear hd hsf hbnd hks hrp hlk hoc hoc' hc hcell hkl
              obtain ⟨L, HL⟩ := nm (([X, Y, Z] : List Nat).take i)
              rw [HL.out] at HD HSF HBD HRP HLK hFb HRC
              obtain ⟨lf, HLF⟩ := nm (Gf.leftN [X, Y, Z] i)
              rw [HLF.out] at hlN hleft ⊢
              obtain ⟨hl1, hl2⟩ := hlN
              go_upto_region 23 with fail
              go_cut [112] (fun v wx => v = .bool (decide (i = 3 ∧ X = Y ∧ Y = Z)) ∧ Below wr.heap.size wr wx)
              case first =>
                by_cases e3 : i = 3
                · have hq3 : ((i : Int) == 3) = true := beq_iff_eq.2 (by omega)
                  by_cases e01 : X = Y
                  · have hqX : ((X : Int) == (Y : Int)) = true := beq_iff_eq.2 (by omega)
                    by_cases e12 : Y = Z
                    · have hqY : ((Y : Int) == (Z : Int)) = true := beq_iff_eq.2 (by omega)
                      have hres : decide (i = 3 ∧ X = Y ∧ Y = Z) = true := decide_eq_true ⟨e3, e01, e12⟩
                      have HRES := Lib.hid hres
                      clear hres HXYZ HLL HLM e3 e01 e12
                      go_quiet (fail)
                      go_wp2_with fail
                      go_meet
                      exact ⟨by rw [HRES.out], below_drewN (Below.refl _ _) _⟩
                    · have hqY : ((Y : Int) == (Z : Int)) = false := beq_false_of_ne (by omega)
                      have hres : decide (i = 3 ∧ X = Y ∧ Y = Z) = false := decide_eq_false (fun h => e12 h.2.2)
                      have HRES := Lib.hid hres
                      clear hres HXYZ HLL HLM e3 e01 e12
                      go_quiet (fail)
                      go_wp2_with fail
                      go_meet
                      exact ⟨by rw [HRES.out], below_drewN (Below.refl _ _) _⟩
                  · have hqX : ((X : Int) == (Y : Int)) = false := beq_false_of_ne (by omega)
                    have hres : decide (i = 3 ∧ X = Y ∧ Y = Z) = false := decide_eq_false (fun h => e01 h.2.1)
                    have HRES := Lib.hid hres
                    clear hres HXYZ HLL HLM e3 e01
                    go_quiet (fail)
                    go_wp2_with fail
                    go_meet
                    exact ⟨by rw [HRES.out], below_drewN (Below.refl _ _) _⟩
                · have hq3 : ((i : Int) == 3) = false := beq_false_of_ne (by omega)
                  have hres : decide (i = 3 ∧ X = Y ∧ Y = Z) = false := decide_eq_false (fun h => e3 h.1)
                  have HRES := Lib.hid hres
                  clear hres HXYZ HLL HLM e3
                  go_quiet (fail)
                  go_wp2_with fail
                  go_meet
                  exact ⟨by rw [HRES.out], below_drewN (Below.refl _ _) _⟩
              case rest =>
                obtain ⟨rfl, hbc⟩ := hcut
                clear ck0 ck1 ck2
                have hv := hleft.out
                by_cases heq : i = 3 ∧ X = Y ∧ Y = Z
                · rw [if_pos heq] at hv
                  have HEQ := Lib.hid heq
                  have hd1 : decide (i = 3 ∧ X = Y ∧ Y = Z) = true := decide_eq_true heq
                  rw [hv] at HLK
                  cases hz : decide (Gf.bitvs lc L = 0)
                  · rw [hz] at HD HSF HLK
                    rw [hd1]
                    clear hz hd1 hv heq
                    go_wp2_with fail
                    refine (cdam_any lc (by omega) (by omega) _ HBD.out _ _ (HRP.out.keep hbc (Nat.le_refl _)) (hTr.keep hbc (Nat.le_refl _))).mono ?_
                    rintro e w6 ⟨rfl, hb6⟩
                    rw [HD.out.1, HD.out.2]
                    have hb6' := hbc.trans (hb6.mono hbc.size)
                    go_wp2_with fail
                    refine (sealed_any _ _ _ (HRC.out.keep hb6' (Nat.le_refl _)) hFb (hTr.keep hb6' (Nat.le_refl _))).mono ?_
                    rintro e w7 ⟨rfl, hb7⟩
                    rw [HSF.out]
                    have hB7 := hBr.trans ((hb6'.trans (hb7.mono hb6'.size)).mono hBr.size)
                    clear hb6 hb6' hb7 hBr hbc
                    go_wp2_with fail
                    go_roundw
                    case rel => first | exact ⟨i + 1, by omega, by go_num, hB7⟩ | ((repeat apply Exists.intro); exact ⟨⟨i + 1, by omega, by go_num, hB7⟩, rfl⟩)
                    case measure => simp [intOf]; omega
                  · exfalso
                    have h := HLK.out
                    rw [hz] at h
                    exact absurd h (by decide)
                · rw [if_neg heq] at hv
                  have HEQ := Lib.hid heq
                  have hd1 : decide (i = 3 ∧ X = Y ∧ Y = Z) = false := decide_eq_false heq
                  rw [hv] at HLK
                  cases hz : decide (Gf.bitvs lc L = 0)
                  · rw [hz] at HD HSF HLK
                    rw [hd1]
                    have hpos : 0 < lf := of_decide_eq_true HLK.out
                    clear hz hd1 hv heq
                    go_wp2_with fail
                    refine (cdam_any lc (by omega) (by omega) _ HBD.out _ _ (HRP.out.keep hbc (Nat.le_refl _)) (hTr.keep hbc (Nat.le_refl _))).mono ?_
                    rintro e w6 ⟨rfl, hb6⟩
                    rw [HD.out.1, HD.out.2]
                    have hb6' := hbc.trans (hb6.mono hbc.size)
                    go_wp2_with fail
                    refine (sealed_any _ _ _ (HRC.out.keep hb6' (Nat.le_refl _)) hFb (hTr.keep hb6' (Nat.le_refl _))).mono ?_
                    rintro e w7 ⟨rfl, hb7⟩
                    rw [HSF.out]
                    have hB7 := hBr.trans ((hb6'.trans (hb7.mono hb6'.size)).mono hBr.size)
                    clear hb6 hb6' hb7 hBr hbc
                    go_wp2_with fail
                    go_roundw
                    case rel => first | exact ⟨i + 1, by omega, by go_num, hB7⟩ | ((repeat apply Exists.intro); exact ⟨⟨i + 1, by omega, by go_num, hB7⟩, rfl⟩)
                    case measure => simp [intOf]; omega
                  · rw [hz] at HD HSF HLK
                    rw [hd1]
                    have hpos : lf ≤ 0 := Int.not_lt.1 (of_decide_eq_false HLK.out)
                    clear hz hd1 hv heq
                    go_wp2_with fail
                    refine (cdam_any lc (by omega) (by omega) _ HBD.out _ _ (HRP.out.keep hbc (Nat.le_refl _)) (hTr.keep hbc (Nat.le_refl _))).mono ?_
                    rintro e w6 ⟨rfl, hb6⟩
                    rw [HD.out.1, HD.out.2]
                    have hb6' := hbc.trans (hb6.mono hbc.size)
                    go_wp2_with fail
                    refine (sealed_any _ _ _ (HRC.out.keep hb6' (Nat.le_refl _)) hFb (hTr.keep hb6' (Nat.le_refl _))).mono ?_
                    rintro e w7 ⟨rfl, hb7⟩
                    rw [HSF.out]
                    have hB7 := hBr.trans ((hb6'.trans (hb7.mono hb6'.size)).mono hBr.size)
                    clear hb6 hb6' hb7 hBr hbc
                    go_wp2_with fail
                    go_roundw
                    case rel => first | exact ⟨i + 1, by omega, by go_num, hB7⟩ | ((repeat apply Exists.intro); exact ⟨⟨i + 1, by omega, by go_num, hB7⟩, rfl⟩)
                    case measure => simp [intOf]; omega
        · obtain rfl : k = 4 := by omega
          have hB9 := hBw.trans (hBq.mono hBw.size)
          go_wp2_with fail
          refine (awake_any _ (HT.out.keep hB9 (Nat.le_refl _))).mono ?_
          rintro e w8 ⟨rfl, hb8⟩
          go_wp2_with fail
          go_ret
          exact ⟨rfl, hB9.trans (hb8.mono hB9.size)⟩
end Go.Proofs.YtomddpplhllgcaaDoor
