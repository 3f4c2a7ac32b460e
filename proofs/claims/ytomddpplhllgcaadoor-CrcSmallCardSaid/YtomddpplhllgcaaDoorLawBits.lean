/- The walk of the law CrcBits. -/
import Derived.Test.YtomddpplhllgcaaDoorOwnI
import Derived.Test.YtomddpplhllgcaaDoorAwake
namespace Go.Proofs.YtomddpplhllgcaaDoor
open Go Go.RowKit Go.Shelf

def bitB (n k : Int) : Nat := if n < 1 ∨ 16777216 < n ∨ k < 0 ∨ 8 * n ≤ k then 0 else Gf.bitv n.toNat k.toNat
def bitE (n k : Int) : Int := if n < 1 ∨ 16777216 < n ∨ k < 0 ∨ 8 * n ≤ k then 2 else 0
theorem cbit_all (n k : Int) (w : World) (hT : Tab w) :
    Calls Tryd.prog 29 #[.int .i64 n, .int .i64 k] w fun e w' => e = .returned (.tuple #[.int .u32 (bitB n k : Nat), .int .i64 (bitE n k)]) ∧ Below w.heap.size w w' := by
  by_cases h : n < 1 ∨ 16777216 < n ∨ k < 0 ∨ 8 * n ≤ k
  · unfold bitB bitE
    rw [if_pos h, if_pos h]
    refine (cbit_err n k h w).mono ?_
    rintro e w' ⟨rfl, rfl⟩
    exact ⟨rfl, Below.refl _ _⟩
  · unfold bitB bitE
    rw [if_neg h, if_neg h]
    exact cbit_any n k (by omega) (by omega) (by omega) (by omega) w hT
theorem rbit_all (n k : Int) (w : World) :
    Calls Tryd.prog 46 #[.int .i64 n, .int .i64 k] w fun e w' => e = .returned (.tuple #[.int .u32 (bitB n k : Nat), .int .i64 (bitE n k)]) ∧ Below w.heap.size w w' := by
  by_cases h : n < 1 ∨ 16777216 < n ∨ k < 0 ∨ 8 * n ≤ k
  · unfold bitB bitE
    rw [if_pos h, if_pos h]
    refine (rbit_err n k h w).mono ?_
    rintro e w' ⟨rfl, rfl⟩
    exact ⟨rfl, Below.refl _ _⟩
  · unfold bitB bitE
    rw [if_neg h, if_neg h]
    obtain ⟨m, rfl⟩ : ∃ m : Nat, n = (m : Int) := ⟨n.toNat, by omega⟩
    obtain ⟨j, rfl⟩ : ∃ j : Nat, k = (j : Int) := ⟨k.toNat, by omega⟩
    exact rbit_any m j (by omega) (by omega) w
theorem cdam_all (n : Int) (l : List Int) (hb : ∀ x ∈ l, -9223372036854775808 ≤ x ∧ x ≤ 9223372036854775807) (v : Value) (w : World) (hv : ReadsI .i64 w v l) (hT : Tab w) :
    Calls Tryd.prog 25 #[.int .i64 n, v] w fun e w' => e = .returned (.tuple #[.bool (damB n l), .int .i64 (damE n l)]) ∧ Below w.heap.size w w' := by
  by_cases h : n < 4 ∨ 16777216 < n
  · exact cdam_bad n l v w h
  · exact cdam_any n (by omega) (by omega) l hb v w hv hT
theorem rdam_all (n : Int) (l : List Int) (hb : ∀ x ∈ l, -9223372036854775808 ≤ x ∧ x ≤ 9223372036854775807) (v : Value) (w : World) (hv : ReadsI .i64 w v l) :
    Calls Tryd.prog 47 #[.int .i64 n, v] w fun e w' => e = .returned (.tuple #[.bool (damB n l), .int .i64 (damE n l)]) ∧ Below w.heap.size w w' := by
  by_cases h : n < 4 ∨ 16777216 < n
  · exact rdam_bad n l v w h
  · obtain ⟨m, rfl⟩ : ∃ m : Nat, n = (m : Int) := ⟨n.toNat, by omega⟩
    exact rdam_any m (by omega) (by omega) l hb v w hv

set_option maxRecDepth 100000 in
set_option maxHeartbeats 1000000 in
theorem bits_any (n k : Int) (v : Value) (l : List Int) (hb : ∀ x ∈ l, -9223372036854775808 ≤ x ∧ x ≤ 9223372036854775807) (hL : l.length ≤ 100000) (w : World) (hv : ReadsI .i64 w v l) (hT : Tab w) :
    Calls Tryd.prog 21 #[.int .i64 n, .int .i64 k, v] w fun e w' => e = .returned (.bool true) ∧ Below w.heap.size w w' := by
  have hv0 := hv
  obtain ⟨a, cap, rfl, hlc, hcm, hcs⟩ := hv
  obtain ⟨L, HL⟩ := nm l.length
  rw [HL.out] at hlc hcs hv0 hL ⊢
  have HC := Lib.hid hcs
  have HV := Lib.hid hv0
  have HB := Lib.hid hb
  clear hcs hv0 hb
  obtain ⟨q, HQ⟩ := nm (bitB n k)
  obtain ⟨qe, HQE⟩ := nm (bitE n k)
  obtain ⟨d, HD⟩ := nm (damB n l)
  obtain ⟨de, HDE⟩ := nm (damE n l)
  go_enter Tryd.func21, Tryd.ntmps21
  go_wp2_with fail
  refine (cbit_all n k _ hT).mono ?_
  rintro e w1 ⟨rfl, hb1⟩
  rw [HQ.out, HQE.out]
  go_wp2_with fail
  refine (rbit_all n k _).mono ?_
  rintro e w2 ⟨rfl, hb2⟩
  rw [HQ.out, HQE.out]
  have hB2 := hb1.trans (hb2.mono hb1.size)
  clear hb1 hb2
  go_wp2_with (at_builtin; refine wpl_appI rfl (.tmp 29) (.tmp 30) 33 rfl .i64 3 8 Tryd.underlying33 info_int (by decide) w2.heap.size _ [] _ (ownsI_empty .i64 3 w2 w2.heap.size (Nat.le_refl _)) rfl _ l rfl ?_ ?_ ?_ ?_; (exact HV.out.keep (hB2.trans ((bel_alloc w2 _).mono hB2.size)) (Nat.le_refl _)); (rw [HL.out]; simp; omega); (simp); intro vo w3 ho hb3; have HO := Lib.hid ho; clear ho)
  have hb23 := (bel_alloc w2 (.cells #[] 3)).trans hb3
  have hB3 := hB2.trans (hb23.mono hB2.size)
  have hro : ReadsI .i64 w3 vo l := HO.out.reads
  clear HO hb3 hb23
  refine (cdam_all n l HB.out _ _ hro (hT.keep hB3 (Nat.le_refl _))).mono ?_
  rintro e w4 ⟨rfl, hb4⟩
  rw [HD.out, HDE.out]
  have hB4 := hB3.trans (hb4.mono hB3.size)
  have hro4 := hro.keep hb4 (Nat.le_refl _)
  clear hB3 hro hb4
  go_wp2_with fail
  refine (rdam_all n l HB.out _ _ (HV.out.keep hB4 (Nat.le_refl _))).mono ?_
  rintro e w5 ⟨rfl, hb5⟩
  rw [HD.out, HDE.out]
  have hB5 := hB4.trans (hb5.mono hB4.size)
  have hro5 := hro4.keep hb5 (Nat.le_refl _)
  obtain ⟨ao, co, rfl, hlo, hmo, hco⟩ := hro5
  rw [HL.out] at hlo hco ⊢
  have HCO := Lib.hid hco
  clear hB4 hro4 hb5 hco
  have hdd : (d != d) = false := by simp
  go_wp2_with fail
  go_loopw [64] (fun vk wr => ∃ j : Nat, vk = .int .i64 (j : Int) ∧ j ≤ L ∧ Below w5.heap.size w5 wr)
    (fun vk _ => L - (intOf vk).toNat)
  case atStart => exact ⟨0, rfl, Nat.zero_le _, Below.refl _ _⟩
  case round =>
    obtain ⟨j, rfl, hj, hBr⟩ := hrel
    by_cases hlt : j < L
    · obtain ⟨b, off, rfl, hc⟩ := HC.out.resolve_left (fun h => by omega)
      obtain ⟨b2, off2, rfl, hc2⟩ := HCO.out.resolve_left (fun h => by omega)
      have ck := cell_keep (hB5.trans (hBr.mono hB5.size)) (hc j hlt) (cell_lt (hc j hlt))
      have ck2 := cell_keep hBr (hc2 j hlt) (cell_lt (hc2 j hlt))
      obtain ⟨y, HY⟩ := nm (l[j]?.getD 0)
      rw [HY.out] at ck ck2
      clear hc hc2
      go_wp2_with fail
      go_region
      all_goals
        go_wp2_with fail
        go_roundw
        case rel => exact ⟨j + 1, by go_num, by omega, hBr.drew⟩
        case measure => simp [intOf]; omega
    · obtain rfl : j = L := by omega
      go_wp2_with fail
      go_ret
      exact ⟨rfl, hB5.trans (hBr.mono hB5.size)⟩

set_option maxRecDepth 100000 in
set_option maxHeartbeats 1000000 in
theorem crcBits_all (n : Int) (hn : -9223372036854775808 ≤ n ∧ n ≤ 9223372036854775807) (k : Int) (hk : -9223372036854775808 ≤ k ∧ k ≤ 9223372036854775807) (v : Value) (l : List Int) (w : World) (hv : ReadsI .i64 w v l) (hb : ∀ x ∈ l, -9223372036854775808 ≤ x ∧ x ≤ 9223372036854775807) (hT : Tab w) :
    Calls Tryd.prog 6 #[.int .i64 n, .int .i64 k, v] w fun e w' => e = .returned (.bool true) ∧ Below w.heap.size w w' := by
  have hlen := hv.len
  have hv0 := hv
  obtain ⟨a, cap, rfl, hlc, hcm, hcs⟩ := hv
  obtain ⟨L, HL⟩ := nm l.length
  rw [HL.out] at hlen hlc hv0 ⊢
  have HV := Lib.hid hv0
  have HB := Lib.hid hb
  clear hcs hv0 hb
  go_enter Tryd.func6, Tryd.ntmps6
  go_wp2_with fail
  all_goals first
    | (go_at_call 15
       refine (awake_any _ hT).mono ?_
       rintro e w1 ⟨rfl, hb1⟩
       go_wp2_with fail
       go_ret
       exact ⟨rfl, hb1⟩)
    | (go_at_call 21
       refine (bits_any n k _ l HB.out (by rw [HL.out]; omega) _ HV.out hT).mono ?_
       rintro e w1 ⟨rfl, hb1⟩
       go_wp2_with fail
       refine (awake_any _ (hT.keep hb1 (Nat.le_refl _))).mono ?_
       rintro e w2 ⟨rfl, hb2⟩
       go_wp2_with fail
       go_ret
       exact ⟨rfl, hb1.trans (hb2.mono hb1.size)⟩)
end Go.Proofs.YtomddpplhllgcaaDoor
