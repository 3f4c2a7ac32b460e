/- The walk of damage.Flip. -/
import Derived.Test.YtmjigpnpcacefaaDoorDmgB
import Derived.Test.YtmjigpnpcacefaaDoorDmgC
namespace Go.Proofs.YtmjigpnpcacefaaDoor
open Go Go.RowKit Go.Shelf

theorem ReadsI.pre {k : IntKind} {w : World} {a : Option Addr} {len cap n : Nat} {xs : List Int} (h : ReadsI k w (.slice a len cap) xs) (hn : n ≤ len) : ReadsI k w (.slice a n cap) (xs.take n) := by
  obtain ⟨a', cap', e, hl, hm, hc⟩ := h
  cases e
  refine ⟨a, cap, by simp [Nat.min_eq_left hn], by simp; omega, hm, ?_⟩
  rcases hc with h0 | ⟨b, off, e, hcell⟩
  · exact .inl h0
  · refine .inr ⟨b, off, e, fun i hi => ?_⟩
    have hi2 : i < n := by simp at hi; omega
    rw [hcell i (by omega), List.getElem?_take, if_pos hi2]
/-- The number of the error of Flip: n bytes; the bits ahead of these; these bits. -/
def flE (n : Nat) : List Int → List Int → Int
  | _, [] => 0
  | pre, k :: ks => if k < 0 ∨ (n : Int) ≤ k / 8 then 130 else if k ∈ pre then 131 else flE n (pre ++ [k]) ks
def flipE (xs : List Nat) (l : List Int) : Int := flE xs.length [] l
def flipV (xs : List Nat) (l : List Int) : List Nat := if flipE xs l = 0 then Gf.flips xs (l.map Int.toNat) else []
theorem drop_get (l : List Int) (i : Nat) (h : i < l.length) : l.drop i = l[i]?.getD 0 :: l.drop (i + 1) := by
  rw [List.drop_eq_getElem_cons h, List.getElem?_eq_getElem h]; rfl
theorem take_get (l : List Int) (i : Nat) (h : i < l.length) : l.take (i + 1) = l.take i ++ [l[i]?.getD 0] := by
  rw [List.take_succ_eq_append_getElem h, List.getElem?_eq_getElem h]; rfl
theorem shl_u8 {m : Nat} (h : m < 8) : IntKind.u8.wrap ((2 : Int) ^ m) = ((2 ^ m : Nat) : Int) := by
  have h1 := Gf.pow_lt8 h
  have e : ((2 : Int) ^ m) = ((2 ^ m : Nat) : Int) := by simp
  obtain ⟨p, HP⟩ := nm (2 ^ m)
  rw [HP.out] at h1 e
  rw [e, HP.out, IntKind.wrap_u8]
  omega
theorem flips_snoc (xs : List Nat) (l : List Nat) (k : Nat) : Gf.flips xs (l ++ [k]) = Gf.flip (Gf.flips xs l) k := by
  unfold Gf.flips
  rw [List.foldl_append]; rfl

set_option maxRecDepth 100000 in
set_option maxHeartbeats 4000000 in
theorem flip_any (v : Value) (xs : List Nat) (vl : Value) (l : List Int) (w : World) (hv : Reads .u8 w v xs) (hx : Bytes xs) (hxl : xs.length < 100000000) (hl : ReadsI .i64 w vl l) (hlb : ∀ k ∈ l, -9223372036854775808 ≤ k ∧ k ≤ 9223372036854775807) :
    Calls Tryd.prog 13 #[v, vl] w fun e w' => ∃ v', e = .returned (.tuple #[v', .int .i64 (flipE xs l)]) ∧ Owns .u8 5 w' w.heap.size v' (flipV xs l) ∧ Below w.heap.size w w' := by
  have hcl := clone_bytes v xs w hv (by omega)
  obtain ⟨ab, cb, rfl, _, _, hx1⟩ := hv
  have hl0 := hl
  obtain ⟨al, cl, rfl, hlc, hcm, hcs⟩ := hl
  clear hx1
  have hfE : flipE xs l = flE xs.length [] l := rfl
  have hfV : flipV xs l = if flipE xs l = 0 then Gf.flips xs (l.map Int.toNat) else [] := rfl
  have hgets := fun i (h : i < l.length) => (⟨drop_get l i h, take_get l i h⟩ : _ ∧ _)
  have hbx := fun ks => Gf.bytes_flips ks hx
  have hlen := fun ks => Gf.flips_length ks xs
  have hmem := fun i (h : i < l.length) => hlb _ (ReadsI.getMem h)
  obtain ⟨n, HN⟩ := nm xs.length
  obtain ⟨m, HM⟩ := nm l.length
  simp only [HN.out] at hlen
  rw [HN.out] at hfE hxl
  rw [HM.out] at hl0 hlc hcs
  simp only [HN.out] at hcl ⊢
  rw [HM.out]
  simp only [HM.out] at hgets hmem
  have HCL := Lib.hid hcl
  have HFE := Lib.hid hfE
  have HFV := Lib.hid hfV
  have HG := Lib.hid hgets
  have HBX := Lib.hid hbx
  have HLN := Lib.hid hlen
  have HME := Lib.hid hmem
  have HL0 := Lib.hid hl0
  clear hcl hfE hfV hgets hbx hlen hmem hl0 hlb hx
  go_enter Tryd.func13, Tryd.ntmps13
  go_wp2
  go_step3
  go_wp2_with fail
  refine (HCL.out).mono ?_
  rintro e w1 ⟨vo, rfl, ho1, hb1⟩
  obtain ⟨ao, no, co, rfl, hno, _⟩ := ho1.slice
  rw [HN.out] at hno
  subst hno
  have HO1 := Lib.hid ho1
  clear ho1 HCL
  go_wp2_with fail
  go_step3
  go_wp2_with fail
  go_loopw [7, 14] (fun ve vi wr => ∃ i : Nat, i ≤ m ∧ vi = .int .i64 (i : Int) ∧ ve = .int .i64 0 ∧ Owns .u8 5 wr w.heap.size (.slice ao no co) (Gf.flips xs ((l.take i).map Int.toNat)) ∧ Hid (flE no [] l = flE no (l.take i) (l.drop i)) ∧ Below w.heap.size w wr) (fun _ vi _ => m - (intOf vi).toNat)
  case atStart => exact ⟨0, Nat.zero_le _, rfl, rfl, by simpa [Gf.flips] using HO1.out, Lib.hid rfl, hb1⟩
  case round =>
    obtain ⟨i, hi, rfl, rfl, hown, HE, hBr⟩ := hrel
    have HO := Lib.hid hown
    clear hown HO1
    by_cases hin : i < m
    · obtain ⟨hdr, htk⟩ := HG.out i hin
      have hKb := HME.out i hin
      obtain ⟨bl, ol, rfl, hcell⟩ := hcs.resolve_left (fun h => by omega)
      have hc := cell_keep hBr (hcell i hin) (cell_lt (hcell i hin))
      have hcon := contains_any _ _ (l[i]?.getD 0) wr ((HL0.out.keep hBr (Nat.le_refl _)).pre (show i ≤ m by omega))
      obtain ⟨K, HK⟩ := nm (l[i]?.getD 0)
      rw [HK.out] at hdr htk hKb hc hcon
      have hst : flE no (l.take i) (l.drop i) = if K < 0 ∨ (no : Int) ≤ K / 8 then 130 else if K ∈ l.take i then 131 else flE no (l.take (i + 1)) (l.drop (i + 1)) := by
        rw [hdr, htk]; rfl
      by_cases hbad : K < 0 ∨ (no : Int) ≤ K / 8
      · rw [if_pos hbad] at hst
        have HF := Lib.hid (HFE.out.trans (HE.out.trans hst))
        clear hst hdr htk hcon hcell hcs HE
        by_cases hneg : K < 0
        · go_wp2_with fail
          try rw [Exit.noGoto_ret]
          go_ret2
          exact ⟨_, by rw [HF.out]; rfl, by rw [HFV.out, HF.out, if_neg (by decide)]; exact Owns.nil _ _ _ _, hBr⟩
        · have h8 : (no : Int) ≤ K / 8 := by omega
          clear hbad
          go_wp2_with fail
          try rw [Exit.noGoto_ret]
          go_ret2
          exact ⟨_, by rw [HF.out]; rfl, by rw [HFV.out, HF.out, if_neg (by decide)]; exact Owns.nil _ _ _ _, hBr⟩
      · rw [if_neg hbad] at hst
        have h0 : 0 ≤ K := by omega
        have h8 : K / 8 < (no : Int) := by omega
        clear hbad
        by_cases hin2 : K ∈ l.take i
        · rw [if_pos hin2] at hst
          rw [decide_eq_true hin2] at hcon
          have HF := Lib.hid (HFE.out.trans (HE.out.trans hst))
          have HC := Lib.hid hcon
          clear hst hdr htk hcon hcell hcs HE hin2
          go_wp2_with fail
          refine HC.out.mono ?_
          rintro e w2 ⟨rfl, rfl⟩
          go_wp2_with fail
          try rw [Exit.noGoto_ret]
          go_ret2
          exact ⟨_, by rw [HF.out]; rfl, by rw [HFV.out, HF.out, if_neg (by decide)]; exact Owns.nil _ _ _ _, hBr⟩
        · rw [if_neg hin2] at hst
          rw [decide_eq_false hin2] at hcon
          have HF := Lib.hid (HE.out.trans hst)
          have HC := Lib.hid hcon
          have HT := Lib.hid htk
          clear hst hdr htk hcon hcell hcs HE hin2
          obtain ⟨M, rfl⟩ := Int.eq_ofNat_of_zero_le h0
          have hM8 : M / 8 < no := by omega
          have hsn := flips_snoc xs ((l.take i).map Int.toNat) M
          have hlen := HLN.out ((l.take i).map Int.toNat)
          have hby := (HBX.out ((l.take i).map Int.toNat)).get (M / 8)
          have hfl : Gf.flip (Gf.flips xs ((l.take i).map Int.toNat)) M = (Gf.flips xs ((l.take i).map Int.toNat)).set (M / 8) ((Gf.flips xs ((l.take i).map Int.toNat))[M / 8]?.getD 0 ^^^ 2 ^ (M % 8)) := rfl
          obtain ⟨g, rfl, hg1, hg2, hgl, hg3, hg4, hgc, hgf, hgs⟩ := HO.out.at hM8
          clear hgl
          obtain ⟨Z, HZ⟩ := nm (Gf.flips xs ((l.take i).map Int.toNat))
          rw [HZ.out] at hsn hlen hby hfl hgc
          simp only [HZ.out] at hgs
          have hm8 : M % 8 < 8 := Nat.mod_lt _ (by decide)
          have hsh := shl_u8 hm8
          have hpl := Gf.pow_lt8 hm8
          have hmod : (M : Int) % 8 = ((M % 8 : Nat) : Int) := by omega
          have hdiv : (M : Int) / 8 = ((M / 8 : Nat) : Int) := by omega
          have hxor := u8_xor_nat (Z[M / 8]?.getD 0) (2 ^ (M % 8)) hby hpl
          obtain ⟨c, HCC⟩ := nm (Z[M / 8]?.getD 0)
          obtain ⟨r, HR⟩ := nm (M % 8)
          obtain ⟨j, HJ⟩ := nm (M / 8)
          rw [HCC.out] at hby hfl hgc hxor
          rw [HR.out] at hm8 hsh hpl hmod hxor hfl
          rw [HJ.out] at hM8 hdiv hgc hgf hfl
          simp only [HJ.out] at hgs
          obtain ⟨p, HP⟩ := nm (2 ^ r)
          rw [HP.out] at hsh hpl hxor hfl
          obtain ⟨c2, HC2⟩ := nm (c ^^^ p)
          rw [HC2.out] at hxor hfl
          have hs2 := hgs (c2 : Int) (by omega)
          rw [show ((c2 : Nat) : Int).toNat = c2 from rfl, ← hfl, ← hsn] at hs2
          have HS2 := Lib.hid hs2
          have hB2 : Below w.heap.size w (wr.setCell ⟨g, j, none⟩ (.int .u8 (c2 : Int))) := hBr.setCell (p := ⟨g, j, none⟩) hg1 _
          clear hs2 hgs hfl hsn hpl hby hlen HO h0 h8
          go_wp2_with fail
          refine HC.out.mono ?_
          rintro e w2 ⟨rfl, rfl⟩
          go_wp2_with fail
          go_region
          all_goals
            go_wp2
            go_roundw
            case rel => exact ⟨i + 1, by omega, by go_num, rfl, by rw [HT.out, List.map_append]; exact HS2.out, Lib.hid (by rw [HF.out]), hB2.drew⟩
            case measure => simp [intOf]; omega
    · obtain rfl : i = m := by omega
      have hE0 : flE no [] l = 0 := by
        rw [HE.out, List.drop_eq_nil_of_le (by rw [HM.out]; exact Nat.le_refl _)]; rfl
      have HF := Lib.hid (HFE.out.trans hE0)
      have htk : l.take i = l := List.take_of_length_le (by rw [HM.out]; exact Nat.le_refl _)
      have hO2 := HO.out
      rw [htk] at hO2
      have HO2 := Lib.hid hO2
      clear hE0 htk hO2 HO HE hcs
      go_wp2_with fail
      try rw [Exit.noGoto_ret]
      go_ret2
      exact ⟨_, by rw [HF.out]; rfl, by rw [HFV.out, HF.out, if_pos rfl]; exact HO2.out, hBr⟩
end Go.Proofs.YtmjigpnpcacefaaDoor
