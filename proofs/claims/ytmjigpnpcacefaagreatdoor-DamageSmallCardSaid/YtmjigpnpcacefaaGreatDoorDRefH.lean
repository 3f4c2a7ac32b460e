/- The walks of the reference's bit and Flip. -/
import Derived.Test.YtmjigpnpcacefaaGreatDoorDmgE
import Derived.Test.YtmjigpnpcacefaaGreatDoorDmgP
import Derived.Test.YtmjigpnpcacefaaGreatDoorOwnV
namespace Go.Proofs.YtmjigpnpcacefaaGreatDoor
open Go Go.RowKit Go.Shelf

theorem pm_bit : ∀ c : Fin 256, ∀ r : Fin 8, if c.val.testBit r.val then 2 ^ r.val ≤ c.val ∧ c.val - 2 ^ r.val = c.val ^^^ 2 ^ r.val else c.val + 2 ^ r.val < 256 ∧ c.val + 2 ^ r.val = c.val ^^^ 2 ^ r.val := by decide +kernel
theorem bit_minus {c r : Nat} (hc : c < 256) (hr : r < 8) (h : c.testBit r = true) : 2 ^ r ≤ c ∧ c - 2 ^ r = c ^^^ 2 ^ r := by
  have := pm_bit ⟨c, hc⟩ ⟨r, hr⟩
  simpa [h] using this
theorem bit_plus {c r : Nat} (hc : c < 256) (hr : r < 8) (h : c.testBit r = false) : c + 2 ^ r < 256 ∧ c + 2 ^ r = c ^^^ 2 ^ r := by
  have := pm_bit ⟨c, hc⟩ ⟨r, hr⟩
  simpa [h] using this
theorem bitAt_other (k : Nat) : ∀ (ks xs : List Nat), k ∉ ks → bitAt (Gf.flips xs ks) k = bitAt xs k := by
  intro ks
  induction ks with
  | nil => intro xs _; rfl
  | cons j ks ih =>
    intro xs hk
    have h1 : k ∉ ks := fun h => hk (List.mem_cons_of_mem _ h)
    have h2 : j ≠ k := fun h => hk (by rw [h]; exact List.mem_cons_self)
    show bitAt (Gf.flips (Gf.flip xs j) ks) k = _
    rw [ih _ h1]
    by_cases hj : j / 8 < xs.length
    · rw [bitAt_flip _ _ _ hj, decide_eq_false h2, Bool.xor_false]
    · unfold Gf.flip
      rw [List.set_eq_of_length_le (show xs.length ≤ j / 8 by omega)]
/-- A bit of bytes, as a number. -/
def bitV (xs : List Nat) (k : Nat) : Nat := (xs[k / 8]?.getD 0) / 2 ^ (k % 8) % 2
theorem bitV_eq (xs : List Nat) (k : Nat) : bitV xs k = if bitAt xs k then 1 else 0 := by
  unfold bitV bitAt
  rw [Nat.testBit_eq_decide_div_mod_eq]
  have : (xs[k / 8]?.getD 0) / 2 ^ (k % 8) % 2 < 2 := Nat.mod_lt _ (by decide)
  split
  · rename_i h; exact of_decide_eq_true h
  · rename_i h
    have h2 : ¬ (xs[k / 8]?.getD 0) / 2 ^ (k % 8) % 2 = 1 := fun e => h (decide_eq_true e)
    omega
set_option maxRecDepth 100000 in
theorem rbit13_any (v : Value) (xs : List Nat) (k : Nat) (w : World) (hv : Reads .u8 w v xs) (hx : Bytes xs) (hk : k / 8 < xs.length) (hk2 : k < 9223372036854775807) :
    Calls Tryz.prog 47 #[v, .int .i64 (k : Int)] w fun e w' => e = .returned (.int .i64 (bitV xs k : Nat)) ∧ w = w' := by
  obtain ⟨a, cap, rfl, hlc, hcm, hcs⟩ := hv
  obtain ⟨b, off, rfl, hcell⟩ := hcs.resolve_left (fun h => by omega)
  have hc := hcell (k / 8) hk
  have hx8 := hx.get (k / 8)
  have hm8 : k % 8 < 8 := Nat.mod_lt _ (by decide)
  have hmod : (k : Int) % 8 = ((k % 8 : Nat) : Int) := by omega
  have hdiv : (k : Int) / 8 = ((k / 8 : Nat) : Int) := by omega
  have hbv : bitV xs k = (xs[k / 8]?.getD 0) / 2 ^ (k % 8) % 2 := rfl
  obtain ⟨n, HN⟩ := nm xs.length
  rw [HN.out] at hlc hk ⊢
  obtain ⟨x, HX⟩ := nm (xs[k / 8]?.getD 0)
  rw [HX.out] at hc hx8 hbv
  obtain ⟨r, HR⟩ := nm (k % 8)
  rw [HR.out] at hm8 hmod hbv
  obtain ⟨j, HJ⟩ := nm (k / 8)
  rw [HJ.out] at hk hdiv hc
  obtain ⟨y, HY⟩ := nm (x / 2 ^ r)
  have hsh : (x : Int) / 2 ^ r = (y : Int) := by rw [← HY.out]; simp
  rw [HY.out] at hbv
  rw [hbv]
  have hy2 : (y : Int) % 2 = ((y % 2 : Nat) : Int) := by omega
  have hyx : y ≤ x := by rw [← HY.out]; exact Nat.div_le_self _ _
  obtain ⟨z, HZ⟩ := nm (y % 2)
  rw [HZ.out] at hy2 ⊢
  clear hcell hcs hbv
  go_enter Tryz.func47, Tryz.ntmps47
  go_wp2_with fail
  go_ret
  exact ⟨by rw [← hy2]; rfl, rfl⟩
set_option maxRecDepth 100000 in
set_option maxHeartbeats 4000000 in
theorem rflip13_any (v : Value) (xs : List Nat) (vl : Value) (l : List Int) (w : World) (hv : Reads .u8 w v xs) (hx : Bytes xs) (hxl : xs.length < 100000000) (hl : ReadsI .i64 w vl l) (hlb : ∀ k ∈ l, -9223372036854775808 ≤ k ∧ k ≤ 9223372036854775807) :
    Calls Tryz.prog 16 #[v, vl] w fun e w' => ∃ v', e = .returned (.tuple #[v', .int .i64 (flipE xs l)]) ∧ Owns .u8 5 w' w.heap.size v' (flipV xs l) ∧ Below w.heap.size w w' := by
  have HV := Lib.hid hv
  obtain ⟨ab, cb, rfl, _, _, hx1⟩ := hv
  obtain ⟨al, cl, rfl, hlc, hcm, hcs⟩ := hl
  clear hx1
  have hfE : flipE xs l = flE xs.length [] l := rfl
  have hfV : flipV xs l = if flipE xs l = 0 then Gf.flips xs (l.map Int.toNat) else [] := rfl
  have hgets := fun i (h : i < l.length) => (⟨drop_get l i h, take_get l i h⟩ : _ ∧ _)
  have hbx := fun ks => Gf.bytes_flips ks hx
  have hlen := fun ks => Gf.flips_length ks xs
  have hmem := fun i (h : i < l.length) => hlb _ (ReadsI.getMem h)
  obtain ⟨n, HN⟩ := nm xs.length
  obtain ⟨m, HM⟩ := nm l.length
  simp only [HN.out] at hlen
  rw [HN.out] at hfE hxl HV
  rw [HM.out] at hlc hcs
  rw [HN.out, HM.out]
  simp only [HM.out] at hgets hmem
  have HFE := Lib.hid hfE
  have HFV := Lib.hid hfV
  have HG := Lib.hid hgets
  have HBX := Lib.hid hbx
  have HLN := Lib.hid hlen
  have HME := Lib.hid hmem
  have HX := Lib.hid hx
  clear hfE hfV hgets hbx hlen hmem hlb hx
  go_enter Tryz.func16, Tryz.ntmps16
  go_wp2_with (at_builtin; refine wpl_app rfl (.tmp 10) (.tmp 11) 22 rfl .u8 5 1 Tryz.underlying22 info_u8 (by decide) w.heap.size _ [] _ (owns_empty .u8 5 w w.heap.size (Nat.le_refl _)) rfl _ xs rfl (HV.out.keep (bel_alloc w _) (Nat.le_refl _)) (by rw [HN.out]; simp; omega) (by simp) ?_; intro v2 w2 ho2 hb2; rw [List.nil_append] at ho2; obtain ⟨ao, no, co, rfl, hno, -⟩ := ho2.slice; rw [HN.out] at hno; subst hno; have HO2 := Lib.hid ho2; have HB2 := Lib.hid ((bel_alloc w _).trans hb2); clear ho2 hb2)
  go_loopw [7] (fun vi wr => ∃ i : Nat, i ≤ m ∧ vi = .int .i64 (i : Int) ∧ Owns .u8 5 wr w.heap.size (.slice ao no co) (Gf.flips xs ((l.take i).map Int.toNat)) ∧ Hid (flE no [] l = flE no (l.take i) (l.drop i)) ∧ Hid (∀ z ∈ l.take i, 0 ≤ z) ∧ Below w.heap.size w wr) (fun vi _ => m - (intOf vi).toNat)
  case atStart => exact ⟨0, Nat.zero_le _, rfl, by simpa [Gf.flips] using HO2.out, Lib.hid rfl, Lib.hid (fun z hz => by simp at hz), HB2.out⟩
  case round =>
    obtain ⟨i, hi, rfl, hown, HE, HNN, hBr⟩ := hrel
    have HO := Lib.hid hown
    clear hown HO2
    by_cases hin : i < m
    · obtain ⟨hdr, htk⟩ := HG.out i hin
      have hKb := HME.out i hin
      obtain ⟨bl, ol, rfl, hcell⟩ := hcs.resolve_left (fun h => by omega)
      have HCELL := Lib.hid hcell
      have hc := cell_keep hBr (hcell i hin) (cell_lt (hcell i hin))
      obtain ⟨K, HK⟩ := nm (l[i]?.getD 0)
      rw [HK.out] at hdr htk hKb hc
      have hst : flE no (l.take i) (l.drop i) = if K < 0 ∨ (no : Int) ≤ K / 8 then 130 else if K ∈ l.take i then 131 else flE no (l.take (i + 1)) (l.drop (i + 1)) := by
        rw [hdr, htk]; rfl
      have HBr := Lib.hid hBr
      have HTK := Lib.hid htk
      by_cases hbad : K < 0 ∨ (no : Int) ≤ K / 8
      · rw [if_pos hbad] at hst
        have HF := Lib.hid (HFE.out.trans (HE.out.trans hst))
        clear hst hdr htk hcell hcs HE hBr
        by_cases hneg : K < 0
        · go_wp2_with fail
          go_ret2
          exact ⟨_, by rw [HF.out]; rfl, by rw [HFV.out, HF.out, if_neg (by decide)]; exact Owns.nil _ _ _ _, HBr.out⟩
        · have h8 : (no : Int) ≤ K / 8 := by omega
          clear hbad
          go_wp2_with fail
          go_ret2
          exact ⟨_, by rw [HF.out]; rfl, by rw [HFV.out, HF.out, if_neg (by decide)]; exact Owns.nil _ _ _ _, HBr.out⟩
      · rw [if_neg hbad] at hst
        have h0 : 0 ≤ K := by omega
        have h8 : K / 8 < (no : Int) := by omega
        have HST := Lib.hid hst
        clear hbad hst hdr htk hcell hcs hBr
        have hi1 : (i : Int) < (m : Int) := by omega
        obtain ⟨wo, rfl⟩ : ∃ wo : World, wo = wr := ⟨_, rfl⟩
        go_wp2_with fail
        go_loopw [9] (fun vj wr => ∃ j : Nat, j ≤ i ∧ vj = .int .i64 (j : Int) ∧ wr = wo ∧ Hid (∀ t, t < j → l[t]?.getD 0 ≠ K)) (fun vj _ => i - (intOf vj).toNat)
        case atStart => exact ⟨0, Nat.zero_le _, by first | rfl | trivial, by first | rfl | trivial, Lib.hid (fun t ht => absurd ht (Nat.not_lt_zero _))⟩
        case round =>
          obtain ⟨j, hj, rfl, rfl, HJN⟩ := hrel
          by_cases hlj : j < i
          · have cj := cell_keep HBr.out (HCELL.out j (by omega)) (cell_lt (HCELL.out j (by omega)))
            have hmem : l[j]?.getD 0 ∈ l.take i := by
              have hjl : j < l.length := by have := HM.out; omega
              rw [List.getElem?_eq_getElem hjl, Option.getD_some]
              have : (l.take i)[j]? = some l[j] := by rw [List.getElem?_take, if_pos hlj, List.getElem?_eq_getElem hjl]
              exact List.mem_of_getElem? this
            have HMEM := Lib.hid hmem
            obtain ⟨J, HJ⟩ := nm (l[j]?.getD 0)
            rw [HJ.out] at cj
            have hj1 : (j : Int) < (i : Int) := by omega
            clear hmem
            by_cases hJK : J = K
            · subst hJK
              have HF := Lib.hid (HFE.out.trans (HE.out.trans (HST.out.trans (if_pos (by rw [← HJ.out]; exact HMEM.out)))))
              go_wp2_with fail
              go_ret2
              exact ⟨_, by rw [HF.out]; rfl, by rw [HFV.out, HF.out, if_neg (by decide)]; exact Owns.nil _ _ _ _, HBr.out⟩
            · go_wp2_with fail
              go_roundw
              case rel => exact ⟨j + 1, by omega, by go_num, by first | rfl | trivial, Lib.hid (fun t ht => by
                by_cases e : t = j
                · subst e; rw [HJ.out]; exact hJK
                · exact HJN.out t (by omega))⟩
              case measure => simp [intOf]; omega
          · obtain rfl : j = i := by omega
            have hnin : K ∉ l.take j := by
              intro h
              obtain ⟨t, ht, e⟩ := List.getElem_of_mem h
              rw [List.length_take] at ht
              refine HJN.out t (by omega) ?_
              rw [List.getElem?_eq_getElem (by omega), Option.getD_some, ← e, List.getElem_take]
            have hst := HST.out.trans (if_neg hnin)
            have HF := Lib.hid (HE.out.trans hst)
            obtain ⟨M, rfl⟩ := Int.eq_ofNat_of_zero_le h0
            have hM8 : M / 8 < no := by omega
            have hnm : M ∉ (l.take j).map Int.toNat := by
              intro h
              obtain ⟨z, hz, hz2⟩ := List.mem_map.1 h
              have := HNN.out z hz
              exact hnin (by rw [← hz2, Int.toNat_of_nonneg this]; exact hz)
            have hbo := bitAt_other M _ xs hnm
            have hsn := flips_snoc xs ((l.take j).map Int.toNat) M
            have hlen := HLN.out ((l.take j).map Int.toNat)
            have hby := (HBX.out ((l.take j).map Int.toNat)).get (M / 8)
            have hfl : Gf.flip (Gf.flips xs ((l.take j).map Int.toNat)) M = (Gf.flips xs ((l.take j).map Int.toNat)).set (M / 8) ((Gf.flips xs ((l.take j).map Int.toNat))[M / 8]?.getD 0 ^^^ 2 ^ (M % 8)) := rfl
            obtain ⟨g, rfl, hg1, hg2, hgl, hg3, hg4, hgc, hgf, hgs⟩ := HO.out.at hM8
            clear hgl
            have hbit : bitAt (Gf.flips xs ((l.take j).map Int.toNat)) M = ((Gf.flips xs ((l.take j).map Int.toNat))[M / 8]?.getD 0).testBit (M % 8) := rfl
            obtain ⟨Z, HZ⟩ := nm (Gf.flips xs ((l.take j).map Int.toNat))
            rw [HZ.out] at hsn hlen hby hfl hgc hbo hbit
            simp only [HZ.out] at hgs
            have hm8 : M % 8 < 8 := Nat.mod_lt _ (by decide)
            have hsh := shl_u8 hm8
            have hpl := Gf.pow_lt8 hm8
            have hmod : (M : Int) % 8 = ((M % 8 : Nat) : Int) := by omega
            have hdiv : (M : Int) / 8 = ((M / 8 : Nat) : Int) := by omega
            have hrb := rbit13_any _ xs M wr (HV.out.keep HBr.out (Nat.le_refl _)) HX.out (by rw [HN.out]; exact hM8) (by omega)
            rw [bitV_eq, ← hbo, hbit] at hrb
            have hbm := fun h => bit_minus hby hm8 h
            have hbp := fun h => bit_plus hby hm8 h
            obtain ⟨c, HCC⟩ := nm (Z[M / 8]?.getD 0)
            obtain ⟨r, HR⟩ := nm (M % 8)
            obtain ⟨q, HQ⟩ := nm (M / 8)
            rw [HCC.out] at hby hfl hgc hrb
            simp only [HCC.out] at hbm hbp
            rw [HR.out] at hm8 hsh hpl hmod hfl hrb
            simp only [HR.out] at hbm hbp
            rw [HQ.out] at hM8 hdiv hgc hgf hfl
            simp only [HQ.out] at hgs
            obtain ⟨p, HP⟩ := nm (2 ^ r)
            rw [HP.out] at hsh hpl hfl
            simp only [HP.out] at hbm hbp
            obtain ⟨c2, HC2⟩ := nm (c ^^^ p)
            rw [HC2.out] at hfl
            simp only [HC2.out] at hbm hbp
            have hs2 := hgs (c2 : Int) (by omega)
            rw [show ((c2 : Nat) : Int).toNat = c2 from rfl, ← hfl, ← hsn] at hs2
            have HS2 := Lib.hid hs2
            have hB2 : Below w.heap.size w (wr.setCell ⟨g, q, none⟩ (.int .u8 (c2 : Int))) := HBr.out.setCell (p := ⟨g, q, none⟩) hg1 _
            have HB2' := Lib.hid hB2
            have hnn2 : Hid (∀ z ∈ l.take (j + 1), 0 ≤ z) := Lib.hid (fun z hz => by
              rw [HTK.out] at hz
              rcases List.mem_append.1 hz with h | h
              · exact HNN.out z h
              · rw [List.mem_singleton.1 h]; omega)
            clear hs2 hgs hfl hsn hlen h0 h8 hnm hbo hbit hst hnin hB2 HB2
            cases hcb : c.testBit r with
            | true =>
              obtain ⟨e1, e2⟩ := hbm hcb
              rw [hcb, if_pos rfl] at hrb
              have hsub : (c : Int) - (p : Int) = (c2 : Int) := by omega
              have hc2 : c2 < 256 := by omega
              have hwr : IntKind.u8.wrap (c2 : Int) = (c2 : Int) := by rw [IntKind.wrap_u8]; omega
              have HRB := Lib.hid hrb
              clear hbm hbp hrb e1 e2 hcb
              rw [show ((1 : Nat) : Int) = 1 from rfl] at HRB
              go_wp2_with fail
              refine HRB.out.mono ?_
              rintro e w2 ⟨rfl, rfl⟩
              go_wp2_with fail
              go_region
              all_goals
                go_wp2
                go_roundw
                case rel => exact ⟨j + 1, by omega, by go_num, by rw [HTK.out, List.map_append]; exact HS2.out, Lib.hid (by rw [HF.out]), hnn2, HB2'.out.drew⟩
                case measure => simp [intOf]; omega
            | false =>
              obtain ⟨e1, e2⟩ := hbp hcb
              rw [hcb, if_neg (by decide)] at hrb
              have hadd : (c : Int) + (p : Int) = (c2 : Int) := by omega
              have hc2 : c2 < 256 := by omega
              have hwr : IntKind.u8.wrap (c2 : Int) = (c2 : Int) := by rw [IntKind.wrap_u8]; omega
              have HRB := Lib.hid hrb
              clear hbm hbp hrb e1 e2 hcb
              rw [show ((0 : Nat) : Int) = 0 from rfl] at HRB
              go_wp2_with fail
              refine HRB.out.mono ?_
              rintro e w2 ⟨rfl, rfl⟩
              go_wp2_with fail
              go_region
              all_goals
                go_wp2
                go_roundw
                case rel => exact ⟨j + 1, by omega, by go_num, by rw [HTK.out, List.map_append]; exact HS2.out, Lib.hid (by rw [HF.out]), hnn2, HB2'.out.drew⟩
                case measure => simp [intOf]; omega
    · obtain rfl : i = m := by omega
      have hE0 : flE no [] l = 0 := by
        rw [HE.out, List.drop_eq_nil_of_le (by rw [HM.out]; exact Nat.le_refl _)]; rfl
      have HF := Lib.hid (HFE.out.trans hE0)
      have htk : l.take i = l := List.take_of_length_le (by rw [HM.out]; exact Nat.le_refl _)
      have hO2 := HO.out
      rw [htk] at hO2
      have HO2 := Lib.hid hO2
      have HBr := Lib.hid hBr
      clear hE0 htk hO2 HO HE hcs hBr
      go_wp2_with fail
      go_ret2
      exact ⟨_, by rw [HF.out]; rfl, by rw [HFV.out, HF.out, if_pos rfl]; exact HO2.out, HBr.out⟩
end Go.Proofs.YtmjigpnpcacefaaGreatDoor
