/- The walks of slices.Clone at bytes and at numbers. The walk of damage.Flip. The walks of damage.Strike, Found, piece. -/
import Derived.Test.YtmjigpnpcacefaaDoorOwnV
import Derived.Test.YtmjigpnpcacefaaDoorConcat
import Derived.Test.YtmjigpnpcacefaaDoorDmgB
namespace Go.Proofs.YtmjigpnpcacefaaDoor
open Go Go.RowKit Go.Shelf

set_option maxRecDepth 100000 in
set_option maxHeartbeats 1000000 in
theorem clone_bytes (v : Value) (xs : List Nat) (w : World) (hv : Reads .u8 w v xs) (hl : xs.length < 1000000000) :
    Calls Tryd.prog 41 #[v] w fun e w' => ∃ v', e = .returned v' ∧ Owns .u8 5 w' w.heap.size v' xs ∧ Below w.heap.size w w' := by
  have hv0 := hv
  obtain ⟨ao, cap, rfl, hlc, hcm, hcs⟩ := hv
  have q : ∀ (w : World) (a : Option Addr) (n c n' c' : Nat), (binOp .eql 28 (.slice a n c) (.slice none n' c')).run Tryd.prog w = .ok (.bool a.isNone) w := fun w a n c n' c' => Lib.run_eql_slice_nil w _ _ a n c n' c' Tryd.underlying28
  cases ao with
  | none =>
    have hx : xs = [] := by
      rcases hcs with h | ⟨b, off, h, _⟩
      · exact List.length_eq_zero_iff.1 (by omega)
      · cases h
    subst hx
    clear hcs hv0
    go_enter Tryd.func41, Tryd.ntmps41
    go_wp2_with fail
    go_ret
    exact ⟨_, rfl, Owns.nil _ _ _ _, bel_refl _⟩
  | some ad =>
    have HV := Lib.hid (hv0.keep (bel_alloc w (.cells #[] 5)) (Nat.le_refl _))
    have HO := Lib.hid (owns_empty .u8 5 w w.heap.size (Nat.le_refl _))
    have hA := bel_alloc w (.cells #[] 5)
    obtain ⟨n, HN⟩ := nm xs.length
    rw [HN.out] at HV hl ⊢
    clear hcs hv0 hlc
    go_enter Tryd.func41, Tryd.ntmps41
    go_wp2_with (at_builtin; refine wpl_app rfl (.tmp 5) (.tmp 6) 28 rfl .u8 5 1 Tryd.underlying28 info_u8 (by decide) w.heap.size _ [] _ HO.out rfl _ xs rfl HV.out (by rw [HN.out]; simp; omega) (by simp) ?_; intro v' w1 hown' hB'; rw [List.nil_append] at hown'; have HW := Lib.hid hown'; clear hown')
    go_ret
    exact ⟨_, rfl, HW.out, hA.trans hB'⟩
set_option maxRecDepth 100000 in
set_option maxHeartbeats 1000000 in
theorem clone_ints (v : Value) (xs : List Int) (w : World) (hv : ReadsI .i64 w v xs) (hl : xs.length < 1000000000) :
    Calls Tryd.prog 47 #[v] w fun e w' => ∃ v', e = .returned v' ∧ OwnsI .i64 3 w' w.heap.size v' xs ∧ Below w.heap.size w w' := by
  have hv0 := hv
  obtain ⟨ao, cap, rfl, hlc, hcm, hcs⟩ := hv
  have q : ∀ (w : World) (a : Option Addr) (n c n' c' : Nat), (binOp .eql 25 (.slice a n c) (.slice none n' c')).run Tryd.prog w = .ok (.bool a.isNone) w := fun w a n c n' c' => Lib.run_eql_slice_nil w _ _ a n c n' c' Tryd.underlying25
  cases ao with
  | none =>
    have hx : xs = [] := by
      rcases hcs with h | ⟨b, off, h, _⟩
      · exact List.length_eq_zero_iff.1 (by omega)
      · cases h
    subst hx
    clear hcs hv0
    go_enter Tryd.func47, Tryd.ntmps47
    go_wp2_with fail
    go_ret
    exact ⟨_, rfl, OwnsI.nil _ _ _ _, bel_refl _⟩
  | some ad =>
    have HV := Lib.hid (hv0.keep (bel_alloc w (.cells #[] 3)) (Nat.le_refl _))
    have HO := Lib.hid (ownsI_empty .i64 3 w w.heap.size (Nat.le_refl _))
    have hA := bel_alloc w (.cells #[] 3)
    obtain ⟨n, HN⟩ := nm xs.length
    rw [HN.out] at HV hl ⊢
    clear hcs hv0 hlc
    go_enter Tryd.func47, Tryd.ntmps47
    go_wp2_with (at_builtin; refine wpl_appI rfl (.tmp 5) (.tmp 6) 25 rfl .i64 3 8 Tryd.underlying25 info_int (by decide) w.heap.size _ [] _ HO.out rfl _ xs rfl HV.out (by rw [HN.out]; simp; omega) (by simp) ?_; intro v' w1 hown' hB'; rw [List.nil_append] at hown'; have HW := Lib.hid hown'; clear hown')
    go_ret
    exact ⟨_, rfl, HW.out, hA.trans hB'⟩
end Go.Proofs.YtmjigpnpcacefaaDoor
namespace Go.Proofs.YtmjigpnpcacefaaDoor
open Go Go.RowKit Go.Shelf

theorem ReadsI.pre {k : IntKind} {w : World} {a : Option Addr} {len cap n : Nat} {xs : List Int} (h : ReadsI k w (.slice a len cap) xs) (hn : n ≤ len) : ReadsI k w (.slice a n cap) (xs.take n) := by
  obtain ⟨a', cap', e, hl, hm, hc⟩ := h
  cases e
  refine ⟨a, cap, by simp [Nat.min_eq_left hn], by simp; omega, hm, ?_⟩
  rcases hc with h0 | ⟨b, off, e, hcell⟩
  · exact .inl h0
  · refine .inr ⟨b, off, e, fun i hi => ?_⟩
    have hi2 : i < n := by simp at hi; omega
    rw [hcell i (by omega), List.getElem?_take, if_pos hi2]
/-- The number of the error of Flip: n bytes; the bits ahead of these; these bits. -/
def flE (n : Nat) : List Int → List Int → Int
  | _, [] => 0
  | pre, k :: ks => if k < 0 ∨ (n : Int) ≤ k / 8 then 130 else if k ∈ pre then 131 else flE n (pre ++ [k]) ks
def flipE (xs : List Nat) (l : List Int) : Int := flE xs.length [] l
def flipV (xs : List Nat) (l : List Int) : List Nat := if flipE xs l = 0 then Gf.flips xs (l.map Int.toNat) else []
theorem drop_get (l : List Int) (i : Nat) (h : i < l.length) : l.drop i = l[i]?.getD 0 :: l.drop (i + 1) := by
  rw [List.drop_eq_getElem_cons h, List.getElem?_eq_getElem h]; rfl
theorem take_get (l : List Int) (i : Nat) (h : i < l.length) : l.take (i + 1) = l.take i ++ [l[i]?.getD 0] := by
  rw [List.take_succ_eq_append_getElem h, List.getElem?_eq_getElem h]; rfl
theorem shl_u8 {m : Nat} (h : m < 8) : IntKind.u8.wrap ((2 : Int) ^ m) = ((2 ^ m : Nat) : Int) := by
  have h1 := Gf.pow_lt8 h
  have e : ((2 : Int) ^ m) = ((2 ^ m : Nat) : Int) := by simp
  obtain ⟨p, HP⟩ := nm (2 ^ m)
  rw [HP.out] at h1 e
  rw [e, HP.out, IntKind.wrap_u8]
  omega
theorem flips_snoc (xs : List Nat) (l : List Nat) (k : Nat) : Gf.flips xs (l ++ [k]) = Gf.flip (Gf.flips xs l) k := by
  unfold Gf.flips
  rw [List.foldl_append]; rfl

set_option maxRecDepth 100000 in
set_option maxHeartbeats 4000000 in
theorem flip_any (v : Value) (xs : List Nat) (vl : Value) (l : List Int) (w : World) (hv : Reads .u8 w v xs) (hx : Bytes xs) (hxl : xs.length < 100000000) (hl : ReadsI .i64 w vl l) (hlb : ∀ k ∈ l, -9223372036854775808 ≤ k ∧ k ≤ 9223372036854775807) :
    Calls Tryd.prog 13 #[v, vl] w fun e w' => ∃ v', e = .returned (.tuple #[v', .int .i64 (flipE xs l)]) ∧ Owns .u8 5 w' w.heap.size v' (flipV xs l) ∧ Below w.heap.size w w' := by
  have hcl := clone_bytes v xs w hv (by omega)
  obtain ⟨ab, cb, rfl, _, _, hx1⟩ := hv
  have hl0 := hl
  obtain ⟨al, cl, rfl, hlc, hcm, hcs⟩ := hl
  clear hx1
  have hfE : flipE xs l = flE xs.length [] l := rfl
  have hfV : flipV xs l = if flipE xs l = 0 then Gf.flips xs (l.map Int.toNat) else [] := rfl
  have hgets := fun i (h : i < l.length) => (⟨drop_get l i h, take_get l i h⟩ : _ ∧ _)
  have hbx := fun ks => Gf.bytes_flips ks hx
  have hlen := fun ks => Gf.flips_length ks xs
  have hmem := fun i (h : i < l.length) => hlb _ (ReadsI.getMem h)
  obtain ⟨n, HN⟩ := nm xs.length
  obtain ⟨m, HM⟩ := nm l.length
  simp only [HN.out] at hlen
  rw [HN.out] at hfE hxl
  rw [HM.out] at hl0 hlc hcs
  simp only [HN.out] at hcl ⊢
  rw [HM.out]
  simp only [HM.out] at hgets hmem
  have HCL := Lib.hid hcl
  have HFE := Lib.hid hfE
  have HFV := Lib.hid hfV
  have HG := Lib.hid hgets
  have HBX := Lib.hid hbx
  have HLN := Lib.hid hlen
  have HME := Lib.hid hmem
  have HL0 := Lib.hid hl0
  clear hcl hfE hfV hgets hbx hlen hmem hl0 hlb hx
  go_enter Tryd.func13, Tryd.ntmps13
  go_wp2
  go_step3
  go_wp2_with fail
  refine (HCL.out).mono ?_
  rintro e w1 ⟨vo, rfl, ho1, hb1⟩
  obtain ⟨ao, no, co, rfl, hno, _⟩ := ho1.slice
  rw [HN.out] at hno
  subst hno
  have HO1 := Lib.hid ho1
  clear ho1 HCL
  go_wp2_with fail
  go_step3
  go_wp2_with fail
  go_loopw [7, 14] (fun ve vi wr => ∃ i : Nat, i ≤ m ∧ vi = .int .i64 (i : Int) ∧ ve = .int .i64 0 ∧ Owns .u8 5 wr w.heap.size (.slice ao no co) (Gf.flips xs ((l.take i).map Int.toNat)) ∧ Hid (flE no [] l = flE no (l.take i) (l.drop i)) ∧ Below w.heap.size w wr) (fun _ vi _ => m - (intOf vi).toNat)
  case atStart => exact ⟨0, Nat.zero_le _, rfl, rfl, by simpa [Gf.flips] using HO1.out, Lib.hid rfl, hb1⟩
  case round =>
    obtain ⟨i, hi, rfl, rfl, hown, HE, hBr⟩ := hrel
    have HO := Lib.hid hown
    clear hown HO1
    by_cases hin : i < m
    · obtain ⟨hdr, htk⟩ := HG.out i hin
      have hKb := HME.out i hin
      obtain ⟨bl, ol, rfl, hcell⟩ := hcs.resolve_left (fun h => by omega)
      have hc := cell_keep hBr (hcell i hin) (cell_lt (hcell i hin))
      have hcon := contains_any _ _ (l[i]?.getD 0) wr ((HL0.out.keep hBr (Nat.le_refl _)).pre (show i ≤ m by omega))
      obtain ⟨K, HK⟩ := nm (l[i]?.getD 0)
      rw [HK.out] at hdr htk hKb hc hcon
      have hst : flE no (l.take i) (l.drop i) = if K < 0 ∨ (no : Int) ≤ K / 8 then 130 else if K ∈ l.take i then 131 else flE no (l.take (i + 1)) (l.drop (i + 1)) := by
        rw [hdr, htk]; rfl
      by_cases hbad : K < 0 ∨ (no : Int) ≤ K / 8
      · rw [if_pos hbad] at hst
        have HF := Lib.hid (HFE.out.trans (HE.out.trans hst))
        clear hst hdr htk hcon hcell hcs HE
        by_cases hneg : K < 0
        · go_wp2_with fail
          try rw [Exit.noGoto_ret]
          go_ret2
          exact ⟨_, by rw [HF.out]; rfl, by rw [HFV.out, HF.out, if_neg (by decide)]; exact Owns.nil _ _ _ _, hBr⟩
        · have h8 : (no : Int) ≤ K / 8 := by omega
          clear hbad
          go_wp2_with fail
          try rw [Exit.noGoto_ret]
          go_ret2
          exact ⟨_, by rw [HF.out]; rfl, by rw [HFV.out, HF.out, if_neg (by decide)]; exact Owns.nil _ _ _ _, hBr⟩
      · rw [if_neg hbad] at hst
        have h0 : 0 ≤ K := by omega
        have h8 : K / 8 < (no : Int) := by omega
        clear hbad
        by_cases hin2 : K ∈ l.take i
        · rw [if_pos hin2] at hst
          rw [decide_eq_true hin2] at hcon
          have HF := Lib.hid (HFE.out.trans (HE.out.trans hst))
          have HC := Lib.hid hcon
          clear hst hdr htk hcon hcell hcs HE hin2
          go_wp2_with fail
          refine HC.out.mono ?_
          rintro e w2 ⟨rfl, rfl⟩
          go_wp2_with fail
          try rw [Exit.noGoto_ret]
          go_ret2
          exact ⟨_, by rw [HF.out]; rfl, by rw [HFV.out, HF.out, if_neg (by decide)]; exact Owns.nil _ _ _ _, hBr⟩
        · rw [if_neg hin2] at hst
          rw [decide_eq_false hin2] at hcon
          have HF := Lib.hid (HE.out.trans hst)
          have HC := Lib.hid hcon
          have HT := Lib.hid htk
          clear hst hdr htk hcon hcell hcs HE hin2
          obtain ⟨M, rfl⟩ := Int.eq_ofNat_of_zero_le h0
          have hM8 : M / 8 < no := by omega
          have hsn := flips_snoc xs ((l.take i).map Int.toNat) M
          have hlen := HLN.out ((l.take i).map Int.toNat)
          have hby := (HBX.out ((l.take i).map Int.toNat)).get (M / 8)
          have hfl : Gf.flip (Gf.flips xs ((l.take i).map Int.toNat)) M = (Gf.flips xs ((l.take i).map Int.toNat)).set (M / 8) ((Gf.flips xs ((l.take i).map Int.toNat))[M / 8]?.getD 0 ^^^ 2 ^ (M % 8)) := rfl
          obtain ⟨g, rfl, hg1, hg2, hgl, hg3, hg4, hgc, hgf, hgs⟩ := HO.out.at hM8
          clear hgl
          obtain ⟨Z, HZ⟩ := nm (Gf.flips xs ((l.take i).map Int.toNat))
          rw [HZ.out] at hsn hlen hby hfl hgc
          simp only [HZ.out] at hgs
          have hm8 : M % 8 < 8 := Nat.mod_lt _ (by decide)
          have hsh := shl_u8 hm8
          have hpl := Gf.pow_lt8 hm8
          have hmod : (M : Int) % 8 = ((M % 8 : Nat) : Int) := by omega
          have hdiv : (M : Int) / 8 = ((M / 8 : Nat) : Int) := by omega
          have hxor := u8_xor_nat (Z[M / 8]?.getD 0) (2 ^ (M % 8)) hby hpl
          obtain ⟨c, HCC⟩ := nm (Z[M / 8]?.getD 0)
          obtain ⟨r, HR⟩ := nm (M % 8)
          obtain ⟨j, HJ⟩ := nm (M / 8)
          rw [HCC.out] at hby hfl hgc hxor
          rw [HR.out] at hm8 hsh hpl hmod hxor hfl
          rw [HJ.out] at hM8 hdiv hgc hgf hfl
          simp only [HJ.out] at hgs
          obtain ⟨p, HP⟩ := nm (2 ^ r)
          rw [HP.out] at hsh hpl hxor hfl
          obtain ⟨c2, HC2⟩ := nm (c ^^^ p)
          rw [HC2.out] at hxor hfl
          have hs2 := hgs (c2 : Int) (by omega)
          rw [show ((c2 : Nat) : Int).toNat = c2 from rfl, ← hfl, ← hsn] at hs2
          have HS2 := Lib.hid hs2
          have hB2 : Below w.heap.size w (wr.setCell ⟨g, j, none⟩ (.int .u8 (c2 : Int))) := hBr.setCell (p := ⟨g, j, none⟩) hg1 _
          clear hs2 hgs hfl hsn hpl hby hlen HO h0 h8
          go_wp2_with fail
          refine HC.out.mono ?_
          rintro e w2 ⟨rfl, rfl⟩
          go_wp2_with fail
          go_region
          all_goals
            go_wp2
            go_roundw
            case rel => exact ⟨i + 1, by omega, by go_num, rfl, by rw [HT.out, List.map_append]; exact HS2.out, Lib.hid (by rw [HF.out]), hB2.drew⟩
            case measure => simp [intOf]; omega
    · obtain rfl : i = m := by omega
      have hE0 : flE no [] l = 0 := by
        rw [HE.out, List.drop_eq_nil_of_le (by rw [HM.out]; exact Nat.le_refl _)]; rfl
      have HF := Lib.hid (HFE.out.trans hE0)
      have htk : l.take i = l := List.take_of_length_le (by rw [HM.out]; exact Nat.le_refl _)
      have hO2 := HO.out
      rw [htk] at hO2
      have HO2 := Lib.hid hO2
      clear hE0 htk hO2 HO HE hcs
      go_wp2_with fail
      try rw [Exit.noGoto_ret]
      go_ret2
      exact ⟨_, by rw [HF.out]; rfl, by rw [HFV.out, HF.out, if_pos rfl]; exact HO2.out, hBr⟩
end Go.Proofs.YtmjigpnpcacefaaDoor
namespace Go.Proofs.YtmjigpnpcacefaaDoor
open Go Go.RowKit Go.Shelf

theorem blist_mem {x : Int} {b n : Nat} {k : Int} (h : k ∈ blist x b n) : ∃ i : Nat, i < n ∧ b.testBit i = true ∧ k = x + (i : Int) := by
  unfold blist at h
  obtain ⟨i, hi, rfl⟩ := List.mem_map.1 h
  obtain ⟨h1, h2⟩ := List.mem_filter.1 hi
  exact ⟨i, List.mem_range.1 h1, h2, rfl⟩
theorem bitsOk_le {x : Int} {b : Nat} (h : bitsOk x b = true) : 0 ≤ x ∧ b % 2 = 1 ∧ x ≤ 9223372036854775807 - ((Gf.plen b : Int) - 1) := by
  unfold bitsOk rightB at h
  simp only [Bool.and_eq_true, decide_eq_true_eq] at h
  exact ⟨h.1.1, h.1.2, h.2⟩
theorem bitsV_bound {x : Int} {b : Nat} : ∀ k ∈ bitsV x b, -9223372036854775808 ≤ k ∧ k ≤ 9223372036854775807 := by
  intro k hk
  unfold bitsV at hk
  cases h : bitsOk x b with
  | false => rw [h, if_neg (by decide)] at hk; cases hk
  | true =>
    rw [h, if_pos rfl] at hk
    obtain ⟨h0, _, h2⟩ := bitsOk_le h
    obtain ⟨i, hi, _, rfl⟩ := blist_mem hk
    omega
def strikeE (xs : List Nat) (x : Int) (b : Nat) : Int := if rightB x b then (if bitsOk x b then flipE xs (bitsV x b) else 130) else 2
def strikeV (xs : List Nat) (x : Int) (b : Nat) : List Nat := if bitsOk x b then flipV xs (bitsV x b) else []
theorem bitsOk_right {x : Int} {b : Nat} (h : rightB x b = false) : bitsOk x b = false := by unfold bitsOk; rw [h]; rfl

set_option maxRecDepth 100000 in
set_option maxHeartbeats 2000000 in
theorem strike_any (v : Value) (xs : List Nat) (x : Int) (b : Nat) (w : World) (hv : Reads .u8 w v xs) (hx : Bytes xs) (hxl : xs.length < 100000000) (hb : b < 4294967296) (hxb : -9223372036854775808 ≤ x ∧ x ≤ 9223372036854775807) :
    Calls Tryd.prog 18 #[v, .agg #[.int .i64 x, .int .u32 b]] w fun e w' => ∃ v', e = .returned (.tuple #[v', .int .i64 (strikeE xs x b)]) ∧ Owns .u8 5 w' w.heap.size v' (strikeV xs x b) ∧ Below w.heap.size w w' := by
  have c0 : (w.alloc (.cells #[.int .i64 x, .int .u32 (b : Int)] 24)).cell? ⟨w.heap.size, 0, none⟩ = some (.int .i64 x) := (cell_of_row _ w.heap.size 0 #[.int .i64 x, .int .u32 (b : Int)] 24 (0, 0) (World.alloc_heap_new w _))
  have c1 : (w.alloc (.cells #[.int .i64 x, .int .u32 (b : Int)] 24)).cell? ⟨w.heap.size, 1, none⟩ = some (.int .u32 (b : Int)) := (cell_of_row _ w.heap.size 1 #[.int .i64 x, .int .u32 (b : Int)] 24 (0, 0) (World.alloc_heap_new w _))
  have hA := bel_alloc w (.cells #[.int .i64 x, .int .u32 (b : Int)] 24)
  have hr := right_any x b hb
  have hbt := bits_any x b hb hxb
  have hE : strikeE xs x b = if rightB x b then (if bitsOk x b then flipE xs (bitsV x b) else 130) else 2 := rfl
  have hV : strikeV xs x b = if bitsOk x b then flipV xs (bitsV x b) else [] := rfl
  have hbe : bitsE x b = if bitsOk x b then 0 else 2 := rfl
  cases hrb : rightB x b with
  | false =>
    rw [hrb] at hr hE
    rw [if_neg (by decide)] at hE
    rw [bitsOk_right hrb, if_neg (by decide)] at hV
    rw [hE, hV]
    have HR := Lib.hid hr
    clear hr hbt hE hV hrb hbe
    go_enter Tryd.func18, Tryd.ntmps18
    go_wp2_with fail
    refine (HR.out _).mono ?_
    rintro e w1 ⟨rfl, hb1⟩
    have hB1 := bel_trans hA hb1 (by simp)
    clear hA hb1
    go_wp2_with fail
    go_ret2
    exact ⟨_, rfl, Owns.nil _ _ _ _, hB1⟩
  | true =>
    rw [hrb] at hr hE
    rw [if_pos rfl] at hE
    have HR := Lib.hid hr
    cases hok : bitsOk x b with
    | false =>
      rw [hok, if_neg (by decide)] at hE hV hbe
      rw [hbe] at hbt
      rw [hE, hV]
      have HBT := Lib.hid hbt
      clear hr hbt hE hV hrb hbe hok
      go_enter Tryd.func18, Tryd.ntmps18
      go_wp2_with fail
      refine (HR.out _).mono ?_
      rintro e w1 ⟨rfl, hb1⟩
      have hB1 := bel_trans hA hb1 (by simp)
      have d0 := cell_keep hb1 c0 (cell_lt c0)
      have d1 := cell_keep hb1 c1 (cell_lt c1)
      clear hA hb1 c0 c1
      go_wp2_with fail
      refine (HBT.out _).mono ?_
      rintro e w2 ⟨v2, rfl, ho2, hb2⟩
      have hB2 := hB1.trans (hb2.mono hB1.size)
      clear hB1 hb2 ho2
      go_wp2_with fail
      go_ret2
      exact ⟨_, rfl, Owns.nil _ _ _ _, hB2⟩
    | true =>
      rw [hok, if_pos rfl] at hE hV hbe
      rw [hbe] at hbt
      rw [hE, hV]
      have hbb := @bitsV_bound x b
      obtain ⟨L, HL⟩ := nm (bitsV x b)
      simp only [HL.out] at hbt
      rw [HL.out] at hbb ⊢
      have HBT := Lib.hid hbt
      have HBB := Lib.hid hbb
      clear hr hbt hE hV hrb hbe hok hbb
      go_enter Tryd.func18, Tryd.ntmps18
      go_wp2_with fail
      refine (HR.out _).mono ?_
      rintro e w1 ⟨rfl, hb1⟩
      have hB1 := bel_trans hA hb1 (by simp)
      have d0 := cell_keep hb1 c0 (cell_lt c0)
      have d1 := cell_keep hb1 c1 (cell_lt c1)
      clear hA hb1 c0 c1
      go_wp2_with fail
      refine (HBT.out _).mono ?_
      rintro e w2 ⟨v2, rfl, ho2, hb2⟩
      have hB2 := hB1.trans (hb2.mono hB1.size)
      have hr2 := ho2.reads
      have HR2 := Lib.hid hr2
      clear hB1 hb2 ho2 hr2 d0 d1
      go_wp2_with fail
      refine (flip_any v xs v2 L _ (hv.keep hB2 (Nat.le_refl _)) hx hxl HR2.out HBB.out).mono ?_
      rintro e w3 ⟨v3, rfl, ho3, hb3⟩
      have hB3 := hB2.trans (hb3.mono hB2.size)
      have HO3 := Lib.hid (ho3.mono hB2.size)
      clear hB2 hb3 ho3
      go_wp2_with fail
      go_ret2
      exact ⟨_, rfl, HO3.out, hB3⟩

/-- What Found answers. -/
def foundE (xs : List Nat) (l : List Int) : Int := if sealedB xs then flipE xs l else 132
def foundV (xs : List Nat) (l : List Int) : Bool := sealedB xs && (decide (flipE xs l = 0) && !sealedB (flipV xs l))
theorem bytes_flipV {xs : List Nat} (hx : Bytes xs) (l : List Int) : Bytes (flipV xs l) := by
  unfold flipV
  split
  · exact Gf.bytes_flips _ hx
  · intro y hy; cases hy
set_option maxRecDepth 100000 in
set_option maxHeartbeats 2000000 in
theorem found_any (v : Value) (xs : List Nat) (vl : Value) (l : List Int) (w : World) (hv : Reads .u8 w v xs) (hx : Bytes xs) (hxl : xs.length < 100000000) (hl : ReadsI .i64 w vl l) (hlb : ∀ k ∈ l, -9223372036854775808 ≤ k ∧ k ≤ 9223372036854775807) (hT : Tab w) :
    Calls Tryd.prog 27 #[v, vl] w fun e w' => e = .returned (.tuple #[.bool (foundV xs l), .int .i64 (foundE xs l)]) ∧ Below w.heap.size w w' := by
  have hE : foundE xs l = if sealedB xs then flipE xs l else 132 := rfl
  have hV : foundV xs l = (sealedB xs && (decide (flipE xs l = 0) && !sealedB (flipV xs l))) := rfl
  have hs := sealed_any v xs w hv hx hT
  cases hsb : sealedB xs with
  | false =>
    rw [hsb] at hE hV hs
    rw [if_neg (by decide)] at hE
    rw [Bool.false_and] at hV
    rw [hE, hV]
    have HS := Lib.hid hs
    clear hE hV hs hsb
    go_enter Tryd.func27, Tryd.ntmps27
    go_wp2_with fail
    refine HS.out.mono ?_
    rintro e w1 ⟨rfl, hb1⟩
    go_wp2_with fail
    go_ret2
    exact ⟨rfl, hb1⟩
  | true =>
    rw [hsb] at hE hV hs
    rw [if_pos rfl] at hE
    rw [Bool.true_and] at hV
    rw [hE, hV]
    have hby := bytes_flipV hx l
    obtain ⟨E, HE⟩ := nm (flipE xs l)
    have hfl := fun w1 h1 h2 => flip_any v xs vl l w1 h1 hx hxl h2 hlb
    obtain ⟨Y, HY⟩ := nm (flipV xs l)
    simp only [HE.out, HY.out] at hfl
    rw [HE.out, HY.out]
    rw [HY.out] at hby
    have HS := Lib.hid hs
    have HF := Lib.hid hfl
    clear hE hV hs hsb hfl
    by_cases h0 : E = 0
    · subst h0
      go_enter Tryd.func27, Tryd.ntmps27
      go_wp2_with fail
      refine HS.out.mono ?_
      rintro e w1 ⟨rfl, hb1⟩
      go_wp2_with fail
      refine (HF.out _ (hv.keep hb1 (Nat.le_refl _)) (hl.keep hb1 (Nat.le_refl _))).mono ?_
      rintro e w2 ⟨v2, rfl, ho2, hb2⟩
      have hB2 := hb1.trans (hb2.mono hb1.size)
      have hT2 := hT.keep hB2 (Nat.le_refl _)
      have HR2 := Lib.hid ho2.reads
      clear hb1 hb2 ho2
      go_wp2_with fail
      refine (sealed_any v2 Y _ HR2.out hby hT2).mono ?_
      rintro e w3 ⟨rfl, hb3⟩
      have hB3 := hB2.trans (hb3.mono hB2.size)
      clear hB2 hb3
      cases hc : sealedB Y
      · go_wp2_with fail
        go_ret2
        exact ⟨by rw [hc]; rfl, hB3⟩
      · go_wp2_with fail
        go_ret2
        exact ⟨by rw [hc]; rfl, hB3⟩
    · have he0 : (E == 0) = false := beq_false_of_ne h0
      rw [decide_eq_false h0, Bool.false_and]
      clear h0
      go_enter Tryd.func27, Tryd.ntmps27
      go_wp2_with fail
      refine HS.out.mono ?_
      rintro e w1 ⟨rfl, hb1⟩
      go_wp2_with fail
      refine (HF.out _ (hv.keep hb1 (Nat.le_refl _)) (hl.keep hb1 (Nat.le_refl _))).mono ?_
      rintro e w2 ⟨v2, rfl, ho2, hb2⟩
      have hB2 := hb1.trans (hb2.mono hb1.size)
      clear hb1 hb2 ho2
      go_wp2_with fail
      go_ret2
      exact ⟨rfl, hB2⟩

/-- Are two numbers a piece of n bytes? -/
def pieceB (n : Nat) (f t : Int) : Bool := decide (0 ≤ f ∧ f ≤ t ∧ t ≤ (n : Int))
theorem piece_any (a : Option Addr) (n c : Nat) (f t : Int) (w : World) :
    Calls Tryd.prog 48 #[.slice a n c, .int .i64 f, .int .i64 t] w fun e w' => e = .returned (.bool (pieceB n f t)) ∧ w = w' := by
  unfold pieceB
  by_cases h1 : 0 ≤ f
  · by_cases h2 : f ≤ t
    · by_cases h3 : t ≤ (n : Int)
      · rw [decide_eq_true (show 0 ≤ f ∧ f ≤ t ∧ t ≤ (n : Int) from ⟨h1, h2, h3⟩)]
        go_enter Tryd.func48, Tryd.ntmps48
        go_wp2_with fail
        go_ret
        exact ⟨rfl, rfl⟩
      · rw [decide_eq_false (fun h => h3 h.2.2)]
        go_enter Tryd.func48, Tryd.ntmps48
        go_wp2_with fail
        go_ret
        exact ⟨rfl, rfl⟩
    · rw [decide_eq_false (fun h => h2 h.2.1)]
      go_enter Tryd.func48, Tryd.ntmps48
      go_wp2_with fail
      go_ret
      exact ⟨rfl, rfl⟩
  · rw [decide_eq_false (fun h => h1 h.1)]
    go_enter Tryd.func48, Tryd.ntmps48
    go_wp2_with fail
    go_ret
    exact ⟨rfl, rfl⟩
end Go.Proofs.YtmjigpnpcacefaaDoor
