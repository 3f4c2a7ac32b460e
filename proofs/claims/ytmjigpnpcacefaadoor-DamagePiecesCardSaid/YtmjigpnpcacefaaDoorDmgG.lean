/- The walks of slices.Reverse at bytes, damage.Turn. -/
import Derived.Test.YtmjigpnpcacefaaDoorDmgF
namespace Go.Proofs.YtmjigpnpcacefaaDoor
open Go Go.RowKit Go.Shelf

/-- A piece turned round, as far as i steps from both ends. -/
def mixT (ys : List Nat) (f t i : Nat) : List Nat := (List.range ys.length).map fun p => if (f ≤ p ∧ p < f + i) ∨ (t ≤ p + i ∧ p < t) then ys[f + t - 1 - p]?.getD 0 else ys[p]?.getD 0
/-- A piece turned round. -/
def turnV (ys : List Nat) (f t : Nat) : List Nat := (List.range ys.length).map fun p => if f ≤ p ∧ p < t then ys[f + t - 1 - p]?.getD 0 else ys[p]?.getD 0
theorem mixT_length (ys : List Nat) (f t i : Nat) : (mixT ys f t i).length = ys.length := by simp [mixT]
theorem turnV_length (ys : List Nat) (f t : Nat) : (turnV ys f t).length = ys.length := by simp [turnV]
theorem mixT_get (ys : List Nat) (f t i p : Nat) (h : p < ys.length) : (mixT ys f t i)[p]?.getD 0 = if (f ≤ p ∧ p < f + i) ∨ (t ≤ p + i ∧ p < t) then ys[f + t - 1 - p]?.getD 0 else ys[p]?.getD 0 := by
  simp [mixT, h]
theorem list_ext_getD {a b : List Nat} (h : a.length = b.length) (he : ∀ p, p < a.length → a[p]?.getD 0 = b[p]?.getD 0) : a = b := by
  apply List.ext_getElem h
  intro p h1 h2
  have := he p h1
  simpa [h1, h2] using this
theorem mixT_zero (ys : List Nat) (f t : Nat) : mixT ys f t 0 = ys := by
  refine list_ext_getD (mixT_length _ _ _ _) fun p hp => ?_
  rw [mixT_length] at hp
  rw [mixT_get _ _ _ _ _ hp, if_neg (by omega)]
theorem mixT_succ (ys : List Nat) (f t i : Nat) (h : f + i < t - 1 - i) (_ht : t ≤ ys.length) :
    ((mixT ys f t i).set (f + i) (ys[t - 1 - i]?.getD 0)).set (t - 1 - i) (ys[f + i]?.getD 0) = mixT ys f t (i + 1) := by
  refine list_ext_getD (by simp [mixT_length]) fun p hp => ?_
  rw [List.length_set, List.length_set, mixT_length] at hp
  rw [mixT_get _ _ _ _ _ hp, List.getElem?_set, List.getElem?_set]
  simp only [List.length_set, mixT_length]
  by_cases e1 : t - 1 - i = p
  · subst e1
    rw [if_pos rfl, if_pos hp, if_pos (by omega), show f + t - 1 - (t - 1 - i) = f + i by omega]
    rfl
  · rw [if_neg e1]
    by_cases e2 : f + i = p
    · subst e2
      rw [if_pos rfl, if_pos hp, if_pos (by omega), show f + t - 1 - (f + i) = t - 1 - i by omega]
      rfl
    · rw [if_neg e2, mixT_get _ _ _ _ _ hp]
      by_cases h1 : (f ≤ p ∧ p < f + i) ∨ (t ≤ p + i ∧ p < t)
      · rw [if_pos h1, if_pos (by omega)]
      · rw [if_neg h1, if_neg (by omega)]
theorem mixT_end (ys : List Nat) (f t i : Nat) (h : t - 1 - i ≤ f + i) (hft : f < t) (hi : i ≤ t - f) : mixT ys f t i = turnV ys f t := by
  refine list_ext_getD (by rw [mixT_length, turnV_length]) fun p hp => ?_
  rw [mixT_length] at hp
  rw [mixT_get _ _ _ _ _ hp]
  have e : (turnV ys f t)[p]?.getD 0 = if f ≤ p ∧ p < t then ys[f + t - 1 - p]?.getD 0 else ys[p]?.getD 0 := by simp [turnV, hp]
  rw [e]
  by_cases h1 : f ≤ p ∧ p < t
  · rw [if_pos h1]
    by_cases h2 : (f ≤ p ∧ p < f + i) ∨ (t ≤ p + i ∧ p < t)
    · rw [if_pos h2]
    · have h3 : ¬ p < f + i := fun e => h2 (.inl ⟨h1.1, e⟩)
      have h4 : ¬ t ≤ p + i := fun e => h2 (.inr ⟨e, h1.2⟩)
      have h6 : p = f + i := by omega
      have h7 : t = f + i + i + 1 := by omega
      have h5 : f + t - 1 - p = p := by rw [h6, h7]; omega
      rw [if_neg h2, h5]
  · rw [if_neg h1, if_neg (by omega)]
theorem turnV_none (ys : List Nat) (f t : Nat) (h : t ≤ f) : turnV ys f t = ys := by
  refine list_ext_getD (turnV_length _ _ _) fun p hp => ?_
  rw [turnV_length] at hp
  have e : (turnV ys f t)[p]?.getD 0 = if f ≤ p ∧ p < t then ys[f + t - 1 - p]?.getD 0 else ys[p]?.getD 0 := by simp [turnV, hp]
  rw [e, if_neg (by omega)]
theorem mixT_keep1 (ys : List Nat) (f t i : Nat) (h : f + i < t - 1 - i) (ht : t ≤ ys.length) : (mixT ys f t i)[f + i]?.getD 0 = ys[f + i]?.getD 0 := by
  rw [mixT_get _ _ _ _ _ (by omega), if_neg (by omega)]
theorem mixT_keep2 (ys : List Nat) (f t i : Nat) (h : f + i < t - 1 - i) (ht : t ≤ ys.length) : (mixT ys f t i)[t - 1 - i]?.getD 0 = ys[t - 1 - i]?.getD 0 := by
  rw [mixT_get _ _ _ _ _ (by omega), if_neg (by omega)]

theorem reverse_none (a : Option Addr) (c : Nat) (w : World) :
    Calls Tryd.prog 50 #[.slice a 0 c] w fun e w' => e = .returned (.tuple #[]) ∧ w = w' := by
  go_enter Tryd.func50, Tryd.ntmps50
  go_wp2_with fail
  refine wp_loop_rounds 1 ?_
  rw [rounds_succ]
  go_wp2
  go_end0
  exact ⟨rfl, rfl⟩

set_option maxRecDepth 100000 in
set_option maxHeartbeats 2000000 in
theorem reverse_part (g n c c2 f t base : Nat) (ys : List Nat) (hft : f < t) (htn : t ≤ n) (hn1 : n < 400000) (w : World) (ho : Owns .u8 5 w base (.slice (some ⟨g, 0, none⟩) n c) ys) :
    Calls Tryd.prog 50 #[.slice (some ⟨g, f, none⟩) (t - f) c2] w fun e w' => e = .returned (.tuple #[]) ∧ Owns .u8 5 w' base (.slice (some ⟨g, 0, none⟩) n c) (turnV ys f t) ∧ Below base w w' := by
  obtain ⟨hnl, hnc, _⟩ := ho.len
  have hst := fun i h => mixT_succ ys f t i h (by omega)
  have hen := fun i h hi => mixT_end ys f t i h hft hi
  have hk1 := fun i h => mixT_keep1 ys f t i h (by omega)
  have hk2 := fun i h => mixT_keep2 ys f t i h (by omega)
  have hml := mixT_length ys f t
  have h0 := mixT_zero ys f t
  have hgb : base ≤ g := by
    obtain ⟨g', e, hb, _⟩ := ho.at (show 0 < n by omega)
    cases e
    exact hb
  have HST := Lib.hid hst
  have HEN := Lib.hid hen
  have HK1 := Lib.hid hk1
  have HK2 := Lib.hid hk2
  have HML := Lib.hid hml
  have HO := Lib.hid ho
  have H0 := Lib.hid h0
  obtain ⟨d, hd⟩ : ∃ d : Nat, t = f + d := ⟨t - f, by omega⟩
  subst hd
  rw [show f + d - f = d by omega]
  have hdp : 0 < d := by omega
  have HNL := Lib.hid hnl
  clear hst hen hk1 hk2 hml ho h0 hnl
  go_enter Tryd.func50, Tryd.ntmps50
  go_wp2_with fail
  go_loopw [2, 3] (fun vi vj wr => ∃ i : Nat, i ≤ d ∧ vi = .int .i64 (i : Int) ∧ vj = .int .i64 ((d : Int) - 1 - (i : Int)) ∧ Owns .u8 5 wr base (.slice (some ⟨g, 0, none⟩) n c) (mixT ys f (f + d) i) ∧ Below base w wr) (fun vi _ _ => d - (intOf vi).toNat)
  case atStart => exact ⟨0, Nat.zero_le _, rfl, by simp, by rw [H0.out]; exact HO.out, Below.refl _ _⟩
  case round =>
    obtain ⟨i, hi, rfl, rfl, hown, hBr⟩ := hrel
    have HW := Lib.hid hown
    clear hown
    by_cases hlt : f + i < f + d - 1 - i
    · have hst := HST.out i hlt
      have hk1 := HK1.out i hlt
      have hk2 := HK2.out i hlt
      obtain ⟨g1, e1, _, _, hl1, _, _, hc1, hf1, hs1⟩ := HW.out.at (show f + i < n by omega)
      cases e1
      obtain ⟨j, hj⟩ : ∃ j, f + d - 1 - i = f + j ∧ i < j ∧ j < d ∧ j = d - 1 - i := ⟨d - 1 - i, by omega, by omega, by omega, rfl⟩
      obtain ⟨hj1, hj2, hj3, hj4⟩ := hj
      rw [hj1] at hst hk2
      obtain ⟨g2, e2, _, _, hl2, _, _, hc2, hf2, _⟩ := HW.out.at (show f + j < n by omega)
      cases e2
      rw [hk1] at hc1
      rw [hk2] at hc2
      have hji : ((d : Int) - 1 - (i : Int)) = (j : Int) := by omega
      have o1 := hs1 ((ys[f + j]?.getD 0 : Nat) : Int) (Int.natCast_nonneg _)
      obtain ⟨g3, e3, _, _, hl3, _, _, _, hf3, hs3⟩ := o1.at (show f + j < n by omega)
      cases e3
      have o2 := hs3 ((ys[f + i]?.getD 0 : Nat) : Int) (Int.natCast_nonneg _)
      rw [Int.toNat_natCast, Int.toNat_natCast, hst] at o2
      obtain ⟨x, HX⟩ := nm (ys[f + i]?.getD 0)
      obtain ⟨y, HY⟩ := nm (ys[f + j]?.getD 0)
      rw [HX.out] at hc1 o2
      rw [HY.out] at hc2 o2
      have HO2 := Lib.hid o2
      have hB2 := ((hBr.setCell (p := ⟨g, f + i, none⟩) hgb (.int .u8 (y : Int))).setCell (p := ⟨g, f + j, none⟩) hgb (.int .u8 (x : Int))).drew
      have HJ4 := Lib.hid hj4
      have hneg : ((j : Int) - 1) = (d : Int) - 1 - ((i + 1 : Nat) : Int) := by omega
      have HNG := Lib.hid hneg
      clear hst hk1 hk2 hl1 hs1 hl2 hl3 hs3 o1 o2 HW hj4 hneg hBr
      rw [hji]
      clear hji hj1
      go_wp2_with fail
      go_region
      all_goals
        go_wp2
        go_roundw
        case rel => exact ⟨i + 1, by omega, by go_num, by rw [← HNG.out], HO2.out, hB2⟩
        case measure => simp [intOf]; omega
    · have hen := HEN.out i (by omega) (by omega)
      have HE := Lib.hid hen
      clear hen
      go_wp2_with fail
      go_end0
      exact ⟨rfl, by rw [← HE.out]; exact HW.out, hBr⟩

set_option maxRecDepth 100000 in
set_option maxHeartbeats 1000000 in
theorem turn_any (v : Value) (xs : List Nat) (f t : Nat) (hft : f ≤ t) (htn : t ≤ xs.length) (w : World) (hv : Reads .u8 w v xs) (hxl : xs.length < 400000) :
    Calls Tryd.prog 24 #[v, .int .i64 f, .int .i64 t] w fun e w' => ∃ v', e = .returned (.tuple #[v', .int .i64 0]) ∧ Owns .u8 5 w' w.heap.size v' (turnV xs f t) ∧ Below w.heap.size w w' := by
  have hcl := clone_bytes v xs w hv (by omega)
  obtain ⟨ab, cb, rfl, hnc, hcm, hcs⟩ := hv
  have hp := piece_any ab xs.length cb f t
  rw [show pieceB xs.length f t = true from decide_eq_true (by omega)] at hp
  have hnone := turnV_none xs f t
  obtain ⟨n, HN⟩ := nm xs.length
  rw [HN.out] at htn hnc hxl
  simp only [HN.out] at hp hcl ⊢
  have HP := Lib.hid hp
  have HC := Lib.hid hcl
  have HNO := Lib.hid hnone
  clear hp hcs hcl hnone
  go_enter Tryd.func24, Tryd.ntmps24
  go_wp2_with fail
  refine (HP.out _).mono ?_
  rintro e w1 ⟨rfl, rfl⟩
  go_wp2_with fail
  refine HC.out.mono ?_
  rintro e w1 ⟨v1, rfl, ho1, hb1⟩
  obtain ⟨a1, n1, c1, rfl, hn1, _⟩ := ho1.slice
  rw [HN.out] at hn1
  subst hn1
  obtain ⟨hz, hc1, hc2⟩ := ho1.len
  clear hz
  have HO1 := Lib.hid ho1
  clear ho1
  by_cases he : f < t
  · obtain ⟨g, rfl⟩ : ∃ g, a1 = some ⟨g, 0, none⟩ := by
      obtain ⟨g, e, _⟩ := HO1.out.at (show 0 < n1 by omega)
      exact ⟨g, e⟩
    have hcf : ¬ c1 = f := by omega
    have h1 : f ≤ c1 := by omega
    have h2 : t ≤ c1 := by omega
    have rp := reverse_part g n1 c1 (c1 - f) f t w.heap.size xs he htn (by omega) w1 HO1.out
    have RP := Lib.hid rp
    clear rp
    go_wp2_with fail
    refine RP.out.mono ?_
    rintro e w2 ⟨rfl, ho2, hb2⟩
    have hB2 := hb1.trans hb2
    have HO2 := Lib.hid ho2
    clear ho2 hb1 hb2
    go_wp2_with fail
    go_ret2
    exact ⟨_, rfl, HO2.out, hB2⟩
  · obtain rfl : f = t := by omega
    have hn := HNO.out (Nat.le_refl _)
    have HNE := Lib.hid hn
    have h1 : f ≤ c1 := by omega
    clear hn
    by_cases hcf : c1 = f
    · subst hcf
      go_wp2_with fail
      refine (reverse_none _ _ _).mono ?_
      rintro e w2 ⟨rfl, rfl⟩
      go_wp2_with fail
      go_ret2
      exact ⟨_, rfl, by rw [HNE.out]; exact HO1.out, hb1⟩
    · go_wp2_with fail
      refine (reverse_none _ _ _).mono ?_
      rintro e w2 ⟨rfl, rfl⟩
      go_wp2_with fail
      go_ret2
      exact ⟨_, rfl, by rw [HNE.out]; exact HO1.out, hb1⟩
end Go.Proofs.YtmjigpnpcacefaaDoor
