/- The reference of checksums: the walks of Seal and Sealed. -/
import Derived.Test.YtomddpplhllgcaaDoorRefD
import Derived.Test.YtomddpplhllgcaaDoorSeal
import Derived.Test.YtomddpplhllgcaaDoorStr
import Derived.Test.YtomddpplhllgcaaDoorOwnB
import Derived.Deep.RegionWith
namespace Go.Proofs.YtomddpplhllgcaaDoor
open Go Go.RowKit Go.Shelf

set_option maxRecDepth 100000 in
set_option maxHeartbeats 1000000 in
theorem rseal_any (v : Value) (xs : List Nat) (w : World) (hv : Reads .u8 w v xs) (hx : Bytes xs) (hl : xs.length < 1099511627776) :
    Calls Tryd.prog 32 #[v] w fun e w' => ∃ v', e = .returned v' ∧ Owns .u8 5 w' w.heap.size v' (Gf.sealB xs) ∧ Below w.heap.size w w' := by
  have hul := Gf.update_lt 0 xs
  obtain ⟨c, HC⟩ := nm (Gf.sum xs)
  have hc : c < 4294967296 := by rw [← HC.out]; exact hul
  have HV := Lib.hid hv
  clear hul
  go_enter Tryd.func32, Tryd.ntmps32
  go_wp2_with fail
  refine (rsum4_any v xs hx _ HV.out).mono ?_
  rintro e w1 ⟨rfl, hb1⟩
  rw [HC.out]
  have hr1 := HV.out.keep hb1 (Nat.le_refl _)
  have HR := Lib.hid hr1
  clear hr1 hv
  go_wp2_with first | (at_builtin; refine wpl_app rfl (.tmp 6) (.tmp 7) 25 rfl .u8 5 1 Tryd.underlying25 info_u8 (by decide) w.heap.size _ [] _ (owns_empty .u8 5 w1 w.heap.size hb1.size) rfl _ xs rfl ?_ ?_ ?_ ?_; (exact (HR.out.keep (bel_alloc w1 _) (Nat.le_refl _))); (simp; omega); (have := hb1.size; simp; omega); intro v2 w2 ho2 hb2; have HO2 := Lib.hid ho2; clear ho2) | (at_builtin; refine wpl_app rfl (.tmp 8) (.tmp 23) 25 rfl .u8 5 1 Tryd.underlying25 info_u8 (by decide) w.heap.size _ ([] ++ xs) _ (HO2.out.keep (bel_alloc w2 _) (Nat.le_refl _)) rfl _ (Gf.four c) rfl ?_ ?_ ?_ ?_; (exact reads_four w2 c _ _ _ _ _ (by simp) (by simp) (by simp) (by omega)); (simp [Gf.four]; omega); (have := hb1.size; have := hb2.size; simp at *; omega); intro v3 w3 ho3 hb3)
  go_ret
  refine ⟨v3, rfl, ?_, ?_⟩
  · unfold Gf.sealB
    rw [HC.out]
    exact ho3
  · have h1 := hb1.trans ((bel_alloc w1 (.cells #[] 5)).mono hb1.size)
    have h2 := h1.trans hb2
    exact (h2.trans ((bel_alloc w2 _).mono h2.size)).trans hb3

theorem take_four (xs : List Nat) (n : Nat) (h : xs.length = n + 4) : xs = xs.take n ++ [xs[n]?.getD 0, xs[n + 1]?.getD 0, xs[n + 2]?.getD 0, xs[n + 3]?.getD 0] := by
  apply List.ext_getElem
  · simp; omega
  · intro i h1 h2
    by_cases hi : i < n
    · rw [List.getElem_append_left (by simp; omega)]; simp
    · rw [List.getElem_append_right (by simp; omega)]
      have hl : (xs.take n).length = n := by simp; omega
      simp only [hl]
      have h3 : i - n < 4 := by omega
      obtain ⟨j, rfl⟩ : ∃ j, i = n + j := ⟨i - n, by omega⟩
      simp only [Nat.add_sub_cancel_left] at h3 ⊢
      match j, h3 with
      | 0, _ => simp [show n < xs.length by omega]
      | 1, _ => simp [show n + 1 < xs.length by omega]
      | 2, _ => simp [show n + 2 < xs.length by omega]
      | 3, _ => simp [show n + 3 < xs.length by omega]
theorem four_eq (s x0 x1 x2 x3 : Nat) (hs : s < 4294967296) (h0 : x0 < 256) (h1 : x1 < 256) (h2 : x2 < 256) (h3 : x3 < 256) :
    Gf.four s = [x0, x1, x2, x3] ↔ s = x0 + 256 * x1 + 65536 * x2 + 16777216 * x3 := by
  unfold Gf.four
  simp only [List.cons.injEq, and_true]
  omega
theorem sealedB_eq (xs : List Nat) (hx : Bytes xs) (hl : 4 ≤ xs.length) : decide (Gf.sealB (xs.take (xs.length - 4)) = xs) = sealedB xs := by
  obtain ⟨n, hn⟩ : ∃ n, xs.length = n + 4 := ⟨xs.length - 4, by omega⟩
  unfold sealedB
  rw [show xs.length - 4 = n by omega]
  simp only [hl, decide_true, Bool.true_and]
  rw [decide_eq_decide]
  have h4 := take_four xs n hn
  have hi := four_eq (Gf.sum (xs.take n)) _ _ _ _ (Gf.update_lt _ _) (hx.get n) (hx.get (n + 1)) (hx.get (n + 2)) (hx.get (n + 3))
  unfold Gf.sealB le4
  rw [← hi]
  constructor
  · intro h
    have h5 : xs.take n ++ Gf.four (Gf.sum (xs.take n)) = xs.take n ++ [xs[n]?.getD 0, xs[n + 1]?.getD 0, xs[n + 2]?.getD 0, xs[n + 3]?.getD 0] := h.trans h4
    exact List.append_cancel_left h5
  · intro h
    rw [h]; exact h4.symm

set_option maxRecDepth 100000 in
set_option maxHeartbeats 2000000 in
theorem rsealed_any (v : Value) (xs : List Nat) (w : World) (hv : Reads .u8 w v xs) (hx : Bytes xs) (hl : xs.length < 1099511627776) :
    Calls Tryd.prog 45 #[v] w fun e w' => e = .returned (.bool (sealedB xs)) ∧ Below w.heap.size w w' := by
  have hv0 := hv
  obtain ⟨a, cap, rfl, hlc, hcm, hcs⟩ := hv
  clear hcs
  by_cases h4 : xs.length < 4
  · have hr : sealedB xs = false := by unfold sealedB; simp; omega
    rw [hr]
    clear hr
    go_enter Tryd.func45, Tryd.ntmps45
    go_wp2_with fail
    go_ret
    exact ⟨rfl, Below.refl _ _⟩
  · rw [← sealedB_eq xs hx (by omega)]
    obtain ⟨n, hn⟩ : ∃ n, xs.length = n + 4 := ⟨xs.length - 4, by omega⟩
    have hp := reads_pre hv0 (show n ≤ xs.length by omega)
    have hbp := hx.take n
    have hst := str_beq (xs := Gf.sealB (xs.take n)) (Bytes.append hbp (bytes_four (Gf.sum (xs.take n)))) hx
    rw [show xs.length - 4 = n by omega]
    have hni : (xs.length : Int) - 4 = (n : Int) := by omega
    have hlt := h4
    have hcb : ∀ W, Below w.heap.size w W → (convert 25 9 (.slice a xs.length cap)).run Tryd.prog W = .ok (.string (strOf xs)) W := fun W hB => conv_str _ xs W (hv0.keep hB (Nat.le_refl _)) hx
    have hpl : (xs.take n).length < 1099511627776 := by simp; omega
    have HP := Lib.hid hp
    have HNI := Lib.hid hni
    have HN := Lib.hid hn
    have HCB := Lib.hid hcb
    have HST := Lib.hid hst
    clear hp hni hn hcb hst hv0
    go_enter Tryd.func45, Tryd.ntmps45
    go_wp2_with fail
    have hw : IntKind.i64.wrap (n : Int) = (n : Int) := IntWalk.i64_in _ (by have := HN.out; omega)
    have hnc : (n : Int) ≤ (cap : Int) := by have := HN.out; omega
    have hn0 : (0 : Int) ≤ (n : Int) := by omega
    have hc0 := HCB.out w.drew (Below.refl _ w).drew
    have hwn := HNI.out
    go_region_with (go_at_call 32; refine (rseal_any _ (xs.take n) _ (HP.out.keep (Below.refl _ w).drew (Nat.le_refl _)) hbp hpl).mono ?_; rintro e w1 ⟨v', rfl, ho, hb⟩; have hB1 : Below w.heap.size w w1 := (Below.refl _ w).drew.trans hb; have hc1 := HCB.out w1 hB1; have hc2 := conv_str v' _ w1 ho.reads (Bytes.append hbp (bytes_four _)); clear ho)
    all_goals
      clear hwn hw
      go_wp2_with fail
      go_ret
      refine ⟨?_, hB1⟩
      rw [← HST.out]
      rfl
end Go.Proofs.YtomddpplhllgcaaDoor
