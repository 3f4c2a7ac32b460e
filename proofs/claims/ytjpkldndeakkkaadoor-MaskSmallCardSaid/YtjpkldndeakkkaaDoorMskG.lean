/- Masks of CPUs: the walk of mask.Read's inner function, which takes a number off the rest. -/
import Derived.Test.YtjpkldndeakkkaaDoorMskF
import Derived.Lib.SmallJoins
namespace Go.Proofs.YtjpkldndeakkkaaDoor
open Go Go.RowKit Go.Shelf

/-- The two errors of strconv that are laid hold something. -/
def EV (w : World) : Prop := (∃ te pe, w.cell? ⟨1, 0, none⟩ = some (.iface te pe)) ∧ (∃ te pe, w.cell? ⟨2, 0, none⟩ = some (.iface te pe))
theorem EV.keep {w w' : World} {n : Nat} (h : EV w) (hB : Below n w w') (hn : w.heap.size ≤ n) : EV w' := by
  obtain ⟨⟨a, b, h1⟩, ⟨c, d, h2⟩⟩ := h
  exact ⟨⟨a, b, cell_keep hB h1 (Nat.lt_of_lt_of_le (cell_lt h1) hn)⟩, ⟨c, d, cell_keep hB h2 (Nat.lt_of_lt_of_le (cell_lt h2) hn)⟩⟩
def numI (l : List UInt8) : Nat := match Lib.atoiAll l with
  | .ok v => if 0 ≤ v ∧ v < 64 then v.toNat else 0
  | _ => 0
theorem numI_lt (l : List UInt8) : numI l < 64 := by
  unfold numI
  split
  · split
    · omega
    · decide
  · decide
theorem atoi_ok (l : List UInt8) (hl : l.length < 1000000) (v : Int) (h : Lib.atoiAll l = .ok v) (w : World) :
    Calls Tryd.prog 37 #[.string (bstr l)] w fun e w' => e = .returned (.tuple #[.int .i64 v, .nilIface]) ∧ Below w.heap.size w w' := by
  refine (Tryd.strconv_Atoi_ok (bstr l) (by rw [bstr_size]; omega) v (by rw [show (bstr l).data.toList = l by simp [bstr]]; exact h) w).mono ?_
  rintro e w' ⟨rfl, rfl | ⟨t, rfl⟩⟩
  · exact ⟨rfl, bel_refl _⟩
  · exact ⟨rfl, Go.Joins.below_bytesWorld _ w _ t (Nat.le_refl _)⟩
theorem atoi_err (l : List UInt8) (hl : l.length < 1000000) (h : ∀ v, Lib.atoiAll l ≠ .ok v) (w : World) (hE : EV w) :
    Calls Tryd.prog 37 #[.string (bstr l)] w fun e w' => ∃ v t p, e = .returned (.tuple #[.int .i64 v, .iface t p]) ∧ Below w.heap.size w w' := by
  have hd : (bstr l).data.toList = l := by simp [bstr]
  obtain ⟨⟨a, b, h1⟩, ⟨c, d, h2⟩⟩ := hE
  rcases hc : Lib.atoiAll l with v | _ | _
  · exact absurd hc (h v)
  · refine (Tryd.strconv_Atoi_syntax (bstr l) (by rw [bstr_size]; omega) (by rw [hd, hc]; exact ⟨fun v h => (by cases h), fun h => (by cases h)⟩) _ w h1 (.inr ⟨_, _, rfl⟩)).mono ?_
    rintro e w' ⟨N, rfl, _, _, hb⟩
    exact ⟨_, _, _, rfl, hb⟩
  · refine (Tryd.strconv_Atoi_range (bstr l) (by rw [bstr_size]; omega) (by rw [hd]; exact hc) _ w h2 (.inr ⟨_, _, rfl⟩)).mono ?_
    rintro e w' ⟨N, rfl, _, _, hb⟩
    exact ⟨_, _, _, rfl, hb⟩
theorem gr_tr {A B C : World} (h : Below A.heap.size A B) (k : Below B.heap.size B C) : Below A.heap.size A C := h.trans (k.mono h.size)
theorem cutA_len (R : List UInt8) (c : UInt8) : (cutA R c).length ≤ R.length := (List.takeWhile_prefix _).length_le
theorem cutR_len (R : List UInt8) (c : UInt8) : (cutR R c).length ≤ R.length := by
  unfold cutR
  rw [List.length_drop]
  have := (List.dropWhile_suffix (fun x => x != c) (l := R)).length_le
  omega

set_option maxRecDepth 100000 in
set_option maxHeartbeats 2000000 in
theorem number_any (R : List UInt8) (hR : R.length < 1000000) (c : UInt8) (B : Nat) (w : World) (hB : w.cell? ⟨B, 0, none⟩ = some (.string (bstr R))) (hf : w.frozen? ⟨B, 0, none⟩ = false) (hE : EV w) :
    Calls Tryd.prog 35 #[.string (bstr [c]), .pointer (some ⟨B, 0, none⟩)] w fun e w' => e = .returned (.int .i64 (numI (cutA R c) : Nat)) ∧ ∃ W, Below w.heap.size w W ∧ w' = W.setCell ⟨B, 0, none⟩ (.string (bstr (cutR R c))) := by
  have hcut := fun W => scut_any R c hR W
  have hal : (cutA R c).length < 1000000 := Nat.lt_of_le_of_lt (cutA_len R c) hR
  have HOK := Lib.hid (fun v h W => atoi_ok (cutA R c) hal v h W)
  have HER := Lib.hid (fun h W hE => atoi_err (cutA R c) hal h W hE)
  obtain ⟨A, HA⟩ := nm (bstr (cutA R c))
  obtain ⟨Rr, HRr⟩ := nm (bstr (cutR R c))
  obtain ⟨s, HS⟩ := nm (bstr R)
  obtain ⟨p, HP⟩ := nm (bstr [c])
  simp only [HA.out, HRr.out, HS.out, HP.out] at hcut HOK HER
  rw [HS.out] at hB
  rw [HP.out, HRr.out]
  have HC := Lib.hid hcut
  have HEV := Lib.hid hE
  obtain ⟨N, HN⟩ := nm (numI (cutA R c))
  rw [HN.out]
  clear hcut hal hE
  have pre : ∀ (w1 : World), Below w.heap.size w w1 → w1.cell? ⟨B, 0, none⟩ = some (.string s) ∧ w1.frozen? ⟨B, 0, none⟩ = false := fun w1 h => ⟨cell_keep h hB (cell_lt hB), (h.frozen (p := ⟨B, 0, none⟩) (cell_lt hB)).trans hf⟩
  have HPRE := Lib.hid pre
  clear pre hf
  by_cases hk : ∃ v, Lib.atoiAll (cutA R c) = .ok v
  · obtain ⟨v, hv⟩ := hk
    have hat := fun W => HOK.out v hv W
    have HAT := Lib.hid hat
    have hN : numI (cutA R c) = if 0 ≤ v ∧ v < 64 then v.toNat else 0 := by unfold numI; rw [hv]
    rw [HN.out] at hN
    clear hat hv HOK HER
    by_cases h0 : v < 0
    · rw [if_neg (by omega)] at hN
      subst hN
      have hd0 : decide (v < 0) = true := decide_eq_true h0
      go_enter Tryd.func35, Tryd.ntmps35
      go_wp2_with fail
      refine (HC.out _).mono ?_
      rintro e w1 ⟨rfl, hb1⟩
      go_wp2_with fail
      refine (HAT.out _).mono ?_
      rintro e w2 ⟨rfl, hb2⟩
      have hbb := gr_tr hb1 hb2
      obtain ⟨c2, f2⟩ := HPRE.out w2 hbb
      have HBB := Lib.hid hbb
      clear hbb hb1 hb2 hB
      go_wp2_with fail
      go_ret
      exact ⟨rfl, w2, HBB.out, rfl⟩
    · have hd0 : decide (v < 0) = false := decide_eq_false h0
      by_cases h1 : 64 ≤ v
      · rw [if_neg (by omega)] at hN
        subst hN
        have hd1 : decide (64 ≤ v) = true := decide_eq_true h1
        go_enter Tryd.func35, Tryd.ntmps35
        go_wp2_with fail
        refine (HC.out _).mono ?_
        rintro e w1 ⟨rfl, hb1⟩
        go_wp2_with fail
        refine (HAT.out _).mono ?_
        rintro e w2 ⟨rfl, hb2⟩
        have hbb := gr_tr hb1 hb2
        obtain ⟨c2, f2⟩ := HPRE.out w2 hbb
        have HBB := Lib.hid hbb
        clear hbb hb1 hb2 hB
        go_wp2_with fail
        go_ret
        exact ⟨rfl, w2, HBB.out, rfl⟩
      · rw [if_pos (by omega)] at hN
        have hd1 : decide (64 ≤ v) = false := decide_eq_false h1
        obtain ⟨k, rfl⟩ := Int.eq_ofNat_of_zero_le (show 0 ≤ v by omega)
        rw [Int.toNat_natCast] at hN
        subst hN
        go_enter Tryd.func35, Tryd.ntmps35
        go_wp2_with fail
        refine (HC.out _).mono ?_
        rintro e w1 ⟨rfl, hb1⟩
        go_wp2_with fail
        refine (HAT.out _).mono ?_
        rintro e w2 ⟨rfl, hb2⟩
        have hbb := gr_tr hb1 hb2
        obtain ⟨c2, f2⟩ := HPRE.out w2 hbb
        have HBB := Lib.hid hbb
        clear hbb hb1 hb2 hB
        go_wp2_with fail
        go_ret
        exact ⟨rfl, w2, HBB.out, rfl⟩
  · have hN : numI (cutA R c) = 0 := by
      unfold numI
      split
      · rename_i v hv; exact absurd ⟨v, hv⟩ hk
      · rfl
    rw [HN.out] at hN
    subst hN
    have hat := fun W hE => HER.out (fun v hv => hk ⟨v, hv⟩) W hE
    have HAT := Lib.hid hat
    clear hat hk HOK HER
    go_enter Tryd.func35, Tryd.ntmps35
    go_wp2_with fail
    refine (HC.out _).mono ?_
    rintro e w1 ⟨rfl, hb1⟩
    go_wp2_with fail
    refine (HAT.out _ (HEV.out.keep hb1 (Nat.le_refl _))).mono ?_
    rintro e w2 ⟨v, t, q, rfl, hb2⟩
    have hbb := gr_tr hb1 hb2
    obtain ⟨c2, f2⟩ := HPRE.out w2 hbb
    have HBB := Lib.hid hbb
    clear hbb hb1 hb2 hB
    go_wp2_with fail
    go_ret
    exact ⟨rfl, w2, HBB.out, rfl⟩
end Go.Proofs.YtjpkldndeakkkaaDoor
