/- The walks of quantumkit.mark, markByte, LentBytes, KeptBytes. -/
import Derived.Test.YtmjigpnpcacefaaGreatDoorOwnV
import Derived.WalkSmall
import Derived.Deep.QuietTactic
import Derived.BigQuiet
namespace Go.Proofs.YtmjigpnpcacefaaGreatDoor
open Go Go.RowKit Go.Shelf

def mkN (k i : Nat) : Nat := 1000003 * (k + 7) + i
/-- The mark for index i of slice k, as a byte. -/
def mkB (k i : Nat) : Nat := (mkN k i * 11400714819323198485 % 18446744073709551616) / 72057594037927936
theorem mkB_lt (k i : Nat) : mkB k i < 256 := by unfold mkB; omega
set_option maxRecDepth 100000 in
theorem mark_any (k i : Nat) (hk : k < 1000) (hi : i < 1000000) (w : World) :
    Calls Tryz.prog 42 #[.int .i64 (k : Int), .int .i64 (i : Int)] w fun e w' => e = .returned (.int .i64 (mkN k i : Nat)) ∧ w = w' := by
  have h1 : IntKind.i64.wrap ((k : Int) + 7) = (k : Int) + 7 := IntWalk.i64_in _ (by omega)
  have h2 : IntKind.i64.wrap (1000003 * ((k : Int) + 7)) = 1000003 * ((k : Int) + 7) := IntWalk.i64_in _ (by omega)
  have h3 : IntKind.i64.wrap (1000003 * ((k : Int) + 7) + (i : Int)) = (mkN k i : Nat) := by rw [IntWalk.i64_in _ (by omega)]; unfold mkN; omega
  have h4 : 1000003 * ((k : Int) + 7) + (i : Int) = (mkN k i : Nat) := by unfold mkN; omega
  obtain ⟨m, HM⟩ := nm (mkN k i)
  rw [HM.out] at h3 h4 ⊢
  have H4 := Lib.hid h4
  clear h4
  go_enter Tryz.func42, Tryz.ntmps42
  go_wp2_with fail
  go_ret
  first | exact ⟨rfl, rfl⟩ | exact ⟨by rw [← H4.out]; rfl, rfl⟩
set_option maxRecDepth 100000 in
theorem markByte_any (k i : Nat) (hk : k < 1000) (hi : i < 1000000) (w : World) :
    Calls Tryz.prog 41 #[.int .i64 (k : Int), .int .i64 (i : Int)] w fun e w' => e = .returned (.int .u8 (mkB k i : Nat)) ∧ w = w' := by
  have HM := Lib.hid (fun W => mark_any k i hk hi W)
  have hx : mkN k i < 18446744073709551616 := by unfold mkN; omega
  have hv := mkB_lt k i
  have he : mkB k i = (mkN k i * 11400714819323198485 % 18446744073709551616) / 72057594037927936 := rfl
  obtain ⟨m, HMM⟩ := nm (mkN k i)
  simp only [HMM.out] at HM
  rw [HMM.out] at hx he
  obtain ⟨v, HV⟩ := nm (mkB k i)
  rw [HV.out] at hv he ⊢
  have h1 : IntKind.u64.wrap (m : Int) = (m : Int) := by rw [IntKind.wrap_u64]; omega
  have h2 : IntKind.u64.wrap ((m : Int) * 11400714819323198485) = ((m * 11400714819323198485 % 18446744073709551616 : Nat) : Int) := by rw [IntKind.wrap_u64]; omega
  obtain ⟨z, HZ⟩ := nm (m * 11400714819323198485 % 18446744073709551616)
  rw [HZ.out] at h2 he
  have h3 : (z : Int) / 72057594037927936 = (v : Int) := by omega
  have h4 : IntKind.u8.wrap (v : Int) = (v : Int) := by simp [IntKind.wrap, IntKind.bits, IntKind.signed]; omega
  clear he
  go_enter Tryz.func41, Tryz.ntmps41
  go_wp2_with fail
  refine (HM.out _).mono ?_
  rintro e w1 ⟨rfl, rfl⟩
  go_wp2_with fail
  go_ret
  exact ⟨rfl, rfl⟩
/-- The marks up to k, as bytes. -/
def marksB (k : Nat) : List Nat := (List.range k).map fun (i : Nat) => mkB 1 i
theorem marksB_length (k : Nat) : (marksB k).length = k := by simp [marksB]
theorem marksB_succ (k : Nat) : marksB (k + 1) = marksB k ++ [mkB 1 k] := by unfold marksB; rw [List.range_succ, List.map_append]; rfl
theorem mark1B (i : Nat) (hi : i < 12) (w : World) :
    Calls Tryz.prog 41 #[.int .i64 1, .int .i64 (i : Int)] w fun e w' => e = .returned (.int .u8 (mkB 1 i : Nat)) ∧ w = w' := markByte_any 1 i (by decide) (by omega) w

set_option maxRecDepth 100000 in
set_option maxHeartbeats 2000000 in
theorem lentBytes_any (v : Value) (l : List Nat) (w : World) (hl : Reads .u8 w v l) (hll : l.length < 1000000) :
    Calls Tryz.prog 10 #[v] w fun e w' => ∃ g c, e = .returned (.slice (some ⟨g, 0, none⟩) l.length c) ∧ l.length + 12 ≤ c ∧ c ≤ 9223372036854775807 ∧ w.heap.size ≤ g ∧ g < w'.heap.size ∧
      Owns .u8 5 w' w.heap.size (.slice (some ⟨g, 0, none⟩) (l.length + 12) c) (l ++ marksB 12) ∧ Below w.heap.size w w' := by
  have HV := Lib.hid hl
  obtain ⟨av, cv, rfl, hlv, hcv, hsv⟩ := hl
  obtain ⟨L, HL⟩ := nm l.length
  rw [HL.out] at hlv HV hll ⊢
  have hw : IntKind.i64.wrap ((L : Int) + 12) = (L : Int) + 12 := IntWalk.i64_in _ (by omega)
  clear hsv
  go_enter Tryz.func10, Tryz.ntmps10
  go_wp2_with first | (refine wpl_make0 rfl (.const (.int .i64 0)) (.tmp 7) 22 rfl .u8 5 1 Tryz.underlying22 info_u8 (by decide) w.heap.size w (L + 12) _ rfl rfl ?_ ?_ (Nat.le_refl _) ?_; (omega); (omega); intro v1 w1 ho1 hb1; have HO1 := Lib.hid ho1; have HB1 := Lib.hid hb1; have HR1 := Lib.hid (HV.out.keep hb1 (Nat.le_refl _)); clear ho1 hb1) | (at_builtin; refine wpl_app rfl (.tmp 9) (.tmp 10) 22 rfl .u8 5 1 Tryz.underlying22 info_u8 (by decide) w.heap.size _ [] _ HO1.out rfl _ l rfl HR1.out (by rw [HL.out]; simp; omega) HB1.out.size ?_; intro v2 w2 ho2 hb2; rw [List.nil_append] at ho2; have HO2 := Lib.hid ho2; have HB2 := Lib.hid (HB1.out.trans hb2); clear ho2 hb2 HB1)
  go_loopw [3, 4] (fun vo vi wr => ∃ i : Nat, i ≤ 12 ∧ vi = .int .i64 (i : Int) ∧ Owns .u8 5 wr w.heap.size vo (l ++ marksB i) ∧ Below w.heap.size w wr) (fun _ vi _ => 12 - (intOf vi).toNat)
  case atStart => exact ⟨0, by omega, rfl, by rw [show l ++ marksB 0 = l from List.append_nil l]; exact HO2.out, HB2.out⟩
  case round =>
    obtain ⟨i, hi, rfl, ho, hB⟩ := hrel
    have HO := Lib.hid ho
    have HB := Lib.hid hB
    have hln : (l ++ marksB i).length < 17592186044414 := by rw [List.length_append, marksB_length, HL.out]; omega
    have HLN := Lib.hid hln
    clear hln
    by_cases hlt : i < 12
    · have hi1 : (i : Int) < 12 := by omega
      have HM := Lib.hid (fun W => mark1B i hlt W)
      clear ho hB
      go_wp2_with fail
      refine (HM.out _).mono ?_
      rintro e w3 ⟨rfl, rfl⟩
      go_wp2_with (at_builtin; refine wpl_app1 rfl (.tmp 16) (.tmp 19) 22 rfl .u8 5 1 Tryz.underlying22 info_u8 (by decide) w.heap.size _ (l ++ marksB i) _ HO.out rfl _ (mkB 1 i) rfl rfl (by have := HLN.out; omega) HB.out.size ?_; intro v3 w4 ho4 hb4)
      go_roundw
      case rel => exact ⟨i + 1, by omega, by go_num, by rw [marksB_succ, ← List.append_assoc]; exact ho4, HB.out.trans hb4⟩
      case measure => simp [intOf]; omega
    · obtain rfl : i = 12 := by omega
      have hlen : (l ++ marksB 12).length = L + 12 := by rw [List.length_append, marksB_length, HL.out]
      rcases ho.form with ⟨_, hnil⟩ | ⟨g, c, rfl, hg1, hg2, hg3, hg4⟩
      · have := congrArg List.length hnil
        rw [hlen] at this
        simp at this
      rw [hlen] at hg3 ho ⊢
      have HOO := Lib.hid ho
      clear ho hB hlen HO
      rw [show ((12 : Nat) : Int) = 12 from rfl]
      go_wp2_with fail
      go_ret
      exact ⟨g, c, rfl, hg3, hg4, hg1, hg2, HOO.out, HB.out⟩
theorem lentB_at (l : List Nat) {i : Nat} (h : i < l.length) : (l ++ marksB 12)[i]?.getD 0 = l[i]?.getD 0 := by rw [List.getElem?_append_left h]
theorem lentB_mark (l : List Nat) {k : Nat} (h : k < 12) : (l ++ marksB 12)[l.length + k]?.getD 0 = mkB 1 k := by
  rw [List.getElem?_append_right (by omega), Nat.add_sub_cancel_left]
  unfold marksB
  rw [List.getElem?_map, List.getElem?_range h, Option.map_some, Option.getD_some]
set_option maxRecDepth 100000 in
set_option maxHeartbeats 16000000 in
theorem keptBytes_any (g n c : Nat) (vl : Value) (l : List Nat) (w : World) (hn : l.length = n) (hc : n + 12 ≤ c) (hcm : c ≤ 9223372036854775807)
    (hcells : ∀ i, i < n + 12 → w.cell? ⟨g, i, none⟩ = some (.int .u8 (((l ++ marksB 12)[i]?.getD 0 : Nat) : Int))) (hl : Reads .u8 w vl l) (hll : n < 1000000) :
    Calls Tryz.prog 22 #[.slice (some ⟨g, 0, none⟩) n c, vl] w fun e w' => e = .returned (.bool true) ∧ Below w.heap.size w w' := by
  obtain ⟨av, cv, rfl, hlv, hcv, hsv⟩ := hl
  rw [hn] at hlv hsv ⊢
  have HAT := Lib.hid (fun i (h : i < n) => lentB_at l (i := i) (by rw [hn]; exact h))
  have HMK := Lib.hid (fun k (h : k < 12) => by have h1 := lentB_mark l h; rw [hn] at h1; exact h1)
  obtain ⟨N, HN⟩ := nm (n + 12)
  have hnN : n + 12 = N := HN.out
  rw [hnN] at hc
  simp only [hnN] at hcells
  have HCS := Lib.hid hcells
  have HSV := Lib.hid hsv
  have hw : IntKind.i64.wrap ((n : Int) + 12) = (N : Int) := by rw [IntWalk.i64_in _ (by omega)]; omega
  have hw2 : (n : Int) + 12 = (N : Int) := by omega
  have HNN := Lib.hid hnN
  clear hcells hsv hn hnN
  go_enter Tryz.func22, Tryz.ntmps22
  go_wp2_with fail
  go_loopw [6] (fun vi wr => ∃ i : Nat, i ≤ N ∧ vi = .int .i64 (i : Int) ∧ Below w.heap.size w wr) (fun vi _ => N - (intOf vi).toNat)
  case atStart => exact ⟨0, Nat.zero_le _, rfl, bel_refl _⟩
  case round =>
    obtain ⟨i, hi, rfl, hB⟩ := hrel
    by_cases hlt : i < N
    · have ck := cell_keep hB (HCS.out i hlt) (cell_lt (HCS.out i hlt))
      have hi1 : (i : Int) < (N : Int) := by omega
      have HB := Lib.hid hB
      clear hB
      by_cases hin : i < n
      · obtain ⟨b, o, rfl, hcl⟩ := HSV.out.resolve_left (fun h => by omega)
        have c2 := cell_keep HB.out (hcl i hin) (cell_lt (hcl i hin))
        rw [HAT.out i hin] at ck
        obtain ⟨x, HX⟩ := nm (l[i]?.getD 0)
        rw [HX.out] at ck c2
        have hi2 : (i : Int) < (n : Int) := by omega
        have hi3 : i < n := hin
        have hi4 : ¬ n ≤ i := by omega
        clear hcl hw hw2
        go_wp2_with fail
        go_quiet (fail)
        go_wp2_with fail
        go_roundw
        case rel => exact ⟨i + 1, by omega, by go_num, below_drewN HB.out _⟩
        case measure => simp [intOf]; omega
      · obtain ⟨k, hki⟩ : ∃ k, n + k = i := ⟨i - n, by omega⟩
        have hk : k < 12 := by have := HNN.out; omega
        rw [← hki, HMK.out k hk, hki] at ck
        have HM := Lib.hid (fun W => mark1B k hk W)
        obtain ⟨x, HX⟩ := nm (mkB 1 k)
        rw [HX.out] at ck
        simp only [HX.out] at HM
        have hi2 : ¬ (i : Int) < (n : Int) := by omega
        have hi3 : n ≤ i := by omega
        have hi4 : ¬ i < n := by omega
        have hw3 : IntKind.i64.wrap ((i : Int) - (n : Int)) = (k : Int) := by rw [IntWalk.i64_in _ (by omega)]; omega
        have HKI := Lib.hid hki
        clear hki hw hw2
        go_wp2_with fail
        have HK := Lib.hid (fun W (hW : Below wr.heap.size wr W) => And.intro hW (cell_keep hW ck (cell_lt ck)))
        have hD : Below wr.heap.size wr wr.drew := (bel_refl wr).drew
        refine wp_region_held_drew (S := fun W => Below wr.heap.size wr W ∧ W.cell? ⟨g, i, none⟩ = some (.int .u8 (x : Int))) (by kernel_rfl) (HK.out _ hD) (fun hS => ?_)
        refine wpAnyH_takeD (i := 0) (d := some 23) (v := ?_) rfl rfl (by kernel_rfl) (by kernel_rfl) (by kernel_rfl) (fun _ _ _ h => h) (Or.inl ⟨by rfl, fun w hSw => ?_⟩) (by assumption) ?_
        rotate_left
        · first | (go_simp; done) | (go_simp; with_reducible rfl)
        simp only [Act.put, List.setIfInBounds_toArray, List.set_cons_zero, List.set_cons_succ]
        refine wpAnyH_takeD (i := 1) (d := some 24) (v := ?_) rfl rfl (by kernel_rfl) (by kernel_rfl) (by kernel_rfl) (fun _ _ _ h => h) (Or.inl ⟨by rfl, fun w hSw => ?_⟩) (by assumption) ?_
        rotate_left
        · first | (go_simp; done) | (go_simp; with_reducible rfl)
        simp only [Act.put, List.setIfInBounds_toArray, List.set_cons_zero, List.set_cons_succ]
        refine wpAnyH_takeD (i := 2) (d := some 25) (v := ?_) rfl rfl (by kernel_rfl) (by kernel_rfl) (by kernel_rfl) (fun _ _ _ h => h) (Or.inl ⟨by rfl, fun w hSw => ?_⟩) (by assumption) ?_
        rotate_left
        · first | (go_simp; done) | (go_simp; with_reducible rfl)
        simp only [Act.put, List.setIfInBounds_toArray, List.set_cons_zero, List.set_cons_succ]
        refine wpAnyH_takeD (i := 3) (d := some 26) (v := ?_) rfl rfl (by kernel_rfl) (by kernel_rfl) (by kernel_rfl) (fun _ _ _ h => h) (Or.inl ⟨by rfl, fun w hSw => ?_⟩) (by assumption) ?_
        rotate_left
        · first | (go_simp; done) | (go_simp; with_reducible rfl)
        simp only [Act.put, List.setIfInBounds_toArray, List.set_cons_zero, List.set_cons_succ]
        refine wpAnyH_takeD (i := 4) (d := some 27) (v := ?_) rfl rfl (by kernel_rfl) (by kernel_rfl) (by kernel_rfl) (fun _ _ _ h => h) (Or.inl ⟨by rfl, fun w hSw => ?_⟩) (by assumption) ?_
        rotate_left
        · first | (go_simp; done) | (go_simp; with_reducible rfl)
        simp only [Act.put, List.setIfInBounds_toArray, List.set_cons_zero, List.set_cons_succ]
        refine wpAnyH_takeD (i := 5) (d := some 28) rfl rfl (by kernel_rfl) (by kernel_rfl) (by kernel_rfl) (fun _ _ _ h => h) (Or.inr ⟨by rfl, rfl⟩) (by assumption) ?_
        simp only [Act.put, List.setIfInBounds_toArray, List.set_cons_zero, List.set_cons_succ]
        refine wpAnyH_takeD (i := 6) (d := some 29) rfl rfl (by kernel_rfl) (by kernel_rfl) (by kernel_rfl) (fun _ _ _ h => h) (Or.inr ⟨by rfl, rfl⟩) (by assumption) ?_
        simp only [Act.put, List.setIfInBounds_toArray, List.set_cons_zero, List.set_cons_succ]
        refine wpAnyH_takeD (i := 7) (d := some 30) rfl rfl (by kernel_rfl) (by kernel_rfl) (by kernel_rfl) (fun _ _ _ h => h) (Or.inr ⟨by rfl, rfl⟩) (by assumption) ?_
        simp only [Act.put, List.setIfInBounds_toArray, List.set_cons_zero, List.set_cons_succ]
        refine wpAnyH_takeD (i := 8) (d := some 31) rfl rfl (by kernel_rfl) (by kernel_rfl) (by kernel_rfl) (fun _ _ _ h => h) (Or.inr ⟨by rfl, rfl⟩) (by assumption) ?_
        simp only [Act.put, List.setIfInBounds_toArray, List.set_cons_zero, List.set_cons_succ]
        refine wpAnyH_takeD (i := 9) (d := some 32) rfl rfl (by kernel_rfl) (by kernel_rfl) (by kernel_rfl) (fun _ _ _ h => h) (Or.inr ⟨by rfl, rfl⟩) (by assumption) ?_
        simp only [Act.put, List.setIfInBounds_toArray, List.set_cons_zero, List.set_cons_succ]
        refine wpAnyH_takeD (i := 10) (d := some 33) rfl rfl (by kernel_rfl) (by kernel_rfl) (by kernel_rfl) (fun _ _ _ h => h) (Or.inr ⟨by rfl, rfl⟩) (by assumption) ?_
        simp only [Act.put, List.setIfInBounds_toArray, List.set_cons_zero, List.set_cons_succ]
        refine wpAnyH_takeD (i := 11) (d := some 34) rfl rfl (by kernel_rfl) (by kernel_rfl) (by kernel_rfl) (fun _ _ _ h => h) (Or.inr ⟨by rfl, rfl⟩) (by assumption) ?_
        simp only [Act.put, List.setIfInBounds_toArray, List.set_cons_zero, List.set_cons_succ]
        refine wpAnyH_takeD (i := 12) (d := some 35) rfl rfl (by kernel_rfl) (by kernel_rfl) (by kernel_rfl) (fun _ _ _ h => h) (Or.inr ⟨by rfl, rfl⟩) (by assumption) ?_
        simp only [Act.put, List.setIfInBounds_toArray, List.set_cons_zero, List.set_cons_succ]
        refine wpAnyH_takeD (i := 13) (d := some 36) rfl rfl (by kernel_rfl) (by kernel_rfl) (by kernel_rfl) (fun _ _ _ h => h) (Or.inr ⟨by rfl, rfl⟩) (by assumption) ?_
        simp only [Act.put, List.setIfInBounds_toArray, List.set_cons_zero, List.set_cons_succ]
        refine wpAnyH_takeD (i := 14) (d := some 37) rfl rfl (by kernel_rfl) (by kernel_rfl) (by kernel_rfl) (fun _ _ _ h => h) (Or.inr ⟨by rfl, rfl⟩) (by assumption) ?_
        simp only [Act.put, List.setIfInBounds_toArray, List.set_cons_zero, List.set_cons_succ]
        refine wpAnyH_takeD (i := 15) (d := some 38) (v := ?_) rfl rfl (by kernel_rfl) (by kernel_rfl) (by kernel_rfl) (fun _ _ _ h => h) (Or.inl ⟨by rfl, fun w hSw => ?_⟩) (by assumption) ?_
        rotate_left
        · first | (go_simp; done) | (go_simp; with_reducible rfl)
        simp only [Act.put, List.setIfInBounds_toArray, List.set_cons_zero, List.set_cons_succ]
        refine wpAnyH_takeD (i := 16) (d := some 39) (v := ?_) rfl rfl (by kernel_rfl) (by kernel_rfl) (by kernel_rfl) (fun _ _ _ h => h) (Or.inl ⟨by rfl, fun w hSw => ?_⟩) (by assumption) ?_
        rotate_left
        · first | (go_simp; done) | (go_simp; with_reducible rfl)
        simp only [Act.put, List.setIfInBounds_toArray, List.set_cons_zero, List.set_cons_succ]
        refine wpAnyH_takeD (i := 17) (d := some 40) (v := ?_) rfl rfl (by kernel_rfl) (by kernel_rfl) (by kernel_rfl) (fun _ _ _ h => h) (Or.inl ⟨by rfl, fun w hSw => ?_⟩) (by assumption) ?_
        rotate_left
        · first | (go_simp; done) | (go_simp; with_reducible rfl)
        simp only [Act.put, List.setIfInBounds_toArray, List.set_cons_zero, List.set_cons_succ]
        refine wpAnyH_takeD (i := 18) (d := some 41) (v := ?_) rfl rfl (by kernel_rfl) (by kernel_rfl) (by kernel_rfl) (fun _ _ _ h => h) (Or.inl ⟨by rfl, fun w hSw => ?_⟩) (by assumption) ?_
        rotate_left
        · first | (go_simp; done) | (go_simp; with_reducible rfl)
        simp only [Act.put, List.setIfInBounds_toArray, List.set_cons_zero, List.set_cons_succ]
        refine wpAnyH_takeD (i := 19) (d := some 42) (v := ?_) rfl rfl (by kernel_rfl) (by kernel_rfl) (by kernel_rfl) (fun _ _ _ h => h) (Or.inl ⟨by rfl, fun w hSw => ?_⟩) (by assumption) ?_
        rotate_left
        · first | (go_simp; done) | (go_simp; with_reducible rfl)
        simp only [Act.put, List.setIfInBounds_toArray, List.set_cons_zero, List.set_cons_succ]
        refine wpAnyH_takeD (i := 20) (d := some 43) (v := ?_) rfl rfl (by kernel_rfl) (by kernel_rfl) (by kernel_rfl) (fun _ _ _ h => h) (Or.inl ⟨by rfl, fun w hSw => ?_⟩) (by assumption) ?_
        rotate_left
        · first | (go_simp; done) | (go_simp; with_reducible rfl)
        simp only [Act.put, List.setIfInBounds_toArray, List.set_cons_zero, List.set_cons_succ]
        refine wpAnyH_takeD (i := 21) (d := some 44) (v := ?_) rfl rfl (by kernel_rfl) (by kernel_rfl) (by kernel_rfl) (fun _ _ _ h => h) (Or.inl ⟨by rfl, fun w hSw => ?_⟩) (by assumption) ?_
        rotate_left
        · first | (go_simp; done) | (go_simp; with_reducible rfl)
        simp only [Act.put, List.setIfInBounds_toArray, List.set_cons_zero, List.set_cons_succ]
        refine wpAnyH_takeD (i := 22) (d := some 45) (v := ?_) rfl rfl (by kernel_rfl) (by kernel_rfl) (by kernel_rfl) (fun _ _ _ h => h) (Or.inl ⟨by rfl, fun w hSw => ?_⟩) (by assumption) ?_
        rotate_left
        · first | (go_simp; done) | (go_simp; with_reducible rfl)
        simp only [Act.put, List.setIfInBounds_toArray, List.set_cons_zero, List.set_cons_succ]
        refine wpAnyH_takeD (i := 23) (d := some 46) (v := ?_) rfl rfl (by kernel_rfl) (by kernel_rfl) (by kernel_rfl) (fun _ _ _ h => h) (Or.inl ⟨by rfl, fun w hSw => ?_⟩) (by assumption) ?_
        rotate_left
        · first | (go_simp; done) | (go_simp; with_reducible rfl)
        simp only [Act.put, List.setIfInBounds_toArray, List.set_cons_zero, List.set_cons_succ]
        refine wpAnyH_takeD (i := 24) (d := some 47) (v := ?_) rfl rfl (by kernel_rfl) (by kernel_rfl) (by kernel_rfl) (fun _ _ _ h => h) (Or.inl ⟨by rfl, fun w hSw => ?_⟩) (by assumption) ?_
        rotate_left
        · first | (go_simp; done) | (go_simp; with_reducible rfl)
        simp only [Act.put, List.setIfInBounds_toArray, List.set_cons_zero, List.set_cons_succ]
        refine wpAnyH_takeD (i := 25) (d := some 48) (v := ?_) rfl rfl (by kernel_rfl) (by kernel_rfl) (by kernel_rfl) (fun _ _ _ h => h) (Or.inl ⟨by rfl, fun w hSw => ?_⟩) (by assumption) ?_
        rotate_left
        · first | (go_simp; done) | (go_simp; with_reducible rfl)
        simp only [Act.put, List.setIfInBounds_toArray, List.set_cons_zero, List.set_cons_succ]
        refine wpAnyH_takeD (i := 26) (d := some 49) (v := ?_) rfl rfl (by kernel_rfl) (by kernel_rfl) (by kernel_rfl) (fun _ _ _ h => h) (Or.inl ⟨by rfl, fun w hSw => ?_⟩) (by assumption) ?_
        rotate_left
        · first | (go_simp; done) | (go_simp; with_reducible rfl)
        simp only [Act.put, List.setIfInBounds_toArray, List.set_cons_zero, List.set_cons_succ]
        refine wpAnyH_takeD (i := 27) (d := some 50) (v := ?_) rfl rfl (by kernel_rfl) (by kernel_rfl) (by kernel_rfl) (fun _ _ _ h => h) (Or.inl ⟨by rfl, fun w hSw => ?_⟩) (by assumption) ?_
        rotate_left
        · first | (go_simp; done) | (go_simp; with_reducible rfl)
        simp only [Act.put, List.setIfInBounds_toArray, List.set_cons_zero, List.set_cons_succ]
        refine wpAnyH_takeD (i := 28) (d := some 51) (v := ?_) rfl rfl (by kernel_rfl) (by kernel_rfl) (by kernel_rfl) (fun _ _ _ h => h) (Or.inl ⟨by rfl, fun w hSw => ?_⟩) (by assumption) ?_
        rotate_left
        · first | (go_simp; done) | (go_simp; with_reducible rfl)
        simp only [Act.put, List.setIfInBounds_toArray, List.set_cons_zero, List.set_cons_succ]
        refine wpAnyH_takeD (i := 29) (d := some 52) (v := ?_) rfl rfl (by kernel_rfl) (by kernel_rfl) (by kernel_rfl) (fun _ _ _ h => h) (Or.inl ⟨by rfl, fun w hSw => ?_⟩) (by assumption) ?_
        rotate_left
        · first | (go_simp; done) | (go_simp; with_reducible rfl)
        simp only [Act.put, List.setIfInBounds_toArray, List.set_cons_zero, List.set_cons_succ]
        refine wpAnyH_ready (rs := [30]) (by kernel_rfl) (by simp) ?_
        refine AllReadyH.cons rfl (fun K hK => ?_) AllReadyH.nil
        go_simp
        refine (HM.out _).mono ?_
        rintro e wb ⟨rfl, rfl⟩
        refine hK _ _ (HK.out _ hD) (fun hS' => ?_)
        clear hK K hS
        have hS := hS'
        clear hS'
        try simp only [Act.put, List.setIfInBounds_toArray, List.set_cons_zero, List.set_cons_succ]
        refine wpAnyH_takeD (i := 31) (d := some 54) (v := ?_) rfl rfl (by kernel_rfl) (by kernel_rfl) (by kernel_rfl) (fun _ _ _ h => h) (Or.inl ⟨by rfl, fun w hSw => ?_⟩) (by assumption) ?_
        rotate_left
        · first | (go_simp; done) | (go_simp; with_reducible rfl)
        simp only [Act.put, List.setIfInBounds_toArray, List.set_cons_zero, List.set_cons_succ]
        refine wpAnyH_takeD (i := 32) (d := some 55) (v := ?_) rfl rfl (by kernel_rfl) (by kernel_rfl) (by kernel_rfl) (fun _ _ _ h => h) (Or.inl ⟨by rfl, fun w hSw => ?_⟩) (by assumption) ?_
        rotate_left
        · first | (go_simp; done) | (go_simp; with_reducible rfl)
        simp only [Act.put, List.setIfInBounds_toArray, List.set_cons_zero, List.set_cons_succ]
        refine wpAnyH_takeD (i := 33) (d := some 56) (v := ?_) rfl rfl (by kernel_rfl) (by kernel_rfl) (by kernel_rfl) (fun _ _ _ h => h) (Or.inl ⟨by rfl, fun w hSw => ?_⟩) (by assumption) ?_
        rotate_left
        · first | (go_simp; done) | (go_simp; with_reducible rfl)
        simp only [Act.put, List.setIfInBounds_toArray, List.set_cons_zero, List.set_cons_succ]
        refine wpAnyH_takeD (i := 34) (d := some 57) (v := ?_) rfl rfl (by kernel_rfl) (by kernel_rfl) (by kernel_rfl) (fun _ _ _ h => h) (Or.inl ⟨by rfl, fun w hSw => ?_⟩) (by assumption) ?_
        rotate_left
        · first | (go_simp; done) | (go_simp; with_reducible rfl)
        simp only [Act.put, List.setIfInBounds_toArray, List.set_cons_zero, List.set_cons_succ]
        refine wpAnyH_done (by kernel_rfl) ?_ _
        go_wp2_with fail
        go_roundw
        case rel => exact ⟨i + 1, by omega, by go_num, HB.out.drew⟩
        case measure => simp [intOf]; omega
    · obtain rfl : i = N := by omega
      go_wp2_with fail
      go_ret
      exact ⟨rfl, hB⟩
end Go.Proofs.YtmjigpnpcacefaaGreatDoor
