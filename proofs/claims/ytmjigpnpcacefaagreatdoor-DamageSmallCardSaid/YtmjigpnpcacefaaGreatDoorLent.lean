/- The walks of quantumkit.mark, LentInts and KeptInts. -/
import Derived.Test.YtmjigpnpcacefaaGreatDoorOwnV
import Derived.WalkSmall
import Derived.Deep.QuietTactic
import Derived.BigQuiet
namespace Go.Proofs.YtmjigpnpcacefaaGreatDoor
open Go Go.RowKit Go.Shelf

set_option maxRecDepth 100000 in
theorem mark1_any (i : Nat) (hi : i < 12) (w : World) :
    Calls Tryz.prog 42 #[.int .i64 1, .int .i64 (i : Int)] w fun e w' => e = .returned (.int .i64 (8000024 + (i : Int))) ∧ w = w' := by
  have hw : IntKind.i64.wrap (8000024 + (i : Int)) = 8000024 + (i : Int) := IntWalk.i64_in _ (by omega)
  go_enter Tryz.func42, Tryz.ntmps42
  go_wp2_with fail
  go_ret
  exact ⟨rfl, rfl⟩
/-- The marks up to k. -/
def marksI (k : Nat) : List Int := (List.range k).map fun (i : Nat) => 8000024 + (i : Int)
theorem marksI_length (k : Nat) : (marksI k).length = k := by simp [marksI]
theorem marksI_succ (k : Nat) : marksI (k + 1) = marksI k ++ [8000024 + (k : Int)] := by unfold marksI; rw [List.range_succ, List.map_append]; rfl

set_option maxRecDepth 100000 in
set_option maxHeartbeats 2000000 in
theorem lentInts_any (v : Value) (l : List Int) (w : World) (hl : ReadsI .i64 w v l) (hll : l.length < 1000000) :
    Calls Tryz.prog 11 #[v] w fun e w' => ∃ g c, e = .returned (.slice (some ⟨g, 0, none⟩) l.length c) ∧ l.length + 12 ≤ c ∧ c ≤ 9223372036854775807 ∧ w.heap.size ≤ g ∧ g < w'.heap.size ∧
      (∀ i, i < l.length + 12 → w'.cell? ⟨g, i, none⟩ = some (.int .i64 ((l ++ marksI 12)[i]?.getD 0))) ∧ Below w.heap.size w w' := by
  have HV := Lib.hid hl
  obtain ⟨av, cv, rfl, hlv, hcv, hsv⟩ := hl
  obtain ⟨L, HL⟩ := nm l.length
  rw [HL.out] at hlv HV hll ⊢
  have hw : IntKind.i64.wrap ((L : Int) + 12) = (L : Int) + 12 := IntWalk.i64_in _ (by omega)
  clear hsv
  go_enter Tryz.func11, Tryz.ntmps11
  go_wp2_with first | (refine wpl_make0 rfl (.const (.int .i64 0)) (.tmp 7) 23 rfl .i64 3 8 Tryz.underlying23 info_int (by decide) w.heap.size w (L + 12) _ rfl rfl ?_ ?_ (Nat.le_refl _) ?_; (omega); (omega); intro v1 w1 ho1 hb1; have HO1 := Lib.hid (show OwnsI .i64 3 w1 w.heap.size v1 [] from ho1); have HB1 := Lib.hid hb1; have HR1 := Lib.hid (HV.out.keep hb1 (Nat.le_refl _)); clear ho1 hb1) | (at_builtin; refine wpl_appI rfl (.tmp 9) (.tmp 10) 23 rfl .i64 3 8 Tryz.underlying23 info_int (by decide) w.heap.size _ [] _ HO1.out rfl _ l rfl HR1.out (by rw [HL.out]; simp; omega) HB1.out.size ?_; intro v2 w2 ho2 hb2; rw [List.nil_append] at ho2; have HO2 := Lib.hid ho2; have HB2 := Lib.hid (HB1.out.trans hb2); clear ho2 hb2 HB1)
  go_loopw [3, 4] (fun vo vi wr => ∃ i : Nat, i ≤ 12 ∧ vi = .int .i64 (i : Int) ∧ OwnsI .i64 3 wr w.heap.size vo (l ++ marksI i) ∧ Below w.heap.size w wr) (fun _ vi _ => 12 - (intOf vi).toNat)
  case atStart => exact ⟨0, by omega, rfl, by rw [show l ++ marksI 0 = l from List.append_nil l]; exact HO2.out, HB2.out⟩
  case round =>
    obtain ⟨i, hi, rfl, ho, hB⟩ := hrel
    have HO := Lib.hid ho
    have HB := Lib.hid hB
    have hln : (l ++ marksI i).length < 17592186044414 := by rw [List.length_append, marksI_length, HL.out]; omega
    have HLN := Lib.hid hln
    clear hln
    by_cases hlt : i < 12
    · have hi1 : (i : Int) < 12 := by omega
      have HM := Lib.hid (fun W => mark1_any i hlt W)
      clear ho hB
      go_wp2_with fail
      refine (HM.out _).mono ?_
      rintro e w3 ⟨rfl, rfl⟩
      go_wp2_with (at_builtin; refine wpl_app1I rfl (.tmp 16) (.tmp 19) 23 rfl .i64 3 8 Tryz.underlying23 info_int (by decide) w.heap.size _ (l ++ marksI i) _ HO.out rfl (8000024 + (i : Int)) rfl HLN.out HB.out.size ?_; intro v3 w4 ho4 hb4)
      go_roundw
      case rel => exact ⟨i + 1, by omega, by go_num, by rw [marksI_succ, ← List.append_assoc]; exact ho4, HB.out.trans hb4⟩
      case measure => simp [intOf]; omega
    · obtain rfl : i = 12 := by omega
      rcases ho.form with ⟨_, hnil⟩ | ⟨g, c, rfl, hg1, hg2, hg3, hg4⟩
      · have := congrArg List.length hnil
        rw [List.length_append, marksI_length] at this
        simp at this
      have hlen : (l ++ marksI 12).length = L + 12 := by rw [List.length_append, marksI_length, HL.out]
      have hcells : ∀ i, i < L + 12 → wr.cell? ⟨g, i, none⟩ = some (.int .i64 ((l ++ marksI 12)[i]?.getD 0)) := fun i hi => ho.cellAt rfl i (by rw [hlen]; exact hi)
      rw [hlen] at hg3 ⊢
      have HCELLS := Lib.hid hcells
      clear ho hB hlen hcells HO
      rw [show ((12 : Nat) : Int) = 12 from rfl]
      go_wp2_with fail
      go_ret
      exact ⟨g, c, rfl, hg3, hg4, hg1, hg2, HCELLS.out, HB.out⟩
end Go.Proofs.YtmjigpnpcacefaaGreatDoor
