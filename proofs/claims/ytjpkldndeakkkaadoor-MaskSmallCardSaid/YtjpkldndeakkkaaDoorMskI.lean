/- The walk of chapter 20's awake: the examples of the chapter. -/
import Derived.Test.YtjpkldndeakkkaaDoorMskH
import Derived.Maps.RangeWalk
import Derived.Maps.OwnOps
import Derived.Carry
namespace Go.Proofs.YtjpkldndeakkkaaDoor
open Go Go.RowKit Go.Shelf

theorem grown_of_below {w w' : World} (h : Below w.heap.size w w') : w.grownBy w' none := ⟨h.os, h.tape, h.output, h.size, fun k hk _ => h.block k hk⟩
theorem below_of_grown {n : Nat} {w w' : World} {b : Nat} (h : w.grownBy w' (some b)) (hb : n ≤ b) (hn : n ≤ w.heap.size) : Below n w w' := (Below.refl n w).grown h hn (fun k e => by cases e; exact hb)
theorem below_of_grown0 {w w' : World} (h : w.grownBy w' none) : Below w.heap.size w w' := (Below.refl _ w).grown h (Nat.le_refl _) (fun k e => by cases e)
/-- The map of the examples. -/
def exMap : DataW Unit := (((DataW.map [] : DataW Unit).put (.int .i64 4) (.lit (.int .i64 3))).put (.int .i64 40) (.lit (.int .i64 63))).put (.int .i64 (-9)) (.lit (.int .i64 0))
theorem exMap_eq : exMap = .map [(.int .i64 (-9), .lit (.int .i64 0)), (.int .i64 4, .lit (.int .i64 3)), (.int .i64 40, .lit (.int .i64 63))] := rfl
theorem exMap_at {x c : Int} (h : ∀ zd : DataW Unit, exMap.atKey (.int .i64 x) zd = .lit (.int .i64 c)) : (x = 4 ∧ c = 3) ∨ (x = 40 ∧ c = 63) ∨ (x = -9 ∧ c = 0) := by
  have h1 := h (.map [])
  rw [exMap_eq] at h1
  by_cases h4 : x = 4
  · subst h4
    left
    refine ⟨rfl, ?_⟩
    have e : (.lit (.int .i64 3) : DataW Unit) = .lit (.int .i64 c) := h1
    injection e with e
    injection e with _ e
    exact e.symm
  · by_cases h40 : x = 40
    · subst h40
      right; left
      refine ⟨rfl, ?_⟩
      have e : (.lit (.int .i64 63) : DataW Unit) = .lit (.int .i64 c) := h1
      injection e with e
      injection e with _ e
      exact e.symm
    · by_cases h9 : x = -9
      · subst h9
        right; right
        refine ⟨rfl, ?_⟩
        have e : (.lit (.int .i64 0) : DataW Unit) = .lit (.int .i64 c) := h1
        injection e with e
        injection e with _ e
        exact e.symm
      · exfalso
        have e1 : Lit.sameKey (.int .i64 (-9)) (.int .i64 x) = false := by simp [Lit.sameKey]; omega
        have e2 : Lit.sameKey (.int .i64 4) (.int .i64 x) = false := by simp [Lit.sameKey]; omega
        have e3 : Lit.sameKey (.int .i64 40) (.int .i64 x) = false := by simp [Lit.sameKey]; omega
        simp [DataW.atKey, List.find?, e1, e2, e3] at h1
theorem wf_4 : (Lit.int .i64 4).wf = true := by decide +kernel
theorem wf_3 : (Lit.int .i64 3).wf = true := by decide +kernel
theorem wf_40 : (Lit.int .i64 40).wf = true := by decide +kernel
theorem wf_63 : (Lit.int .i64 63).wf = true := by decide +kernel
theorem wf_m9 : (Lit.int .i64 (-9)).wf = true := by decide +kernel
theorem wf_0 : (Lit.int .i64 0).wf = true := by decide +kernel
theorem am_of : mofV [0, 1, 2, 3, 5, 63] = 9223372036854775855 ∧ mofE [0, 1, 2, 3, 5, 63] = 0 := by decide +kernel
theorem am_t1 : mtextB 9223372036854775855 = [48, 45, 51, 44, 53, 44, 54, 51] := by decide +kernel
theorem am_t2 : mtextB 0 = [45] := by decide +kernel
theorem am_t3 : mtextB 3 = [48, 45, 49] := by decide +kernel
theorem am_n1 : nextI 9223372036854775855 4 = 5 ∧ nextB 9223372036854775855 4 = true := by decide +kernel
theorem am_n2 : nextI 9223372036854775855 6 = 63 ∧ nextB 9223372036854775855 6 = true := by decide +kernel
theorem am_n3 : nextI 9223372036854775855 64 = 0 ∧ nextB 9223372036854775855 64 = false := by decide +kernel
theorem am_a : aroundI 9223372036854775855 64 = 0 ∧ aroundB 9223372036854775855 64 = true := by decide +kernel
theorem am_m1 : nearI 9223372036854775855 4 = 3 ∧ nearI 9223372036854775855 40 = 63 ∧ nearI 9223372036854775855 (-9) = 0 ∧ nearB 9223372036854775855 = true := by decide +kernel
theorem am_r1 : mrightB 47 6 = true ∧ mrightB 64 6 = false ∧ mrightB 0 6 = false := by decide +kernel
def exS : Nat → List UInt8
  | 0 => [48, 44, 49]
  | 1 => [49, 45, 49]
  | 2 => [53, 44, 48, 45, 51]
  | _ => [54, 52]
theorem am_s : ∀ k, k < 4 → readE (exS k) = 201 := by decide +kernel
theorem exS_len : ∀ k, (exS k).length < 1000000
  | 0 => by decide
  | 1 => by decide
  | 2 => by decide
  | _ + 3 => by simp [exS]

theorem cell_four {W : World} {B : Nat} {c : Array Value} {t : TypeId} (h : W.heap[B]? = some (.cells c t (0, 0))) (j : Nat) {v : Value} (hv : c[j]? = some v) : W.cell? ⟨B, j, none⟩ = some v := by
  simp [World.cell?, h, hv]
set_option maxRecDepth 100000 in
set_option maxHeartbeats 4000000 in
theorem awakeM_any (w : World) (hE : EV w) :
    Calls Tryd.prog 13 #[] w fun e w' => e = .returned (.bool true) ∧ Below w.heap.size w w' := by
  have HEV := Lib.hid hE
  clear hE
  have hmm := @run_makeMap Tryd.prog
  go_enter Tryd.func13, Tryd.ntmps13
  go_wp2_with fail
  refine (mof_any _ [0, 1, 2, 3, 5, 63] _ (reads_litI .i64 w [0, 1, 2, 3, 5, 63] _ _ 6 rfl rfl (by decide)) (by decide)).mono ?_
  rintro e w1 ⟨rfl, hb1⟩
  rw [am_of.1, am_of.2]
  have HB1 := Lib.hid (gr_tr (bel_alloc w _) hb1)
  clear hb1
  go_wp2_with fail
  refine (mtext_any 9223372036854775855 (by decide) _).mono ?_
  rintro e w2 ⟨rfl, hb2⟩
  rw [am_t1]
  have HB2 := Lib.hid (gr_tr HB1.out hb2)
  have q1 : ((bstr [48, 45, 51, 44, 53, 44, 54, 51]).toList == [48, 45, 51, 44, 53, 44, 54, 51]) = true := by decide +kernel
  clear hb2 HB1
  go_wp2_with fail
  refine (mtext_any 0 (by decide) _).mono ?_
  rintro e w3 ⟨rfl, hb3⟩
  rw [am_t2]
  have HB3 := Lib.hid (gr_tr HB2.out hb3)
  have q2 : ((bstr [45]).toList == [45]) = true := by decide +kernel
  clear hb3 HB2
  go_wp2_with fail
  refine (mtext_any 3 (by decide) _).mono ?_
  rintro e w4 ⟨rfl, hb4⟩
  rw [am_t3]
  have HB4 := Lib.hid (gr_tr HB3.out hb4)
  have q3 : ((bstr [48, 45, 49]).toList == [48, 45, 49]) = true := by decide +kernel
  clear hb4 HB3
  go_wp2_with fail
  refine (next_any 9223372036854775855 (by decide) 4 _).mono ?_
  rintro e w5 ⟨rfl, hb5⟩
  rw [am_n1.1, am_n1.2]
  have HB5 := Lib.hid (gr_tr HB4.out hb5)
  clear hb5 HB4
  go_wp2_with fail
  refine (next_any 9223372036854775855 (by decide) 6 _).mono ?_
  rintro e w6 ⟨rfl, hb6⟩
  rw [am_n2.1, am_n2.2]
  have HB6 := Lib.hid (gr_tr HB5.out hb6)
  clear hb6 HB5
  go_wp2_with fail
  refine (next_any 9223372036854775855 (by decide) 64 _).mono ?_
  rintro e w7 ⟨rfl, hb7⟩
  rw [am_n3.1, am_n3.2]
  have HB7 := Lib.hid (gr_tr HB6.out hb7)
  clear hb7 HB6
  go_wp2_with fail
  refine (around_any 9223372036854775855 (by decide) 64 _).mono ?_
  rintro e w8 ⟨rfl, hb8⟩
  rw [am_a.1, am_a.2]
  have HB8 := Lib.hid (gr_tr HB7.out hb8)
  clear hb8 HB7
  have hmd : ((w8.alloc (.map #[] 0)).ownsMap Tryd.prog 3 (plainElem (H := Unit) Tryd.prog 3) w8.heap.size 0 (.map [])) := World.ownsMap_made _ _ _ _
  obtain ⟨w9, hrun1, ho9, hg9⟩ := hmd.update (Maps.int_keyed Tryd.underlying3) Tryd.underlying48 (by unfold maxLen; omega) (Maps.keyOf_int_mk Tryd.underlying3 wf_4) (plainElem_int Tryd.underlying3 wf_3)
  obtain ⟨w10, hrun2, ho10, hg10⟩ := ho9.update (Maps.int_keyed Tryd.underlying3) Tryd.underlying48 (by unfold maxLen; omega) (Maps.keyOf_int_mk Tryd.underlying3 wf_40) (plainElem_int Tryd.underlying3 wf_63)
  obtain ⟨w11, hrun3, ho11, hg11⟩ := ho10.update (Maps.int_keyed Tryd.underlying3) Tryd.underlying48 (by unfold maxLen; omega) (Maps.keyOf_int_mk Tryd.underlying3 wf_m9) (plainElem_int Tryd.underlying3 wf_0)
  have HO11 := Lib.hid ho11
  have HG := Lib.hid (show Below w8.heap.size w8 w11 from (((bel_alloc w8 (.map #[] 0)).trans (below_of_grown hg9 (Nat.le_refl _) (by simp))).trans (below_of_grown hg10 (Nat.le_refl _) (by have := hg9.size; simp at this; omega))).trans (below_of_grown hg11 (Nat.le_refl _) (by have := hg9.size; have := hg10.size; simp at *; omega)))
  have hsz : w8.heap.size + 1 ≤ w11.heap.size := by have := hg9.size; have := hg10.size; have := hg11.size; simp at *; omega
  clear ho9 ho10 ho11 hg9 hg10 hg11 hmd
  go_wp2_with (first | (at_range; refine wpList_range_own _ rfl _ 48 rfl 3 3 (Maps.int_keyed Tryd.underlying3) Tryd.underlying48 _ w8.heap.size 3 exMap rfl HO11.out ?_; intro w12 hrg0 hg0 hs0) | go_in)
  go_frame
  have HR0 := Lib.hid hrg0
  have HB12 := Lib.hid (show Below w8.heap.size w8 w12 from HG.out.trans ((below_of_grown0 hg0).mono (by omega)))
  clear hrg0 hg0 hs0 hrun1 hrun2 hrun3 hmm HO11 HG
  go_loopw [11] (fun _ wr => ∃ (left : Lit → Bool) (cnt : Nat), Hid (wr.ranges Tryd.prog 3 (plainElem (H := Unit) Tryd.prog 3) w8.heap.size w11.heap.size 3 exMap left cnt) ∧ Hid (Below w8.heap.size w8 wr)) (fun _ wr => wr.rangeLeft w8.heap.size w11.heap.size)
  case atStart => exact ⟨_, _, HR0, HB12⟩
  case round =>
    obtain ⟨left, cnt, hrg, hBr⟩ := hrel
    clear HR0 HB12
    go_wp2_with (first
      | (at_next; refine wpList_next_ranges_ii _ rfl _ rfl 3 3 .i64 .i64 (Maps.int_keyed Tryd.underlying3) Tryd.underlying3 Tryd.underlying3 w8.heap.size w11.heap.size 3 exMap _ _ rfl hrg.out ?_ ?_)
      | go_in)
    · intro _ _
      clear hrg
      have hbox := World.alloc_heap_new wr (.cells #[.string (bstr [48, 44, 49]), .string (bstr [49, 45, 49]), .string (bstr [53, 44, 48, 45, 51]), .string (bstr [54, 52])] 9)
      have hcl : ∀ j, j < 4 → (wr.alloc (.cells #[.string (bstr [48, 44, 49]), .string (bstr [49, 45, 49]), .string (bstr [53, 44, 48, 45, 51]), .string (bstr [54, 52])] 9)).cell? ⟨wr.heap.size, j, none⟩ = some (.string (bstr (exS j))) := fun j hj => by
        rcases (show j = 0 ∨ j = 1 ∨ j = 2 ∨ j = 3 by omega) with rfl | rfl | rfl | rfl <;> exact cell_four hbox _ rfl
      have HCL := Lib.hid hcl
      have HBW := Lib.hid (gr_tr (gr_tr HB8.out hBr.out) (bel_alloc wr (.cells #[.string (bstr [48, 44, 49]), .string (bstr [49, 45, 49]), .string (bstr [53, 44, 48, 45, 51]), .string (bstr [54, 52])] 9)))
      clear hbox hcl hBr
      go_wp2_with fail
      obtain ⟨wo, rfl⟩ : ∃ wo : World, wo = wr := ⟨_, rfl⟩
      obtain ⟨W0, HW0⟩ := nm (wo.alloc (.cells #[.string (bstr [48, 44, 49]), .string (bstr [49, 45, 49]), .string (bstr [53, 44, 48, 45, 51]), .string (bstr [54, 52])] 9))
      rw [HW0.out] at HCL HBW
      rw [show (wo.alloc (.cells #[.string ⟨#[48, 44, 49]⟩, .string ⟨#[49, 45, 49]⟩, .string ⟨#[53, 44, 48, 45, 51]⟩, .string ⟨#[54, 52]⟩] 9)) = W0 from HW0.out]
      go_loopw [111] (fun vk wz => ∃ k : Nat, k ≤ 4 ∧ vk = .int .i64 (k : Int) ∧ Below W0.heap.size W0 wz) (fun vk _ => 4 - (intOf vk).toNat)
      case atStart => exact ⟨0, by omega, rfl, bel_refl _⟩
      case round =>
        obtain ⟨k, hk, rfl, hBz⟩ := hrel
        by_cases hlt : k < 4
        · have ck := cell_keep hBz (HCL.out k hlt) (cell_lt (HCL.out k hlt))
          have hE := HEV.out.keep (gr_tr HBW.out hBz) (Nat.le_refl _)
          have hrd := fun W (hE : EV W) => mread_any (exS k) (exS_len k) W hE
          simp only [am_s k hlt] at hrd
          have HRD := Lib.hid hrd
          have HE := Lib.hid hE
          obtain ⟨t, HTT⟩ := nm (bstr (exS k))
          simp only [HTT.out] at HRD
          rw [HTT.out] at ck
          have hi0 : (0 : Int) ≤ (k : Int) := by omega
          have hi1 : (k : Int) < 4 := by omega
          clear hrd hE
          go_wp2_with fail
          refine (HRD.out _ HE.out).mono ?_
          rintro e w2 ⟨rfl, hb2⟩
          have HB2' := Lib.hid (bel_trans hBz hb2 hBz.size)
          clear hb2
          go_wp2_with fail
          go_roundw
          case rel => exact ⟨k + 1, by omega, by go_num, HB2'.out⟩
          case measure => simp [intOf]; omega
        · obtain rfl : k = 4 := by omega
          have HBF := Lib.hid (gr_tr HBW.out hBz)
          clear hBz
          go_wp2_with fail
          refine (mright_any 47 (by decide) 6 (by decide) _).mono ?_
          rintro e w2 ⟨rfl, rfl⟩
          rw [am_r1.1]
          go_wp2_with fail
          refine (mright_any 64 (by decide) 6 (by decide) _).mono ?_
          rintro e w2 ⟨rfl, rfl⟩
          rw [am_r1.2.1]
          go_wp2_with fail
          refine (mright_any 0 (by decide) 6 (by decide) _).mono ?_
          rintro e w2 ⟨rfl, rfl⟩
          rw [am_r1.2.2]
          go_wp2_with fail
          go_ret
          exact ⟨rfl, HBF.out⟩
    · intro x c w1' cnt1 hwx hwc hlx hat hrg1 hlt hg1 hs1 hen
      have HRG1 := Lib.hid hrg1
      have HLT := Lib.hid hlt
      have HB1' := Lib.hid (show Below w8.heap.size w8 w1' from hBr.out.trans (below_of_grown hg1 (by omega) hBr.out.size))
      have hxc := exMap_at hat
      clear hrg1 hlt hg1 hs1 hlx hat hwx hwc
      have fin : ∀ w2, Below w1'.heap.size w1' w2 → (∃ (left : Lit → Bool) (cnt : Nat), Hid (w2.ranges Tryd.prog 3 (plainElem (H := Unit) Tryd.prog 3) w8.heap.size w11.heap.size 3 exMap left cnt) ∧ Hid (Below w8.heap.size w8 w2)) ∧ w2.rangeLeft w8.heap.size w11.heap.size < wr.rangeLeft w8.heap.size w11.heap.size := fun w2 hb => by
        have hr2 := HRG1.out.kept (grown_of_below hb) (by simp) (by simp)
        exact ⟨⟨_, _, Lib.hid hr2, Lib.hid (gr_tr HB1'.out hb)⟩, by rw [hr2.left_eq, hrg.out.left_eq]; exact HLT.out⟩
      have FIN := Lib.hid fin
      clear fin hrg hBr
      rcases hxc with ⟨rfl, rfl⟩ | ⟨rfl, rfl⟩ | ⟨rfl, rfl⟩
      all_goals
        go_wp2_with fail
        refine (near_any 9223372036854775855 (by decide) _ _).mono ?_
        rintro e w2 ⟨rfl, hb2⟩
        first | rw [am_m1.1, am_m1.2.2.2] | rw [am_m1.2.1, am_m1.2.2.2] | rw [am_m1.2.2.1, am_m1.2.2.2]
        have HF := Lib.hid (FIN.out w2 hb2)
        clear hb2 FIN
        go_wp2_with fail
        go_roundw
        case rel => exact HF.out.1
        case measure => exact HF.out.2
end Go.Proofs.YtjpkldndeakkkaaDoor
