/- The walk of the law CrcTells. -/
import Derived.Test.YtomddpplhllgcaaDoorAwake
import Derived.Test.YtomddpplhllgcaaDoorOpen
import Derived.Test.YtomddpplhllgcaaDoorFlip
import Derived.Deep.DeepCutAuto
import Derived.Deep.RegionHeld3
namespace Go.Proofs.YtomddpplhllgcaaDoor
open Go Go.RowKit Go.Shelf

set_option maxRecDepth 100000 in
set_option maxHeartbeats 4000000 in
theorem tells_any (c : Nat) (hc : c < 4294967296) (v : Value) (xs : List Nat) (w : World) (hv : Reads .u8 w v xs) (hx : Bytes xs) (hT : Tab w) (hl : xs.length ≤ 1000) :
    Calls Tryd.prog 20 #[v, .int .u32 c] w fun e w' => e = .returned (.bool true) ∧ Below w.heap.size w w' := by
  have hv0 := hv
  obtain ⟨a, cap, rfl, hlc, hcm, hcs⟩ := hv
  have hsb := sealedB_seal xs hx
  have HSB := Lib.hid hsb
  obtain ⟨L, HL⟩ := nm xs.length
  rw [HL.out] at hl hlc hv0 ⊢
  have HV := Lib.hid hv0
  clear hcs hv0 hsb
  obtain ⟨u, HU⟩ := nm (Gf.update c xs)
  obtain ⟨s0, HS0⟩ := nm (Gf.sum xs)
  obtain ⟨r0, HR0⟩ := nm (Gf.run 0 xs)
  have hlin : Gf.lin xs = r0 := by rw [Gf.lin_eq xs hx, HR0.out]
  have HLIN := Lib.hid hlin
  clear hlin
  obtain ⟨b, HB⟩ := nm (sealedB xs)
  go_enter Tryd.func20, Tryd.ntmps20
  go_wp2_with first | (refine wpl_make0 rfl (.const (.int .i64 0)) (.tmp 17) 25 rfl .u8 5 1 Tryd.underlying25 info_u8 (by decide) w.heap.size w (L + 8) _ rfl rfl ?_ ?_ (Nat.le_refl _) ?_; (omega); (omega); intro v1 w1 ho1 hB1; have HO1 := Lib.hid ho1; clear ho1) | (at_builtin; refine wpl_app rfl (.tmp 18) (.tmp 19) 25 rfl .u8 5 1 Tryd.underlying25 info_u8 (by decide) w.heap.size _ [] w1 HO1.out rfl _ xs rfl ?_ ?_ hB1.size ?_; (exact HV.out.keep hB1 (Nat.le_refl _)); (rw [HL.out]; simp; omega); intro vo w2 ho2 hB2)
  have hBA := hB1.trans hB2
  have HO := Lib.hid (show Owns .u8 5 w2 w.heap.size vo xs from ho2)
  have hT2 := hT.keep hBA (Nat.le_refl _)
  have hv2 := HV.out.keep hBA (Nat.le_refl _)
  clear ho2 hB2 hB1 HO1
  refine (sum_any _ xs hx _ hT2 HO.out.reads).mono ?_
  rintro e w3 ⟨rfl, rfl⟩
  rw [HS0.out]
  go_wp2_with fail
  refine (rsum4_any _ xs hx _ hv2).mono ?_
  rintro e w3 ⟨rfl, hb3⟩
  rw [HS0.out]
  have hB3 := hBA.trans (hb3.mono hBA.size)
  have hT3 := hT2.keep hb3 (Nat.le_refl _)
  have hO3 := HO.out.keep hb3 (Nat.le_refl _)
  clear hT2 hv2 HO hBA hb3
  go_wp2_with fail
  refine (update_any c _ xs hc hx _ hT3 hO3.reads).mono ?_
  rintro e w4 ⟨rfl, rfl⟩
  rw [HU.out]
  go_wp2_with fail
  refine (rupdate_any c _ xs hc hx _ (HV.out.keep hB3 (Nat.le_refl _))).mono ?_
  rintro e w4 ⟨rfl, hb4⟩
  rw [HU.out]
  have hB4 := hB3.trans (hb4.mono hB3.size)
  have hT4 := hT3.keep hb4 (Nat.le_refl _)
  have hO4 := hO3.keep hb4 (Nat.le_refl _)
  clear hT3 hO3 hB3 hb4
  go_wp2_with fail
  refine (linear_any _ xs hx _ hT4 hO4.reads).mono ?_
  rintro e w5 ⟨rfl, rfl⟩
  rw [HR0.out]
  go_wp2_with fail
  refine (rlinear_any xs _ _ (HV.out.keep hB4 (Nat.le_refl _)) hx (by rw [HL.out]; omega)).mono ?_
  rintro e w5 ⟨rfl, hb5⟩
  rw [HLIN.out]
  have hB5 := hB4.trans (hb5.mono hB4.size)
  have hT5 := hT4.keep hb5 (Nat.le_refl _)
  have hO5 := hO4.keep hb5 (Nat.le_refl _)
  clear hT4 hO4 hB4 hb5
  go_wp2_with fail
  refine (sealed_any _ xs _ hO5.reads hx hT5).mono ?_
  rintro e w6 ⟨rfl, hb6⟩
  rw [HB.out]
  have hB6 := hB5.trans (hb6.mono hB5.size)
  have hT6 := hT5.keep hb6 (Nat.le_refl _)
  have hO6 := hO5.keep hb6 (Nat.le_refl _)
  clear hT5 hO5 hB5 hb6
  go_wp2_with fail
  refine (rsealed_any _ xs _ (HV.out.keep hB6 (Nat.le_refl _)) hx (by rw [HL.out]; omega)).mono ?_
  rintro e w7 ⟨rfl, hb7⟩
  rw [HB.out]
  have hB7 := hB6.trans (hb7.mono hB6.size)
  have hT7 := hT6.keep hb7 (Nat.le_refl _)
  have hO7 := hO6.keep hb7 (Nat.le_refl _)
  clear hT6 hO6 hB6 hb7
  have hbb : (b != b) = false := by simp
  go_wp2_with fail
  refine (seal_any _ xs _ hO7.reads hx hT7 (by rw [HL.out]; omega)).mono ?_
  rintro e w8 ⟨vs, rfl, hs8, hb8⟩
  have hB8 := hB7.trans (hb8.mono hB7.size)
  have hT8 := hT7.keep hb8 (Nat.le_refl _)
  have hO8 := hO7.keep hb8 (Nat.le_refl _)
  have hsb8 : Bytes (Gf.sealB xs) := Bytes.append hx (bytes_four _)
  go_wp2_with fail
  refine (open_yes _ (Gf.sealB xs) _ hs8.reads hsb8 hT8 HSB.out (by have := HL.out; simp [Gf.sealB, Gf.four]; omega)).mono ?_
  rintro e w9 ⟨vp, rfl, hp9, hb9⟩
  have htk : (Gf.sealB xs).take ((Gf.sealB xs).length - 4) = xs := by
    have hl : (Gf.sealB xs).length = xs.length + 4 := by simp [Gf.sealB, Gf.four]
    rw [hl, show xs.length + 4 - 4 = xs.length by omega]
    unfold Gf.sealB; exact List.take_left
  rw [htk] at hp9
  clear htk
  have hB9 := hB8.trans (hb9.mono hB8.size)
  have hT9 := hT8.keep hb9 (Nat.le_refl _)
  have hO9 := hO8.keep hb9 (Nat.le_refl _)
  have hs9 := hs8.keep hb9 (Nat.le_refl _)
  clear hT7 hT8 hO8 hB8
  go_wp2_with fail
  refine (open_any _ xs _ hO9.reads hx hT9 (by rw [HL.out]; omega)).mono ?_
  rintro e wa ⟨ax, mx, cx, nx, rfl, hyes, hno, hba⟩
  rw [HB.out] at hyes hno
  have hBa := hB9.trans (hba.mono hB9.size)
  have hTa := hT9.keep hba (Nat.le_refl _)
  have hOa := hO9.keep hba (Nat.le_refl _)
  have hsa := hs9.keep hba (Nat.le_refl _)
  have hpa := hp9.keep hba (Nat.le_refl _)
  obtain ⟨as1, ls, cs1, rfl, hls, hgs⟩ := hs8.slice
  obtain ⟨ap, lp, cp, rfl, hlp, hgp⟩ := hp9.slice
  have HLS := Lib.hid hls
  have HLP := Lib.hid hlp
  clear hls hlp
  obtain ⟨zs, hxa⟩ : ∃ zs, Owns .u8 5 wa w9.heap.size (.slice ax mx cx) zs := by
    cases hb : b
    · exact ⟨_, (hno hb).2.1⟩
    · exact ⟨_, (hyes hb).2.1⟩
  clear hT9 hO9 hs9 hp9 hB9
  have HVA := Lib.hid (HV.out.keep hBa (Nat.le_refl _))
  obtain ⟨sS, HSS⟩ := nm (strOf (Gf.sealB xs))
  obtain ⟨sX, HSX⟩ := nm (strOf xs)
  have HCS := Lib.hid (show ∀ W, Below wa.heap.size wa W → (convert 25 9 (.slice as1 ls cs1)).run Tryd.prog W = .ok (.string sS) W from fun W hB => by rw [← HSS.out]; exact conv_str _ _ W (hsa.reads.keep hB (Nat.le_refl _)) hsb8)
  have HCO := Lib.hid (show ∀ W, Below wa.heap.size wa W → (convert 25 9 (.slice ap lp cp)).run Tryd.prog W = .ok (.string sX) W from fun W hB => by rw [← HSX.out]; exact conv_str _ _ W (hpa.reads.keep hB (Nat.le_refl _)) hx)
  have HCB := Lib.hid (show ∀ W, Below wa.heap.size wa W → (convert 25 9 (.slice a L cap)).run Tryd.prog W = .ok (.string sX) W from fun W hB => by rw [← HSX.out]; exact conv_str _ _ W (HVA.out.keep hB (Nat.le_refl _)) hx)
  have HK := Lib.hid (show ∀ W, Below wa.heap.size wa W → Below wa.heap.size wa W ∧ (convert 25 9 (.slice as1 ls cs1)).run Tryd.prog W = .ok (.string sS) W ∧ (convert 25 9 (.slice ap lp cp)).run Tryd.prog W = .ok (.string sX) W ∧ (convert 25 9 (.slice a L cap)).run Tryd.prog W = .ok (.string sX) W from fun W hB => ⟨hB, HCS.out W hB, HCO.out W hB, HCB.out W hB⟩)
  clear HCO HCS HCB
  have hD : Below wa.heap.size wa wa.drew := (Below.refl _ wa).drew
  have e1 : (sS.toList == sS.toList) = true := beq_self_eq_true _
  have e2 : (sX.toList == sX.toList) = true := beq_self_eq_true _
  go_upto_region 7 with fail
  go_cut [104] (fun v wx => v = .bool false ∧ Below wa.heap.size wa wx)
  case first =>
   cases b
   · obtain ⟨rfl, hox, rfl⟩ := hno rfl
     clear hyes hno hox
     refine wp_region_held_drew (S := (fun W => Below wa.heap.size wa W ∧ (convert 25 9 (.slice as1 ls cs1)).run Tryd.prog W = .ok (.string sS) W ∧ (convert 25 9 (.slice ap lp cp)).run Tryd.prog W = .ok (.string sX) W ∧ (convert 25 9 (.slice a L cap)).run Tryd.prog W = .ok (.string sX) W)) (by kernel_rfl) (HK.out _ hD) (fun hS => ?_)
     refine wpAnyH_takeD (i := 0) (d := some 64) (v := ?_) rfl rfl (by kernel_rfl) (by kernel_rfl) (by kernel_rfl) (fun _ _ _ h => h) (Or.inl ⟨by rfl, fun w hSw => ?_⟩) (by assumption) ?_
     rotate_left
     · first | (go_simp; done) | (go_simp; with_reducible rfl)
     simp only [Act.put, List.setIfInBounds_toArray, List.set_cons_zero, List.set_cons_succ]
     refine wpAnyH_takeD (i := 1) (d := some 65) (v := ?_) rfl rfl (by kernel_rfl) (by kernel_rfl) (by kernel_rfl) (fun _ _ _ h => h) (Or.inl ⟨by rfl, fun w hSw => ?_⟩) (by assumption) ?_
     rotate_left
     · first | (go_simp; done) | (go_simp; with_reducible rfl)
     simp only [Act.put, List.setIfInBounds_toArray, List.set_cons_zero, List.set_cons_succ]
     refine wpAnyH_takeD (i := 2) (d := some 66) (v := ?_) rfl rfl (by kernel_rfl) (by kernel_rfl) (by kernel_rfl) (fun _ _ _ h => h) (Or.inl ⟨by rfl, fun w hSw => ?_⟩) (by assumption) ?_
     rotate_left
     · first | (go_simp; done) | (go_simp; with_reducible rfl)
     simp only [Act.put, List.setIfInBounds_toArray, List.set_cons_zero, List.set_cons_succ]
     refine wpAnyH_takeD (i := 3) (d := some 67) (v := ?_) rfl rfl (by kernel_rfl) (by kernel_rfl) (by kernel_rfl) (fun _ _ _ h => h) (Or.inl ⟨by rfl, fun w hSw => ?_⟩) (by assumption) ?_
     rotate_left
     · first | (go_simp; done) | (go_simp; with_reducible rfl)
     simp only [Act.put, List.setIfInBounds_toArray, List.set_cons_zero, List.set_cons_succ]
     refine wpAnyH_takeD (i := 4) (d := some 68) (v := ?_) rfl rfl (by kernel_rfl) (by kernel_rfl) (by kernel_rfl) (fun _ _ _ h => h) (Or.inl ⟨by rfl, fun w hSw => ?_⟩) (by assumption) ?_
     rotate_left
     · first | (go_simp; done) | (go_simp; with_reducible rfl)
     simp only [Act.put, List.setIfInBounds_toArray, List.set_cons_zero, List.set_cons_succ]
     refine wpAnyH_takeD (i := 5) (d := some 69) (v := ?_) rfl rfl (by kernel_rfl) (by kernel_rfl) (by kernel_rfl) (fun _ _ _ h => h) (Or.inl ⟨by rfl, fun w hSw => ?_⟩) (by assumption) ?_
     rotate_left
     · first | (go_simp; done) | (go_simp; with_reducible rfl)
     simp only [Act.put, List.setIfInBounds_toArray, List.set_cons_zero, List.set_cons_succ]
     refine wpAnyH_ready (rs := [6]) (by kernel_rfl) (by simp) ?_
     refine AllReadyH.cons rfl (fun K hK => ?_) AllReadyH.nil
     go_simp
     refine (rseal_any _ xs _ (HVA.out.keep hD (Nat.le_refl _)) hx (by rw [HL.out]; omega)).mono ?_
     rintro e wb ⟨v', rfl, ho, hb⟩
     have hBb := hD.trans hb
     have HCR := Lib.hid (show ∀ W, Below wb.heap.size wb W → (convert 25 9 v').run Tryd.prog W = .ok (.string sS) W from fun W hB => by rw [← HSS.out]; exact conv_str v' _ W (ho.reads.keep hB (Nat.le_refl _)) hsb8)
     clear ho hb
     refine hK.out _ _ (HK.out _ hBb) (fun _ => ?_)
     clear hK K hS
     refine wpAnyH_strong (S' := fun W => Below wb.heap.size wb W ∧ (convert 25 9 v').run Tryd.prog W = .ok (.string sS) W ∧ (convert 25 9 (.slice ap lp cp)).run Tryd.prog W = .ok (.string sX) W ∧ (convert 25 9 (.slice a L cap)).run Tryd.prog W = .ok (.string sX) W) (fun W h => HK.out W (hBb.trans (h.1.mono hBb.size))) _ _ _ _ ?_
     have hBbb := Below.refl wb.heap.size wb
     have hS := show (fun W => Below wb.heap.size wb W ∧ (convert 25 9 v').run Tryd.prog W = .ok (.string sS) W ∧ (convert 25 9 (.slice ap lp cp)).run Tryd.prog W = .ok (.string sX) W ∧ (convert 25 9 (.slice a L cap)).run Tryd.prog W = .ok (.string sX) W) wb from ⟨hBbb, HCR.out wb hBbb, (HK.out wb hBb).2.2⟩
     try simp only [Act.put, List.setIfInBounds_toArray, List.set_cons_zero, List.set_cons_succ]
     refine wpAnyH_takeD (i := 7) (d := some 71) (v := ?_) rfl rfl (by kernel_rfl) (by kernel_rfl) (by kernel_rfl) (fun _ _ _ h => h) (Or.inl ⟨by rfl, fun w hSw => ?_⟩) (by assumption) ?_
     rotate_left
     · first | (go_simp; done) | (go_simp; with_reducible rfl)
     simp only [Act.put, List.setIfInBounds_toArray, List.set_cons_zero, List.set_cons_succ]
     refine wpAnyH_takeD (i := 8) (d := some 72) (v := ?_) rfl rfl (by kernel_rfl) (by kernel_rfl) (by kernel_rfl) (fun _ _ _ h => h) (Or.inl ⟨by rfl, fun w hSw => ?_⟩) (by assumption) ?_
     rotate_left
     · first | (go_simp; done) | (go_simp; with_reducible rfl)
     simp only [Act.put, List.setIfInBounds_toArray, List.set_cons_zero, List.set_cons_succ]
     refine wpAnyH_takeD (i := 9) (d := some 73) (v := ?_) rfl rfl (by kernel_rfl) (by kernel_rfl) (by kernel_rfl) (fun _ _ _ h => h) (Or.inl ⟨by rfl, fun w hSw => ?_⟩) (by assumption) ?_
     rotate_left
     · first | (go_simp; done) | (go_simp; with_reducible rfl)
     simp only [Act.put, List.setIfInBounds_toArray, List.set_cons_zero, List.set_cons_succ]
     refine wpAnyH_takeD (i := 10) (d := some 74) (v := ?_) rfl rfl (by kernel_rfl) (by kernel_rfl) (by kernel_rfl) (fun _ _ _ h => h) (Or.inl ⟨by rfl, fun w hSw => ?_⟩) (by assumption) ?_
     rotate_left
     · first | (go_simp; done) | (go_simp; with_reducible rfl)
     simp only [Act.put, List.setIfInBounds_toArray, List.set_cons_zero, List.set_cons_succ]
     refine wpAnyH_takeD (i := 11) (d := some 75) (v := ?_) rfl rfl (by kernel_rfl) (by kernel_rfl) (by kernel_rfl) (fun _ _ _ h => h) (Or.inl ⟨by rfl, fun w hSw => ?_⟩) (by assumption) ?_
     rotate_left
     · first | (go_simp; done) | (go_simp; with_reducible rfl)
     simp only [Act.put, List.setIfInBounds_toArray, List.set_cons_zero, List.set_cons_succ]
     refine wpAnyH_takeD (i := 12) (d := some 76) (v := ?_) rfl rfl (by kernel_rfl) (by kernel_rfl) (by kernel_rfl) (fun _ _ _ h => h) (Or.inl ⟨by rfl, fun w hSw => ?_⟩) (by assumption) ?_
     rotate_left
     · first | (go_simp; done) | (go_simp; with_reducible rfl)
     simp only [Act.put, List.setIfInBounds_toArray, List.set_cons_zero, List.set_cons_succ]
     refine wpAnyH_takeD (i := 13) (d := some 77) (v := ?_) rfl rfl (by kernel_rfl) (by kernel_rfl) (by kernel_rfl) (fun _ _ _ h => h) (Or.inl ⟨by rfl, fun w hSw => ?_⟩) (by assumption) ?_
     rotate_left
     · first | (go_simp; done) | (go_simp; with_reducible rfl)
     simp only [Act.put, List.setIfInBounds_toArray, List.set_cons_zero, List.set_cons_succ]
     refine wpAnyH_takeD (i := 14) (d := some 78) (v := ?_) rfl rfl (by kernel_rfl) (by kernel_rfl) (by kernel_rfl) (fun _ _ _ h => h) (Or.inl ⟨by rfl, fun w hSw => ?_⟩) (by assumption) ?_
     rotate_left
     · first | (go_simp; done) | (go_simp; with_reducible rfl)
     simp only [Act.put, List.setIfInBounds_toArray, List.set_cons_zero, List.set_cons_succ]
     refine wpAnyH_takeD (i := 15) (d := some 79) (v := ?_) rfl rfl (by kernel_rfl) (by kernel_rfl) (by kernel_rfl) (fun _ _ _ h => h) (Or.inl ⟨by rfl, fun w hSw => ?_⟩) (by assumption) ?_
     rotate_left
     · first | (go_simp; done) | (go_simp; with_reducible rfl)
     simp only [Act.put, List.setIfInBounds_toArray, List.set_cons_zero, List.set_cons_succ]
     refine wpAnyH_takeD (i := 16) (d := some 80) (v := ?_) rfl rfl (by kernel_rfl) (by kernel_rfl) (by kernel_rfl) (fun _ _ _ h => h) (Or.inl ⟨by rfl, fun w hSw => ?_⟩) (by assumption) ?_
     rotate_left
     · first | (go_simp; done) | (go_simp; with_reducible rfl)
     simp only [Act.put, List.setIfInBounds_toArray, List.set_cons_zero, List.set_cons_succ]
     refine wpAnyH_takeD (i := 17) (d := some 81) (v := ?_) rfl rfl (by kernel_rfl) (by kernel_rfl) (by kernel_rfl) (fun _ _ _ h => h) (Or.inl ⟨by rfl, fun w hSw => ?_⟩) (by assumption) ?_
     rotate_left
     · first | (go_simp; done) | (go_simp; with_reducible rfl)
     simp only [Act.put, List.setIfInBounds_toArray, List.set_cons_zero, List.set_cons_succ]
     refine wpAnyH_takeD (i := 18) (d := some 82) (v := ?_) rfl rfl (by kernel_rfl) (by kernel_rfl) (by kernel_rfl) (fun _ _ _ h => h) (Or.inl ⟨by rfl, fun w hSw => ?_⟩) (by assumption) ?_
     rotate_left
     · first | (go_simp; done) | (go_simp; with_reducible rfl)
     simp only [Act.put, List.setIfInBounds_toArray, List.set_cons_zero, List.set_cons_succ]
     refine wpAnyH_takeD (i := 19) (d := some 83) (v := ?_) rfl rfl (by kernel_rfl) (by kernel_rfl) (by kernel_rfl) (fun _ _ _ h => h) (Or.inl ⟨by rfl, fun w hSw => ?_⟩) (by assumption) ?_
     rotate_left
     · first | (go_simp; done) | (go_simp; with_reducible rfl)
     simp only [Act.put, List.setIfInBounds_toArray, List.set_cons_zero, List.set_cons_succ]
     refine wpAnyH_takeD (i := 20) (d := some 84) (v := ?_) rfl rfl (by kernel_rfl) (by kernel_rfl) (by kernel_rfl) (fun _ _ _ h => h) (Or.inl ⟨by rfl, fun w hSw => ?_⟩) (by assumption) ?_
     rotate_left
     · first | (go_simp; done) | (go_simp; with_reducible rfl)
     simp only [Act.put, List.setIfInBounds_toArray, List.set_cons_zero, List.set_cons_succ]
     refine wpAnyH_takeD (i := 21) (d := some 85) (v := ?_) rfl rfl (by kernel_rfl) (by kernel_rfl) (by kernel_rfl) (fun _ _ _ h => h) (Or.inl ⟨by rfl, fun w hSw => ?_⟩) (by assumption) ?_
     rotate_left
     · first | (go_simp; done) | (go_simp; with_reducible rfl)
     simp only [Act.put, List.setIfInBounds_toArray, List.set_cons_zero, List.set_cons_succ]
     refine wpAnyH_takeD (i := 22) (d := some 86) (v := ?_) rfl rfl (by kernel_rfl) (by kernel_rfl) (by kernel_rfl) (fun _ _ _ h => h) (Or.inl ⟨by rfl, fun w hSw => ?_⟩) (by assumption) ?_
     rotate_left
     · first | (go_simp; done) | (go_simp; with_reducible rfl)
     simp only [Act.put, List.setIfInBounds_toArray, List.set_cons_zero, List.set_cons_succ]
     refine wpAnyH_takeD (i := 23) (d := some 87) (v := ?_) rfl rfl (by kernel_rfl) (by kernel_rfl) (by kernel_rfl) (fun _ _ _ h => h) (Or.inl ⟨by rfl, fun w hSw => ?_⟩) (by assumption) ?_
     rotate_left
     · first | (go_simp; done) | (go_simp; with_reducible rfl)
     simp only [Act.put, List.setIfInBounds_toArray, List.set_cons_zero, List.set_cons_succ]
     refine wpAnyH_takeD (i := 24) (d := some 88) (v := ?_) rfl rfl (by kernel_rfl) (by kernel_rfl) (by kernel_rfl) (fun _ _ _ h => h) (Or.inl ⟨by rfl, fun w hSw => ?_⟩) (by assumption) ?_
     rotate_left
     · first | (go_simp; done) | (go_simp; with_reducible rfl)
     simp only [Act.put, List.setIfInBounds_toArray, List.set_cons_zero, List.set_cons_succ]
     refine wpAnyH_ready (rs := [25]) (by kernel_rfl) (by simp) ?_
     refine AllReadyH.cons rfl (fun K hK => ?_) AllReadyH.nil
     go_simp
     refine (rsealed_any _ xs _ (HVA.out.keep hBb (Nat.le_refl _)) hx (by rw [HL.out]; omega)).mono ?_
     rintro e wd ⟨rfl, hb⟩
     rw [HB.out]
     have hBd := hBb.trans (hb.mono hBb.size)
     refine hK.out _ _ ⟨hb, HCR.out wd hb, (HK.out wd hBd).2.2⟩ (fun _ => ?_)
     clear hK K hS
     have hS := show (fun W => Below wb.heap.size wb W ∧ (convert 25 9 v').run Tryd.prog W = .ok (.string sS) W ∧ (convert 25 9 (.slice ap lp cp)).run Tryd.prog W = .ok (.string sX) W ∧ (convert 25 9 (.slice a L cap)).run Tryd.prog W = .ok (.string sX) W) wd from ⟨hb, HCR.out wd hb, (HK.out wd hBd).2.2⟩
     try simp only [Act.put, List.setIfInBounds_toArray, List.set_cons_zero, List.set_cons_succ]
     refine wpAnyH_takeD (i := 26) (d := some 90) (v := ?_) rfl rfl (by kernel_rfl) (by kernel_rfl) (by kernel_rfl) (fun _ _ _ h => h) (Or.inl ⟨by rfl, fun w hSw => ?_⟩) (by assumption) ?_
     rotate_left
     · first | (go_simp; done) | (go_simp; with_reducible rfl)
     simp only [Act.put, List.setIfInBounds_toArray, List.set_cons_zero, List.set_cons_succ]
     refine wpAnyH_takeD (i := 27) (d := some 91) (v := ?_) rfl rfl (by kernel_rfl) (by kernel_rfl) (by kernel_rfl) (fun _ _ _ h => h) (Or.inl ⟨by rfl, fun w hSw => ?_⟩) (by assumption) ?_
     rotate_left
     · first | (go_simp; done) | (go_simp; with_reducible rfl)
     simp only [Act.put, List.setIfInBounds_toArray, List.set_cons_zero, List.set_cons_succ]
     refine wpAnyH_takeD (i := 28) (d := some 92) (v := ?_) rfl rfl (by kernel_rfl) (by kernel_rfl) (by kernel_rfl) (fun _ _ _ h => h) (Or.inl ⟨by rfl, fun w hSw => ?_⟩) (by assumption) ?_
     rotate_left
     · first | (go_simp; done) | (go_simp; with_reducible rfl)
     simp only [Act.put, List.setIfInBounds_toArray, List.set_cons_zero, List.set_cons_succ]
     refine wpAnyH_takeD (i := 29) (d := some 93) (v := ?_) rfl rfl (by kernel_rfl) (by kernel_rfl) (by kernel_rfl) (fun _ _ _ h => h) (Or.inl ⟨by rfl, fun w hSw => ?_⟩) (by assumption) ?_
     rotate_left
     · first | (go_simp; done) | (go_simp; with_reducible rfl)
     simp only [Act.put, List.setIfInBounds_toArray, List.set_cons_zero, List.set_cons_succ]
     refine wpAnyH_takeD (i := 30) (d := some 94) (v := ?_) rfl rfl (by kernel_rfl) (by kernel_rfl) (by kernel_rfl) (fun _ _ _ h => h) (Or.inl ⟨by rfl, fun w hSw => ?_⟩) (by assumption) ?_
     rotate_left
     · first | (go_simp; done) | (go_simp; with_reducible rfl)
     simp only [Act.put, List.setIfInBounds_toArray, List.set_cons_zero, List.set_cons_succ]
     refine wpAnyH_takeD (i := 31) (d := some 95) (v := ?_) rfl rfl (by kernel_rfl) (by kernel_rfl) (by kernel_rfl) (fun _ _ _ h => h) (Or.inl ⟨by rfl, fun w hSw => ?_⟩) (by assumption) ?_
     rotate_left
     · first | (go_simp; done) | (go_simp; with_reducible rfl)
     simp only [Act.put, List.setIfInBounds_toArray, List.set_cons_zero, List.set_cons_succ]
     refine wpAnyH_takeD (i := 32) (d := some 96) (v := ?_) rfl rfl (by kernel_rfl) (by kernel_rfl) (by kernel_rfl) (fun _ _ _ h => h) (Or.inl ⟨by rfl, fun w hSw => ?_⟩) (by assumption) ?_
     rotate_left
     · first | (go_simp; done) | (go_simp; with_reducible rfl)
     simp only [Act.put, List.setIfInBounds_toArray, List.set_cons_zero, List.set_cons_succ]
     refine wpAnyH_takeD (i := 33) (d := some 97) (v := ?_) rfl rfl (by kernel_rfl) (by kernel_rfl) (by kernel_rfl) (fun _ _ _ h => h) (Or.inl ⟨by rfl, fun w hSw => ?_⟩) (by assumption) ?_
     rotate_left
     · first | (go_simp; done) | (go_simp; with_reducible rfl)
     simp only [Act.put, List.setIfInBounds_toArray, List.set_cons_zero, List.set_cons_succ]
     refine wpAnyH_takeD (i := 34) (d := some 98) (v := ?_) rfl rfl (by kernel_rfl) (by kernel_rfl) (by kernel_rfl) (fun _ _ _ h => h) (Or.inl ⟨by rfl, fun w hSw => ?_⟩) (by assumption) ?_
     rotate_left
     · first | (go_simp; done) | (go_simp; with_reducible rfl)
     simp only [Act.put, List.setIfInBounds_toArray, List.set_cons_zero, List.set_cons_succ]
     refine wpAnyH_takeD (i := 35) (d := some 99) (v := ?_) rfl rfl (by kernel_rfl) (by kernel_rfl) (by kernel_rfl) (fun _ _ _ h => h) (Or.inl ⟨by rfl, fun w hSw => ?_⟩) (by assumption) ?_
     rotate_left
     · first | (go_simp; done) | (go_simp; with_reducible rfl)
     simp only [Act.put, List.setIfInBounds_toArray, List.set_cons_zero, List.set_cons_succ]
     refine wpAnyH_takeD (i := 36) (d := some 100) (v := ?_) rfl rfl (by kernel_rfl) (by kernel_rfl) (by kernel_rfl) (fun _ _ _ h => h) (Or.inl ⟨by rfl, fun w hSw => ?_⟩) (by assumption) ?_
     rotate_left
     · first | (go_simp; done) | (go_simp; with_reducible rfl)
     simp only [Act.put, List.setIfInBounds_toArray, List.set_cons_zero, List.set_cons_succ]
     refine wpAnyH_takeD (i := 37) (d := some 101) (v := ?_) rfl rfl (by kernel_rfl) (by kernel_rfl) (by kernel_rfl) (fun _ _ _ h => h) (Or.inl ⟨by rfl, fun w hSw => ?_⟩) (by assumption) ?_
     rotate_left
     · first | (go_simp; done) | (go_simp; with_reducible rfl)
     simp only [Act.put, List.setIfInBounds_toArray, List.set_cons_zero, List.set_cons_succ]
     refine wpAnyH_takeD (i := 38) (d := some 102) (v := ?_) rfl rfl (by kernel_rfl) (by kernel_rfl) (by kernel_rfl) (fun _ _ _ h => h) (Or.inl ⟨by rfl, fun w hSw => ?_⟩) (by assumption) ?_
     rotate_left
     · first | (go_simp; done) | (go_simp; with_reducible rfl)
     simp only [Act.put, List.setIfInBounds_toArray, List.set_cons_zero, List.set_cons_succ]
     refine wpAnyH_takeD (i := 39) (d := some 103) (v := ?_) rfl rfl (by kernel_rfl) (by kernel_rfl) (by kernel_rfl) (fun _ _ _ h => h) (Or.inl ⟨by rfl, fun w hSw => ?_⟩) (by assumption) ?_
     rotate_left
     · first | (go_simp; done) | (go_simp; with_reducible rfl)
     simp only [Act.put, List.setIfInBounds_toArray, List.set_cons_zero, List.set_cons_succ]
     refine wpAnyH_takeD (i := 40) (d := some 104) (v := ?_) rfl rfl (by kernel_rfl) (by kernel_rfl) (by kernel_rfl) (fun _ _ _ h => h) (Or.inl ⟨by rfl, fun w hSw => ?_⟩) (by assumption) ?_
     rotate_left
     · first | (go_simp; done) | (go_simp; with_reducible rfl)
     simp only [Act.put, List.setIfInBounds_toArray, List.set_cons_zero, List.set_cons_succ]
     refine wpAnyH_done (by kernel_rfl) ?_ _
     go_wp2_with fail
     go_meet
     exact ⟨rfl, hBd⟩
   · obtain ⟨rfl, hox, rfl⟩ := hyes rfl
     clear hyes hno hox
     refine wp_region_held_drew (S := (fun W => Below wa.heap.size wa W ∧ (convert 25 9 (.slice as1 ls cs1)).run Tryd.prog W = .ok (.string sS) W ∧ (convert 25 9 (.slice ap lp cp)).run Tryd.prog W = .ok (.string sX) W ∧ (convert 25 9 (.slice a L cap)).run Tryd.prog W = .ok (.string sX) W)) (by kernel_rfl) (HK.out _ hD) (fun hS => ?_)
     refine wpAnyH_takeD (i := 0) (d := some 64) (v := ?_) rfl rfl (by kernel_rfl) (by kernel_rfl) (by kernel_rfl) (fun _ _ _ h => h) (Or.inl ⟨by rfl, fun w hSw => ?_⟩) (by assumption) ?_
     rotate_left
     · first | (go_simp; done) | (go_simp; with_reducible rfl)
     simp only [Act.put, List.setIfInBounds_toArray, List.set_cons_zero, List.set_cons_succ]
     refine wpAnyH_takeD (i := 1) (d := some 65) (v := ?_) rfl rfl (by kernel_rfl) (by kernel_rfl) (by kernel_rfl) (fun _ _ _ h => h) (Or.inl ⟨by rfl, fun w hSw => ?_⟩) (by assumption) ?_
     rotate_left
     · first | (go_simp; done) | (go_simp; with_reducible rfl)
     simp only [Act.put, List.setIfInBounds_toArray, List.set_cons_zero, List.set_cons_succ]
     refine wpAnyH_takeD (i := 2) (d := some 66) (v := ?_) rfl rfl (by kernel_rfl) (by kernel_rfl) (by kernel_rfl) (fun _ _ _ h => h) (Or.inl ⟨by rfl, fun w hSw => ?_⟩) (by assumption) ?_
     rotate_left
     · first | (go_simp; done) | (go_simp; with_reducible rfl)
     simp only [Act.put, List.setIfInBounds_toArray, List.set_cons_zero, List.set_cons_succ]
     refine wpAnyH_takeD (i := 3) (d := some 67) (v := ?_) rfl rfl (by kernel_rfl) (by kernel_rfl) (by kernel_rfl) (fun _ _ _ h => h) (Or.inl ⟨by rfl, fun w hSw => ?_⟩) (by assumption) ?_
     rotate_left
     · first | (go_simp; done) | (go_simp; with_reducible rfl)
     simp only [Act.put, List.setIfInBounds_toArray, List.set_cons_zero, List.set_cons_succ]
     refine wpAnyH_takeD (i := 4) (d := some 68) (v := ?_) rfl rfl (by kernel_rfl) (by kernel_rfl) (by kernel_rfl) (fun _ _ _ h => h) (Or.inl ⟨by rfl, fun w hSw => ?_⟩) (by assumption) ?_
     rotate_left
     · first | (go_simp; done) | (go_simp; with_reducible rfl)
     simp only [Act.put, List.setIfInBounds_toArray, List.set_cons_zero, List.set_cons_succ]
     refine wpAnyH_takeD (i := 5) (d := some 69) (v := ?_) rfl rfl (by kernel_rfl) (by kernel_rfl) (by kernel_rfl) (fun _ _ _ h => h) (Or.inl ⟨by rfl, fun w hSw => ?_⟩) (by assumption) ?_
     rotate_left
     · first | (go_simp; done) | (go_simp; with_reducible rfl)
     simp only [Act.put, List.setIfInBounds_toArray, List.set_cons_zero, List.set_cons_succ]
     refine wpAnyH_ready (rs := [6]) (by kernel_rfl) (by simp) ?_
     refine AllReadyH.cons rfl (fun K hK => ?_) AllReadyH.nil
     go_simp
     refine (rseal_any _ xs _ (HVA.out.keep hD (Nat.le_refl _)) hx (by rw [HL.out]; omega)).mono ?_
     rintro e wb ⟨v', rfl, ho, hb⟩
     have hBb := hD.trans hb
     have HCR := Lib.hid (show ∀ W, Below wb.heap.size wb W → (convert 25 9 v').run Tryd.prog W = .ok (.string sS) W from fun W hB => by rw [← HSS.out]; exact conv_str v' _ W (ho.reads.keep hB (Nat.le_refl _)) hsb8)
     clear ho hb
     refine hK.out _ _ (HK.out _ hBb) (fun _ => ?_)
     clear hK K hS
     refine wpAnyH_strong (S' := fun W => Below wb.heap.size wb W ∧ (convert 25 9 v').run Tryd.prog W = .ok (.string sS) W ∧ (convert 25 9 (.slice ap lp cp)).run Tryd.prog W = .ok (.string sX) W ∧ (convert 25 9 (.slice a L cap)).run Tryd.prog W = .ok (.string sX) W) (fun W h => HK.out W (hBb.trans (h.1.mono hBb.size))) _ _ _ _ ?_
     have hBbb := Below.refl wb.heap.size wb
     have hS := show (fun W => Below wb.heap.size wb W ∧ (convert 25 9 v').run Tryd.prog W = .ok (.string sS) W ∧ (convert 25 9 (.slice ap lp cp)).run Tryd.prog W = .ok (.string sX) W ∧ (convert 25 9 (.slice a L cap)).run Tryd.prog W = .ok (.string sX) W) wb from ⟨hBbb, HCR.out wb hBbb, (HK.out wb hBb).2.2⟩
     try simp only [Act.put, List.setIfInBounds_toArray, List.set_cons_zero, List.set_cons_succ]
     refine wpAnyH_takeD (i := 7) (d := some 71) (v := ?_) rfl rfl (by kernel_rfl) (by kernel_rfl) (by kernel_rfl) (fun _ _ _ h => h) (Or.inl ⟨by rfl, fun w hSw => ?_⟩) (by assumption) ?_
     rotate_left
     · first | (go_simp; done) | (go_simp; with_reducible rfl)
     simp only [Act.put, List.setIfInBounds_toArray, List.set_cons_zero, List.set_cons_succ]
     refine wpAnyH_takeD (i := 8) (d := some 72) (v := ?_) rfl rfl (by kernel_rfl) (by kernel_rfl) (by kernel_rfl) (fun _ _ _ h => h) (Or.inl ⟨by rfl, fun w hSw => ?_⟩) (by assumption) ?_
     rotate_left
     · first | (go_simp; done) | (go_simp; with_reducible rfl)
     simp only [Act.put, List.setIfInBounds_toArray, List.set_cons_zero, List.set_cons_succ]
     refine wpAnyH_takeD (i := 9) (d := some 73) (v := ?_) rfl rfl (by kernel_rfl) (by kernel_rfl) (by kernel_rfl) (fun _ _ _ h => h) (Or.inl ⟨by rfl, fun w hSw => ?_⟩) (by assumption) ?_
     rotate_left
     · first | (go_simp; done) | (go_simp; with_reducible rfl)
     simp only [Act.put, List.setIfInBounds_toArray, List.set_cons_zero, List.set_cons_succ]
     refine wpAnyH_takeD (i := 10) (d := some 74) (v := ?_) rfl rfl (by kernel_rfl) (by kernel_rfl) (by kernel_rfl) (fun _ _ _ h => h) (Or.inl ⟨by rfl, fun w hSw => ?_⟩) (by assumption) ?_
     rotate_left
     · first | (go_simp; done) | (go_simp; with_reducible rfl)
     simp only [Act.put, List.setIfInBounds_toArray, List.set_cons_zero, List.set_cons_succ]
     refine wpAnyH_takeD (i := 11) (d := some 75) (v := ?_) rfl rfl (by kernel_rfl) (by kernel_rfl) (by kernel_rfl) (fun _ _ _ h => h) (Or.inl ⟨by rfl, fun w hSw => ?_⟩) (by assumption) ?_
     rotate_left
     · first | (go_simp; done) | (go_simp; with_reducible rfl)
     simp only [Act.put, List.setIfInBounds_toArray, List.set_cons_zero, List.set_cons_succ]
     refine wpAnyH_takeD (i := 12) (d := some 76) (v := ?_) rfl rfl (by kernel_rfl) (by kernel_rfl) (by kernel_rfl) (fun _ _ _ h => h) (Or.inl ⟨by rfl, fun w hSw => ?_⟩) (by assumption) ?_
     rotate_left
     · first | (go_simp; done) | (go_simp; with_reducible rfl)
     simp only [Act.put, List.setIfInBounds_toArray, List.set_cons_zero, List.set_cons_succ]
     refine wpAnyH_takeD (i := 13) (d := some 77) (v := ?_) rfl rfl (by kernel_rfl) (by kernel_rfl) (by kernel_rfl) (fun _ _ _ h => h) (Or.inl ⟨by rfl, fun w hSw => ?_⟩) (by assumption) ?_
     rotate_left
     · first | (go_simp; done) | (go_simp; with_reducible rfl)
     simp only [Act.put, List.setIfInBounds_toArray, List.set_cons_zero, List.set_cons_succ]
     refine wpAnyH_takeD (i := 14) (d := some 78) (v := ?_) rfl rfl (by kernel_rfl) (by kernel_rfl) (by kernel_rfl) (fun _ _ _ h => h) (Or.inl ⟨by rfl, fun w hSw => ?_⟩) (by assumption) ?_
     rotate_left
     · first | (go_simp; done) | (go_simp; with_reducible rfl)
     simp only [Act.put, List.setIfInBounds_toArray, List.set_cons_zero, List.set_cons_succ]
     refine wpAnyH_takeD (i := 15) (d := some 79) (v := ?_) rfl rfl (by kernel_rfl) (by kernel_rfl) (by kernel_rfl) (fun _ _ _ h => h) (Or.inl ⟨by rfl, fun w hSw => ?_⟩) (by assumption) ?_
     rotate_left
     · first | (go_simp; done) | (go_simp; with_reducible rfl)
     simp only [Act.put, List.setIfInBounds_toArray, List.set_cons_zero, List.set_cons_succ]
     refine wpAnyH_takeD (i := 16) (d := some 80) (v := ?_) rfl rfl (by kernel_rfl) (by kernel_rfl) (by kernel_rfl) (fun _ _ _ h => h) (Or.inl ⟨by rfl, fun w hSw => ?_⟩) (by assumption) ?_
     rotate_left
     · first | (go_simp; done) | (go_simp; with_reducible rfl)
     simp only [Act.put, List.setIfInBounds_toArray, List.set_cons_zero, List.set_cons_succ]
     refine wpAnyH_takeD (i := 17) (d := some 81) (v := ?_) rfl rfl (by kernel_rfl) (by kernel_rfl) (by kernel_rfl) (fun _ _ _ h => h) (Or.inl ⟨by rfl, fun w hSw => ?_⟩) (by assumption) ?_
     rotate_left
     · first | (go_simp; done) | (go_simp; with_reducible rfl)
     simp only [Act.put, List.setIfInBounds_toArray, List.set_cons_zero, List.set_cons_succ]
     refine wpAnyH_takeD (i := 18) (d := some 82) (v := ?_) rfl rfl (by kernel_rfl) (by kernel_rfl) (by kernel_rfl) (fun _ _ _ h => h) (Or.inl ⟨by rfl, fun w hSw => ?_⟩) (by assumption) ?_
     rotate_left
     · first | (go_simp; done) | (go_simp; with_reducible rfl)
     simp only [Act.put, List.setIfInBounds_toArray, List.set_cons_zero, List.set_cons_succ]
     refine wpAnyH_takeD (i := 19) (d := some 83) (v := ?_) rfl rfl (by kernel_rfl) (by kernel_rfl) (by kernel_rfl) (fun _ _ _ h => h) (Or.inl ⟨by rfl, fun w hSw => ?_⟩) (by assumption) ?_
     rotate_left
     · first | (go_simp; done) | (go_simp; with_reducible rfl)
     simp only [Act.put, List.setIfInBounds_toArray, List.set_cons_zero, List.set_cons_succ]
     refine wpAnyH_takeD (i := 20) (d := some 84) (v := ?_) rfl rfl (by kernel_rfl) (by kernel_rfl) (by kernel_rfl) (fun _ _ _ h => h) (Or.inl ⟨by rfl, fun w hSw => ?_⟩) (by assumption) ?_
     rotate_left
     · first | (go_simp; done) | (go_simp; with_reducible rfl)
     simp only [Act.put, List.setIfInBounds_toArray, List.set_cons_zero, List.set_cons_succ]
     refine wpAnyH_takeD (i := 21) (d := some 85) (v := ?_) rfl rfl (by kernel_rfl) (by kernel_rfl) (by kernel_rfl) (fun _ _ _ h => h) (Or.inl ⟨by rfl, fun w hSw => ?_⟩) (by assumption) ?_
     rotate_left
     · first | (go_simp; done) | (go_simp; with_reducible rfl)
     simp only [Act.put, List.setIfInBounds_toArray, List.set_cons_zero, List.set_cons_succ]
     refine wpAnyH_takeD (i := 22) (d := some 86) (v := ?_) rfl rfl (by kernel_rfl) (by kernel_rfl) (by kernel_rfl) (fun _ _ _ h => h) (Or.inl ⟨by rfl, fun w hSw => ?_⟩) (by assumption) ?_
     rotate_left
     · first | (go_simp; done) | (go_simp; with_reducible rfl)
     simp only [Act.put, List.setIfInBounds_toArray, List.set_cons_zero, List.set_cons_succ]
     refine wpAnyH_takeD (i := 23) (d := some 87) (v := ?_) rfl rfl (by kernel_rfl) (by kernel_rfl) (by kernel_rfl) (fun _ _ _ h => h) (Or.inl ⟨by rfl, fun w hSw => ?_⟩) (by assumption) ?_
     rotate_left
     · first | (go_simp; done) | (go_simp; with_reducible rfl)
     simp only [Act.put, List.setIfInBounds_toArray, List.set_cons_zero, List.set_cons_succ]
     refine wpAnyH_takeD (i := 24) (d := some 88) (v := ?_) rfl rfl (by kernel_rfl) (by kernel_rfl) (by kernel_rfl) (fun _ _ _ h => h) (Or.inl ⟨by rfl, fun w hSw => ?_⟩) (by assumption) ?_
     rotate_left
     · first | (go_simp; done) | (go_simp; with_reducible rfl)
     simp only [Act.put, List.setIfInBounds_toArray, List.set_cons_zero, List.set_cons_succ]
     refine wpAnyH_ready (rs := [25]) (by kernel_rfl) (by simp) ?_
     refine AllReadyH.cons rfl (fun K hK => ?_) AllReadyH.nil
     go_simp
     refine (rsealed_any _ xs _ (HVA.out.keep hBb (Nat.le_refl _)) hx (by rw [HL.out]; omega)).mono ?_
     rintro e wd ⟨rfl, hb⟩
     rw [HB.out]
     have hBd := hBb.trans (hb.mono hBb.size)
     refine hK.out _ _ ⟨hb, HCR.out wd hb, (HK.out wd hBd).2.2⟩ (fun _ => ?_)
     clear hK K hS
     have hS := show (fun W => Below wb.heap.size wb W ∧ (convert 25 9 v').run Tryd.prog W = .ok (.string sS) W ∧ (convert 25 9 (.slice ap lp cp)).run Tryd.prog W = .ok (.string sX) W ∧ (convert 25 9 (.slice a L cap)).run Tryd.prog W = .ok (.string sX) W) wd from ⟨hb, HCR.out wd hb, (HK.out wd hBd).2.2⟩
     try simp only [Act.put, List.setIfInBounds_toArray, List.set_cons_zero, List.set_cons_succ]
     refine wpAnyH_takeD (i := 26) (d := some 90) (v := ?_) rfl rfl (by kernel_rfl) (by kernel_rfl) (by kernel_rfl) (fun _ _ _ h => h) (Or.inl ⟨by rfl, fun w hSw => ?_⟩) (by assumption) ?_
     rotate_left
     · first | (go_simp; done) | (go_simp; with_reducible rfl)
     simp only [Act.put, List.setIfInBounds_toArray, List.set_cons_zero, List.set_cons_succ]
     refine wpAnyH_takeD (i := 27) (d := some 91) (v := ?_) rfl rfl (by kernel_rfl) (by kernel_rfl) (by kernel_rfl) (fun _ _ _ h => h) (Or.inl ⟨by rfl, fun w hSw => ?_⟩) (by assumption) ?_
     rotate_left
     · first | (go_simp; done) | (go_simp; with_reducible rfl)
     simp only [Act.put, List.setIfInBounds_toArray, List.set_cons_zero, List.set_cons_succ]
     refine wpAnyH_takeD (i := 28) (d := some 92) (v := ?_) rfl rfl (by kernel_rfl) (by kernel_rfl) (by kernel_rfl) (fun _ _ _ h => h) (Or.inl ⟨by rfl, fun w hSw => ?_⟩) (by assumption) ?_
     rotate_left
     · first | (go_simp; done) | (go_simp; with_reducible rfl)
     simp only [Act.put, List.setIfInBounds_toArray, List.set_cons_zero, List.set_cons_succ]
     refine wpAnyH_takeD (i := 29) (d := some 93) (v := ?_) rfl rfl (by kernel_rfl) (by kernel_rfl) (by kernel_rfl) (fun _ _ _ h => h) (Or.inl ⟨by rfl, fun w hSw => ?_⟩) (by assumption) ?_
     rotate_left
     · first | (go_simp; done) | (go_simp; with_reducible rfl)
     simp only [Act.put, List.setIfInBounds_toArray, List.set_cons_zero, List.set_cons_succ]
     refine wpAnyH_takeD (i := 30) (d := some 94) (v := ?_) rfl rfl (by kernel_rfl) (by kernel_rfl) (by kernel_rfl) (fun _ _ _ h => h) (Or.inl ⟨by rfl, fun w hSw => ?_⟩) (by assumption) ?_
     rotate_left
     · first | (go_simp; done) | (go_simp; with_reducible rfl)
     simp only [Act.put, List.setIfInBounds_toArray, List.set_cons_zero, List.set_cons_succ]
     refine wpAnyH_takeD (i := 31) (d := some 95) (v := ?_) rfl rfl (by kernel_rfl) (by kernel_rfl) (by kernel_rfl) (fun _ _ _ h => h) (Or.inl ⟨by rfl, fun w hSw => ?_⟩) (by assumption) ?_
     rotate_left
     · first | (go_simp; done) | (go_simp; with_reducible rfl)
     simp only [Act.put, List.setIfInBounds_toArray, List.set_cons_zero, List.set_cons_succ]
     refine wpAnyH_takeD (i := 32) (d := some 96) rfl rfl (by kernel_rfl) (by kernel_rfl) (by kernel_rfl) (fun _ _ _ h => h) (Or.inr ⟨by rfl, rfl⟩) (by assumption) ?_
     simp only [Act.put, List.setIfInBounds_toArray, List.set_cons_zero, List.set_cons_succ]
     refine wpAnyH_takeD (i := 33) (d := some 97) rfl rfl (by kernel_rfl) (by kernel_rfl) (by kernel_rfl) (fun _ _ _ h => h) (Or.inr ⟨by rfl, rfl⟩) (by assumption) ?_
     simp only [Act.put, List.setIfInBounds_toArray, List.set_cons_zero, List.set_cons_succ]
     refine wpAnyH_takeD (i := 34) (d := some 98) rfl rfl (by kernel_rfl) (by kernel_rfl) (by kernel_rfl) (fun _ _ _ h => h) (Or.inr ⟨by rfl, rfl⟩) (by assumption) ?_
     simp only [Act.put, List.setIfInBounds_toArray, List.set_cons_zero, List.set_cons_succ]
     refine wpAnyH_takeD (i := 35) (d := some 99) rfl rfl (by kernel_rfl) (by kernel_rfl) (by kernel_rfl) (fun _ _ _ h => h) (Or.inr ⟨by rfl, rfl⟩) (by assumption) ?_
     simp only [Act.put, List.setIfInBounds_toArray, List.set_cons_zero, List.set_cons_succ]
     refine wpAnyH_takeD (i := 36) (d := some 100) rfl rfl (by kernel_rfl) (by kernel_rfl) (by kernel_rfl) (fun _ _ _ h => h) (Or.inr ⟨by rfl, rfl⟩) (by assumption) ?_
     simp only [Act.put, List.setIfInBounds_toArray, List.set_cons_zero, List.set_cons_succ]
     refine wpAnyH_takeD (i := 37) (d := some 101) rfl rfl (by kernel_rfl) (by kernel_rfl) (by kernel_rfl) (fun _ _ _ h => h) (Or.inr ⟨by rfl, rfl⟩) (by assumption) ?_
     simp only [Act.put, List.setIfInBounds_toArray, List.set_cons_zero, List.set_cons_succ]
     refine wpAnyH_takeD (i := 38) (d := some 102) rfl rfl (by kernel_rfl) (by kernel_rfl) (by kernel_rfl) (fun _ _ _ h => h) (Or.inr ⟨by rfl, rfl⟩) (by assumption) ?_
     simp only [Act.put, List.setIfInBounds_toArray, List.set_cons_zero, List.set_cons_succ]
     refine wpAnyH_takeD (i := 39) (d := some 103) (v := ?_) rfl rfl (by kernel_rfl) (by kernel_rfl) (by kernel_rfl) (fun _ _ _ h => h) (Or.inl ⟨by rfl, fun w hSw => ?_⟩) (by assumption) ?_
     rotate_left
     · first | (go_simp; done) | (go_simp; with_reducible rfl)
     simp only [Act.put, List.setIfInBounds_toArray, List.set_cons_zero, List.set_cons_succ]
     refine wpAnyH_takeD (i := 40) (d := some 104) (v := ?_) rfl rfl (by kernel_rfl) (by kernel_rfl) (by kernel_rfl) (fun _ _ _ h => h) (Or.inl ⟨by rfl, fun w hSw => ?_⟩) (by assumption) ?_
     rotate_left
     · first | (go_simp; done) | (go_simp; with_reducible rfl)
     simp only [Act.put, List.setIfInBounds_toArray, List.set_cons_zero, List.set_cons_succ]
     refine wpAnyH_done (by kernel_rfl) ?_ _
     go_wp2_with fail
     go_meet
     exact ⟨rfl, hBd⟩
  case rest =>
    obtain ⟨rfl, hbc⟩ := hcut
    have hs79 : w7.heap.size ≤ w8.heap.size := hb8.size
    have hs89 : w8.heap.size ≤ w9.heap.size := hb9.size
    have hs9a : w9.heap.size ≤ wa.heap.size := hba.size
    have hO := hO7
    have hB7c := (hb8.trans ((hb9.mono hs79).trans (hba.mono (Nat.le_trans hs79 hs89)))).trans (hbc.mono (Nat.le_trans hs79 (Nat.le_trans hs89 hs9a)))
    have hs := hsa.keep hbc (Nat.le_refl _)
    have hp := hpa.keep hbc (Nat.le_refl _)
    have hx1 := hxa.keep hbc (Nat.le_refl _)
    have HGS := Lib.hid hgs
    have HGP := Lib.hid hgp
    have hlm := hx1.len.2
    have hls := hs.len.2
    have hlp := hp.len.2
    have hBc := hBa.trans (hbc.mono hBa.size)
    have hO7s : w.heap.size ≤ w7.heap.size := hB7.size
    clear hOa hsa hpa hxa hgs hgp hyes hno hs8 hO7 hB7 hb8 hb9 hba HK
    go_wp2_with fail
    go_loopw [107] (fun vk wr => ∃ (k : Nat) (ys : List Nat), vk = .int .i64 (k : Int) ∧ k ≤ ls ∧ Owns .u8 5 wr w7.heap.size (.slice as1 ls cs1) ys ∧ Owns .u8 5 wr w8.heap.size (.slice ap lp cp) xs ∧ Owns .u8 5 wr w9.heap.size (.slice ax mx cx) zs ∧ Below w7.heap.size wc wr)
      (fun vk _ => ls - (intOf vk).toNat)
    case atStart => exact ⟨0, _, rfl, Nat.zero_le _, hs, hp, hx1, Below.refl _ _⟩
    case round =>
      obtain ⟨k, ys, rfl, hk, hsr, hpr, hxr, hBr⟩ := hrel
      by_cases hlt : k < ls
      · obtain ⟨g, rfl, hg1, hg2, hm, hm2, hm3, hcell, hfr, hset⟩ := hsr.at hlt
        obtain ⟨y, HY⟩ := nm (ys[k]?.getD 0)
        rw [HY.out] at hcell
        have HS := Lib.hid hset
        have HHP := Lib.hid hpr
        have HHX := Lib.hid hxr
        clear hset hpr hxr hsr hm hs hp hx1
        go_wp2
        go_roundw
        case rel =>
          have hgl := (HGS.out g rfl).2
          refine ⟨k + 1, _, by go_num, by omega, HS.out _ (by omega), HHP.out.other (fun j hj e => ?_), HHX.out.other (fun j hj e => ?_), hBr.setCell (by exact hg1) _⟩
          · have := own_base HHP.out j hj; omega
          · have := own_base HHX.out j hj; omega
        case measure => simp [intOf]; omega
      · obtain rfl : k = ls := by omega
        clear hk hsr hs hp hx1
        go_wp2_with fail
        go_loopw [119] (fun vk wr => ∃ (k : Nat) (ys : List Nat), vk = .int .i64 (k : Int) ∧ k ≤ lp ∧ Owns .u8 5 wr w8.heap.size (.slice ap lp cp) ys ∧ Owns .u8 5 wr w9.heap.size (.slice ax mx cx) zs ∧ Below w7.heap.size wc wr)
          (fun vk _ => lp - (intOf vk).toNat)
        case atStart => exact ⟨0, _, rfl, Nat.zero_le _, hpr, hxr, hBr⟩
        case round =>
          obtain ⟨j, ys, rfl, hj, hpr, hxr, hBr⟩ := hrel
          by_cases hlt : j < lp
          · obtain ⟨g, rfl, hg1, hg2, hm, hm2, hm3, hcell, hfr, hset⟩ := hpr.at hlt
            obtain ⟨y, HY⟩ := nm (ys[j]?.getD 0)
            rw [HY.out] at hcell
            have HS := Lib.hid hset
            have HHX := Lib.hid hxr
            clear hset hpr hxr hm
            go_wp2
            go_roundw
            case rel =>
              have hgl := (HGP.out g rfl).2
              refine ⟨j + 1, _, by go_num, by omega, HS.out _ (by omega), HHX.out.other (fun i hi e => ?_), hBr.setCell (by show w7.heap.size ≤ g; omega) _⟩
              · have := own_base HHX.out i hi; omega
            case measure => simp [intOf]; omega
          · obtain rfl : j = lp := by omega
            clear hj hpr
            go_wp2_with fail
            go_loopw [131] (fun vk wr => ∃ (k : Nat) (ys : List Nat), vk = .int .i64 (k : Int) ∧ k ≤ mx ∧ Owns .u8 5 wr w9.heap.size (.slice ax mx cx) ys ∧ Below w7.heap.size wc wr)
              (fun vk _ => mx - (intOf vk).toNat)
            case atStart => exact ⟨0, _, rfl, Nat.zero_le _, hxr, hBr⟩
            case round =>
              obtain ⟨i, ys, rfl, hi, hxr, hBr⟩ := hrel
              by_cases hlt : i < mx
              · obtain ⟨g, rfl, hg1, hg2, hm, hm2, hm3, hcell, hfr, hset⟩ := hxr.at hlt
                obtain ⟨y, HY⟩ := nm (ys[i]?.getD 0)
                rw [HY.out] at hcell
                have HS := Lib.hid hset
                clear hset hxr hm
                go_wp2
                go_roundw
                case rel => exact ⟨i + 1, _, by go_num, by omega, HS.out _ (by omega), hBr.setCell (by show w7.heap.size ≤ g; omega) _⟩
                case measure => simp [intOf]; omega
              · obtain rfl : i = mx := by omega
                have hf7 := hB7c.trans hBr
                have cO := conv_str _ _ wr (hO.reads.keep hf7 (Nat.le_refl _)) hx
                have cB := conv_str _ _ wr (HV.out.keep (hBc.trans (hBr.mono (by have := hO7s; omega))) (Nat.le_refl _)) hx
                rw [HSX.out] at cO cB
                go_wp2_with fail
                go_ret
                exact ⟨by simp, hBc.trans (hBr.mono hO7s)⟩

theorem crcTells_all (v : Value) (xs : List Nat) (w : World) (hv : Reads .u8 w v xs) (hx : Bytes xs) (c : Nat) (hc : c < 4294967296) (hT : Tab w) :
    Calls Tryd.prog 5 #[v, .int .u32 c] w fun e w' => e = .returned (.bool true) ∧ Below w.heap.size w w' := by
  have hlen := hv.len
  have hv0 := hv
  obtain ⟨a, cap, rfl, hlc, hcm, hcs⟩ := hv
  obtain ⟨L, HL⟩ := nm xs.length
  rw [HL.out] at hlen hlc hv0 ⊢
  have HV := Lib.hid hv0
  clear hcs hv0
  by_cases h2 : 200 < L
  · go_enter Tryd.func5, Tryd.ntmps5
    go_wp2_with fail
    refine (awake_any _ hT).mono ?_
    rintro e w1 ⟨rfl, hb1⟩
    go_wp2_with fail
    go_ret
    exact ⟨rfl, hb1⟩
  · go_enter Tryd.func5, Tryd.ntmps5
    go_wp2_with fail
    refine (tells_any c hc _ xs _ HV.out hx hT (by rw [HL.out]; omega)).mono ?_
    rintro e w1 ⟨rfl, hb1⟩
    go_wp2_with fail
    refine (awake_any _ (hT.keep hb1 (Nat.le_refl _))).mono ?_
    rintro e w2 ⟨rfl, hb2⟩
    go_wp2_with fail
    go_ret
    exact ⟨rfl, hb1.trans (hb2.mono hb1.size)⟩
end Go.Proofs.YtomddpplhllgcaaDoor
