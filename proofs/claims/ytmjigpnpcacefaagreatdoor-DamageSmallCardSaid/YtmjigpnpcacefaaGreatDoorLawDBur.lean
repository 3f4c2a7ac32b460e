/- The walk of the law DamageBursts. -/
import Derived.Test.YtmjigpnpcacefaaGreatDoorDRefC
import Derived.Test.YtmjigpnpcacefaaGreatDoorDRefD
import Derived.Test.YtmjigpnpcacefaaGreatDoorLentK
import Derived.Test.YtmjigpnpcacefaaGreatDoorAwakeD
import Derived.Test.YtmjigpnpcacefaaGreatDoorLong
namespace Go.Proofs.YtmjigpnpcacefaaGreatDoor
open Go Go.RowKit Go.Shelf

theorem lent_reads {W : World} {g n c : Nat} {l : List Int} (hn : l.length = n) (hc : n + 12 ≤ c) (hcm : c ≤ 9223372036854775807) (h : ∀ i, i < n + 12 → W.cell? ⟨g, i, none⟩ = some (.int .i64 ((l ++ marksI 12)[i]?.getD 0))) : ReadsI .i64 W (.slice (some ⟨g, 0, none⟩) n c) l := by
  refine ⟨some ⟨g, 0, none⟩, c, by rw [hn], by rw [hn]; omega, by omega, .inr ⟨g, 0, rfl, fun i hi => ?_⟩⟩
  rw [hn] at hi
  rw [Nat.zero_add, h i (by omega), lent_at l (by omega)]

set_option maxRecDepth 100000 in
set_option maxHeartbeats 16000000 in
theorem bursts_any (x : Int) (b : Nat) (hb : b < 4294967296) (hx : -9223372036854775808 ≤ x ∧ x ≤ 9223372036854775807) (vl : Value) (l : List Int) (w : World) (hl : ReadsI .i64 w vl l) (hlb : ∀ k ∈ l, -9223372036854775808 ≤ k ∧ k ≤ 9223372036854775807) :
    Calls Tryz.prog 7 #[.agg #[.int .i64 x, .int .u32 b], vl] w fun e w' => e = .returned (.bool true) ∧ Below w.heap.size w w' := by
  have HL0 := Lib.hid hl
  obtain ⟨al, cl, rfl, hlc, hcm, -⟩ := hl
  obtain ⟨n, HN⟩ := nm l.length
  rw [HN.out] at hlc HL0 ⊢
  have HLB := Lib.hid hlb
  obtain ⟨x1, x2, -, -⟩ := cell_two w (.int .i64 x) (.int .u32 (b : Int)) 26
  have hA := bel_alloc w (.cells #[.int .i64 x, .int .u32 (b : Int)] 26)
  clear hlb
  by_cases hbig : 60 < n
  · have hd : decide (60 < (n : Int)) = true := decide_eq_true (by omega)
    go_enter Tryz.func7, Tryz.ntmps7
    go_wp2_with fail
    go_ret
    exact ⟨rfl, hA⟩
  have hd : decide (60 < (n : Int)) = false := decide_eq_false (by omega)
  have HBIG := Lib.hid hbig
  obtain ⟨y1, y2, -, -⟩ := cell_two (w.alloc (.cells #[.int .i64 x, .int .u32 (b : Int)] 26)) (.int .i64 x) (.int .u32 (b : Int)) 46
  have x1' := cell_alloc_l (.cells #[.int .i64 x, .int .u32 (b : Int)] 46) x1
  have x2' := cell_alloc_l (.cells #[.int .i64 x, .int .u32 (b : Int)] 46) x2
  have hA2 := hA.alloc (by simp) (.cells #[.int .i64 x, .int .u32 (b : Int)] 46)
  have hsz2 : ((w.alloc (.cells #[.int .i64 x, .int .u32 (b : Int)] 26)).alloc (.cells #[.int .i64 x, .int .u32 (b : Int)] 46)).heap.size = w.heap.size + 2 := by simp
  rw [World.size_alloc] at y1 y2
  have HX := Lib.hid (And.intro x1' (And.intro x2' (And.intro y1 y2)))
  have HA2 := Lib.hid hA2
  have HSZ2 := Lib.hid hsz2
  obtain ⟨z1, z2, z3, z4⟩ := cell_two (w.alloc (.cells #[.int .i64 x, .int .u32 (b : Int)] 26)) (.int .i64 0) (.int .u32 0) 46
  clear hA hA2 y1 y2 hsz2 x1' x2' hbig
  go_enter Tryz.func7, Tryz.ntmps7
  go_wp2_with fail
  clear x1 x2 z1 z2 z3 z4
  obtain ⟨w2, HW2⟩ := nm ((w.alloc (.cells #[.int .i64 x, .int .u32 (b : Int)] 26)).alloc (.cells #[.int .i64 x, .int .u32 (b : Int)] 46))
  rw [HW2.out] at HX HA2 HSZ2 ⊢
  have HL2 := Lib.hid (HL0.out.keep HA2.out (Nat.le_refl _))
  have hlen := lentInts_any _ l w2 HL2.out (by have := HN.out; have := HBIG.out; omega)
  rw [HN.out] at hlen
  refine hlen.mono ?_
  rintro e w3 ⟨g, c, rfl, hc1, hc2, hg1, hg2, hcells, hb3⟩
  have HB3 := Lib.hid hb3
  have HCL := Lib.hid hcells
  have HC := Lib.hid (And.intro hc1 hc2)
  have HGS := Lib.hid (And.intro hg1 hg2)
  clear hlen hb3 hcells hc1 hc2 hg1 hg2
  have q1 := cell_keep HB3.out HX.out.1 (cell_lt HX.out.1)
  have q2 := cell_keep HB3.out HX.out.2.1 (cell_lt HX.out.2.1)
  go_wp2_with fail
  refine (bits_any x b hb hx _).mono ?_
  rintro e w4 ⟨v4, rfl, ho4, hb4⟩
  have HO4 := Lib.hid ho4
  have HB4 := Lib.hid (HB3.out.trans (hb4.mono HB3.out.size))
  have HB34 := Lib.hid hb4
  clear ho4 hb4 q1 q2
  have q1 := cell_keep HB4.out HX.out.2.2.1 (cell_lt HX.out.2.2.1)
  have q2 := cell_keep HB4.out HX.out.2.2.2 (cell_lt HX.out.2.2.2)
  go_wp2_with fail
  refine (rbits13_any x b hb hx _).mono ?_
  rintro e w5 ⟨v5, rfl, ho5, hb5⟩
  have HO5 := Lib.hid ho5
  have HB45 := Lib.hid hb5
  have HB35 := Lib.hid (HB34.out.trans (hb5.mono HB34.out.size))
  have HB5 := Lib.hid (HB4.out.trans (hb5.mono HB4.out.size))
  clear ho5 hb5 q1 q2
  have hcl5 : ∀ i, i < n + 12 → w5.cell? ⟨g, i, none⟩ = some (.int .i64 ((l ++ marksI 12)[i]?.getD 0)) := fun i hi => cell_keep HB35.out (HCL.out i hi) (cell_lt (HCL.out i hi))
  have hown := lent_reads HN.out HC.out.1 HC.out.2 hcl5
  have HOWN := Lib.hid hown
  clear hcl5 hown
  go_wp2_with fail
  refine (of13_any _ l _ HOWN.out (by have := HN.out; have := HBIG.out; omega) HLB.out).mono ?_
  rintro e w6 ⟨rfl, hb6⟩
  obtain ⟨oa, HOA⟩ := nm (ofA l)
  obtain ⟨ob, HOB⟩ := nm (ofB l)
  obtain ⟨oe, HOE⟩ := nm (ofE l)
  rw [HOA.out, HOB.out, HOE.out]
  obtain ⟨z1, z2, z3, z4⟩ := cell_two w6 (.int .i64 0) (.int .u32 0) 26
  have HB56 := Lib.hid hb6
  have HB6 := Lib.hid (HB5.out.trans (hb6.mono HB5.out.size))
  clear hb6
  have HR6 := Lib.hid (HL2.out.keep (HB6.out.alloc HB6.out.size (.cells #[.int .i64 oa, .int .u32 (ob : Int)] 26)) (Nat.le_refl _))
  go_wp2_with fail
  clear z1 z2 z3 z4
  have HZ6 := Lib.hid (cell_two w6 (.int .i64 oa) (.int .u32 (ob : Int)) 26)
  obtain ⟨w6', HW6⟩ := nm (w6.alloc (.cells #[.int .i64 oa, .int .u32 (ob : Int)] 26))
  have HB66 := Lib.hid (bel_alloc w6 (.cells #[.int .i64 oa, .int .u32 (ob : Int)] 26))
  rw [HW6.out] at HZ6 HR6 HB66 ⊢
  refine (rof13_any _ l _ HR6.out (by have := HN.out; have := HBIG.out; omega) HLB.out).mono ?_
  rintro e w7 ⟨rfl, hb7⟩
  rw [HOA.out, HOB.out, HOE.out]
  obtain ⟨z1, z2, z3, z4⟩ := cell_two w7 (.int .i64 0) (.int .u32 0) 46
  have HB67 := Lib.hid hb7
  clear hb7
  go_wp2_with fail
  clear z1 z2 z3 z4
  have HZ7 := Lib.hid (cell_two w7 (.int .i64 oa) (.int .u32 (ob : Int)) 46)
  obtain ⟨wz, HWZ⟩ := nm (w7.alloc (.cells #[.int .i64 oa, .int .u32 (ob : Int)] 46))
  have HB7Z := Lib.hid (bel_alloc w7 (.cells #[.int .i64 oa, .int .u32 (ob : Int)] 46))
  rw [HWZ.out] at HZ7 HB7Z ⊢
  -- the chain of worlds
  have HB6Z := Lib.hid (HB67.out.trans (HB7Z.out.mono HB67.out.size))
  have HB6zz := Lib.hid (HB66.out.trans (HB6Z.out.mono HB66.out.size))
  have HB5Z := Lib.hid (HB56.out.trans (HB6zz.out.mono HB56.out.size))
  have HB4Z := Lib.hid (HB45.out.trans (HB5Z.out.mono HB45.out.size))
  have HB3Z := Lib.hid (HB34.out.trans (HB4Z.out.mono HB34.out.size))
  have HB2Z := Lib.hid (HB3.out.trans (HB3Z.out.mono HB3.out.size))
  have HBZ := Lib.hid (HA2.out.trans (HB2Z.out.mono HA2.out.size))
  have f1 := cell_keep HB2Z.out HX.out.1 (cell_lt HX.out.1)
  have f2 := cell_keep HB2Z.out HX.out.2.1 (cell_lt HX.out.2.1)
  have f3 := cell_keep HB2Z.out HX.out.2.2.1 (cell_lt HX.out.2.2.1)
  have f4 := cell_keep HB2Z.out HX.out.2.2.2 (cell_lt HX.out.2.2.2)
  have f5 := cell_keep HB6Z.out HZ6.out.1 (cell_lt HZ6.out.1)
  have f6 := cell_keep HB6Z.out HZ6.out.2.1 (cell_lt HZ6.out.2.1)
  have f7 := HZ7.out.1
  have f8 := HZ7.out.2.1
  have r4 := HO4.out.reads.keep HB4Z.out (Nat.le_refl _)
  have r5 := HO5.out.reads.keep HB5Z.out (Nat.le_refl _)
  have rl := HL2.out.keep HB2Z.out (Nat.le_refl _)
  have rg : ∀ i, i < n + 12 → wz.cell? ⟨g, i, none⟩ = some (.int .i64 ((l ++ marksI 12)[i]?.getD 0)) := fun i hi => cell_keep HB3Z.out (HCL.out i hi) (cell_lt (HCL.out i hi))
  have hK : ∀ W, Below wz.heap.size wz W → Below wz.heap.size wz W ∧ W.cell? ⟨w.heap.size, 0, none⟩ = some (.int .i64 x) ∧ W.cell? ⟨w.heap.size, 1, none⟩ = some (.int .u32 (b : Int)) ∧ W.cell? ⟨w.heap.size + 1, 0, none⟩ = some (.int .i64 x) ∧ W.cell? ⟨w.heap.size + 1, 1, none⟩ = some (.int .u32 (b : Int)) ∧ W.cell? ⟨w6.heap.size, 0, none⟩ = some (.int .i64 oa) ∧ W.cell? ⟨w6.heap.size, 1, none⟩ = some (.int .u32 (ob : Int)) ∧ W.cell? ⟨w7.heap.size, 0, none⟩ = some (.int .i64 oa) ∧ W.cell? ⟨w7.heap.size, 1, none⟩ = some (.int .u32 (ob : Int)) := fun W hW =>
    ⟨hW, cell_keep hW f1 (cell_lt f1), cell_keep hW f2 (cell_lt f2), cell_keep hW f3 (cell_lt f3), cell_keep hW f4 (cell_lt f4), cell_keep hW f5 (cell_lt f5), cell_keep hW f6 (cell_lt f6), cell_keep hW f7 (cell_lt f7), cell_keep hW f8 (cell_lt f8)⟩
  have HK := Lib.hid hK
  have HSM := Lib.hid (fun (W : World) (hW : Below wz.heap.size wz W) => (show Calls Tryz.prog 21 #[v4, v5] W (fun e w' => e = .returned (.bool true) ∧ Below W.heap.size W w') from by
    have h := sameInts_any v4 v5 _ _ W (r4.keep hW (Nat.le_refl _)) (r5.keep hW (Nat.le_refl _)) (by
      unfold bitsV
      split
      · have := blist_len x b (Gf.plen b); have : Gf.plen b ≤ 32 := Gf.plen_le.2 hb; omega
      · simp)
    rw [decide_eq_true rfl] at h
    exact h))
  have HKP := Lib.hid (fun (W : World) (hW : Below wz.heap.size wz W) => keptInts_any g n c _ l W HN.out HC.out.1 HC.out.2 (fun i hi => cell_keep hW (rg i hi) (cell_lt (rg i hi))) (rl.keep hW (Nat.le_refl _)) (by have := HBIG.out; omega))
  have hr := right_any x b hb
  have hrr := rright_any x b hb
  have hln := length_any x b hb
  have hrl := rlength_any x b hb
  obtain ⟨R, HRB⟩ := nm (rightB x b)
  obtain ⟨L, HLBB⟩ := nm (lenB x b)
  obtain ⟨E, HE⟩ := nm (bitsE x b)
  simp only [HRB.out] at hr hrr
  simp only [HLBB.out] at hln hrl
  rw [HE.out]
  have HR := Lib.hid hr
  have HRR := Lib.hid hrr
  have HL := Lib.hid hln
  have HRL := Lib.hid hrl
  have hD0 : Below wz.heap.size wz wz.drew := (bel_refl wz).drew
  clear hK f1 f2 f3 f4 f5 f6 f7 f8 r4 r5 rl rg hr hrr hln hrl
  refine wp_region_held_drew (S := fun W => Below wz.heap.size wz W ∧ W.cell? ⟨w.heap.size, 0, none⟩ = some (.int .i64 x) ∧ W.cell? ⟨w.heap.size, 1, none⟩ = some (.int .u32 (b : Int)) ∧ W.cell? ⟨w.heap.size + 1, 0, none⟩ = some (.int .i64 x) ∧ W.cell? ⟨w.heap.size + 1, 1, none⟩ = some (.int .u32 (b : Int)) ∧ W.cell? ⟨w6.heap.size, 0, none⟩ = some (.int .i64 oa) ∧ W.cell? ⟨w6.heap.size, 1, none⟩ = some (.int .u32 (ob : Int)) ∧ W.cell? ⟨w7.heap.size, 0, none⟩ = some (.int .i64 oa) ∧ W.cell? ⟨w7.heap.size, 1, none⟩ = some (.int .u32 (ob : Int))) (by kernel_rfl) (HK.out _ hD0) (fun hS => ?_)
  refine wpAnyH_takeD (i := 0) (d := some 41) (v := ?_) rfl rfl (by kernel_rfl) (by kernel_rfl) (by kernel_rfl) (fun _ _ _ h => h) (Or.inl ⟨by rfl, fun w hSw => ?_⟩) (by assumption) ?_
  rotate_left
  · first | (go_simp; done) | (go_simp; with_reducible rfl)
  simp only [Act.put, List.setIfInBounds_toArray, List.set_cons_zero, List.set_cons_succ]
  refine wpAnyH_takeD (i := 2) (d := some 43) (v := ?_) rfl rfl (by kernel_rfl) (by kernel_rfl) (by kernel_rfl) (fun _ _ _ h => h) (Or.inl ⟨by rfl, fun w hSw => ?_⟩) (by assumption) ?_
  rotate_left
  · first | (go_simp; done) | (go_simp; with_reducible rfl)
  simp only [Act.put, List.setIfInBounds_toArray, List.set_cons_zero, List.set_cons_succ]
  refine wpAnyH_ready (rs := [1]) (by kernel_rfl) (by simp) ?_
  refine AllReadyH.cons rfl (fun K hK => ?_) AllReadyH.nil
  go_simp
  refine (HR.out _).mono ?_
  rintro e wb1 ⟨rfl, hb⟩
  have hD1 := hD0.trans (hb.mono hD0.size)
  clear hb
  refine hK _ _ (HK.out _ hD1) (fun hS' => ?_)
  clear hK K hS
  have hS := hS'
  clear hS'
  try simp only [Act.put, List.setIfInBounds_toArray, List.set_cons_zero, List.set_cons_succ]
  refine wpAnyH_ready (rs := [3]) (by kernel_rfl) (by simp) ?_
  refine AllReadyH.cons rfl (fun K hK => ?_) AllReadyH.nil
  go_simp
  refine (HRR.out _).mono ?_
  rintro e wb2 ⟨rfl, hb⟩
  have hD2 := hD1.trans (hb.mono hD1.size)
  clear hb
  refine hK _ _ (HK.out _ hD2) (fun hS' => ?_)
  clear hK K hS
  have hS := hS'
  clear hS'
  try simp only [Act.put, List.setIfInBounds_toArray, List.set_cons_zero, List.set_cons_succ]
  refine wpAnyH_takeD (i := 4) (d := some 45) (v := ?_) rfl rfl (by kernel_rfl) (by kernel_rfl) (by kernel_rfl) (fun _ _ _ h => h) (Or.inl ⟨by rfl, fun w hSw => ?_⟩) (by assumption) ?_
  rotate_left
  · first | (go_simp; done) | (go_simp; with_reducible rfl)
  simp only [Act.put, List.setIfInBounds_toArray, List.set_cons_zero, List.set_cons_succ]
  refine wpAnyH_takeD (i := 5) (d := some 46) (v := ?_) rfl rfl (by kernel_rfl) (by kernel_rfl) (by kernel_rfl) (fun _ _ _ h => h) (Or.inl ⟨by rfl, fun w hSw => ?_⟩) (by assumption) ?_
  rotate_left
  · first | (go_simp; done) | (go_simp; with_reducible rfl)
  simp only [Act.put, List.setIfInBounds_toArray, List.set_cons_zero, List.set_cons_succ]
  refine wpAnyH_takeD (i := 6) (d := some 47) (v := ?_) rfl rfl (by kernel_rfl) (by kernel_rfl) (by kernel_rfl) (fun _ _ _ h => h) (Or.inl ⟨by rfl, fun w hSw => ?_⟩) (by assumption) ?_
  rotate_left
  · first | (go_simp; done) | (go_simp; with_reducible rfl)
  simp only [Act.put, List.setIfInBounds_toArray, List.set_cons_zero, List.set_cons_succ]
  refine wpAnyH_takeD (i := 8) (d := some 49) (v := ?_) rfl rfl (by kernel_rfl) (by kernel_rfl) (by kernel_rfl) (fun _ _ _ h => h) (Or.inl ⟨by rfl, fun w hSw => ?_⟩) (by assumption) ?_
  rotate_left
  · first | (go_simp; done) | (go_simp; with_reducible rfl)
  simp only [Act.put, List.setIfInBounds_toArray, List.set_cons_zero, List.set_cons_succ]
  refine wpAnyH_ready (rs := [7]) (by kernel_rfl) (by simp) ?_
  refine AllReadyH.cons rfl (fun K hK => ?_) AllReadyH.nil
  go_simp
  refine (HL.out _).mono ?_
  rintro e wb3 ⟨rfl, hb⟩
  have hD3 := hD2.trans (hb.mono hD2.size)
  clear hb
  refine hK _ _ (HK.out _ hD3) (fun hS' => ?_)
  clear hK K hS
  have hS := hS'
  clear hS'
  try simp only [Act.put, List.setIfInBounds_toArray, List.set_cons_zero, List.set_cons_succ]
  refine wpAnyH_ready (rs := [9]) (by kernel_rfl) (by simp) ?_
  refine AllReadyH.cons rfl (fun K hK => ?_) AllReadyH.nil
  go_simp
  refine (HRL.out _).mono ?_
  rintro e wb4 ⟨rfl, hb⟩
  have hD4 := hD3.trans (hb.mono hD3.size)
  clear hb
  refine hK _ _ (HK.out _ hD4) (fun hS' => ?_)
  clear hK K hS
  have hS := hS'
  clear hS'
  try simp only [Act.put, List.setIfInBounds_toArray, List.set_cons_zero, List.set_cons_succ]
  refine wpAnyH_takeD (i := 10) (d := some 51) (v := ?_) rfl rfl (by kernel_rfl) (by kernel_rfl) (by kernel_rfl) (fun _ _ _ h => h) (Or.inl ⟨by rfl, fun w hSw => ?_⟩) (by assumption) ?_
  rotate_left
  · first | (go_simp; done) | (go_simp; with_reducible rfl)
  simp only [Act.put, List.setIfInBounds_toArray, List.set_cons_zero, List.set_cons_succ]
  refine wpAnyH_takeD (i := 11) (d := some 52) (v := ?_) rfl rfl (by kernel_rfl) (by kernel_rfl) (by kernel_rfl) (fun _ _ _ h => h) (Or.inl ⟨by rfl, fun w hSw => ?_⟩) (by assumption) ?_
  rotate_left
  · first | (go_simp; done) | (go_simp; with_reducible rfl)
  simp only [Act.put, List.setIfInBounds_toArray, List.set_cons_zero, List.set_cons_succ]
  refine wpAnyH_takeD (i := 12) (d := some 53) (v := ?_) rfl rfl (by kernel_rfl) (by kernel_rfl) (by kernel_rfl) (fun _ _ _ h => h) (Or.inl ⟨by rfl, fun w hSw => ?_⟩) (by assumption) ?_
  rotate_left
  · first | (go_simp; done) | (go_simp; with_reducible rfl)
  simp only [Act.put, List.setIfInBounds_toArray, List.set_cons_zero, List.set_cons_succ]
  refine wpAnyH_takeD (i := 13) (d := some 54) (v := ?_) rfl rfl (by kernel_rfl) (by kernel_rfl) (by kernel_rfl) (fun _ _ _ h => h) (Or.inl ⟨by rfl, fun w hSw => ?_⟩) (by assumption) ?_
  rotate_left
  · first | (go_simp; done) | (go_simp; with_reducible rfl)
  simp only [Act.put, List.setIfInBounds_toArray, List.set_cons_zero, List.set_cons_succ]
  refine wpAnyH_takeD (i := 14) (d := some 55) (v := ?_) rfl rfl (by kernel_rfl) (by kernel_rfl) (by kernel_rfl) (fun _ _ _ h => h) (Or.inl ⟨by rfl, fun w hSw => ?_⟩) (by assumption) ?_
  rotate_left
  · first | (go_simp; done) | (go_simp; with_reducible rfl)
  simp only [Act.put, List.setIfInBounds_toArray, List.set_cons_zero, List.set_cons_succ]
  refine wpAnyH_ready (rs := [15]) (by kernel_rfl) (by simp) ?_
  refine AllReadyH.cons rfl (fun K hK => ?_) AllReadyH.nil
  go_simp
  refine (HSM.out _ hD4).mono ?_
  rintro e wb5 ⟨rfl, hb⟩
  have hD5 := hD4.trans (hb.mono hD4.size)
  clear hb
  refine hK _ _ (HK.out _ hD5) (fun hS' => ?_)
  clear hK K hS
  have hS := hS'
  clear hS'
  try simp only [Act.put, List.setIfInBounds_toArray, List.set_cons_zero, List.set_cons_succ]
  refine wpAnyH_takeD (i := 16) (d := some 57) (v := ?_) rfl rfl (by kernel_rfl) (by kernel_rfl) (by kernel_rfl) (fun _ _ _ h => h) (Or.inl ⟨by rfl, fun w hSw => ?_⟩) (by assumption) ?_
  rotate_left
  · first | (go_simp; done) | (go_simp; with_reducible rfl)
  simp only [Act.put, List.setIfInBounds_toArray, List.set_cons_zero, List.set_cons_succ]
  refine wpAnyH_takeD (i := 17) (d := some 58) (v := ?_) rfl rfl (by kernel_rfl) (by kernel_rfl) (by kernel_rfl) (fun _ _ _ h => h) (Or.inl ⟨by rfl, fun w hSw => ?_⟩) (by assumption) ?_
  rotate_left
  · first | (go_simp; done) | (go_simp; with_reducible rfl)
  simp only [Act.put, List.setIfInBounds_toArray, List.set_cons_zero, List.set_cons_succ]
  refine wpAnyH_takeD (i := 18) (d := some 59) (v := ?_) rfl rfl (by kernel_rfl) (by kernel_rfl) (by kernel_rfl) (fun _ _ _ h => h) (Or.inl ⟨by rfl, fun w hSw => ?_⟩) (by assumption) ?_
  rotate_left
  · first | (go_simp; done) | (go_simp; with_reducible rfl)
  simp only [Act.put, List.setIfInBounds_toArray, List.set_cons_zero, List.set_cons_succ]
  refine wpAnyH_takeD (i := 19) (d := some 60) (v := ?_) rfl rfl (by kernel_rfl) (by kernel_rfl) (by kernel_rfl) (fun _ _ _ h => h) (Or.inl ⟨by rfl, fun w hSw => ?_⟩) (by assumption) ?_
  rotate_left
  · first | (go_simp; done) | (go_simp; with_reducible rfl)
  simp only [Act.put, List.setIfInBounds_toArray, List.set_cons_zero, List.set_cons_succ]
  refine wpAnyH_takeD (i := 20) (d := some 61) (v := ?_) rfl rfl (by kernel_rfl) (by kernel_rfl) (by kernel_rfl) (fun _ _ _ h => h) (Or.inl ⟨by rfl, fun w hSw => ?_⟩) (by assumption) ?_
  rotate_left
  · first | (go_simp; done) | (go_simp; with_reducible rfl)
  simp only [Act.put, List.setIfInBounds_toArray, List.set_cons_zero, List.set_cons_succ]
  refine wpAnyH_takeD (i := 21) (d := some 62) (v := ?_) rfl rfl (by kernel_rfl) (by kernel_rfl) (by kernel_rfl) (fun _ _ _ h => h) (Or.inl ⟨by rfl, fun w hSw => ?_⟩) (by assumption) ?_
  rotate_left
  · first | (go_simp; done) | (go_simp; with_reducible rfl)
  simp only [Act.put, List.setIfInBounds_toArray, List.set_cons_zero, List.set_cons_succ]
  refine wpAnyH_takeD (i := 22) (d := some 63) (v := ?_) rfl rfl (by kernel_rfl) (by kernel_rfl) (by kernel_rfl) (fun _ _ _ h => h) (Or.inl ⟨by rfl, fun w hSw => ?_⟩) (by assumption) ?_
  rotate_left
  · first | (go_simp; done) | (go_simp; with_reducible rfl)
  simp only [Act.put, List.setIfInBounds_toArray, List.set_cons_zero, List.set_cons_succ]
  refine wpAnyH_takeD (i := 23) (d := some 64) (v := ?_) rfl rfl (by kernel_rfl) (by kernel_rfl) (by kernel_rfl) (fun _ _ _ h => h) (Or.inl ⟨by rfl, fun w hSw => ?_⟩) (by assumption) ?_
  rotate_left
  · first | (go_simp; done) | (go_simp; with_reducible rfl)
  simp only [Act.put, List.setIfInBounds_toArray, List.set_cons_zero, List.set_cons_succ]
  refine wpAnyH_takeD (i := 24) (d := some 65) (v := ?_) rfl rfl (by kernel_rfl) (by kernel_rfl) (by kernel_rfl) (fun _ _ _ h => h) (Or.inl ⟨by rfl, fun w hSw => ?_⟩) (by assumption) ?_
  rotate_left
  · first | (go_simp; done) | (go_simp; with_reducible rfl)
  simp only [Act.put, List.setIfInBounds_toArray, List.set_cons_zero, List.set_cons_succ]
  refine wpAnyH_takeD (i := 25) (d := some 66) (v := ?_) rfl rfl (by kernel_rfl) (by kernel_rfl) (by kernel_rfl) (fun _ _ _ h => h) (Or.inl ⟨by rfl, fun w hSw => ?_⟩) (by assumption) ?_
  rotate_left
  · first | (go_simp; done) | (go_simp; with_reducible rfl)
  simp only [Act.put, List.setIfInBounds_toArray, List.set_cons_zero, List.set_cons_succ]
  refine wpAnyH_takeD (i := 26) (d := some 67) (v := ?_) rfl rfl (by kernel_rfl) (by kernel_rfl) (by kernel_rfl) (fun _ _ _ h => h) (Or.inl ⟨by rfl, fun w hSw => ?_⟩) (by assumption) ?_
  rotate_left
  · first | (go_simp; done) | (go_simp; with_reducible rfl)
  simp only [Act.put, List.setIfInBounds_toArray, List.set_cons_zero, List.set_cons_succ]
  refine wpAnyH_takeD (i := 27) (d := some 68) (v := ?_) rfl rfl (by kernel_rfl) (by kernel_rfl) (by kernel_rfl) (fun _ _ _ h => h) (Or.inl ⟨by rfl, fun w hSw => ?_⟩) (by assumption) ?_
  rotate_left
  · first | (go_simp; done) | (go_simp; with_reducible rfl)
  simp only [Act.put, List.setIfInBounds_toArray, List.set_cons_zero, List.set_cons_succ]
  refine wpAnyH_takeD (i := 28) (d := some 69) (v := ?_) rfl rfl (by kernel_rfl) (by kernel_rfl) (by kernel_rfl) (fun _ _ _ h => h) (Or.inl ⟨by rfl, fun w hSw => ?_⟩) (by assumption) ?_
  rotate_left
  · first | (go_simp; done) | (go_simp; with_reducible rfl)
  simp only [Act.put, List.setIfInBounds_toArray, List.set_cons_zero, List.set_cons_succ]
  refine wpAnyH_takeD (i := 29) (d := some 70) (v := ?_) rfl rfl (by kernel_rfl) (by kernel_rfl) (by kernel_rfl) (fun _ _ _ h => h) (Or.inl ⟨by rfl, fun w hSw => ?_⟩) (by assumption) ?_
  rotate_left
  · first | (go_simp; done) | (go_simp; with_reducible rfl)
  simp only [Act.put, List.setIfInBounds_toArray, List.set_cons_zero, List.set_cons_succ]
  refine wpAnyH_takeD (i := 30) (d := some 71) (v := ?_) rfl rfl (by kernel_rfl) (by kernel_rfl) (by kernel_rfl) (fun _ _ _ h => h) (Or.inl ⟨by rfl, fun w hSw => ?_⟩) (by assumption) ?_
  rotate_left
  · first | (go_simp; done) | (go_simp; with_reducible rfl)
  simp only [Act.put, List.setIfInBounds_toArray, List.set_cons_zero, List.set_cons_succ]
  refine wpAnyH_takeD (i := 31) (d := some 72) (v := ?_) rfl rfl (by kernel_rfl) (by kernel_rfl) (by kernel_rfl) (fun _ _ _ h => h) (Or.inl ⟨by rfl, fun w hSw => ?_⟩) (by assumption) ?_
  rotate_left
  · first | (go_simp; done) | (go_simp; with_reducible rfl)
  simp only [Act.put, List.setIfInBounds_toArray, List.set_cons_zero, List.set_cons_succ]
  refine wpAnyH_takeD (i := 32) (d := some 73) (v := ?_) rfl rfl (by kernel_rfl) (by kernel_rfl) (by kernel_rfl) (fun _ _ _ h => h) (Or.inl ⟨by rfl, fun w hSw => ?_⟩) (by assumption) ?_
  rotate_left
  · first | (go_simp; done) | (go_simp; with_reducible rfl)
  simp only [Act.put, List.setIfInBounds_toArray, List.set_cons_zero, List.set_cons_succ]
  refine wpAnyH_takeD (i := 33) (d := some 74) (v := ?_) rfl rfl (by kernel_rfl) (by kernel_rfl) (by kernel_rfl) (fun _ _ _ h => h) (Or.inl ⟨by rfl, fun w hSw => ?_⟩) (by assumption) ?_
  rotate_left
  · first | (go_simp; done) | (go_simp; with_reducible rfl)
  simp only [Act.put, List.setIfInBounds_toArray, List.set_cons_zero, List.set_cons_succ]
  refine wpAnyH_takeD (i := 34) (d := some 75) (v := ?_) rfl rfl (by kernel_rfl) (by kernel_rfl) (by kernel_rfl) (fun _ _ _ h => h) (Or.inl ⟨by rfl, fun w hSw => ?_⟩) (by assumption) ?_
  rotate_left
  · first | (go_simp; done) | (go_simp; with_reducible rfl)
  simp only [Act.put, List.setIfInBounds_toArray, List.set_cons_zero, List.set_cons_succ]
  refine wpAnyH_ready (rs := [35]) (by kernel_rfl) (by simp) ?_
  refine AllReadyH.cons rfl (fun K hK => ?_) AllReadyH.nil
  go_simp
  refine (HKP.out _ hD5).mono ?_
  rintro e wb6 ⟨rfl, hb⟩
  have hD6 := hD5.trans (hb.mono hD5.size)
  clear hb
  refine hK _ _ (HK.out _ hD6) (fun hS' => ?_)
  clear hK K hS
  have hS := hS'
  clear hS'
  try simp only [Act.put, List.setIfInBounds_toArray, List.set_cons_zero, List.set_cons_succ]
  refine wpAnyH_takeD (i := 36) (d := some 77) (v := ?_) rfl rfl (by kernel_rfl) (by kernel_rfl) (by kernel_rfl) (fun _ _ _ h => h) (Or.inl ⟨by rfl, fun w hSw => ?_⟩) (by assumption) ?_
  rotate_left
  · first | (go_simp; done) | (go_simp; with_reducible rfl)
  simp only [Act.put, List.setIfInBounds_toArray, List.set_cons_zero, List.set_cons_succ]
  refine wpAnyH_takeD (i := 37) (d := some 4) (v := ?_) rfl rfl (by kernel_rfl) (by kernel_rfl) (by kernel_rfl) (fun _ _ _ h => h) (Or.inl ⟨by rfl, fun w hSw => ?_⟩) (by assumption) ?_
  rotate_left
  · first | (go_simp; done) | (go_simp; with_reducible rfl)
  simp only [Act.put, List.setIfInBounds_toArray, List.set_cons_zero, List.set_cons_succ]
  refine wpAnyH_done (by kernel_rfl) ?_ _
  go_wp2_with fail
  go_ret
  exact ⟨rfl, HBZ.out.trans (hD6.mono HBZ.out.size)⟩

end Go.Proofs.YtmjigpnpcacefaaGreatDoor
