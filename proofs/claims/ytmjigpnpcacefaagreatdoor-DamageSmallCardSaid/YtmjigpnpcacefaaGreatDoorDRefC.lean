/- The reference bursts: the walk of Bits. -/
import Derived.Test.YtmjigpnpcacefaaGreatDoorDRefA
import Derived.Test.YtmjigpnpcacefaaGreatDoorLong
import Derived.Test.YtmjigpnpcacefaaGreatDoorApps
namespace Go.Proofs.YtmjigpnpcacefaaGreatDoor
open Go Go.RowKit Go.Shelf

set_option maxRecDepth 100000 in
set_option maxHeartbeats 4000000 in
theorem rbits13_any (x : Int) (b : Nat) (hb : b < 4294967296) (hx : -9223372036854775808 ≤ x ∧ x ≤ 9223372036854775807) (w : World) :
    Calls Tryz.prog 33 #[.agg #[.int .i64 x, .int .u32 b]] w fun e w' => ∃ v', e = .returned (.tuple #[v', .int .i64 (bitsE x b)]) ∧ OwnsI .i64 3 w' w.heap.size v' (bitsV x b) ∧ Below w.heap.size w w' := by
  have hp : Gf.plen b ≤ 32 := Gf.plen_le.2 hb
  have c0 : (w.alloc (.cells #[.int .i64 x, .int .u32 (b : Int)] 46)).cell? ⟨w.heap.size, 0, none⟩ = some (.int .i64 x) := (cell_of_row _ w.heap.size 0 #[.int .i64 x, .int .u32 (b : Int)] 46 (0, 0) (World.alloc_heap_new w _))
  have c1 : (w.alloc (.cells #[.int .i64 x, .int .u32 (b : Int)] 46)).cell? ⟨w.heap.size, 1, none⟩ = some (.int .u32 (b : Int)) := (cell_of_row _ w.heap.size 1 #[.int .i64 x, .int .u32 (b : Int)] 46 (0, 0) (World.alloc_heap_new w _))
  have hA := bel_alloc w (.cells #[.int .i64 x, .int .u32 (b : Int)] 46)
  have hr := rright_any x b hb
  have hl := rlength_any x b hb
  have hV : bitsV x b = if bitsOk x b then blist x b (Gf.plen b) else [] := rfl
  rw [← blist_all x hb] at hV
  have hE : bitsE x b = if bitsOk x b then 0 else 2 := rfl
  have hO : bitsOk x b = (rightB x b && decide (x ≤ 9223372036854775807 - ((Gf.plen b : Int) - 1))) := rfl
  have hL : lenB x b = if rightB x b then Gf.plen b else 0 := rfl
  have hsz : (w.alloc (.cells #[.int .i64 x, .int .u32 (b : Int)] 46)).heap.size = w.heap.size + 1 := by simp
  have hHK : ∀ wa, wa = w.alloc (.cells #[.int .i64 x, .int .u32 (b : Int)] 46) → ∀ W, Below wa.heap.size wa W → Below wa.heap.size wa W ∧ W.cell? ⟨w.heap.size, 0, none⟩ = some (.int .i64 x) ∧ W.cell? ⟨w.heap.size, 1, none⟩ = some (.int .u32 (b : Int)) := by
    rintro wa rfl W hW
    exact ⟨hW, cell_keep hW c0 (cell_lt c0), cell_keep hW c1 (cell_lt c1)⟩
  have HHK := Lib.hid hHK
  have HSZ := Lib.hid hsz
  clear c0 c1 hHK hsz
  cases hrb : rightB x b with
  | false =>
    rw [hrb] at hr hO
    rw [hO] at hV hE
    simp only [Bool.false_and, Bool.false_eq_true, if_false] at hV hE
    rw [hV, hE]
    have HR := Lib.hid hr
    clear hr hl hO hL hV hE hrb
    go_enter Tryz.func33, Tryz.ntmps33
    go_wp2_with fail
    obtain ⟨wa, hwa⟩ : ∃ wa, wa = w.alloc (.cells #[.int .i64 x, .int .u32 (b : Int)] 46) := ⟨_, rfl⟩
    have HK := Lib.hid (HHK.out wa hwa)
    rw [← hwa]
    rw [← hwa] at hA HSZ
    clear hwa HHK
    have hD : Below wa.heap.size wa wa.drew := (bel_refl wa).drew
    refine wp_region_held_drew (S := fun W => Below wa.heap.size wa W ∧ W.cell? ⟨w.heap.size, 0, none⟩ = some (.int .i64 x) ∧ W.cell? ⟨w.heap.size, 1, none⟩ = some (.int .u32 (b : Int))) (by kernel_rfl) (HK.out _ hD) (fun hS => ?_)
    refine wpAnyH_takeD (i := 0) (d := some 7) (v := ?_) rfl rfl (by kernel_rfl) (by kernel_rfl) (by kernel_rfl) (fun _ _ _ h => h) (Or.inl ⟨by rfl, fun w hSw => ?_⟩) (by assumption) ?_
    rotate_left
    · first | (go_simp; done) | (go_simp; with_reducible rfl)
    simp only [Act.put, List.setIfInBounds_toArray, List.set_cons_zero, List.set_cons_succ]
    refine wpAnyH_ready (rs := [1]) (by kernel_rfl) (by simp) ?_
    refine AllReadyH.cons rfl (fun K hK => ?_) AllReadyH.nil
    go_simp
    refine (HR.out _).mono ?_
    rintro e wb ⟨rfl, hb⟩
    have hD1 := hD.trans (hb.mono hD.size)
    clear hb
    refine hK _ _ (HK.out _ hD1) (fun hS' => ?_)
    clear hK K hS
    have hS := hS'
    clear hS'
    try simp only [Act.put, List.setIfInBounds_toArray, List.set_cons_zero, List.set_cons_succ]
    refine wpAnyH_takeD (i := 2) (d := some 9) (v := ?_) rfl rfl (by kernel_rfl) (by kernel_rfl) (by kernel_rfl) (fun _ _ _ h => h) (Or.inl ⟨by rfl, fun w hSw => ?_⟩) (by assumption) ?_
    rotate_left
    · first | (go_simp; done) | (go_simp; with_reducible rfl)
    simp only [Act.put, List.setIfInBounds_toArray, List.set_cons_zero, List.set_cons_succ]
    refine wpAnyH_takeD (i := 3) (d := some 10) (v := ?_) rfl rfl (by kernel_rfl) (by kernel_rfl) (by kernel_rfl) (fun _ _ _ h => h) (Or.inl ⟨by rfl, fun w hSw => ?_⟩) (by assumption) ?_
    rotate_left
    · first | (go_simp; done) | (go_simp; with_reducible rfl)
    simp only [Act.put, List.setIfInBounds_toArray, List.set_cons_zero, List.set_cons_succ]
    refine wpAnyH_takeD (i := 4) (d := some 11) rfl rfl (by kernel_rfl) (by kernel_rfl) (by kernel_rfl) (fun _ _ _ h => h) (Or.inr ⟨by rfl, rfl⟩) (by assumption) ?_
    simp only [Act.put, List.setIfInBounds_toArray, List.set_cons_zero, List.set_cons_succ]
    refine wpAnyH_takeD (i := 5) (d := some 12) rfl rfl (by kernel_rfl) (by kernel_rfl) (by kernel_rfl) (fun _ _ _ h => h) (Or.inr ⟨by rfl, rfl⟩) (by assumption) ?_
    simp only [Act.put, List.setIfInBounds_toArray, List.set_cons_zero, List.set_cons_succ]
    refine wpAnyH_takeD (i := 6) (d := some 13) rfl rfl (by kernel_rfl) (by kernel_rfl) (by kernel_rfl) (fun _ _ _ h => h) (Or.inr ⟨by rfl, rfl⟩) (by assumption) ?_
    simp only [Act.put, List.setIfInBounds_toArray, List.set_cons_zero, List.set_cons_succ]
    refine wpAnyH_takeD (i := 7) (d := some 14) rfl rfl (by kernel_rfl) (by kernel_rfl) (by kernel_rfl) (fun _ _ _ h => h) (Or.inr ⟨by rfl, rfl⟩) (by assumption) ?_
    simp only [Act.put, List.setIfInBounds_toArray, List.set_cons_zero, List.set_cons_succ]
    refine wpAnyH_takeD (i := 8) (d := some 15) rfl rfl (by kernel_rfl) (by kernel_rfl) (by kernel_rfl) (fun _ _ _ h => h) (Or.inr ⟨by rfl, rfl⟩) (by assumption) ?_
    simp only [Act.put, List.setIfInBounds_toArray, List.set_cons_zero, List.set_cons_succ]
    refine wpAnyH_takeD (i := 9) (d := some 16) rfl rfl (by kernel_rfl) (by kernel_rfl) (by kernel_rfl) (fun _ _ _ h => h) (Or.inr ⟨by rfl, rfl⟩) (by assumption) ?_
    simp only [Act.put, List.setIfInBounds_toArray, List.set_cons_zero, List.set_cons_succ]
    refine wpAnyH_takeD (i := 10) (d := some 17) rfl rfl (by kernel_rfl) (by kernel_rfl) (by kernel_rfl) (fun _ _ _ h => h) (Or.inr ⟨by rfl, rfl⟩) (by assumption) ?_
    simp only [Act.put, List.setIfInBounds_toArray, List.set_cons_zero, List.set_cons_succ]
    refine wpAnyH_takeD (i := 11) (d := some 18) (v := ?_) rfl rfl (by kernel_rfl) (by kernel_rfl) (by kernel_rfl) (fun _ _ _ h => h) (Or.inl ⟨by rfl, fun w hSw => ?_⟩) (by assumption) ?_
    rotate_left
    · first | (go_simp; done) | (go_simp; with_reducible rfl)
    simp only [Act.put, List.setIfInBounds_toArray, List.set_cons_zero, List.set_cons_succ]
    refine wpAnyH_done (by kernel_rfl) ?_ _
    go_wp2_with fail
    go_ret2
    exact ⟨_, rfl, OwnsI.nil _ _ _ _, hA.trans (hD1.mono hA.size)⟩
  | true =>
    rw [hrb] at hr hO hL
    rw [if_pos rfl] at hL
    rw [hL] at hl
    rw [Bool.true_and] at hO
    have h2 : b % 2 = 1 ∧ 0 ≤ x := by
      unfold rightB at hrb
      simp only [Bool.and_eq_true, decide_eq_true_eq] at hrb
      exact ⟨hrb.2, hrb.1⟩
    have hpp : 1 ≤ Gf.plen b := Gf.plen_pos (by omega)
    have hpl := places_any x b hb
    have hfr := blist_from x b 32
    have hbd := blist_bd (b := b) (Nat.le_refl 32)
    have hll := blist_len 0 b 32
    have hmx : ∀ y ∈ blist 0 b 32, y ≤ (Gf.plen b : Int) - 1 := by
      intro y hy
      rw [blist_all 0 hb] at hy
      unfold blist at hy
      obtain ⟨i, hi, rfl⟩ := List.mem_map.1 hy
      have := List.mem_range.1 (List.mem_filter.1 hi).1
      omega
    obtain ⟨n, HN⟩ := nm (Gf.plen b)
    simp only [HN.out] at hl hmx
    rw [HN.out] at hO hp hpp
    obtain ⟨P, HP⟩ := nm (blist 0 b 32)
    simp only [HP.out] at hpl hbd hmx hll
    rw [HP.out] at hfr
    rw [hfr] at hV
    have HR := Lib.hid hr
    have HL := Lib.hid hl
    have HPL := Lib.hid hpl
    have HBD := Lib.hid hbd
    have HMX := Lib.hid hmx
    clear hr hl hL hrb hpl hbd hmx hfr
    have hs1 : IntKind.i64.wrap (9223372036854775807 - (n : Int)) = 9223372036854775807 - (n : Int) := IntWalk.i64_in _ (by omega)
    have hs2 : IntKind.i64.wrap (9223372036854775807 - (n : Int) + 1) = 9223372036854775807 - (n : Int) + 1 := IntWalk.i64_in _ (by omega)
    by_cases hok : x ≤ 9223372036854775807 - ((n : Int) - 1)
    · rw [decide_eq_true hok] at hO
      rw [hO, if_pos rfl] at hV hE
      rw [hV, hE]
      have hgt : decide (9223372036854775807 - (n : Int) + 1 < x) = false := decide_eq_false (by omega)
      clear hO hV hE
      go_enter Tryz.func33, Tryz.ntmps33
      go_wp2_with fail
      obtain ⟨wa, hwa⟩ : ∃ wa, wa = w.alloc (.cells #[.int .i64 x, .int .u32 (b : Int)] 46) := ⟨_, rfl⟩
      have HK := Lib.hid (HHK.out wa hwa)
      rw [← hwa]
      rw [← hwa] at hA HSZ
      clear hwa HHK
      have hD : Below wa.heap.size wa wa.drew := (bel_refl wa).drew
      refine wp_region_held_drew (S := fun W => Below wa.heap.size wa W ∧ W.cell? ⟨w.heap.size, 0, none⟩ = some (.int .i64 x) ∧ W.cell? ⟨w.heap.size, 1, none⟩ = some (.int .u32 (b : Int))) (by kernel_rfl) (HK.out _ hD) (fun hS => ?_)
      refine wpAnyH_takeD (i := 0) (d := some 7) (v := ?_) rfl rfl (by kernel_rfl) (by kernel_rfl) (by kernel_rfl) (fun _ _ _ h => h) (Or.inl ⟨by rfl, fun w hSw => ?_⟩) (by assumption) ?_
      rotate_left
      · first | (go_simp; done) | (go_simp; with_reducible rfl)
      simp only [Act.put, List.setIfInBounds_toArray, List.set_cons_zero, List.set_cons_succ]
      refine wpAnyH_ready (rs := [1]) (by kernel_rfl) (by simp) ?_
      refine AllReadyH.cons rfl (fun K hK => ?_) AllReadyH.nil
      go_simp
      refine (HR.out _).mono ?_
      rintro e wb ⟨rfl, hb⟩
      have hD1 := hD.trans (hb.mono hD.size)
      clear hb
      refine hK _ _ (HK.out _ hD1) (fun hS' => ?_)
      clear hK K hS
      have hS := hS'
      clear hS'
      try simp only [Act.put, List.setIfInBounds_toArray, List.set_cons_zero, List.set_cons_succ]
      refine wpAnyH_takeD (i := 2) (d := some 9) (v := ?_) rfl rfl (by kernel_rfl) (by kernel_rfl) (by kernel_rfl) (fun _ _ _ h => h) (Or.inl ⟨by rfl, fun w hSw => ?_⟩) (by assumption) ?_
      rotate_left
      · first | (go_simp; done) | (go_simp; with_reducible rfl)
      simp only [Act.put, List.setIfInBounds_toArray, List.set_cons_zero, List.set_cons_succ]
      refine wpAnyH_takeD (i := 3) (d := some 10) (v := ?_) rfl rfl (by kernel_rfl) (by kernel_rfl) (by kernel_rfl) (fun _ _ _ h => h) (Or.inl ⟨by rfl, fun w hSw => ?_⟩) (by assumption) ?_
      rotate_left
      · first | (go_simp; done) | (go_simp; with_reducible rfl)
      simp only [Act.put, List.setIfInBounds_toArray, List.set_cons_zero, List.set_cons_succ]
      refine wpAnyH_takeD (i := 4) (d := some 11) (v := ?_) rfl rfl (by kernel_rfl) (by kernel_rfl) (by kernel_rfl) (fun _ _ _ h => h) (Or.inl ⟨by rfl, fun w hSw => ?_⟩) (by assumption) ?_
      rotate_left
      · first | (go_simp; done) | (go_simp; with_reducible rfl)
      simp only [Act.put, List.setIfInBounds_toArray, List.set_cons_zero, List.set_cons_succ]
      refine wpAnyH_takeD (i := 5) (d := some 12) (v := ?_) rfl rfl (by kernel_rfl) (by kernel_rfl) (by kernel_rfl) (fun _ _ _ h => h) (Or.inl ⟨by rfl, fun w hSw => ?_⟩) (by assumption) ?_
      rotate_left
      · first | (go_simp; done) | (go_simp; with_reducible rfl)
      simp only [Act.put, List.setIfInBounds_toArray, List.set_cons_zero, List.set_cons_succ]
      refine wpAnyH_takeD (i := 6) (d := some 13) (v := ?_) rfl rfl (by kernel_rfl) (by kernel_rfl) (by kernel_rfl) (fun _ _ _ h => h) (Or.inl ⟨by rfl, fun w hSw => ?_⟩) (by assumption) ?_
      rotate_left
      · first | (go_simp; done) | (go_simp; with_reducible rfl)
      simp only [Act.put, List.setIfInBounds_toArray, List.set_cons_zero, List.set_cons_succ]
      refine wpAnyH_ready (rs := [7]) (by kernel_rfl) (by simp) ?_
      refine AllReadyH.cons rfl (fun K hK => ?_) AllReadyH.nil
      go_simp
      refine (HL.out _).mono ?_
      rintro e wc ⟨rfl, hb⟩
      have hD2 := hD1.trans (hb.mono hD1.size)
      clear hb
      refine hK _ _ (HK.out _ hD2) (fun hS' => ?_)
      clear hK K hS
      have hS := hS'
      clear hS'
      try simp only [Act.put, List.setIfInBounds_toArray, List.set_cons_zero, List.set_cons_succ]
      refine wpAnyH_takeD (i := 8) (d := some 15) (v := ?_) rfl rfl (by kernel_rfl) (by kernel_rfl) (by kernel_rfl) (fun _ _ _ h => h) (Or.inl ⟨by rfl, fun w hSw => ?_⟩) (by assumption) ?_
      rotate_left
      · first | (go_simp; done) | (go_simp; with_reducible rfl)
      simp only [Act.put, List.setIfInBounds_toArray, List.set_cons_zero, List.set_cons_succ]
      refine wpAnyH_takeD (i := 9) (d := some 16) (v := ?_) rfl rfl (by kernel_rfl) (by kernel_rfl) (by kernel_rfl) (fun _ _ _ h => h) (Or.inl ⟨by rfl, fun w hSw => ?_⟩) (by assumption) ?_
      rotate_left
      · first | (go_simp; done) | (go_simp; with_reducible rfl)
      simp only [Act.put, List.setIfInBounds_toArray, List.set_cons_zero, List.set_cons_succ]
      refine wpAnyH_takeD (i := 10) (d := some 17) (v := ?_) rfl rfl (by kernel_rfl) (by kernel_rfl) (by kernel_rfl) (fun _ _ _ h => h) (Or.inl ⟨by rfl, fun w hSw => ?_⟩) (by assumption) ?_
      rotate_left
      · first | (go_simp; done) | (go_simp; with_reducible rfl)
      simp only [Act.put, List.setIfInBounds_toArray, List.set_cons_zero, List.set_cons_succ]
      refine wpAnyH_takeD (i := 11) (d := some 18) (v := ?_) rfl rfl (by kernel_rfl) (by kernel_rfl) (by kernel_rfl) (fun _ _ _ h => h) (Or.inl ⟨by rfl, fun w hSw => ?_⟩) (by assumption) ?_
      rotate_left
      · first | (go_simp; done) | (go_simp; with_reducible rfl)
      simp only [Act.put, List.setIfInBounds_toArray, List.set_cons_zero, List.set_cons_succ]
      refine wpAnyH_done (by kernel_rfl) ?_ _
      clear hs1 hs2 hgt
      obtain ⟨hS1, hS2, hS3⟩ := hS
      go_wp2_with fail
      refine (HPL.out _).mono ?_
      rintro e wd ⟨v2, rfl, ho2, hb2⟩
      have hD3 := hD2.trans (hb2.mono hD2.size)
      obtain ⟨_, e0, e1⟩ := HK.out _ hD3
      have HBd := Lib.hid (hA.trans (hD3.mono hA.size))
      have hlt : w.heap.size < wd.heap.size := by have := hD3.size; rw [HSZ.out] at this; omega
      obtain ⟨a2, n2, k2, rfl, hn2, hnc2, hcm2, -⟩ := ho2.slice
      have HO2 := Lib.hid ho2.reads
      have hll2 : n2 ≤ 32 := by omega
      have HN2 := Lib.hid hn2
      clear hb2 hS1 hS2 hS3 hD hD1 hD2 hD3 HK HR HL ho2 hn2 hll
      obtain ⟨wo, rfl⟩ : ∃ wo : World, wo = wd := ⟨_, rfl⟩
      go_wp2_with fail
      go_loopw [4, 6] (fun vo vi wr => ∃ i : Nat, i ≤ n2 ∧ vi = .int .i64 (i : Int) ∧ OwnsI .i64 3 wr wo.heap.size vo ((P.map fun y => x + y).take i) ∧ Below wo.heap.size wo wr) (fun _ vi _ => n2 - (intOf vi).toNat)
      case atStart => exact ⟨0, Nat.zero_le _, rfl, OwnsI.nil _ _ _ _, bel_refl _⟩
      case round =>
        obtain ⟨i, hi, rfl, hown, hBr⟩ := hrel
        have hsz := hBr.size
        by_cases hin : i < n2
        · have f0 := cell_keep hBr e0 (cell_lt e0)
          obtain ⟨a', c', e', g1, g2, hcs⟩ := HO2.out
          have hnn : n2 = P.length := HN2.out
          rw [← hnn] at e' hcs
          cases e'
          obtain ⟨bk, off, rfl, hcell⟩ := hcs.resolve_left (fun h => by omega)
          have ck := cell_keep hBr (hcell i hin) (cell_lt (hcell i hin))
          have hiP : i < P.length := by rw [← hnn]; exact hin
          have hmem : P[i]?.getD 0 ∈ P := by rw [List.getElem?_eq_getElem hiP]; exact List.getElem_mem hiP
          have hy1 := HBD.out _ hmem
          have hy2 := HMX.out _ hmem
          have htk : (P.map fun y => x + y).take (i + 1) = (P.map fun y => x + y).take i ++ [x + P[i]?.getD 0] := by
            rw [List.take_succ_eq_append_getElem (by simpa using hiP), List.getElem_map, List.getElem?_eq_getElem hiP]; rfl
          obtain ⟨y, HY⟩ := nm (P[i]?.getD 0)
          rw [HY.out] at ck hy1 hy2 htk
          have hwy : IntKind.i64.wrap (x + y) = x + y := IntWalk.i64_in _ (by omega)
          obtain ⟨T, HT⟩ := nm ((P.map fun y => x + y).take i)
          have hTl : T.length ≤ 32 := by rw [← HT.out, List.length_take]; omega
          rw [HT.out] at hown htk
          obtain ⟨z, HZ⟩ := nm (x + y)
          rw [HZ.out] at hwy htk
          have hxy : x + y = z := HZ.out
          obtain ⟨v1, w1, hr1, ho1, hb1, -⟩ := run_appI (ty := 23) (t := 23) (k := .i64) (base := wo.heap.size) Tryz.underlying23 info_int (by decide) ((hown.alloc (.cells #[.int .i64 z] 3)).drew) ((reads_litI .i64 wr [z] 3 #[.int .i64 z] 1 rfl rfl (by decide)).keep ((Below.refl _ _).drew) (Nat.le_refl _)) (by simp; omega) (by simp; omega)
          have X1 := runs_app hr1
          have HOW := Lib.hid ho1
          have HBW := Lib.hid (hBr.trans ((((bel_alloc wr (.cells #[.int .i64 z] 3)).drew).mono hsz).trans hb1))
          have HTK := Lib.hid htk
          clear hnn hown hcs hcell g1 g2 hr1 ho1 hb1 htk hy1 hy2 hmem
          go_wp2_with fail
          go_region_law (refine step_appR rfl (.tmp 27) (.tmp 35) 23 23 rfl _ w1 X1 ?_)
          all_goals
            go_wp2_with fail
            go_roundw
            case rel => exact ⟨i + 1, by omega, by go_num, by rw [HTK.out]; exact HOW.out, HBW.out⟩
            case measure => simp [intOf]; omega
        · obtain rfl : i = n2 := by omega
          have HBW := HBd.out.trans (hBr.mono (Nat.le_of_lt hlt))
          have HOW := hown.mono (Nat.le_of_lt hlt)
          have hfull : (P.map fun y => x + y).take i = P.map fun y => x + y := List.take_of_length_le (by have := HN2.out; simp; omega)
          rw [hfull] at HOW
          clear hown hBr hfull
          go_wp2_with fail
          go_ret2
          exact ⟨_, rfl, HOW, HBW⟩
    · rw [decide_eq_false hok] at hO
      rw [hO, if_neg (by decide)] at hV hE
      rw [hV, hE]
      have hgt : decide (9223372036854775807 - (n : Int) + 1 < x) = true := decide_eq_true (by omega)
      clear hO hV hE HPL
      go_enter Tryz.func33, Tryz.ntmps33
      go_wp2_with fail
      obtain ⟨wa, hwa⟩ : ∃ wa, wa = w.alloc (.cells #[.int .i64 x, .int .u32 (b : Int)] 46) := ⟨_, rfl⟩
      have HK := Lib.hid (HHK.out wa hwa)
      rw [← hwa]
      rw [← hwa] at hA HSZ
      clear hwa HHK
      have hD : Below wa.heap.size wa wa.drew := (bel_refl wa).drew
      refine wp_region_held_drew (S := fun W => Below wa.heap.size wa W ∧ W.cell? ⟨w.heap.size, 0, none⟩ = some (.int .i64 x) ∧ W.cell? ⟨w.heap.size, 1, none⟩ = some (.int .u32 (b : Int))) (by kernel_rfl) (HK.out _ hD) (fun hS => ?_)
      refine wpAnyH_takeD (i := 0) (d := some 7) (v := ?_) rfl rfl (by kernel_rfl) (by kernel_rfl) (by kernel_rfl) (fun _ _ _ h => h) (Or.inl ⟨by rfl, fun w hSw => ?_⟩) (by assumption) ?_
      rotate_left
      · first | (go_simp; done) | (go_simp; with_reducible rfl)
      simp only [Act.put, List.setIfInBounds_toArray, List.set_cons_zero, List.set_cons_succ]
      refine wpAnyH_ready (rs := [1]) (by kernel_rfl) (by simp) ?_
      refine AllReadyH.cons rfl (fun K hK => ?_) AllReadyH.nil
      go_simp
      refine (HR.out _).mono ?_
      rintro e wb ⟨rfl, hb⟩
      have hD1 := hD.trans (hb.mono hD.size)
      clear hb
      refine hK _ _ (HK.out _ hD1) (fun hS' => ?_)
      clear hK K hS
      have hS := hS'
      clear hS'
      try simp only [Act.put, List.setIfInBounds_toArray, List.set_cons_zero, List.set_cons_succ]
      refine wpAnyH_takeD (i := 2) (d := some 9) (v := ?_) rfl rfl (by kernel_rfl) (by kernel_rfl) (by kernel_rfl) (fun _ _ _ h => h) (Or.inl ⟨by rfl, fun w hSw => ?_⟩) (by assumption) ?_
      rotate_left
      · first | (go_simp; done) | (go_simp; with_reducible rfl)
      simp only [Act.put, List.setIfInBounds_toArray, List.set_cons_zero, List.set_cons_succ]
      refine wpAnyH_takeD (i := 3) (d := some 10) (v := ?_) rfl rfl (by kernel_rfl) (by kernel_rfl) (by kernel_rfl) (fun _ _ _ h => h) (Or.inl ⟨by rfl, fun w hSw => ?_⟩) (by assumption) ?_
      rotate_left
      · first | (go_simp; done) | (go_simp; with_reducible rfl)
      simp only [Act.put, List.setIfInBounds_toArray, List.set_cons_zero, List.set_cons_succ]
      refine wpAnyH_takeD (i := 4) (d := some 11) (v := ?_) rfl rfl (by kernel_rfl) (by kernel_rfl) (by kernel_rfl) (fun _ _ _ h => h) (Or.inl ⟨by rfl, fun w hSw => ?_⟩) (by assumption) ?_
      rotate_left
      · first | (go_simp; done) | (go_simp; with_reducible rfl)
      simp only [Act.put, List.setIfInBounds_toArray, List.set_cons_zero, List.set_cons_succ]
      refine wpAnyH_takeD (i := 5) (d := some 12) (v := ?_) rfl rfl (by kernel_rfl) (by kernel_rfl) (by kernel_rfl) (fun _ _ _ h => h) (Or.inl ⟨by rfl, fun w hSw => ?_⟩) (by assumption) ?_
      rotate_left
      · first | (go_simp; done) | (go_simp; with_reducible rfl)
      simp only [Act.put, List.setIfInBounds_toArray, List.set_cons_zero, List.set_cons_succ]
      refine wpAnyH_takeD (i := 6) (d := some 13) (v := ?_) rfl rfl (by kernel_rfl) (by kernel_rfl) (by kernel_rfl) (fun _ _ _ h => h) (Or.inl ⟨by rfl, fun w hSw => ?_⟩) (by assumption) ?_
      rotate_left
      · first | (go_simp; done) | (go_simp; with_reducible rfl)
      simp only [Act.put, List.setIfInBounds_toArray, List.set_cons_zero, List.set_cons_succ]
      refine wpAnyH_ready (rs := [7]) (by kernel_rfl) (by simp) ?_
      refine AllReadyH.cons rfl (fun K hK => ?_) AllReadyH.nil
      go_simp
      refine (HL.out _).mono ?_
      rintro e wc ⟨rfl, hb⟩
      have hD2 := hD1.trans (hb.mono hD1.size)
      clear hb
      refine hK _ _ (HK.out _ hD2) (fun hS' => ?_)
      clear hK K hS
      have hS := hS'
      clear hS'
      try simp only [Act.put, List.setIfInBounds_toArray, List.set_cons_zero, List.set_cons_succ]
      refine wpAnyH_takeD (i := 8) (d := some 15) (v := ?_) rfl rfl (by kernel_rfl) (by kernel_rfl) (by kernel_rfl) (fun _ _ _ h => h) (Or.inl ⟨by rfl, fun w hSw => ?_⟩) (by assumption) ?_
      rotate_left
      · first | (go_simp; done) | (go_simp; with_reducible rfl)
      simp only [Act.put, List.setIfInBounds_toArray, List.set_cons_zero, List.set_cons_succ]
      refine wpAnyH_takeD (i := 9) (d := some 16) (v := ?_) rfl rfl (by kernel_rfl) (by kernel_rfl) (by kernel_rfl) (fun _ _ _ h => h) (Or.inl ⟨by rfl, fun w hSw => ?_⟩) (by assumption) ?_
      rotate_left
      · first | (go_simp; done) | (go_simp; with_reducible rfl)
      simp only [Act.put, List.setIfInBounds_toArray, List.set_cons_zero, List.set_cons_succ]
      refine wpAnyH_takeD (i := 10) (d := some 17) (v := ?_) rfl rfl (by kernel_rfl) (by kernel_rfl) (by kernel_rfl) (fun _ _ _ h => h) (Or.inl ⟨by rfl, fun w hSw => ?_⟩) (by assumption) ?_
      rotate_left
      · first | (go_simp; done) | (go_simp; with_reducible rfl)
      simp only [Act.put, List.setIfInBounds_toArray, List.set_cons_zero, List.set_cons_succ]
      refine wpAnyH_takeD (i := 11) (d := some 18) (v := ?_) rfl rfl (by kernel_rfl) (by kernel_rfl) (by kernel_rfl) (fun _ _ _ h => h) (Or.inl ⟨by rfl, fun w hSw => ?_⟩) (by assumption) ?_
      rotate_left
      · first | (go_simp; done) | (go_simp; with_reducible rfl)
      simp only [Act.put, List.setIfInBounds_toArray, List.set_cons_zero, List.set_cons_succ]
      refine wpAnyH_done (by kernel_rfl) ?_ _
      clear hs1 hs2 hgt
      go_wp2_with fail
      go_ret2
      exact ⟨_, rfl, OwnsI.nil _ _ _ _, hA.trans (hD2.mono hA.size)⟩
end Go.Proofs.YtmjigpnpcacefaaGreatDoor
