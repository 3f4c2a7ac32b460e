/- The walk of the law CrcFacts. -/
import Derived.Test.YthplekkigkalhaaDoorFctP
import Derived.Test.YthplekkigkalhaaDoorSrtN
import Derived.Test.YthplekkigkalhaaDoorSrtK
import Derived.Test.YthplekkigkalhaaDoorAwake
namespace Go.Proofs.YthplekkigkalhaaDoor
open Go Go.RowKit Go.Shelf

theorem info_u32 : (Tryd.prog.info? 23).map (fun i => (i.zero, i.size, i.bytes)) = some (some (.int .u32 0), 1, 4) := by kernel_rfl
theorem owns_to_I {k : IntKind} {e : TypeId} {w : World} {base : Nat} {v : Value} {xs : List Nat} (h : Owns k e w base v xs) : OwnsI k e w base v (xs.map fun (x : Nat) => (x : Int)) := by
  unfold OwnsI
  unfold Owns at h
  have e1 : valsI k (xs.map fun (x : Nat) => (x : Int)) = vals k xs := by simp [valsI, vals]
  rw [e1, List.length_map]
  exact h
theorem and_one32 (c : Nat) (h : c < 4294967296) : bits BinOp.and IntKind.u32 (c : Int) 1 = ((c % 2 : Nat) : Int) := by
  rw [show (1 : Int) = ((1 : Nat) : Int) from rfl, u32_and_nat _ _ h (by decide), Nat.and_one_is_mod]
theorem xor_R32 (c : Nat) (h : c < 4294967296) : bits BinOp.xor IntKind.u32 ((c : Int) / 2) 3988292384 = ((c / 2 ^^^ Gf.R : Nat) : Int) := by
  rw [show ((c : Int) / 2) = ((c / 2 : Nat) : Int) by omega, show (3988292384 : Int) = ((Gf.R : Nat) : Int) from rfl, u32_xor_nat _ _ (by omega) (by decide)]
theorem xor_nat32 (c d : Nat) (h : c < 4294967296) (hd : d < 4294967296) : bits BinOp.xor IntKind.u32 (c : Int) (d : Int) = ((c ^^^ d : Nat) : Int) := u32_xor_nat _ _ h hd

theorem getD_get (l : List Int) (i : Nat) (h : i < l.length) : l.getD i 0 = l[i] := by simp [List.getD, h]
set_option maxRecDepth 100000 in
set_option maxHeartbeats 8000000 in
theorem crcFacts_all (w : World) (hT : Tab w) :
    Calls Tryd.prog 3 #[] w fun e w' => e = .returned (.bool true) ∧ Below w.heap.size w w' := by
  have HT := Lib.hid hT
  clear hT
  obtain ⟨rg, HRG⟩ : ∃ rg : Nat → Nat, Hid (∀ i, rg i = Gf.stepN i Gf.R) := ⟨fun i => Gf.stepN i Gf.R, Lib.hid fun _ => rfl⟩
  have hf : ∀ n, Gf.facts n = (List.range n).map rg := fun n => by unfold Gf.facts; exact List.map_congr_left fun i _ => (HRG.out i).symm
  have HF := Lib.hid hf
  clear hf
  obtain ⟨d, HD⟩ := nm (rg 0)
  have hdR : d = Gf.R := by rw [← HD.out, HRG.out]; rfl
  have HDR := Lib.hid hdR
  clear hdR
  go_enter Tryd.func3, Tryd.ntmps3
  go_wp2_with fail
  refine (cbit_any 4096 32767 (by decide) (by decide) (by decide) (by decide) _ HT.out).mono ?_
  rintro e w1 ⟨rfl, hb1⟩
  rw [show Gf.stepN (8 * (4096 : Int).toNat - 1 - (32767 : Int).toNat) Gf.R = d from HDR.out.symm]
  have HB1 := Lib.hid hb1
  clear hb1
  go_wp2_with fail
  go_loopw [1, 4, 5] (fun vo vc vk wr => ∃ (i : Nat) (z : Int), Hid (z = 32767 - (i : Int) ∧ i ≤ 32768) ∧ vc = .int .u32 (rg i : Int) ∧ vk = .int .i64 z ∧ Owns .u32 23 wr w.heap.size vo ((List.range i).map rg) ∧ Below w.heap.size w wr)
    (fun _ _ vk _ => (intOf vk + 1).toNat)
  case atStart => exact ⟨0, 32767, Lib.hid ⟨by omega, by omega⟩, by rw [HD.out], rfl, Owns.nil _ _ _ _, HB1.out⟩
  case round =>
    obtain ⟨i, z, HZ, rfl, rfl, hown, hBr⟩ := hrel
    have HOW := Lib.hid hown
    have HBR := Lib.hid hBr
    clear hown hBr
    by_cases hz : 0 ≤ z
    · obtain ⟨k, rfl⟩ : ∃ k : Nat, z = (k : Int) := ⟨z.toNat, by omega⟩
      have hik : i < 32768 := by have := HZ.out; omega
      have hc : rg i < 4294967296 := by rw [HRG.out]; exact Gf.reg_lt i
      have hc0 : rg i ≠ 0 := by rw [HRG.out]; exact Gf.reg_ne0 i
      have hst : rg (i + 1) = if rg i % 2 = 1 then rg i / 2 ^^^ Gf.R else rg i / 2 := by rw [HRG.out, HRG.out, Gf.stepN_succ']; rfl
      have hbit := HRG.out i
      have hrange : (List.range (i + 1)).map rg = (List.range i).map rg ++ [rg i] := by rw [List.range_succ, List.map_append]; rfl
      rw [show i = 8 * (4096 : Int).toNat - 1 - (k : Int).toNat by have := HZ.out; simp; omega] at hbit
      have hbit2 : Gf.stepN (8 * (4096 : Int).toNat - 1 - (k : Int).toNat) Gf.R = rg i := by rw [← hbit]; congr 1; have := HZ.out; simp; omega
      clear hbit
      obtain ⟨c, HC⟩ := nm (rg i)
      rw [HC.out] at hc hc0 hst hbit2 hrange
      obtain ⟨c2, HC2⟩ := nm (rg (i + 1))
      rw [HC2.out] at hst
      rw [HC.out]
      have HB2 := Lib.hid hbit2
      have HRN := Lib.hid hrange
      have HST := Lib.hid hst
      have hk0 : (0 : Int) ≤ (k : Int) := by omega
      have hcz : ((c : Int) == 0) = false := by simp; omega
      have hcn : ¬ (c : Int) = 0 := by omega
      have hll : ((List.range i).map rg).length < 17592186044415 := by simp; omega
      have hhs := HBR.out.size
      clear hbit2 hrange hst
      have hkw : (k : Int) ≤ 32767 := by have := HZ.out; omega
      have T64 := HT.out.keep HBR.out (Nat.le_refl _)
      have HT64 := Lib.hid T64
      clear T64
      by_cases h64 : k % 64 = 0
      · rcases Nat.mod_two_eq_zero_or_one c with h | h
        · skip
          have hm : (k : Int) % 64 = 0 := by omega
          have hs : c2 = c / 2 := by rw [HST.out, if_neg (by omega)]
          have hx : (c : Int) / 2 = (c2 : Int) := by omega
          have hb := and_one32 c hc
          rw [h] at hb
          clear hs h h64
          go_wp2_with fail
          refine (cbit_any 4096 (k : Int) (by decide) (by decide) hk0 (by omega) _ HT64.out).mono ?_
          rintro e w2 ⟨rfl, hb2⟩
          rw [HB2.out]
          have HO2 := Lib.hid (HOW.out.keep hb2 (Nat.le_refl _))
          have HBB := Lib.hid (HBR.out.trans (hb2.mono HBR.out.size))
          have hhs2 := HBB.out.size
          clear hb2
          go_wp2_with (at_builtin; refine wpl_app1 rfl (.tmp 40) (.tmp 42) 22 rfl .u32 23 4 Tryd.underlying22 info_u32 (by decide) w.heap.size _ ((List.range i).map rg) w2 HO2.out rfl _ c rfl rfl hll hhs2 ?_; intro v' w5 hown5 hb5)
          have hbe := Lib.hid (HBB.out.trans hb5)
          have hoe := Lib.hid hown5
          clear hown5 hb5
          try go_wp2_with fail
          go_roundw
          case rel => exact ⟨i + 1, (k : Int) - 1, Lib.hid (by have := HZ.out; omega), by rw [HC2.out], rfl, by rw [HRN.out]; exact hoe.out, hbe.out⟩
          case measure => simp [intOf]
        · skip
          have hm : (k : Int) % 64 = 0 := by omega
          have hs : c2 = c / 2 ^^^ Gf.R := by rw [HST.out, if_pos h]
          have hx : bits BinOp.xor IntKind.u32 ((c : Int) / 2) 3988292384 = (c2 : Int) := by rw [xor_R32 c hc, hs]
          have hb := and_one32 c hc
          rw [h] at hb
          clear hs h h64
          go_wp2_with fail
          refine (cbit_any 4096 (k : Int) (by decide) (by decide) hk0 (by omega) _ HT64.out).mono ?_
          rintro e w2 ⟨rfl, hb2⟩
          rw [HB2.out]
          have HO2 := Lib.hid (HOW.out.keep hb2 (Nat.le_refl _))
          have HBB := Lib.hid (HBR.out.trans (hb2.mono HBR.out.size))
          have hhs2 := HBB.out.size
          clear hb2
          go_wp2_with (at_builtin; refine wpl_app1 rfl (.tmp 40) (.tmp 42) 22 rfl .u32 23 4 Tryd.underlying22 info_u32 (by decide) w.heap.size _ ((List.range i).map rg) w2 HO2.out rfl _ c rfl rfl hll hhs2 ?_; intro v' w5 hown5 hb5)
          have hbe := Lib.hid (HBB.out.trans hb5)
          have hoe := Lib.hid hown5
          clear hown5 hb5
          try go_wp2_with fail
          go_roundw
          case rel => exact ⟨i + 1, (k : Int) - 1, Lib.hid (by have := HZ.out; omega), by rw [HC2.out], rfl, by rw [HRN.out]; exact hoe.out, hbe.out⟩
          case measure => simp [intOf]
      · rcases Nat.mod_two_eq_zero_or_one c with h | h
        · skip
          have hm : ¬ (k : Int) % 64 = 0 := by omega
          have hs : c2 = c / 2 := by rw [HST.out, if_neg (by omega)]
          have hx : (c : Int) / 2 = (c2 : Int) := by omega
          have hb := and_one32 c hc
          rw [h] at hb
          clear hs h h64
          go_wp2_with (at_builtin; refine wpl_app1 rfl (.tmp 40) (.tmp 42) 22 rfl .u32 23 4 Tryd.underlying22 info_u32 (by decide) w.heap.size _ ((List.range i).map rg) wr HOW.out rfl _ c rfl rfl hll hhs ?_; intro v' w5 hown5 hb5)
          have hbe := Lib.hid (HBR.out.trans hb5)
          have hoe := Lib.hid hown5
          clear hown5 hb5
          try go_wp2_with fail
          go_roundw
          case rel => exact ⟨i + 1, (k : Int) - 1, Lib.hid (by have := HZ.out; omega), by rw [HC2.out], rfl, by rw [HRN.out]; exact hoe.out, hbe.out⟩
          case measure => simp [intOf]
        · skip
          have hm : ¬ (k : Int) % 64 = 0 := by omega
          have hs : c2 = c / 2 ^^^ Gf.R := by rw [HST.out, if_pos h]
          have hx : bits BinOp.xor IntKind.u32 ((c : Int) / 2) 3988292384 = (c2 : Int) := by rw [xor_R32 c hc, hs]
          have hb := and_one32 c hc
          rw [h] at hb
          clear hs h h64
          go_wp2_with (at_builtin; refine wpl_app1 rfl (.tmp 40) (.tmp 42) 22 rfl .u32 23 4 Tryd.underlying22 info_u32 (by decide) w.heap.size _ ((List.range i).map rg) wr HOW.out rfl _ c rfl rfl hll hhs ?_; intro v' w5 hown5 hb5)
          have hbe := Lib.hid (HBR.out.trans hb5)
          have hoe := Lib.hid hown5
          clear hown5 hb5
          try go_wp2_with fail
          go_roundw
          case rel => exact ⟨i + 1, (k : Int) - 1, Lib.hid (by have := HZ.out; omega), by rw [HC2.out], rfl, by rw [HRN.out]; exact hoe.out, hbe.out⟩
          case measure => simp [intOf]
    · have hi : i = 32768 := by have := HZ.out; omega
      have hz1 : z = -1 := by have := HZ.out; omega
      subst hz1
      have hoI := owns_to_I HOW.out
      have hze : ((List.range i).map rg).map (fun (x : Nat) => (x : Int)) = Gf.factsI := by rw [hi, ← HF.out]; rfl
      have HI := Lib.hid hi
      rw [hze] at hoI
      have hfl : Gf.factsI.length = 32768 := by unfold Gf.factsI; rw [List.length_map, Gf.facts_length]
      obtain ⟨f1, f2, f3⟩ := Gf.factsI_perm (srtU_perm Gf.factsI)
      have hsrt := srtU_sorted Gf.factsI
      have hso := fun (W : World) (v : Value) (h : OwnsI .u32 23 W w.heap.size v Gf.factsI) (hb : w.heap.size ≤ W.heap.size) => sort_ownU (base := w.heap.size) (v := v) Gf.factsI (by omega) (by omega) W h hb
      obtain ⟨fs, HFS⟩ := nm Gf.factsI
      rw [HFS.out] at hoI hfl f1 f2 f3 hsrt hso
      obtain ⟨ys, HYS⟩ := nm (srtU fs)
      rw [HYS.out] at f1 f2 f3 hsrt hso
      have HSO := Lib.hid hso
      have HOI := Lib.hid hoI
      have HSR := Lib.hid hsrt
      have F1 := Lib.hid f1
      have F2 := Lib.hid f2
      have F3 := Lib.hid f3
      have hhs := HBR.out.size
      clear hze hfl hsrt hso hoI f1 f2 f3 hi HOW
      obtain ⟨wo, rfl⟩ : ∃ wo : World, wo = wr := ⟨_, rfl⟩
      go_wp2_with fail
      refine (HSO.out wo _ HOI.out hhs).mono ?_
      rintro e ws ⟨rfl, hos, hbs⟩
      have HBS := Lib.hid (HBR.out.trans hbs)
      clear hbs HSO HOI HBR
      rcases hos.2 with ⟨rfl, hq⟩ | ⟨gb, cap, cur, rfl, hbase, hgb, r1, r2, r3, r4⟩
      · exact absurd hq (by rw [F1.out]; decide)
      have hcell : ∀ j, j < ys.length → ws.cell? ⟨gb, j, none⟩ = some (.int .u32 (ys.getD j 0)) := fun j hj => by
        have h := hos.cellAt rfl j hj
        rw [h, List.getD]
      have hgs : gb < ws.heap.size := (Array.getElem?_eq_some_iff.1 hgb).1
      have HCL := Lib.hid hcell
      clear hcell r1 r2 r3 r4 hgb hbase hos
      obtain ⟨n, HN⟩ := nm ys.length
      rw [HN.out] at HCL ⊢
      have hn : n = 32768 := by rw [← HN.out]; exact F1.out
      have HNN := Lib.hid hn
      have hnb : n < 4611686018427387904 := by omega
      clear hn
      go_wp2_with fail
      go_loopw [56] (fun vi wr => ∃ i : Nat, i ≤ n ∧ vi = .int .i64 (i : Int) ∧ Below ws.heap.size ws wr) (fun vi _ => n - (intOf vi).toNat)
      case atStart => exact ⟨0, Nat.zero_le _, rfl, Below.refl _ _⟩
      case round =>
        obtain ⟨i, hin, rfl, hBj⟩ := hrel
        have HBJ := Lib.hid hBj
        clear hBj
        by_cases hlt : i < n
        · have hil : i < ys.length := by rw [HN.out]; exact hlt
          have hci := cell_keep HBJ.out (HCL.out i hlt) hgs
          have hall : ∀ j, j < ys.length → wr.cell? ⟨gb, 0 + j, none⟩ = some (.int .u32 (ys.getD j 0)) := fun j hj => by
            rw [Nat.zero_add]; exact cell_keep HBJ.out (HCL.out j (by rw [← HN.out]; exact hj)) hgs
          have hmem : ys.getD i 0 ∈ ys := by rw [getD_get ys _ hil]; exact List.getElem_mem hil
          obtain ⟨x, hx, hx32, hxf⟩ := F3.out _ hmem
          have hbs := fun (t : Int) => SoU.slices_BinarySearch_int gb 0 n cap ys t wr (Nat.le_of_eq HN.out.symm) hnb hall (by rw [List.take_of_length_le (Nat.le_of_eq HN.out)]; exact HSR.out)
          have hxor : bits BinOp.xor IntKind.u32 (x : Int) (d : Int) = ((x ^^^ Gf.R : Nat) : Int) := by rw [HDR.out]; exact xor_nat32 x Gf.R hx32 (by decide)
          have hno : (ys.take n).contains ((x ^^^ Gf.R : Nat) : Int) = false := by
            rw [List.take_of_length_le (Nat.le_of_eq HN.out)]
            rw [Bool.eq_false_iff]
            intro h
            exact hxf (List.contains_iff_mem.1 h)
          have hpv : ∀ p, p + 1 = i → ∃ y : Int, wr.cell? ⟨gb, p, none⟩ = some (.int .u32 y) ∧ ¬ y = (x : Int) := fun p hp => by
            refine ⟨ys.getD p 0, cell_keep HBJ.out (HCL.out p (by omega)) hgs, fun he => ?_⟩
            have hpl : p < ys.length := by omega
            rw [← hx, getD_get ys _ hil, getD_get ys _ hpl] at he
            exact (List.pairwise_iff_getElem.1 (List.nodup_iff_pairwise_ne.1 F2.out)) p i hpl hil (by omega) he
          rw [hx] at hci
          obtain ⟨y, HY⟩ := nm (x ^^^ Gf.R)
          rw [HY.out] at hxor hno
          have HNO := Lib.hid hno
          have HBSR := Lib.hid hbs
          have hcnt := nm ((ys.take n).countP (· < (y : Int)))
          obtain ⟨ct, HCT⟩ := hcnt
          clear hx hxf hmem hall hbs hno
          by_cases hi0 : i = 0
          · subst hi0
            go_wp2_with fail
            refine (HBSR.out (y : Int)).mono ?_
            rintro e wb ⟨rfl, q, rfl⟩
            rw [HNO.out, HCT.out]
            go_wp2_with fail
            go_roundw
            case rel => exact ⟨0 + 1, by omega, by go_num, below_drewN HBJ.out _⟩
            case measure => simp [intOf]; omega
          · obtain ⟨p, rfl⟩ : ∃ p, i = p + 1 := ⟨i - 1, by omega⟩
            obtain ⟨u, hcp, hup⟩ := hpv p rfl
            have hq1 : ((p + 1 : Nat) : Int) - 1 = (p : Int) := by omega
            have hq2 : (0 : Int) < ((p + 1 : Nat) : Int) := by omega
            clear hpv
            go_wp2_with fail
            refine (HBSR.out (y : Int)).mono ?_
            rintro e wb ⟨rfl, q, rfl⟩
            rw [HNO.out, HCT.out]
            go_wp2_with fail
            go_roundw
            case rel => exact ⟨p + 1 + 1, by omega, by go_num, below_drewN HBJ.out _⟩
            case measure => simp [intOf]; omega
        · obtain rfl : i = n := by omega
          have HBZ := Lib.hid (HBS.out.trans (HBJ.out.mono HBS.out.size))
          clear HBJ HBS HCL
          go_wp2_with fail
          refine (awake_any _ (HT.out.keep HBZ.out (Nat.le_refl _))).mono ?_
          rintro e we ⟨rfl, hbz⟩
          have HBE := Lib.hid (HBZ.out.trans (hbz.mono HBZ.out.size))
          clear hbz
          go_wp2_with fail
          go_ret
          exact ⟨rfl, HBE.out⟩
end Go.Proofs.YthplekkigkalhaaDoor
