/- The walk of the reference's Find. -/
import Derived.Test.YtomddpplhllgcaaDoorFind
import Derived.Test.YtomddpplhllgcaaDoorStep
namespace Gf
theorem flip_flip (xs : List Nat) (k : Nat) (h : k / 8 < xs.length) : flip (flip xs k) k = xs := by
  unfold flip
  rw [List.set_set, List.getElem?_set_self h]
  simp only [Option.getD_some]
  rw [xor_cancel, List.getElem?_eq_getElem h]
  simp
end Gf
namespace Go.Proofs.YtomddpplhllgcaaDoor
open Go Go.RowKit Go.Shelf

theorem sealedB_syn (xs : List Nat) (hx : Bytes xs) (hl : 4 ≤ xs.length) : sealedB xs = decide (syn xs = 0) := by
  rw [sealedB_run xs hx hl, decide_eq_decide]
  unfold syn
  exact Gf.xor_eq_zero.symm
theorem syn_flip (xs : List Nat) (k : Nat) (h : k / 8 < xs.length) : syn (Gf.flip xs k) = syn xs ^^^ Gf.bitv xs.length k := by
  unfold syn
  rw [Gf.run_flip _ _ _ h, Gf.xor_right_comm]
theorem sealedB_flip1 (xs : List Nat) (hx : Bytes xs) (hl : 4 ≤ xs.length) (k : Nat) (h : k < 8 * xs.length) : sealedB (Gf.flip xs k) = decide (Gf.stepN (8 * xs.length - 1 - k) Gf.R = syn xs) := by
  rw [sealedB_syn _ (Gf.bytes_flip hx k) (by rw [Gf.flip_length]; exact hl), syn_flip xs k (by omega), decide_eq_decide, Gf.xor_eq_zero]
  exact ⟨fun h => h.symm, fun h => h.symm⟩
theorem atOf_hit (m c k : Nat) (hk : k < 8 * m) (h : Gf.stepN (8 * m - 1 - k) Gf.R = c) : atOf m c (List.range (8 * m - k)) = (k : Int) := by
  rw [show 8 * m - k = (8 * m - 1 - k) + 1 by omega, List.range_succ, atOf_snoc, if_pos h]
  omega
theorem atOf_miss (m c k : Nat) (hk : k < 8 * m) (h : Gf.stepN (8 * m - 1 - k) Gf.R ≠ c) : atOf m c (List.range (8 * m - k)) = atOf m c (List.range (8 * m - (k + 1))) := by
  rw [show 8 * m - k = (8 * m - (k + 1)) + 1 by omega, List.range_succ, atOf_snoc, if_neg (by rw [show 8 * m - (k + 1) = 8 * m - 1 - k by omega]; exact h)]

theorem rfind_bad (v : Value) (xs : List Nat) (w : World) (hv : Reads .u8 w v xs) (h : xs.length < 4 ∨ 65536 < xs.length) :
    Calls Tryd.prog 34 #[v] w fun e w' => e = .returned (.tuple #[.int .i64 0, .int .i64 2]) ∧ w = w' := by
  obtain ⟨a, cap, rfl, hlc, hcm, hcs⟩ := hv
  clear hcs
  obtain ⟨L, HL⟩ := nm xs.length
  rw [HL.out] at hlc h ⊢
  by_cases h1 : L < 4
  · clear h
    go_enter Tryd.func34, Tryd.ntmps34
    go_wp2_with fail
    go_ret2
    exact ⟨rfl, rfl⟩
  · have h2 : 65536 < L := by omega
    clear h
    go_enter Tryd.func34, Tryd.ntmps34
    go_wp2_with fail
    go_ret2
    exact ⟨rfl, rfl⟩
set_option maxRecDepth 100000 in
set_option maxHeartbeats 2000000 in
theorem rfind_ok (v : Value) (xs : List Nat) (w : World) (hv : Reads .u8 w v xs) (hx : Bytes xs) (h1 : 4 ≤ xs.length) (h2 : xs.length ≤ 65536) :
    Calls Tryd.prog 34 #[v] w fun e w' => e = .returned (.tuple #[.int .i64 (findK xs), .int .i64 (findE xs)]) ∧ Below w.heap.size w w' := by
  have hfk : findK xs = max 0 (atOf xs.length (syn xs) (List.range (8 * xs.length))) := by unfold findK; rw [if_neg (by omega)]
  have hfe : findE xs = if atOf xs.length (syn xs) (List.range (8 * xs.length)) < 0 then 6 else 0 := by unfold findE; rw [if_neg (by omega)]
  have hsl := sealedB_syn xs hx h1
  have hfl := sealedB_flip1 xs hx h1
  have hbf := fun k => Gf.bytes_flip hx k
  have hv0 := hv
  obtain ⟨a, cap, rfl, hlc, hcm, hcs⟩ := hv
  obtain ⟨m, HL⟩ := nm xs.length
  rw [HL.out] at hlc h1 h2 hfk hfe hv0 hfl ⊢
  obtain ⟨c, HC⟩ := nm (syn xs)
  rw [HC.out] at hfk hfe hsl hfl
  have HFK := Lib.hid hfk
  have HFE := Lib.hid hfe
  have HSL := Lib.hid hsl
  have HFL := Lib.hid hfl
  have HBF := Lib.hid hbf
  have HV := Lib.hid hv0
  clear hcs hfk hfe hsl hfl hbf hv0
  go_enter Tryd.func34, Tryd.ntmps34
  go_wp2_with (at_builtin; refine wpl_app rfl (.tmp 14) (.tmp 15) 25 rfl .u8 5 1 Tryd.underlying25 info_u8 (by decide) w.heap.size _ [] _ (owns_empty .u8 5 w w.heap.size (Nat.le_refl _)) rfl _ xs rfl ?_ ?_ ?_ ?_; (exact HV.out.keep (bel_alloc w _) (Nat.le_refl _)); (rw [HL.out]; simp; omega); (simp); intro vo w1 ho hb1)
  rw [List.nil_append] at ho
  obtain ⟨ac, lc, cc, rfl, hlc', hgc⟩ := ho.slice
  have hlm : lc = m := by have := HL.out; omega
  subst hlm
  have hB1 := (bel_alloc w (.cells #[] 5)).trans hb1
  have HO := Lib.hid ho
  clear ho hb1 hlc' hgc
  go_wp2_with fail
  refine (rsealed_any _ xs _ HO.out.reads hx (by rw [HL.out]; omega)).mono ?_
  rintro e w2 ⟨rfl, hb2⟩
  rw [HSL.out]
  have ho2 := HO.out.keep hb2 (Nat.le_refl _)
  have hB2 := hB1.trans (hb2.mono hB1.size)
  clear HO hB1 hb2
  by_cases hc0 : c = 0
  · subst hc0
    rw [atOf_zero] at HFK HFE
    go_wp2_with fail
    go_ret2
    exact ⟨by rw [HFK.out, HFE.out]; rfl, hB2⟩
  · rw [show decide (c = 0) = false from decide_eq_false hc0]
    go_wp2_with fail
    go_loopw [5] (fun vk wr => ∃ k : Nat, k ≤ 8 * lc ∧ vk = .int .i64 (k : Int) ∧ Hid (atOf lc c (List.range (8 * lc)) = atOf lc c (List.range (8 * lc - k))) ∧ Owns .u8 5 wr w.heap.size (.slice ac lc cc) xs ∧ Below w.heap.size w wr) (fun vk _ => 8 * lc - (intOf vk).toNat)
    case atStart => exact ⟨0, Nat.zero_le _, rfl, Lib.hid rfl, ho2, hB2⟩
    case round =>
      obtain ⟨k, hk, rfl, hat, hor, hBr⟩ := hrel
      by_cases hlt : k < 8 * lc
      · obtain ⟨g, x, q, rfl, hg1, hg2, hcell, hfr, hx1, hxx, HSET, hzl, hzt, hzd, hcl, hcm2⟩ := flip_step hor hx hlt
        have hsf := HFL.out k hlt
        have hat1 := atOf_hit lc c k hlt
        have hat2 := atOf_miss lc c k hlt
        have hff := Gf.flip_flip xs k (by rw [HL.out]; omega)
        have H1 := Lib.hid hat1
        have H2 := Lib.hid hat2
        have HSF := Lib.hid hsf
        have HFF := Lib.hid hff
        have hk0 : (0 : Int) ≤ (k : Int) := by omega
        clear hat1 hat2 hsf hff hor ho2 hB2
        go_wp2_with fail
        go_region
        have hBs := (hBr.setCell (p := ⟨g, k / 8, none⟩) hg1 (.int .u8 (q : Int))).drew
        have hos : Owns .u8 5 (wr.setCell ⟨g, k / 8, none⟩ (.int .u8 (q : Int))).drew w.heap.size (.slice (some ⟨g, 0, none⟩) lc cc) (Gf.flip xs k) := World.ownsRow.drew HSET.out
        have HOS := Lib.hid hos
        clear hos hxx hcell hfr
        go_wp2_with fail
        refine (rsealed_any _ (Gf.flip xs k) _ HOS.out.reads (HBF.out k) (by rw [Gf.flip_length, HL.out]; omega)).mono ?_
        rintro e w3 ⟨rfl, hb3⟩
        rw [HSF.out]
        have hB3 := hBs.trans (hb3.mono hBs.size)
        by_cases hhit : Gf.stepN (8 * lc - 1 - k) Gf.R = c
        · have ha := H1.out hhit
          rw [decide_eq_true hhit]
          have HA := Lib.hid ha
          clear ha hhit hzt hzd
          go_wp2_with fail
          go_ret2
          exact ⟨by rw [HFK.out, HFE.out, hat.out, HA.out, if_neg (by omega), Int.max_eq_right (by omega)]; rfl, hB3⟩
        · have ha := H2.out hhit
          rw [decide_eq_false hhit]
          have HA := Lib.hid ha
          have ho3 := HOS.out.keep hb3 (Nat.le_refl _)
          clear ha hhit HSET
          obtain ⟨g', x2, q2, hge, hg12, hg22, hcell2, hfr2, hx2, hxx2, HSET2, _, _, _, _, _⟩ := flip_step ho3 (HBF.out k) hlt
          cases hge
          clear ho3 HOS hb3 hBs
          go_wp2_with fail
          go_region
          go_wp2_with fail
          go_roundw
          case rel =>
            refine ⟨k + 1, by omega, by go_num, Lib.hid (by rw [hat.out, HA.out]), ?_, (hB3.setCell (p := ⟨g, k / 8, none⟩) hg1 (.int .u8 (q2 : Int))).drew⟩
            have h := HSET2.out
            rw [HFF.out] at h
            exact World.ownsRow.drew h
          case measure => simp [intOf]; omega
      · obtain rfl : k = 8 * lc := by omega
        have ha : atOf lc c (List.range (8 * lc)) = -1 := by rw [hat.out, Nat.sub_self]; rfl
        have HA := Lib.hid ha
        clear ha
        go_wp2_with fail
        go_ret2
        exact ⟨by rw [HFK.out, HFE.out, HA.out]; rfl, hBr⟩
end Go.Proofs.YtomddpplhllgcaaDoor
