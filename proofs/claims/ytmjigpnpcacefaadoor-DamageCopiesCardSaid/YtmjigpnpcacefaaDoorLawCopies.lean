/- The walk of the law DamageCopies. -/
import Derived.Test.YtmjigpnpcacefaaDoorAwakeD
import Derived.Test.YtmjigpnpcacefaaDoorDmgR
import Derived.Test.YtmjigpnpcacefaaDoorOwnV
namespace Go.Proofs.YtmjigpnpcacefaaDoor
open Go Go.RowKit Go.Shelf

theorem row_three (w : World) (a b c : Value) (t : TypeId) (N : Nat) (hN : w.heap.size = N) : (w.alloc (.cells #[a, b, c] t)).cell? ⟨N, 0, none⟩ = some a ∧ (w.alloc (.cells #[a, b, c] t)).cell? ⟨N, 1, none⟩ = some b ∧ (w.alloc (.cells #[a, b, c] t)).cell? ⟨N, 2, none⟩ = some c := by
  subst hN
  have h : (w.alloc (.cells #[a, b, c] t)).heap[w.heap.size]? = some (.cells #[a, b, c] t (0, 0)) := World.alloc_heap_new w _
  refine ⟨?_, ?_, ?_⟩ <;> (unfold World.cell?; rw [h]; rfl)
theorem row_four (w : World) (a b c d : Value) (t : TypeId) (k : Nat) (hk : k < 4) : ∃ u, (w.alloc (.cells #[a, b, c, d] t)).cell? ⟨w.heap.size, k, none⟩ = some u ∧ (u = a ∨ u = b ∨ u = c ∨ u = d) := by
  have h : (w.alloc (.cells #[a, b, c, d] t)).heap[w.heap.size]? = some (.cells #[a, b, c, d] t (0, 0)) := World.alloc_heap_new w _
  rcases (show k = 0 ∨ k = 1 ∨ k = 2 ∨ k = 3 by omega) with rfl | rfl | rfl | rfl
  · exact ⟨a, by unfold World.cell?; rw [h]; rfl, .inl rfl⟩
  · exact ⟨b, by unfold World.cell?; rw [h]; rfl, .inr (.inl rfl)⟩
  · exact ⟨c, by unfold World.cell?; rw [h]; rfl, .inr (.inr (.inl rfl))⟩
  · exact ⟨d, by unfold World.cell?; rw [h]; rfl, .inr (.inr (.inr rfl))⟩
set_option maxRecDepth 100000 in
set_option maxHeartbeats 8000000 in
theorem damageCopies_all (v : Value) (xs : List Nat) (w : World) (hv : Reads .u8 w v xs) (hx : Bytes xs) (i : Nat) (hi : i < 256) (j : Nat) (hj : j < 256) (k : Nat) (hk : k < 256) (hT : Tab w) :
    Calls Tryd.prog 7 #[v, .int .u8 i, .int .u8 j, .int .u8 k] w fun e w' => e = .returned (.bool true) ∧ Below w.heap.size w w' := by
  have HV := Lib.hid hv
  have HT := Lib.hid hT
  obtain ⟨av, cv, rfl, hlv, hcv, hsv⟩ := hv
  obtain ⟨n, HN⟩ := nm xs.length
  rw [HN.out] at hlv HV ⊢
  obtain ⟨N, HN2⟩ := nm (min n 200)
  have hn2a : N ≤ n := by have := HN2.out; omega
  have hn2b : N ≤ 200 := by have := HN2.out; omega
  have hmin1 : min (n : Int) 200 = (N : Int) := by have := HN2.out; omega
  have hlp : (xs.take N).length = N := by rw [List.length_take, HN.out]; omega
  have hbp : Bytes (xs.take N) := hx.take N
  obtain ⟨d, HD⟩ := nm (N + 1)
  have hd1 : IntKind.i64.wrap ((N : Int) + 1) = (d : Int) := by rw [IntWalk.i64_in _ (by omega)]; have := HD.out; omega
  have hd0 : ¬ d = 0 := by have := HD.out; omega
  obtain ⟨p, HP⟩ := nm (i % d)
  obtain ⟨q, HQ⟩ := nm (j % d)
  obtain ⟨r, HR⟩ := nm (k % d)
  have hp1 : p ≤ N := by have := Nat.mod_lt i (show 0 < d by omega); have := HP.out; have := HD.out; omega
  have hq1 : q ≤ N := by have := Nat.mod_lt j (show 0 < d by omega); have := HQ.out; have := HD.out; omega
  have hr1 : r ≤ N := by have := Nat.mod_lt k (show 0 < d by omega); have := HR.out; have := HD.out; omega
  have hwi : IntKind.i64.wrap (i : Int) = (i : Int) := IntWalk.i64_in _ (by omega)
  have hwj : IntKind.i64.wrap (j : Int) = (j : Int) := IntWalk.i64_in _ (by omega)
  have hwk : IntKind.i64.wrap (k : Int) = (k : Int) := IntWalk.i64_in _ (by omega)
  have hti : (i : Int).tmod (d : Int) = (p : Int) := by rw [Int.tmod_eq_emod_of_nonneg (by omega)]; have := HP.out; omega
  have htj : (j : Int).tmod (d : Int) = (q : Int) := by rw [Int.tmod_eq_emod_of_nonneg (by omega)]; have := HQ.out; omega
  have htk : (k : Int).tmod (d : Int) = (r : Int) := by rw [Int.tmod_eq_emod_of_nonneg (by omega)]; have := HR.out; omega
  clear hsv hT
  go_enter Tryd.func7, Tryd.ntmps7
  go_wp2_with fail
  refine (awakeD_any w HT.out).mono ?_
  rintro e w1 ⟨rfl, hb1⟩
  have HB1 := Lib.hid hb1
  have HRB1 := Lib.hid (reads_pre (HV.out.keep hb1 (Nat.le_refl _)) hn2a)
  obtain ⟨B, HB⟩ := nm (xs.take N)
  rw [HB.out] at hlp hbp HRB1
  have HLP := Lib.hid hlp
  clear hb1 hlp
  go_wp2_with fail
  go_region
  have hc3 := row_three w1 (.int .i64 (p : Int)) (.int .i64 (q : Int)) (.int .i64 (r : Int)) 3 _ rfl
  obtain ⟨hc0, hc1, hc2⟩ := hc3
  clear hd1 hd0 hwi hwj hwk hti htj htk hmin1
  obtain ⟨f, HF⟩ := nm (min (min p q) r)
  obtain ⟨t, HTT⟩ := nm (max (max p q) r)
  obtain ⟨m, HM⟩ := nm (p + q + r - f - t)
  have hft : f ≤ m ∧ m ≤ t ∧ t ≤ N := by have := HF.out; have := HTT.out; have := HM.out; omega
  obtain ⟨hfm, hmt, htN⟩ := hft
  obtain ⟨a1, HA1⟩ := nm (min p q)
  obtain ⟨b1, HB1'⟩ := nm (max p q)
  have hm1 : (if q < p then (q : Int) else (p : Int)) = (a1 : Int) := by have := HA1.out; split <;> omega
  have hm2 : (if r < a1 then (r : Int) else (a1 : Int)) = (f : Int) := by have := HA1.out; have := HF.out; split <;> omega
  have hm3 : (if p < q then (q : Int) else (p : Int)) = (b1 : Int) := by have := HB1'.out; split <;> omega
  have hm4 : (if b1 < r then (r : Int) else (b1 : Int)) = (t : Int) := by have := HB1'.out; have := HTT.out; split <;> omega
  have hs1 : IntKind.i64.wrap ((p : Int) + (q : Int)) = (p : Int) + (q : Int) := IntWalk.i64_in _ (by omega)
  have hs2 : IntKind.i64.wrap ((p : Int) + (q : Int) + (r : Int)) = (p : Int) + (q : Int) + (r : Int) := IntWalk.i64_in _ (by omega)
  have hs3 : IntKind.i64.wrap ((p : Int) + (q : Int) + (r : Int) - (f : Int)) = (p : Int) + (q : Int) + (r : Int) - (f : Int) := IntWalk.i64_in _ (by omega)
  have hs4 : IntKind.i64.wrap ((p : Int) + (q : Int) + (r : Int) - (f : Int) - (t : Int)) = (m : Int) := by rw [IntWalk.i64_in _ (by omega)]; have := HM.out; have := HF.out; have := HTT.out; omega
  go_wp2_with fail
  go_quiet (fail)
  go_wp2_with fail
  go_quiet (fail)
  go_wp2_with fail
  clear hc0 hc1 hc2 hm1 hm2 hm3 hm4 hs1 hs2 hs3 hs4
  have hft : f ≤ t := Nat.le_trans hfm hmt
  have htB : t ≤ B.length := by rw [HLP.out]; exact htN
  have hBl : B.length < 400000 := by rw [HLP.out]; omega
  have HTB := Lib.hid htB
  have HBL := Lib.hid hBl
  clear htB hBl
  refine (double_any _ B f t hft HTB.out _ (HRB1.out.keep (below_drewN (bel_alloc w1 _) _) (Nat.le_refl _)) HBL.out).mono ?_
  rintro e w3 ⟨v', rfl, ho, hb⟩
  have hb13 := gr_trans (below_drewN (bel_alloc w1 (.cells #[.int .i64 (p : Int), .int .i64 (q : Int), .int .i64 (r : Int)] 3)) _) hb
  have HB := Lib.hid (HRB1.out.keep hb13 (Nat.le_refl _))
  have HBT := Lib.hid (gr_trans HB1.out hb13)
  obtain ⟨aw3, nw3, cw3, rfl, hnw3, -⟩ := owns_form3 ho
  have HD := Lib.hid (show Reads .u8 w3 (.slice aw3 nw3 cw3) (doubleV B f t) from ho.reads)
  have HNw3 := Lib.hid (hnw3.trans (doubleV_length B f t hft HTB.out))
  have HDL := Lib.hid (doubleV_length B f t hft HTB.out)
  have HD1 := Lib.hid (drop_one B f t hft HTB.out)
  have HD2 := Lib.hid (drop_two B f t hft HTB.out)
  have HSW := Lib.hid (swap_back B f m t hfm hmt HTB.out)
  have HSL := Lib.hid (swapV_length B f m t hfm hmt HTB.out)
  have HTU := Lib.hid (turn_back B f t HTB.out)
  have HTL := Lib.hid (turnV_length B f t)
  have HLL := Lib.hid (dropV_length B f t hft HTB.out)
  clear ho hb hb13 hnw3 HRB1 HB1
  obtain ⟨g, HG⟩ := nm (2 * t - f)
  obtain ⟨m2, HM2⟩ := nm (f + t - m)
  have hg1 : 2 * (t : Int) - (f : Int) = (g : Int) := by have := HG.out; omega
  have hg2 : (f : Int) + (t : Int) - (m : Int) = (m2 : Int) := by have := HM2.out; omega
  rw [HG.out] at HD2
  rw [HM2.out] at HSW
  go_wp2_with fail
  refine (drop_any _ (doubleV B f t) f t hft (by rw [HDL.out, HLP.out]; omega) _ HD.out (by rw [HDL.out, HLP.out]; omega)).mono ?_
  rintro e w4 ⟨v', rfl, ho, hb⟩
  rw [show (doubleV B f t).take f ++ (doubleV B f t).drop t = B from HD1.out] at ho
  obtain ⟨aw4, nw4, cw4, rfl, hnw4, -⟩ := owns_form3 ho
  have H1 := Lib.hid ho.reads
  have HNw4 := Lib.hid hnw4
  replace HB := Lib.hid (HB.out.keep hb (Nat.le_refl _))
  replace HD := Lib.hid (HD.out.keep hb (Nat.le_refl _))
  replace HBT := Lib.hid (gr_trans HBT.out hb)
  clear ho hb hnw4
  go_wp2_with fail
  refine (drop_any _ (doubleV B f t) t g (by have := HG.out; omega) (by rw [HDL.out, HLP.out]; have := HG.out; omega) _ HD.out (by rw [HDL.out, HLP.out]; omega)).mono ?_
  rintro e w5 ⟨v', rfl, ho, hb⟩
  rw [show (doubleV B f t).take t ++ (doubleV B f t).drop g = B from HD2.out] at ho
  obtain ⟨aw5, nw5, cw5, rfl, hnw5, -⟩ := owns_form3 ho
  have H2 := Lib.hid ho.reads
  have HNw5 := Lib.hid hnw5
  replace HB := Lib.hid (HB.out.keep hb (Nat.le_refl _))
  replace HD := Lib.hid (HD.out.keep hb (Nat.le_refl _))
  replace H1 := Lib.hid (H1.out.keep hb (Nat.le_refl _))
  replace HBT := Lib.hid (gr_trans HBT.out hb)
  clear ho hb hnw5
  go_wp2_with fail
  refine (turn_any _ B f t hft HTB.out _ HB.out HBL.out).mono ?_
  rintro e w6 ⟨v', rfl, ho, hb⟩
  obtain ⟨aw6, nw6, cw6, rfl, hnw6, -⟩ := owns_form3 ho
  have HT2 := Lib.hid ho.reads
  have HNw6 := Lib.hid hnw6
  replace HB := Lib.hid (HB.out.keep hb (Nat.le_refl _))
  replace HD := Lib.hid (HD.out.keep hb (Nat.le_refl _))
  replace H1 := Lib.hid (H1.out.keep hb (Nat.le_refl _))
  replace H2 := Lib.hid (H2.out.keep hb (Nat.le_refl _))
  replace HBT := Lib.hid (gr_trans HBT.out hb)
  clear ho hb hnw6
  go_wp2_with fail
  refine (turn_any _ (turnV B f t) f t hft (by rw [HTL.out]; exact HTB.out) _ HT2.out (by rw [HTL.out]; exact HBL.out)).mono ?_
  rintro e w7 ⟨v', rfl, ho, hb⟩
  rw [HTU.out] at ho
  obtain ⟨aw7, nw7, cw7, rfl, hnw7, -⟩ := owns_form3 ho
  have H3 := Lib.hid ho.reads
  have HNw7 := Lib.hid hnw7
  replace HB := Lib.hid (HB.out.keep hb (Nat.le_refl _))
  replace HD := Lib.hid (HD.out.keep hb (Nat.le_refl _))
  replace H1 := Lib.hid (H1.out.keep hb (Nat.le_refl _))
  replace H2 := Lib.hid (H2.out.keep hb (Nat.le_refl _))
  replace HT2 := Lib.hid (HT2.out.keep hb (Nat.le_refl _))
  replace HBT := Lib.hid (gr_trans HBT.out hb)
  clear ho hb hnw7
  go_wp2_with fail
  refine (swap_any _ B f m t hfm hmt HTB.out _ HB.out HBL.out).mono ?_
  rintro e w8 ⟨v', rfl, ho, hb⟩
  rw [show B.take f ++ (B.drop m).take (t - m) ++ (B.drop f).take (m - f) ++ B.drop t = swapV B f m t from rfl] at ho
  obtain ⟨aw8, nw8, cw8, rfl, hnw8, -⟩ := owns_form3 ho
  have HS := Lib.hid ho.reads
  have HNw8 := Lib.hid hnw8
  replace HB := Lib.hid (HB.out.keep hb (Nat.le_refl _))
  replace HD := Lib.hid (HD.out.keep hb (Nat.le_refl _))
  replace H1 := Lib.hid (H1.out.keep hb (Nat.le_refl _))
  replace H2 := Lib.hid (H2.out.keep hb (Nat.le_refl _))
  replace HT2 := Lib.hid (HT2.out.keep hb (Nat.le_refl _))
  replace H3 := Lib.hid (H3.out.keep hb (Nat.le_refl _))
  replace HBT := Lib.hid (gr_trans HBT.out hb)
  clear ho hb hnw8
  go_wp2_with fail
  refine (swap_any _ (swapV B f m t) f m2 t (by have := HM2.out; omega) (by have := HM2.out; omega) (by rw [HSL.out]; exact HTB.out) _ HS.out (by rw [HSL.out]; exact HBL.out)).mono ?_
  rintro e w9 ⟨v', rfl, ho, hb⟩
  rw [show (swapV B f m t).take f ++ ((swapV B f m t).drop m2).take (t - m2) ++ ((swapV B f m t).drop f).take (m2 - f) ++ (swapV B f m t).drop t = B from HSW.out] at ho
  obtain ⟨aw9, nw9, cw9, rfl, hnw9, -⟩ := owns_form3 ho
  have H4 := Lib.hid ho.reads
  have HNw9 := Lib.hid hnw9
  replace HB := Lib.hid (HB.out.keep hb (Nat.le_refl _))
  replace HD := Lib.hid (HD.out.keep hb (Nat.le_refl _))
  replace H1 := Lib.hid (H1.out.keep hb (Nat.le_refl _))
  replace H2 := Lib.hid (H2.out.keep hb (Nat.le_refl _))
  replace HT2 := Lib.hid (HT2.out.keep hb (Nat.le_refl _))
  replace H3 := Lib.hid (H3.out.keep hb (Nat.le_refl _))
  replace HS := Lib.hid (HS.out.keep hb (Nat.le_refl _))
  replace HBT := Lib.hid (gr_trans HBT.out hb)
  clear ho hb hnw9
  go_wp2_with fail
  refine (drop_any _ B f t hft HTB.out _ HB.out HBL.out).mono ?_
  rintro e w10 ⟨v', rfl, ho, hb⟩
  rw [show B.take f ++ B.drop t = dropV B f t from rfl] at ho
  obtain ⟨aw10, nw10, cw10, rfl, hnw10, -⟩ := owns_form3 ho
  have HL := Lib.hid ho.reads
  have HNw10 := Lib.hid hnw10
  replace HB := Lib.hid (HB.out.keep hb (Nat.le_refl _))
  replace HD := Lib.hid (HD.out.keep hb (Nat.le_refl _))
  replace H1 := Lib.hid (H1.out.keep hb (Nat.le_refl _))
  replace H2 := Lib.hid (H2.out.keep hb (Nat.le_refl _))
  replace HT2 := Lib.hid (HT2.out.keep hb (Nat.le_refl _))
  replace H3 := Lib.hid (H3.out.keep hb (Nat.le_refl _))
  replace HS := Lib.hid (HS.out.keep hb (Nat.le_refl _))
  replace H4 := Lib.hid (H4.out.keep hb (Nat.le_refl _))
  replace HBT := Lib.hid (gr_trans HBT.out hb)
  clear ho hb hnw10
  have hl1 : (N : Int) + (t : Int) - (f : Int) = (nw3 : Int) := by have := HNw3.out; have := HLP.out; omega
  have hl2 : (N : Int) - ((t : Int) - (f : Int)) = (nw10 : Int) := by have := HNw10.out; have := HLL.out; have := HLP.out; omega
  go_wp2_with fail
  clear hl1 hl2
  have HW4 := Lib.hid (fun k hk => row_four w10 (.slice aw4 nw4 cw4) (.slice aw5 nw5 cw5) (.slice aw7 nw7 cw7) (.slice aw9 nw9 cw9) 28 k hk)
  have hb10 := bel_alloc w10 (.cells #[.slice aw4 nw4 cw4, .slice aw5 nw5 cw5, .slice aw7 nw7 cw7, .slice aw9 nw9 cw9] 28)
  obtain ⟨w11, HW11⟩ := nm (w10.alloc (.cells #[.slice aw4 nw4 cw4, .slice aw5 nw5 cw5, .slice aw7 nw7 cw7, .slice aw9 nw9 cw9] 28))
  simp only [HW11.out] at HW4
  rw [HW11.out] at hb10 ⊢
  have HR4 := Lib.hid (fun k (hk : k < 4) => (show ∃ u, w11.cell? ⟨w10.heap.size, k, none⟩ = some u ∧ Reads .u8 w11 u B from by
    obtain ⟨u, hu, hc⟩ := HW4.out k hk
    refine ⟨u, hu, ?_⟩
    rcases hc with rfl | rfl | rfl | rfl
    · exact H1.out.keep hb10 (Nat.le_refl _)
    · exact H2.out.keep hb10 (Nat.le_refl _)
    · exact H3.out.keep hb10 (Nat.le_refl _)
    · exact H4.out.keep hb10 (Nat.le_refl _)))
  replace HB := Lib.hid (HB.out.keep hb10 (Nat.le_refl _))
  replace HL := Lib.hid (HL.out.keep hb10 (Nat.le_refl _))
  replace HT2 := Lib.hid (HT2.out.keep hb10 (Nat.le_refl _))
  replace HBT := Lib.hid (gr_trans HBT.out hb10)
  clear HW4 H1 H2 H3 H4 HS HD HW11 hb10
  go_loopw [207] (fun vk wr => ∃ k : Nat, k ≤ 4 ∧ vk = .int .i64 (k : Int) ∧ Below w11.heap.size w11 wr) (fun vk _ => 4 - (intOf vk).toNat)
  case atStart => exact ⟨0, by omega, rfl, Below.refl _ _⟩
  case round =>
    obtain ⟨k, hk, rfl, hBr⟩ := hrel
    by_cases hlt : k < 4
    · obtain ⟨u, hu, hru⟩ := HR4.out k hlt
      have ck := cell_keep hBr hu (cell_lt hu)
      have HRU := Lib.hid (hru.keep hBr (Nat.le_refl _))
      have HBR := Lib.hid hBr
      clear hu hru hBr
      go_wp2_with fail
      refine (sameBytes_any _ _ B B wr HRU.out (HB.out.keep HBR.out (Nat.le_refl _)) (by have := HBL.out; omega)).mono ?_
      rintro e wz ⟨rfl, hbz⟩
      rw [decide_eq_true rfl]
      have HBZ := Lib.hid (gr_trans HBR.out hbz)
      clear hbz ck
      go_wp2_with fail
      go_roundw
      case rel => exact ⟨k + 1, by omega, by go_num, HBZ.out⟩
      case measure => simp [intOf]; omega
    · obtain rfl : k = 4 := by omega
      rw [show ((4 : Nat) : Int) = 4 from rfl]
      have HBR := Lib.hid hBr
      clear hBr
      have hed := ends_drop B f t hft HTB.out
      have hes := ends_self B
      have hec1 := endsN_comm (dropV B f t) B
      have hec2 := endsM_comm (dropV B f t) B
      have hll := HLL.out
      rw [HLP.out] at hll hes
      obtain ⟨L, HLn⟩ := nm (dropV B f t)
      rw [HLn.out] at hed hec1 hec2 hll HL HNw10
      obtain ⟨en, HEN⟩ := nm (endsN B L)
      obtain ⟨em, HEM⟩ := nm (endsM B L)
      rw [HEN.out] at hed hec1
      rw [HEM.out] at hed hec2
      obtain ⟨hed1, hed2⟩ := hed
      have hle : (en : Int) + (em : Int) = (nw10 : Int) := by have := HNw10.out; omega
      have hlt2 : ¬ (en : Int) < (f : Int) := by omega
      have HES := Lib.hid hes
      have HEC := Lib.hid (And.intro hec1 hec2)
      have HLL2 := Lib.hid hll
      have henb : en ≤ 400 := by have := HLn.out; omega
      have hemb : em ≤ 400 := by omega
      clear hes hec1 hec2 hll hed1 HR4
      have HLn2 := Lib.hid (show L.length < 400000 from by have := HLL2.out; omega)
      go_wp2_with fail
      refine (ends_any _ _ B L wr (HB.out.keep HBR.out (Nat.le_refl _)) (HL.out.keep HBR.out (Nat.le_refl _)) HBL.out HLn2.out).mono ?_
      rintro e w12 ⟨rfl, hb12⟩
      rw [HEN.out, HEM.out]
      replace HBR := Lib.hid (gr_trans HBR.out hb12)
      clear hb12
      go_wp2_with fail
      refine (ends_any _ _ B B w12 (HB.out.keep HBR.out (Nat.le_refl _)) (HB.out.keep HBR.out (Nat.le_refl _)) HBL.out HBL.out).mono ?_
      rintro e w13 ⟨rfl, hb13⟩
      rw [HES.out.1, HES.out.2]
      replace HBR := Lib.hid (gr_trans HBR.out hb13)
      clear hb13
      go_wp2_with fail
      refine (ends_any _ _ L B w13 (HL.out.keep HBR.out (Nat.le_refl _)) (HB.out.keep HBR.out (Nat.le_refl _)) HLn2.out HBL.out).mono ?_
      rintro e w14 ⟨rfl, hb14⟩
      rw [HEC.out.1, HEC.out.2]
      replace HBR := Lib.hid (gr_trans HBR.out hb14)
      clear hb14
      go_wp2_with fail
      have htl := HTL.out
      have hfull := ends_full B (turnV B f t) htl.symm
      have hturn := ends_turn B f t hft HTB.out
      have hshort := turn_short B f t
      rw [HLP.out] at htl hfull hturn
      obtain ⟨T, HTn⟩ := nm (turnV B f t)
      rw [HTn.out] at htl hfull hturn hshort HT2
      obtain ⟨tn, HTN⟩ := nm (endsN B T)
      obtain ⟨tm, HTM⟩ := nm (endsM B T)
      rw [HTN.out] at hfull hturn
      rw [HTM.out] at hturn
      have HTTL := Lib.hid (show T.length < 400000 from by omega)
      have HCS := Lib.hid (show (tn = N ∧ B = T) ∨ (tn ≠ N ∧ 2 ≤ t - f ∧ f ≤ tn ∧ N - t ≤ tm) from by
        by_cases h : tn = N
        · exact .inl ⟨h, hfull.1 h⟩
        · have h2 := hturn h
          refine .inr ⟨h, ?_, h2.1, h2.2⟩
          apply Classical.byContradiction
          intro hn
          exact h (hfull.2 (hshort (by omega)).symm))
      clear htl hfull hturn hshort
      refine (ends_any _ _ B T w14 (HB.out.keep HBR.out (Nat.le_refl _)) (HT2.out.keep HBR.out (Nat.le_refl _)) HBL.out HTTL.out).mono ?_
      rintro e w15 ⟨rfl, hb15⟩
      rw [HTN.out, HTM.out]
      replace HBR := Lib.hid (gr_trans HBR.out hb15)
      clear hb15
      rcases HCS.out with ⟨rfl, hbt⟩ | ⟨hne, h2, h3, h4⟩
      · have HBTE := Lib.hid (show decide (B = T) = true from decide_eq_true hbt)
        clear hbt
        by_cases h2 : t - f < 2
        · have h2' : (t : Int) - (f : Int) < 2 := by omega
          go_wp2_with fail
          refine (sameBytes_any _ _ B T w15 (HB.out.keep HBR.out (Nat.le_refl _)) (HT2.out.keep HBR.out (Nat.le_refl _)) (by have := HBL.out; omega)).mono ?_
          rintro e w16 ⟨rfl, hb16⟩
          rw [HBTE.out]
          have HBF := Lib.hid (gr_trans HBT.out (gr_trans HBR.out hb16))
          clear hb16
          go_wp2_with fail
          go_ret
          exact ⟨by simp, HBF.out⟩
        · have h2' : ¬ (t : Int) - (f : Int) < 2 := by omega
          go_wp2_with fail
          refine (sameBytes_any _ _ B T w15 (HB.out.keep HBR.out (Nat.le_refl _)) (HT2.out.keep HBR.out (Nat.le_refl _)) (by have := HBL.out; omega)).mono ?_
          rintro e w16 ⟨rfl, hb16⟩
          rw [HBTE.out]
          have HBF := Lib.hid (gr_trans HBT.out (gr_trans HBR.out hb16))
          clear hb16
          go_wp2_with fail
          go_ret
          exact ⟨by simp, HBF.out⟩
      · have h2' : ¬ (t : Int) - (f : Int) < 2 := by omega
        have hne' : ((tn : Int) == (N : Int)) = false := beq_false_of_ne (by omega)
        have h3' : (f : Int) ≤ (tn : Int) := by omega
        have h4' : (N : Int) - (t : Int) ≤ (tm : Int) := by omega
        have HBF := Lib.hid (gr_trans HBT.out HBR.out)
        go_wp2_with fail
        go_ret
        exact ⟨by simp, HBF.out⟩
end Go.Proofs.YtmjigpnpcacefaaDoor
