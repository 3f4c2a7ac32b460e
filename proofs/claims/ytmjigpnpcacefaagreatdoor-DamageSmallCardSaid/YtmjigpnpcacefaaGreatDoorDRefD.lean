/- The reference bursts: the walk of Of. -/
import Derived.Test.YtmjigpnpcacefaaGreatDoorDRefA
import Derived.Deep.QuietTactic
import Derived.BigQuiet
namespace Go.Proofs.YtmjigpnpcacefaaGreatDoor
open Go Go.RowKit Go.Shelf

theorem nodup_at {l : List Int} (h : ∀ a b, a < b → b < l.length → l[a]?.getD 0 ≠ l[b]?.getD 0) : l.Nodup := by
  unfold List.Nodup
  rw [List.pairwise_iff_getElem]
  intro i j hi hj hij
  have := h i j hij hj
  rwa [List.getElem?_eq_getElem hi, List.getElem?_eq_getElem hj, Option.getD_some, Option.getD_some] at this
theorem twice_at {l : List Int} {a b : Nat} (hab : a < b) (hb : b < l.length) (h : l[a]?.getD 0 = l[b]?.getD 0) : ¬ l.Nodup := by
  intro hd
  rw [List.getElem?_eq_getElem (by omega), List.getElem?_eq_getElem hb, Option.getD_some, Option.getD_some] at h
  have := (List.getElem_inj hd).1 h
  omega
set_option maxRecDepth 100000 in
set_option maxHeartbeats 8000000 in
theorem rof13_any (vl : Value) (l : List Int) (w : World) (hl : ReadsI .i64 w vl l) (hll : l.length < 1000000) (hlb : ∀ k ∈ l, -9223372036854775808 ≤ k ∧ k ≤ 9223372036854775807) :
    Calls Tryz.prog 34 #[vl] w fun e w' => e = .returned (.tuple #[.agg #[.int .i64 (ofA l), .int .u32 (ofB l : Nat)], .int .i64 (ofE l)]) ∧ Below w.heap.size w w' := by
  obtain ⟨al, cl, rfl, hlc, hcm, hcs⟩ := hl
  have hmem : ∀ i, i < l.length → l[i]?.getD 0 ∈ l := fun i hi => get_mem hi
  have hev : ∀ k ∈ l, ∃ i, i < l.length ∧ l[i]?.getD 0 = k := fun k hk => mem_get hk
  have hnil : l.length = 0 → l = [] := List.length_eq_zero_iff.1
  obtain ⟨oA, HOA⟩ := nm (ofA l)
  obtain ⟨oB, HOB⟩ := nm (ofB l)
  obtain ⟨oE, HOE⟩ := nm (ofE l)
  rw [HOA.out, HOB.out, HOE.out]
  have HFIN0 := Lib.hid (fun (h : ofE l ≠ 0) => (show oA = 0 ∧ oB = 0 from by rw [← HOA.out, ← HOB.out]; exact of_zero h))
  obtain ⟨n, HN⟩ := nm l.length
  rw [HN.out] at hlc hll hcs hnil ⊢
  simp only [HN.out] at hmem hev
  have HM := Lib.hid hmem
  have HEV := Lib.hid hev
  have HLB := Lib.hid hlb
  obtain ⟨x1, x2, x3, x4⟩ := cell_two w (.int .i64 0) (.int .u32 0) 46
  have hA := bel_alloc w (.cells #[.int .i64 0, .int .u32 0] 46)
  clear hmem hev hlb
  by_cases h0 : n = 0
  · have hln := hnil h0
    have hE0 : ofE l = 2 := of_arg l (.inl hln)
    have HFIN := Lib.hid (And.intro (HFIN0.out (by omega)) (HOE.out.symm.trans hE0))
    have hz : ((n : Int) == 0) = true := by simp [h0]
    clear h0 hcs hln hE0 hnil
    go_enter Tryz.func34, Tryz.ntmps34
    go_wp2_with fail
    refine bodyPost_ret (v := .tuple #[.agg #[.int .i64 0, .int .u32 0], .int .i64 2]) (by simp [results, Tryz.results34, go_sem, x1, x2]) rfl ⟨by first | (rw [HFIN.out.1.1, HFIN.out.1.2, HFIN.out.2]; done) | (rw [HFIN.out.1.1, HFIN.out.1.2, HFIN.out.2]; rfl), ?_⟩
    first | exact hA | exact (hA.setCell (p := ⟨w.heap.size, 0, none⟩) (Nat.le_refl _) _).setCell (p := ⟨w.heap.size, 1, none⟩) (Nat.le_refl _) _
  have hlne : l ≠ [] := fun e => h0 (by rw [← HN.out, e]; rfl)
  have HLNE := Lib.hid hlne
  obtain ⟨b, off, rfl, hcell⟩ := hcs.resolve_left (fun h => by omega)
  have hz : ((n : Int) == 0) = false := beq_false_of_ne (by omega)
  have HCELL := Lib.hid hcell
  have hblt := cell_lt (hcell 0 (by omega))
  have c0 := cell_keep hA (hcell 0 (by omega)) (cell_lt (hcell 0 (by omega)))
  rw [Nat.add_zero] at c0
  have hm0 := HM.out 0 (by omega)
  obtain ⟨F, HF⟩ := nm (l[0]?.getD 0)
  rw [HF.out] at c0 hm0
  have HM0 := Lib.hid hm0
  have hn0 : 0 < n := by omega
  have hn1 : (0 : Int) < (n : Int) := by omega
  have HRET := Lib.hid (fun (W : World) (hB : Below (w.heap.size + 1) (w.alloc (.cells #[.int .i64 0, .int .u32 0] 46)) W) => (show Below w.heap.size w W ∧ W.cell? ⟨w.heap.size, 0, none⟩ = some (.int .i64 0) ∧ W.cell? ⟨w.heap.size, 1, none⟩ = some (.int .u32 0) ∧ W.frozen? ⟨w.heap.size, 0, none⟩ = false ∧ W.frozen? ⟨w.heap.size, 1, none⟩ = false ∧ (∀ i, i < n → W.cell? ⟨b, off + i, none⟩ = some (.int .i64 (l[i]?.getD 0))) from by
    refine ⟨hA.trans (hB.mono (by omega)), (hB.cell (p := ⟨w.heap.size, 0, none⟩) (by show w.heap.size < _; omega)).trans x1, (hB.cell (p := ⟨w.heap.size, 1, none⟩) (by show w.heap.size < _; omega)).trans x2, (hB.frozen (p := ⟨w.heap.size, 0, none⟩) (by show w.heap.size < _; omega)).trans x3, (hB.frozen (p := ⟨w.heap.size, 1, none⟩) (by show w.heap.size < _; omega)).trans x4, fun i hi => ?_⟩
    exact (hB.cell (p := ⟨b, off + i, none⟩) (by have := cell_lt (HCELL.out i hi); show b < _; omega)).trans ((hA.cell (p := ⟨b, off + i, none⟩) (cell_lt (HCELL.out i hi))).trans (HCELL.out i hi))))
  have hsz : (w.alloc (.cells #[.int .i64 0, .int .u32 0] 46)).heap.size = w.heap.size + 1 := by simp
  have HB0 := Lib.hid (Below.refl (w.heap.size + 1) (w.alloc (.cells #[.int .i64 0, .int .u32 0] 46)))
  have HSZ := Lib.hid hsz
  clear h0 hcs hnil hlne hcell x1 x2 x3 x4 hA hm0 hsz
  obtain ⟨w1, HW1⟩ := nm (w.alloc (.cells #[.int .i64 0, .int .u32 0] 46))
  rw [HW1.out] at c0 HSZ HB0 HRET
  have HQ := Lib.hid (fun k => below_drewN HB0.out k)
  go_enter Tryz.func34, Tryz.ntmps34
  go_wp2_with fail
  rw [HW1.out]
  go_quiet (fail)
  have HB1 := Lib.hid (HQ.out nq)
  clear HQ c0
  obtain ⟨w2, HW2⟩ := nm (w1.drewN nq)
  rw [HW2.out] at HB1 ⊢
  go_wp2_with fail
  go_loopw [4, 5, 6] (fun va vb vi wr => ∃ (i : Nat) (m M : Int), i ≤ n ∧ vi = .int .i64 (i : Int) ∧ va = .int .i64 m ∧ vb = .int .i64 M ∧ Hid (m ∈ l ∧ M ∈ l) ∧ Hid (∀ j, j < i → 0 ≤ l[j]?.getD 0 ∧ m ≤ l[j]?.getD 0 ∧ l[j]?.getD 0 ≤ M) ∧ w2 = wr) (fun _ _ vi _ => n - (intOf vi).toNat)
  case atStart => exact ⟨0, F, F, Nat.zero_le _, rfl, rfl, rfl, Lib.hid ⟨HM0.out, HM0.out⟩, Lib.hid (fun j h => by omega), rfl⟩
  case round =>
    obtain ⟨i, m, M, hi, rfl, rfl, rfl, HMM, HLE, rfl⟩ := hrel
    obtain ⟨-, x1, x2, x3, x4, hcl⟩ := HRET.out _ HB1.out
    by_cases hlt : i < n
    · have ck := hcl i hlt
      have hmi := HM.out i hlt
      have HNX := Lib.hid (fun (m' M' : Int) (h : 0 ≤ l[i]?.getD 0 ∧ m' ≤ l[i]?.getD 0 ∧ l[i]?.getD 0 ≤ M') (hm : m' ≤ m) (hM : M ≤ M') => (show ∀ j, j < i + 1 → 0 ≤ l[j]?.getD 0 ∧ m' ≤ l[j]?.getD 0 ∧ l[j]?.getD 0 ≤ M' from fun j hj => by
        by_cases e : j = i
        · rw [e]; exact h
        · have := HLE.out j (by omega); omega))
      obtain ⟨x, HX⟩ := nm (l[i]?.getD 0)
      rw [HX.out] at ck hmi HNX
      have HMI := Lib.hid hmi
      clear hcl hmi
      by_cases hneg : x < 0
      · have hd : decide (x < 0) = true := decide_eq_true hneg
        have hE0 : ofE l = 2 := of_arg l (.inr ⟨x, HMI.out, hneg⟩)
        have HFIN := Lib.hid (And.intro (HFIN0.out (by omega)) (HOE.out.symm.trans hE0))
        clear hE0
        go_wp2_with fail
        refine bodyPost_ret (v := .tuple #[.agg #[.int .i64 0, .int .u32 0], .int .i64 2]) (by simp [results, Tryz.results34, go_sem, x1, x2]) rfl ⟨by first | (rw [HFIN.out.1.1, HFIN.out.1.2, HFIN.out.2]; done) | (rw [HFIN.out.1.1, HFIN.out.1.2, HFIN.out.2]; rfl), ?_⟩
        exact ((HRET.out _ HB1.out).1.setCell (p := ⟨w.heap.size, 0, none⟩) (Nat.le_refl _) _).setCell (p := ⟨w.heap.size, 1, none⟩) (Nat.le_refl _) _
      · have hd : decide (x < 0) = false := decide_eq_false hneg
        by_cases q1 : x < m
        · have hd1 : decide (x < m) = true := decide_eq_true q1
          by_cases q2 : M < x
          · have hd2 : decide (M < x) = true := decide_eq_true q2
            go_wp2_with fail
            go_roundw
            case rel => exact ⟨i + 1, x, x, by omega, by go_num, rfl, rfl, Lib.hid ⟨HMI.out, HMI.out⟩, Lib.hid (HNX.out x x (by omega) (by omega) (by omega)), trivial⟩
            case measure => simp [intOf]; omega
          · have hd2 : decide (M < x) = false := decide_eq_false q2
            go_wp2_with fail
            go_roundw
            case rel => exact ⟨i + 1, x, M, by omega, by go_num, rfl, rfl, Lib.hid ⟨HMI.out, HMM.out.2⟩, Lib.hid (HNX.out x M (by omega) (by omega) (by omega)), trivial⟩
            case measure => simp [intOf]; omega
        · have hd1 : decide (x < m) = false := decide_eq_false q1
          by_cases q2 : M < x
          · have hd2 : decide (M < x) = true := decide_eq_true q2
            go_wp2_with fail
            go_roundw
            case rel => exact ⟨i + 1, m, x, by omega, by go_num, rfl, rfl, Lib.hid ⟨HMM.out.1, HMI.out⟩, Lib.hid (HNX.out m x (by omega) (by omega) (by omega)), trivial⟩
            case measure => simp [intOf]; omega
          · have hd2 : decide (M < x) = false := decide_eq_false q2
            go_wp2_with fail
            go_roundw
            case rel => exact ⟨i + 1, m, M, by omega, by go_num, rfl, rfl, HMM, Lib.hid (HNX.out m M (by omega) (by omega) (by omega)), trivial⟩
            case measure => simp [intOf]; omega
    · obtain rfl : i = n := by omega
      have hall : ∀ k ∈ l, 0 ≤ k ∧ m ≤ k ∧ k ≤ M := fun k hk => by
        obtain ⟨j, hj, e⟩ := HEV.out k hk
        have := HLE.out j hj
        rwa [e] at this
      have HALL := Lib.hid hall
      have hmb := HLB.out m HMM.out.1
      have hMb := HLB.out M HMM.out.2
      have hm0 := (HALL.out m HMM.out.1).1
      have hM0 := (HALL.out M HMM.out.2).1
      have hmM := (HALL.out M HMM.out.2).2.1
      clear hall HLE hcl x1 x2 x3 x4 HW1 HW2 HB0
      go_wp2_with fail
      go_loopw [7] (fun vi wr => ∃ j : Nat, j ≤ i ∧ vi = .int .i64 (j : Int) ∧ Hid (∀ a c, a < c → c < j → l[a]?.getD 0 ≠ l[c]?.getD 0) ∧ Below (w.heap.size + 1) w1 wr) (fun vi _ => i - (intOf vi).toNat)
      case atStart => exact ⟨0, Nat.zero_le _, rfl, Lib.hid (fun a c h1 h2 => by omega), HB1.out⟩
      case round =>
        obtain ⟨j, hj, rfl, HD, hBr⟩ := hrel
        by_cases hlt2 : j < i
        · obtain ⟨wo, rfl⟩ : ∃ wo : World, wo = wr := ⟨_, rfl⟩
          have HBO := Lib.hid hBr
          clear hBr
          go_wp2_with fail
          go_loopw [8] (fun vk wr => ∃ k : Nat, k ≤ j ∧ vk = .int .i64 (k : Int) ∧ Hid (∀ a, a < k → l[a]?.getD 0 ≠ l[j]?.getD 0) ∧ Below (w.heap.size + 1) w1 wr) (fun vk _ => j - (intOf vk).toNat)
          case atStart => exact ⟨0, Nat.zero_le _, rfl, Lib.hid (fun a h => by omega), HBO.out⟩
          case round =>
            obtain ⟨k, hk, rfl, HDK, hBr⟩ := hrel
            by_cases hlt3 : k < j
            · obtain ⟨-, x1, x2, x3, x4, hcl⟩ := HRET.out _ hBr
              have cj := hcl j hlt2
              have ckk := hcl k (by omega)
              have hTW := twice_at (l := l) hlt3 (by rw [HN.out]; exact hlt2)
              have HNX := Lib.hid (fun (h : l[k]?.getD 0 ≠ l[j]?.getD 0) => (show ∀ a, a < k + 1 → l[a]?.getD 0 ≠ l[j]?.getD 0 from fun a ha => by
                by_cases e : a = k
                · rw [e]; exact h
                · exact HDK.out a (by omega)))
              obtain ⟨x, HX⟩ := nm (l[j]?.getD 0)
              obtain ⟨y, HY⟩ := nm (l[k]?.getD 0)
              rw [HX.out] at cj
              rw [HY.out] at ckk
              rw [HX.out, HY.out] at hTW
              rw [HX.out, HY.out] at HNX
              have hj2 : (j : Int) < (i : Int) := by omega
              have hk2 : (k : Int) < (i : Int) := by omega
              have HTW := Lib.hid hTW
              have HBR := Lib.hid hBr
              have HBQ := Lib.hid (fun q => below_drewN hBr q)
              have HXX := Lib.hid (fun q => HRET.out _ (below_drewN hBr q))
              clear hcl hTW hBr x1 x2 x3 x4
              by_cases he : y = x
              · have hq : (x == y) = true := by rw [he]; simp
                have hnd := HTW.out he
                have hE0 : ofE l = 131 := of_twice l HLNE.out (fun k hk => (HALL.out k hk).1) hnd
                have HFIN := Lib.hid (And.intro (HFIN0.out (by omega)) (HOE.out.symm.trans hE0))
                clear hE0 hnd
                go_wp2_with fail
                go_quiet (fail)
                obtain ⟨y0, y1, y2, y3, y4, -⟩ := HXX.out nq
                go_wp2_with fail
                refine bodyPost_ret (v := .tuple #[.agg #[.int .i64 0, .int .u32 0], .int .i64 131]) (by simp [results, Tryz.results34, go_sem, y1, y2]) rfl ⟨by first | (rw [HFIN.out.1.1, HFIN.out.1.2, HFIN.out.2]; done) | (rw [HFIN.out.1.1, HFIN.out.1.2, HFIN.out.2]; rfl), ?_⟩
                exact (y0.setCell (p := ⟨w.heap.size, 0, none⟩) (Nat.le_refl _) _).setCell (p := ⟨w.heap.size, 1, none⟩) (Nat.le_refl _) _
              · have hq : (x == y) = false := beq_false_of_ne (fun e => he e.symm)
                go_wp2_with fail
                go_quiet (fail)
                go_wp2_with fail
                go_roundw
                case rel => exact ⟨k + 1, by omega, by go_num, Lib.hid (HX.out.symm ▸ HNX.out he), HBQ.out nq⟩
                case measure => simp [intOf]; omega
            · obtain rfl : k = j := by omega
              go_wp2_with fail
              go_roundw
              case rel =>
                refine ⟨k + 1, by omega, by go_num, Lib.hid (fun a c h1 h2 => ?_), hBr⟩
                by_cases e : c = k
                · rw [e]; exact HDK.out a (by omega)
                · exact HD.out a c h1 (by omega)
              case measure => simp [intOf]; omega
        · obtain rfl : j = i := by omega
          have hnd : l.Nodup := nodup_at (fun a c h1 h2 => HD.out a c h1 (by rw [HN.out] at h2; exact h2))
          have HND := Lib.hid hnd
          have hw1 : IntKind.i64.wrap (M - m) = M - m := IntWalk.i64_in _ (by omega)
          obtain ⟨z0, x1, x2, x3, x4, hcl⟩ := HRET.out _ hBr
          have HCL := Lib.hid hcl
          clear HD hnd hcl
          by_cases hbig : 31 < M - m
          · have hd : decide (31 < M - m) = true := decide_eq_true hbig
            have hE0 : ofE l = 3 := of_long l (fun k hk => (HALL.out k hk).1) HND.out M m HMM.out.2 HMM.out.1 (by omega)
            have HFIN := Lib.hid (And.intro (HFIN0.out (by omega)) (HOE.out.symm.trans hE0))
            clear hE0
            go_wp2_with fail
            refine bodyPost_ret (v := .tuple #[.agg #[.int .i64 0, .int .u32 0], .int .i64 3]) (by simp [results, Tryz.results34, go_sem, x1, x2]) rfl ⟨by first | (rw [HFIN.out.1.1, HFIN.out.1.2, HFIN.out.2]; done) | (rw [HFIN.out.1.1, HFIN.out.1.2, HFIN.out.2]; rfl), ?_⟩
            exact (z0.setCell (p := ⟨w.heap.size, 0, none⟩) (Nat.le_refl _) _).setCell (p := ⟨w.heap.size, 1, none⟩) (Nat.le_refl _) _
          · have hd : decide (31 < M - m) = false := decide_eq_false hbig
            obtain ⟨eE, eA, eB⟩ := of_sum HLNE.out (fun k hk => (HALL.out k hk).1) HND.out HMM.out.1 (fun k hk => (HALL.out k hk).2.1) (fun k hk => by have := HALL.out k hk; omega)
            have HSL := Lib.hid (fun q (hq : q ≤ j) => sB_lt HND.out (fun k hk => ⟨(HALL.out k hk).2.1, by have := HALL.out k hk; omega⟩) q (by rw [HN.out]; exact hq))
            rw [HN.out] at eB
            have HFIN := Lib.hid (And.intro (And.intro (HOA.out.symm.trans eA) (HOB.out.symm.trans eB)) (HOE.out.symm.trans eE))
            obtain ⟨w5, rfl⟩ : ∃ w5 : World, w5 = wr := ⟨_, rfl⟩
            obtain ⟨n1, n2, n3, n4⟩ := cell_two w5 (.int .i64 0) (.int .u32 0) 46
            have hz5 : w.heap.size + 1 ≤ w5.heap.size := by have := hBr.size; have := HSZ.out; omega
            have HBR := Lib.hid hBr
            clear eE eA eB hw1 hBr
            have hw1 : IntKind.i64.wrap (M - m) = M - m := IntWalk.i64_in _ (by omega)
            go_wp2_with fail
            clear n1 n2 n3 n4
            have HST := Lib.hid (cell_two w5 (.int .i64 m) (.int .u32 0) 46)
            go_loopw [10] (fun vk wr => ∃ k : Nat, k ≤ j ∧ vk = .int .i64 (k : Int) ∧ wr.cell? ⟨w5.heap.size, 0, none⟩ = some (.int .i64 m) ∧ wr.cell? ⟨w5.heap.size, 1, none⟩ = some (.int .u32 (sB l m k : Nat)) ∧ wr.frozen? ⟨w5.heap.size, 0, none⟩ = false ∧ wr.frozen? ⟨w5.heap.size, 1, none⟩ = false ∧ Below w5.heap.size w5 wr) (fun vk _ => j - (intOf vk).toNat)
            case atStart => exact ⟨0, Nat.zero_le _, rfl, HST.out.1, HST.out.2.1, HST.out.2.2.1, HST.out.2.2.2, (Below.refl _ w5).alloc (Nat.le_refl _) _⟩
            case round =>
              obtain ⟨k, hk, rfl, g1, g2, g3, g4, hB5⟩ := hrel
              have hBw : Below (w.heap.size + 1) w1 wr := HBR.out.trans (hB5.mono hz5)
              by_cases hlt4 : k < j
              · have ck := (HRET.out _ hBw).2.2.2.2.2 k hlt4
                have hS1 := HSL.out (k + 1) (by omega)
                have hss : sB l m (k + 1) = sB l m k + 2 ^ (l[k]?.getD 0 - m).toNat := rfl
                have hbd := HALL.out _ (HM.out k hlt4)
                obtain ⟨x, HX⟩ := nm (l[k]?.getD 0)
                rw [HX.out] at ck hss hbd
                obtain ⟨D, HDD⟩ := nm (x - m).toNat
                have hxD : m + (D : Int) = x := by have := HDD.out; omega
                rw [HDD.out] at hss
                have hD31 : D ≤ 31 := by omega
                have hmm : 0 ≤ m ∧ m ≤ 9223372036854775807 := ⟨hm0, hmb.2⟩
                have hxb : x ≤ 9223372036854775807 := by have := hbd.2.2; omega
                obtain ⟨S, HS⟩ := nm (sB l m k)
                obtain ⟨S2, HS2⟩ := nm (sB l m (k + 1))
                rw [HS.out] at g2 hss
                rw [HS2.out] at hss hS1
                have HSS := Lib.hid hss
                have HXD := Lib.hid hxD
                have HB5 := Lib.hid hB5
                obtain ⟨wo, rfl⟩ : ∃ wo : World, wo = wr := ⟨_, rfl⟩
                have HG := Lib.hid (And.intro g1 (And.intro g3 g4))
                clear hss hxD hB5 hBw hS1 hbd
                go_wp2_with fail
                go_loopw [11, 12] (fun vt vc wr => ∃ t : Nat, t ≤ D ∧ vt = .int .u32 ((2 ^ t : Nat) : Int) ∧ vc = .int .i64 (m + (t : Int)) ∧ wo = wr) (fun _ vc _ => (x - intOf vc).toNat)
                case atStart => exact ⟨0, Nat.zero_le _, rfl, by simp, rfl⟩
                case round =>
                  obtain ⟨t, ht, rfl, rfl, rfl⟩ := hrel
                  by_cases hlt5 : t < D
                  · have hxd := HXD.out
                    have hd5 : decide (m + (t : Int) < x) = true := decide_eq_true (by omega)
                    have hp2 : (2 : Nat) ^ (t + 1) = 2 ^ t * 2 := Nat.pow_succ 2 t
                    have hp3 : (2 : Nat) ^ (t + 1) < 4294967296 := Nat.pow_lt_pow_right (n := 32) (by omega) (by omega)
                    obtain ⟨p, HP⟩ := nm ((2 : Nat) ^ t)
                    obtain ⟨p2, HP2⟩ := nm ((2 : Nat) ^ (t + 1))
                    rw [HP.out, HP2.out] at hp2
                    rw [HP2.out] at hp3
                    rw [HP.out]
                    have hwp : IntKind.u32.wrap ((p : Int) * 2) = (p2 : Int) := by rw [IntKind.wrap_u32]; omega
                    have hwt : IntKind.i64.wrap (m + (t : Int) + 1) = m + ((t + 1 : Nat) : Int) := by rw [IntWalk.i64_in _ (by omega)]; omega
                    clear hp2 hxd
                    go_wp2_with fail
                    go_roundw
                    case rel => exact ⟨t + 1, by omega, by rw [HP2.out], by first | rfl | (congr 1; omega) | simp; omega, trivial⟩
                    case measure => have := HXD.out; simp [intOf]; omega
                  · obtain rfl : t = D := by omega
                    have hxd := HXD.out
                    rw [hxd]
                    have hd5 : decide (x < x) = false := decide_eq_false (by omega)
                    have hp3 : (2 : Nat) ^ t < 4294967296 := Nat.pow_lt_pow_right (n := 32) (by omega) (by omega)
                    have hS2b := HSL.out (k + 1) (by omega)
                    rw [HS2.out] at hS2b
                    have hss := HSS.out
                    obtain ⟨p, HP⟩ := nm ((2 : Nat) ^ t)
                    rw [HP.out] at hp3 hss ⊢
                    have hwp : IntKind.u32.wrap ((S : Int) + (p : Int)) = (S2 : Int) := by rw [IntKind.wrap_u32]; omega
                    obtain ⟨g1, g3, g4⟩ := HG.out
                    clear hss hxd hp3 hS2b
                    go_wp2_with fail
                    try go_region
                    all_goals
                      go_wp2_with fail
                      go_roundw
                      case rel =>
                        refine ⟨k + 1, by omega, by go_num, ?_, ?_, ?_, ?_, ?_⟩
                        · simpa using (World.cell?_setCell_other wo ⟨w5.heap.size, 1, none⟩ ⟨w5.heap.size, 0, none⟩ _ (by simp)).trans g1
                        · rw [HS2.out]; simpa using World.cell?_setCell_same' wo ⟨w5.heap.size, 1, none⟩ _ (by rw [g2]; rfl)
                        · simpa using g3
                        · simpa using g4
                        · first | exact HB5.out.setCell (p := ⟨w5.heap.size, 1, none⟩) (Nat.le_refl _) _ | exact (HB5.out.setCell (p := ⟨w5.heap.size, 1, none⟩) (Nat.le_refl _) _).drew
                      case measure => simp [intOf]; omega
              · obtain rfl : k = j := by omega
                obtain ⟨y0, y1, y2, y3, y4, -⟩ := HRET.out _ hBw
                go_wp2_with fail
                refine bodyPost_ret (v := .tuple #[.agg #[.int .i64 m, .int .u32 (sB l m k : Nat)], .int .i64 0]) (by simp [results, Tryz.results34, go_sem, y1, y2]) rfl ⟨by first | (rw [HFIN.out.1.1, HFIN.out.1.2, HFIN.out.2]; done) | (rw [HFIN.out.1.1, HFIN.out.1.2, HFIN.out.2]; rfl), ?_⟩
                exact (y0.setCell (p := ⟨w.heap.size, 0, none⟩) (Nat.le_refl _) _).setCell (p := ⟨w.heap.size, 1, none⟩) (Nat.le_refl _) _
end Go.Proofs.YtmjigpnpcacefaaGreatDoor
