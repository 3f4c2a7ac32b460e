/- The walk of the law MaskWrong. -/
import Derived.Test.YtjpkldndeakkkaaDoorMskI
namespace Go.Proofs.YtjpkldndeakkkaaDoor
open Go Go.RowKit Go.Shelf

def pr (a b : Int) : Nat → Int
  | 0 => a
  | _ => b
theorem pr_cells {W : World} (a b : Int) (t : TypeId) : ∀ j, j < 2 → (W.alloc (.cells #[.int .i64 a, .int .i64 b] t)).cell? ⟨W.heap.size, j, none⟩ = some (.int .i64 (pr a b j)) := fun j hj => by
  have h := World.alloc_heap_new W (.cells #[.int .i64 a, .int .i64 b] t)
  rcases (show j = 0 ∨ j = 1 by omega) with rfl | rfl <;> exact cell_four h _ rfl
theorem bad_of {c : Int} (h : c < 0 ∨ 64 ≤ c) : mofV [3, c] = 0 ∧ mofE [3, c] = 200 := by
  have : [3, c].all okC = false := by
    rw [List.all_eq_false]
    exact ⟨c, by simp, by unfold okC; simp; omega⟩
  unfold mofV mofE
  rw [this]; exact ⟨rfl, rfl⟩
theorem bad_has {m : Nat} {c : Int} (h : c < 0 ∨ 64 ≤ c) : hasB m c = false := by
  unfold hasB; rw [decide_eq_false (by omega)]; rfl
theorem bad_all {k : Int} (h : k < 0 ∨ 65 ≤ k) : allV k = 0 ∧ allE k = 2 := by
  unfold allV allE; rw [if_neg (by omega), if_neg (by omega)]; exact ⟨rfl, rfl⟩
theorem bad_right {m : Nat} {k : Int} (h : k < 0 ∨ 65 ≤ k) : mrightB m k = false := by
  unfold mrightB; exact decide_eq_false (by omega)
theorem right_zero (m : Nat) : mrightB m 0 = false := by
  unfold mrightB
  refine decide_eq_false (fun h => ?_)
  have := h.2.2.2
  simp at this
  exact h.2.2.1 this
theorem sub_len : ∀ {a b : List Nat}, a.Nodup → (∀ x ∈ a, x ∈ b) → a.length ≤ b.length
  | [], _, _, _ => by simp
  | x :: a, b, hn, h => by
    rw [List.nodup_cons] at hn
    have hx := h x List.mem_cons_self
    have := sub_len (a := a) (b := b.erase x) hn.2 (fun y hy => (List.mem_erase_of_ne (fun e => hn.1 (by rw [← e]; exact hy))).2 (h y (List.mem_cons_of_mem _ hy)))
    rw [List.length_erase_of_mem hx] at this
    have := List.length_pos_of_mem hx
    rw [List.length_cons]
    omega
theorem members_nodup (m : Nat) : (members m).Nodup := List.Pairwise.filter _ List.nodup_range
theorem of_count (l : List Int) (h : ∀ c ∈ l, okC c = true) : (members (orL l)).length ≤ l.length := by
  have := sub_len (a := members (orL l)) (b := l.map Int.toNat) (members_nodup _) (fun x hx => by
    rw [members_mem (orL_lt l h), orL_bit, List.any_eq_true] at hx
    obtain ⟨c, hc, he⟩ := hx
    exact List.mem_map.2 ⟨c, hc, of_decide_eq_true he⟩)
  simpa using this
theorem of_has (l : List Int) (c : Int) (hc : c ∈ l) (h : okC c = true) : hasB (orL l) c = true := by
  have h1 := of_decide_eq_true h
  unfold hasB
  rw [decide_eq_true h1, Bool.true_and, orL_bit, List.any_eq_true]
  exact ⟨c, hc, decide_eq_true rfl⟩
theorem readsI_pre {k : IntKind} {w : World} {a : Option Addr} {len cap n : Nat} {xs : List Int} (h : ReadsI k w (.slice a len cap) xs) (hn : n ≤ len) : ReadsI k w (.slice a n cap) (xs.take n) := by
  obtain ⟨a', c', e, h1, h2, h3⟩ := h
  cases e
  refine ⟨a, cap, by rw [List.length_take, Nat.min_eq_left hn], by rw [List.length_take]; omega, h2, ?_⟩
  rcases h3 with h3 | ⟨b, off, e, hc⟩
  · exact .inl h3
  · refine .inr ⟨b, off, e, fun i hi => ?_⟩
    rw [List.length_take] at hi
    rw [hc i (by omega), List.getElem?_take, if_pos (by omega)]

set_option maxRecDepth 100000 in
set_option maxHeartbeats 4000000 in
theorem maskWrong_all (w : World) (m : Nat) (hm : m < 18446744073709551616) (n : Int) (hn : -9223372036854775808 ≤ n ∧ n ≤ 9223372036854775807) (v : Value) (l : List Int) (hv : ReadsI .i64 w v l) (hlb : ∀ k ∈ l, -9223372036854775808 ≤ k ∧ k ≤ 9223372036854775807) (hE : EV w) :
    Calls Tryd.prog 11 #[.int .u64 m, .int .i64 n, v] w fun e w' => e = .returned (.bool true) ∧ Below w.heap.size w w' := by
  have HE := Lib.hid hE
  have HV := Lib.hid hv
  obtain ⟨av, cv, rfl, hlv, hcv, hsv⟩ := hv
  obtain ⟨L, HL⟩ := nm l.length
  rw [HL.out] at hlv HV ⊢
  obtain ⟨M, HM⟩ := nm (min L 100)
  have hM1 : M ≤ L := by have := HM.out; omega
  have hM2 : M ≤ 100 := by have := HM.out; omega
  have hmin : min (L : Int) 100 = (M : Int) := by have := HM.out; omega
  obtain ⟨c1, HC1⟩ := nm (min n (-1))
  obtain ⟨c2, HC2⟩ := nm (max n 64)
  obtain ⟨c3, HC3⟩ := nm (max n 65)
  have k1 : c1 < 0 ∧ -9223372036854775808 ≤ c1 := by have := HC1.out; omega
  have k2 : 64 ≤ c2 ∧ c2 ≤ 9223372036854775807 := by have := HC2.out; omega
  have k3 : 65 ≤ c3 ∧ c3 ≤ 9223372036854775807 := by have := HC3.out; omega
  have e1 := HC1.out
  have e2 := HC2.out
  have e3 := HC3.out
  clear hE hsv
  go_enter Tryd.func11, Tryd.ntmps11
  go_wp2_with fail
  refine (awakeM_any w HE.out).mono ?_
  rintro e w1 ⟨rfl, hb1⟩
  have HB1 := Lib.hid hb1
  clear hb1
  go_wp2_with fail
  clear e2
  have hcl := pr_cells (W := w1) c1 c2 3
  have hb := gr_tr HB1.out (bel_alloc w1 (.cells #[.int .i64 c1, .int .i64 c2] 3))
  obtain ⟨B1, HBB1⟩ := nm w1.heap.size
  rw [HBB1.out] at hcl ⊢
  obtain ⟨W0, HW0⟩ := nm (w1.alloc (.cells #[.int .i64 c1, .int .i64 c2] 3))
  rw [HW0.out] at hcl hb ⊢
  have HCL := Lib.hid hcl
  have HB := Lib.hid hb
  clear hcl hb
  go_loopw [27] (fun vk wz => ∃ k : Nat, k ≤ 2 ∧ vk = .int .i64 (k : Int) ∧ Below W0.heap.size W0 wz) (fun vk _ => 2 - (intOf vk).toNat)
  case atStart => exact ⟨0, by omega, rfl, bel_refl _⟩
  case round =>
    obtain ⟨k, hk, rfl, hBz⟩ := hrel
    by_cases hlt : k < 2
    · have ck := cell_keep hBz (HCL.out k hlt) (cell_lt (HCL.out k hlt))
      have hbad : (pr c1 c2 k < 0 ∨ 64 ≤ pr c1 c2 k) ∧ -9223372036854775808 ≤ pr c1 c2 k ∧ pr c1 c2 k ≤ 9223372036854775807 := by
        rcases (show k = 0 ∨ k = 1 by omega) with rfl | rfl
        · show (c1 < 0 ∨ 64 ≤ c1) ∧ _ ≤ c1 ∧ c1 ≤ _; omega
        · show (c2 < 0 ∨ 64 ≤ c2) ∧ _ ≤ c2 ∧ c2 ≤ _; omega
      obtain ⟨c, HC⟩ := nm (pr c1 c2 k)
      rw [HC.out] at ck hbad
      obtain ⟨hbad, hc1, hc2⟩ := hbad
      have ho := bad_of hbad
      have hof := mof_any _ [3, c] _ (reads_litI .i64 wr [3, c] 3 #[.int .i64 3, .int .i64 c] 2 rfl rfl (by decide)) (by simp)
      rw [ho.1, ho.2] at hof
      have hha := fun W => has_any m hm c ⟨hc1, hc2⟩ W
      simp only [bad_has (m := m) hbad] at hha
      have HOF := Lib.hid hof
      have HHA := Lib.hid hha
      have hi1 : (k : Int) < 2 := by omega
      clear ho hof hha hbad
      go_wp2_with fail
      refine HOF.out.mono ?_
      rintro e w2 ⟨rfl, hb2⟩
      have HB2 := Lib.hid (bel_trans hBz (gr_tr (bel_alloc wr _) hb2) hBz.size)
      clear hb2
      go_wp2_with fail
      refine (HHA.out _).mono ?_
      rintro e w3 ⟨rfl, rfl⟩
      go_wp2_with fail
      go_roundw
      case rel => exact ⟨k + 1, by omega, by go_num, HB2.out⟩
      case measure => simp [intOf]; omega
    · have hk2 : (2 : Int) ≤ (k : Int) := by omega
      have HBz := Lib.hid (gr_tr HB.out hBz)
      clear hBz
      go_wp2_with fail
      clear e1 e3
      have hcl := pr_cells (W := wr) c1 c3 3
      have hb := gr_tr HBz.out (bel_alloc wr (.cells #[.int .i64 c1, .int .i64 c3] 3))
      clear HBz HCL HB HW0
      obtain ⟨wo, rfl⟩ : ∃ wo : World, wo = wr := ⟨_, rfl⟩
      obtain ⟨B2, HBB2⟩ := nm wo.heap.size
      rw [HBB2.out] at hcl ⊢
      obtain ⟨V0, HV0⟩ := nm (wo.alloc (.cells #[.int .i64 c1, .int .i64 c3] 3))
      rw [HV0.out] at hcl hb ⊢
      have HCL := Lib.hid hcl
      have HB := Lib.hid hb
      clear hcl hb
      go_loopw [55] (fun vk wz => ∃ k : Nat, k ≤ 2 ∧ vk = .int .i64 (k : Int) ∧ Below V0.heap.size V0 wz) (fun vk _ => 2 - (intOf vk).toNat)
      case atStart => exact ⟨0, by omega, rfl, bel_refl _⟩
      case round =>
        obtain ⟨k, hk, rfl, hBz⟩ := hrel
        by_cases hlt : k < 2
        · have ck := cell_keep hBz (HCL.out k hlt) (cell_lt (HCL.out k hlt))
          have hbad : (pr c1 c3 k < 0 ∨ 65 ≤ pr c1 c3 k) ∧ -9223372036854775808 ≤ pr c1 c3 k ∧ pr c1 c3 k ≤ 9223372036854775807 := by
            rcases (show k = 0 ∨ k = 1 by omega) with rfl | rfl
            · show (c1 < 0 ∨ 65 ≤ c1) ∧ _ ≤ c1 ∧ c1 ≤ _; omega
            · show (c3 < 0 ∨ 65 ≤ c3) ∧ _ ≤ c3 ∧ c3 ≤ _; omega
          obtain ⟨c, HC⟩ := nm (pr c1 c3 k)
          rw [HC.out] at ck hbad
          obtain ⟨hbad, hc1, hc2⟩ := hbad
          have hal := fun W => all_any c W ⟨hc1, hc2⟩
          simp only [(bad_all hbad).1, (bad_all hbad).2] at hal
          have hri := fun W => mright_any m hm c ⟨hc1, hc2⟩ W
          simp only [bad_right (m := m) hbad] at hri
          have HAL := Lib.hid hal
          have HRI := Lib.hid hri
          have hi1 : (k : Int) < 2 := by omega
          clear hal hri hbad
          go_wp2_with fail
          refine (HAL.out _).mono ?_
          rintro e w2 ⟨rfl, rfl⟩
          go_wp2_with fail
          refine (HRI.out _).mono ?_
          rintro e w3 ⟨rfl, rfl⟩
          go_wp2_with fail
          go_roundw
          case rel => exact ⟨k + 1, by omega, by go_num, hBz⟩
          case measure => simp [intOf]; omega
        · have hk2 : (2 : Int) ≤ (k : Int) := by omega
          have HBz := Lib.hid (gr_tr HB.out hBz)
          have hvr := readsI_pre (HV.out.keep HBz.out (Nat.le_refl _)) hM1
          have hlen : (l.take M).length = M := by rw [List.length_take, HL.out]; exact Nat.min_eq_left hM1
          have hlb2 : ∀ k ∈ l.take M, -9223372036854775808 ≤ k ∧ k ≤ 9223372036854775807 := fun k hk => hlb k (List.mem_of_mem_take hk)
          obtain ⟨l2, HL2⟩ := nm (l.take M)
          rw [HL2.out] at hvr hlen hlb2
          have HVR := Lib.hid hvr
          have HLEN := Lib.hid hlen
          have hof := mof_any _ l2 wr hvr (by rw [hlen]; omega)
          have hR0 := fun W => mright_any m hm 0 (by decide) W
          simp only [right_zero] at hR0
          have HR0 := Lib.hid hR0
          clear hBz HCL HB hvr hlen hlb hR0
          by_cases hall : l2.all okC = true
          · have hV : mofV l2 = orL l2 := by unfold mofV; rw [hall]; rfl
            have hEz : mofE l2 = 0 := by unfold mofE; rw [hall]; rfl
            have hok := List.all_eq_true.1 hall
            have hlt64 := orL_lt l2 hok
            have hcnt := of_count l2 hok
            have HCNT := Lib.hid (fun W => mcount_any (orL l2) hlt64 W)
            have HHA := Lib.hid (fun c (hc : c ∈ l2) W => by have h := has_any (orL l2) hlt64 c (hlb2 c hc) W; rw [of_has l2 c hc (hok c hc)] at h; exact h)
            rw [hV, hEz] at hof
            rw [HLEN.out] at hcnt
            obtain ⟨x, HX⟩ := nm (orL l2)
            rw [HX.out] at hof hcnt hlt64
            simp only [HX.out] at HCNT HHA
            obtain ⟨q, HQ⟩ := nm (members x).length
            rw [HQ.out] at hcnt
            simp only [HQ.out] at HCNT
            have HOF := Lib.hid hof
            clear hV hEz hok hof hall
            go_wp2_with fail
            refine HOF.out.mono ?_
            rintro e w2 ⟨rfl, hb2⟩
            have HB2 := Lib.hid (gr_tr HBz.out hb2)
            have HV2 := Lib.hid (HVR.out.keep hb2 (Nat.le_refl _))
            clear hb2 HOF HVR
            obtain ⟨a', c', e', h1, h2, hcs⟩ := HV2.out
            rw [HLEN.out] at e' hcs
            cases e'
            have HCS := Lib.hid hcs
            clear hcs h1 h2
            go_wp2_with fail
            obtain ⟨wo2, rfl⟩ : ∃ wo2 : World, wo2 = wr := ⟨_, rfl⟩
            go_loopw [96] (fun vk wz => ∃ k : Nat, k ≤ M ∧ vk = .int .i64 (k : Int) ∧ w2 = wz) (fun vk _ => M - (intOf vk).toNat)
            case atStart => exact ⟨0, Nat.zero_le _, rfl, rfl⟩
            case round =>
              obtain ⟨k, hk, rfl, rfl⟩ := hrel
              by_cases hlt : k < M
              · obtain ⟨b, o, rfl, hc⟩ := HCS.out.resolve_left (fun h => by omega)
                have ck := hc k hlt
                have hh := HHA.out (l2[k]?.getD 0) (by rw [List.getElem?_eq_getElem (by rw [HLEN.out]; exact hlt)]; exact List.getElem_mem _)
                obtain ⟨c, HC⟩ := nm (l2[k]?.getD 0)
                rw [HC.out] at ck
                simp only [HC.out] at hh
                have HH := Lib.hid hh
                have hi1 : (k : Int) < (M : Int) := by omega
                clear hc hh
                go_wp2_with fail
                refine (HH.out _).mono ?_
                rintro e w3 ⟨rfl, rfl⟩
                go_wp2_with fail
                go_roundw
                case rel => exact ⟨k + 1, by omega, by go_num, trivial⟩
                case measure => simp [intOf]; omega
              · obtain rfl : M = k := by omega
                have hqi : (q : Int) ≤ (M : Int) := by omega
                go_wp2_with fail
                refine (HR0.out _).mono ?_
                rintro e w3 ⟨rfl, rfl⟩
                go_wp2_with fail
                refine (HCNT.out _).mono ?_
                rintro e w3 ⟨rfl, hb3⟩
                have HB3 := Lib.hid (gr_tr HB2.out hb3)
                clear hb3
                go_wp2_with fail
                go_ret
                exact ⟨rfl, HB3.out⟩
          · have hV : mofV l2 = 0 := by unfold mofV; rw [if_neg hall]
            have hEz : mofE l2 = 200 := by unfold mofE; rw [if_neg hall]
            rw [hV, hEz] at hof
            have HOF := Lib.hid hof
            clear hV hEz hof hall
            go_wp2_with fail
            refine HOF.out.mono ?_
            rintro e w2 ⟨rfl, hb2⟩
            have HB2 := Lib.hid (gr_tr HBz.out hb2)
            clear hb2
            go_wp2_with fail
            go_ret
            exact ⟨rfl, HB2.out⟩
end Go.Proofs.YtjpkldndeakkkaaDoor
