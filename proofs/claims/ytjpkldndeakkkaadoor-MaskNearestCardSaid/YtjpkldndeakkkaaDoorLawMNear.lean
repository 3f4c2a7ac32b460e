/- The walk of the law MaskNearest. -/
import Derived.Test.YtjpkldndeakkkaaDoorMskI
import Derived.Test.YtjpkldndeakkkaaDoorMskP
namespace Go.Proofs.YtjpkldndeakkkaaDoor
open Go Go.RowKit Go.Shelf

set_option maxRecDepth 100000 in
set_option maxHeartbeats 4000000 in
theorem maskNearest_all (w : World) (m0 : Nat) (hm0 : m0 < 18446744073709551616) (c : Int) (hc : -9223372036854775808 ≤ c ∧ c ≤ 9223372036854775807) (hE : EV w) :
    Calls Tryd.prog 7 #[.int .u64 m0, .int .i64 c] w fun e w' => e = .returned (.bool true) ∧ Below w.heap.size w w' := by
  have HE := Lib.hid hE
  obtain ⟨m, HM⟩ := nm (max m0 1)
  have hm : m < 18446744073709551616 := by have := HM.out; omega
  have h0 : m ≠ 0 := by have := HM.out; omega
  have hmx : max (m0 : Int) 1 = (m : Int) := by have := HM.out; omega
  obtain ⟨c1, HC1⟩ := nm (min c 0)
  obtain ⟨c2, HC2⟩ := nm (max c 63)
  obtain ⟨at', HAT⟩ := nm (min (max c (-100)) 200)
  have e1 := HC1.out
  have e2 := HC2.out
  have e3 := HAT.out
  have ha : -100 ≤ at' ∧ at' ≤ 200 := by omega
  have hlow := near_low hm h0 (c := c1) (by omega)
  have hhigh := near_high hm h0 (c := c2) (by omega)
  have hclip : nearI m at' = nearI m c := by rw [← HAT.out]; exact near_clip m c
  have hself := near_self hm c
  have hbest := fun i (hi : i < (members m).length) => near_best hm h0 at' hi
  rw [hclip] at hbest
  obtain ⟨jx, hjx, hx1, hx2, hx3, _⟩ := near_spec hm h0 c
  have hhasx : hasB m (nearI m c) = true := by rw [hx1]; exact mem_ints_has hm hjx
  have hbd := fun i (hi : i < (members m).length) => ints_bd (N := 64) (fun k (hk : k ∈ members m) => members_lt hk) i (by rw [ints_length]; exact hi)
  have hp := members_pos hm h0
  have hl64 := members_len m
  have HMB := Lib.hid (fun W => mmembers_any m hm W)
  have hN : nearB m = true := decide_eq_true h0
  have N0 := fun W => near_any m hm c W
  have N1 := fun W => near_any m hm c1 W
  have N2 := fun W => near_any m hm c2 W
  have N3 := fun W => near_any m hm at' W
  rw [hN] at N0 N1 N2 N3
  simp only [hlow] at N1
  simp only [hhigh] at N2
  simp only [hclip] at N3
  have hH1 := fun W => has_any m hm (nearI m c) (by omega) W
  rw [hhasx] at hH1
  have hH2 := fun W => has_any m hm c hc W
  have hln := ints_length (members m)
  obtain ⟨x, HX⟩ := nm (nearI m c)
  simp only [HX.out] at N0 N3 hH1 hself hbest hx2 hx3
  obtain ⟨n, HN⟩ := nm (members m).length
  rw [HN.out] at hp hl64 hln
  simp only [HN.out] at hbest hbd N2
  obtain ⟨l, HL⟩ := nm (ints (members m))
  simp only [HL.out] at hbest hbd N1 N2 HMB hln
  obtain ⟨lo, HLO⟩ := nm (l[0]?.getD 0)
  simp only [HLO.out] at N1
  obtain ⟨hi', HHI⟩ := nm (l[n - 1]?.getD 0)
  simp only [HHI.out] at N2
  have A0 := Lib.hid N0
  have A1 := Lib.hid N1
  have A2 := Lib.hid N2
  have A3 := Lib.hid N3
  have B1 := Lib.hid hH1
  have B2 := Lib.hid hH2
  have HSELF := Lib.hid hself
  have HBEST := Lib.hid hbest
  have HBD := Lib.hid hbd
  have HLN := Lib.hid hln
  obtain ⟨ha1, ha2⟩ := ha
  clear hE N0 N1 N2 N3 hH1 hH2 hself hbest hbd hln hlow hhigh hclip hx1 hjx hhasx hN h0 e3
  go_enter Tryd.func7, Tryd.ntmps7
  go_wp2_with fail
  refine (awakeM_any w HE.out).mono ?_
  rintro e w1 ⟨rfl, hb1⟩
  have HB1 := Lib.hid hb1
  clear hb1
  go_wp2_with fail
  refine (HMB.out _).mono ?_
  rintro e w2 ⟨vl, rfl, ho, hb2⟩
  have HB2 := Lib.hid (gr_tr HB1.out hb2)
  rcases ho.form with ⟨_, hnil⟩ | ⟨gl, cl, rfl, hg1, hg2, hg3, hg4⟩
  · have := congrArg List.length hnil; rw [HLN.out] at this; simp at this; omega
  rw [HLN.out] at hg3 ⊢
  have hoc := fun i (hi : i < n) => World.ownsRow.cellAt ho i (by rw [HLN.out]; omega)
  have hcl : ∀ i, i < n → w2.cell? ⟨gl, i, none⟩ = some (.int .i64 (l[i]?.getD 0)) := fun i hi => by rw [hoc i hi, valsI_get .i64 l i (by rw [HLN.out]; exact hi)]
  have HCL := Lib.hid hcl
  clear hb2 ho hoc hcl
  go_wp2_with fail
  refine (A0.out _).mono ?_
  rintro e w3 ⟨rfl, hb3⟩
  have HB3 := Lib.hid hb3
  clear hb3
  go_wp2_with fail
  refine (A1.out _).mono ?_
  rintro e w4 ⟨rfl, hb4⟩
  have HB4 := Lib.hid (gr_tr HB3.out hb4)
  clear hb4 HB3
  go_wp2_with fail
  refine (A2.out _).mono ?_
  rintro e w5 ⟨rfl, hb5⟩
  have HB5 := Lib.hid (gr_tr HB4.out hb5)
  clear hb5 HB4
  have k0 := cell_keep HB5.out (HCL.out 0 hp) (cell_lt (HCL.out 0 hp))
  have kn := cell_keep HB5.out (HCL.out (n - 1) (by omega)) (cell_lt (HCL.out (n - 1) (by omega)))
  rw [HLO.out] at k0
  rw [HHI.out] at kn
  obtain ⟨q, HQ⟩ := nm (n - 1)
  rw [HQ.out] at kn
  have hw1 : IntKind.i64.wrap ((n : Int) - 1) = (q : Int) := by rw [IntWalk.i64_in _ (by omega)]; have := HQ.out; omega
  have hnq : (n : Int) - 1 = (q : Int) := by have := HQ.out; omega
  have hq1 : q < n := by have := HQ.out; omega
  have hn0 : ((n : Int) == 0) = false := beq_false_of_ne (by omega)
  go_wp2_with fail
  refine (B1.out _).mono ?_
  rintro e w6 ⟨rfl, rfl⟩
  go_wp2_with fail
  refine (B2.out _).mono ?_
  rintro e w6 ⟨rfl, rfl⟩
  have hxc : hasB m c = false ∨ (hasB m c = true ∧ x = c) := by
    rcases Bool.eq_false_or_eq_true (hasB m c) with h | h
    · exact .inr ⟨h, HSELF.out h⟩
    · exact .inl h
  have ho : ∃ o : Bool, hasB m c = o ∧ (o = false ∨ (o = true ∧ x = c)) := ⟨_, rfl, hxc⟩
  clear hxc
  obtain ⟨o, ho, hxc⟩ := ho
  rw [ho]
  clear ho
  rcases hxc with rfl | ⟨rfl, rfl⟩
  all_goals
    go_wp2_with fail
    rw [HAT.out]
    refine (A3.out _).mono ?_
    rintro e w6 ⟨rfl, hb6⟩
    have HB6 := Lib.hid (gr_tr HB5.out hb6)
    have HB7 := Lib.hid (gr_tr HB2.out HB6.out)
    clear hb6 HB5
    go_wp2_with fail
    go_loopw [104] (fun vk wz => ∃ k : Nat, k ≤ n ∧ vk = .int .i64 (k : Int) ∧ w6 = wz) (fun vk _ => n - (intOf vk).toNat)
    case atStart => exact ⟨0, Nat.zero_le _, rfl, rfl⟩
    case round =>
      obtain ⟨k, hk, rfl, rfl⟩ := hrel
      by_cases hlt : k < n
      · have ck := cell_keep HB6.out (HCL.out k hlt) (cell_lt (HCL.out k hlt))
        have hkb := HBEST.out k hlt
        have hkd := HBD.out k hlt
        obtain ⟨i, HI⟩ := nm (l[k]?.getD 0)
        rw [HI.out] at ck hkb hkd
        unfold dist at hkb
        have hi1 : (k : Int) < (n : Int) := by omega
        have w1' : IntKind.i64.wrap (i - at') = i - at' := IntWalk.i64_in _ (by omega)
        have w2' : IntKind.i64.wrap (at' - i) = at' - i := IntWalk.i64_in _ (by omega)
        have w3' : IntKind.i64.wrap (x - at') = x - at' := IntWalk.i64_in _ (by omega)
        have w4' : IntKind.i64.wrap (at' - x) = at' - x := IntWalk.i64_in _ (by omega)
        obtain ⟨d, hd⟩ : ∃ d, max (i - at') (at' - i) = d := ⟨_, rfl⟩
        obtain ⟨f, hf⟩ : ∃ f, max (x - at') (at' - x) = f := ⟨_, rfl⟩
        rw [hd, hf] at hkb
        rcases hkb with hkb | ⟨rfl, hkb⟩
        · have hq1 : ¬ d < f := by omega
          have hq2 : (d == f) = false := beq_false_of_ne (by omega)
          go_wp2_with fail
          go_roundw
          case rel => exact ⟨k + 1, by omega, by go_num, trivial⟩
          case measure => simp [intOf]; omega
        · have hq1 : ¬ i < x := by omega
          go_wp2_with fail
          go_roundw
          case rel => exact ⟨k + 1, by omega, by go_num, trivial⟩
          case measure => simp [intOf]; omega
      · obtain rfl : n = k := by omega
        go_wp2_with fail
        go_ret
        exact ⟨by simp, HB7.out⟩
end Go.Proofs.YtjpkldndeakkkaaDoor
