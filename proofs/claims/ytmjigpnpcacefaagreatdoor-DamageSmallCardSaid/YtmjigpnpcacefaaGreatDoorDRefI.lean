/- The walks of the reference's Strike, Found, Between. -/
import Derived.Test.YtmjigpnpcacefaaGreatDoorDRefH
import Derived.Test.YtmjigpnpcacefaaGreatDoorDmgE
import Derived.Test.YtmjigpnpcacefaaGreatDoorDmgK
import Derived.Test.YtmjigpnpcacefaaGreatDoorDRefA
import Derived.Test.YtmjigpnpcacefaaGreatDoorDRefC
import Derived.Test.YtmjigpnpcacefaaGreatDoorFlip
import Derived.Test.YtmjigpnpcacefaaGreatDoorOwnV
namespace Go.Proofs.YtmjigpnpcacefaaGreatDoor
open Go Go.RowKit Go.Shelf

set_option maxRecDepth 100000 in
set_option maxHeartbeats 2000000 in
theorem rstrike13_any (v : Value) (xs : List Nat) (x : Int) (b : Nat) (w : World) (hv : Reads .u8 w v xs) (hx : Bytes xs) (hxl : xs.length < 100000000) (hb : b < 4294967296) (hxb : -9223372036854775808 ≤ x ∧ x ≤ 9223372036854775807) :
    Calls Tryz.prog 17 #[v, .agg #[.int .i64 x, .int .u32 b]] w fun e w' => ∃ v', e = .returned (.tuple #[v', .int .i64 (strikeE xs x b)]) ∧ Owns .u8 5 w' w.heap.size v' (strikeV xs x b) ∧ Below w.heap.size w w' := by
  have c0 : (w.alloc (.cells #[.int .i64 x, .int .u32 (b : Int)] 46)).cell? ⟨w.heap.size, 0, none⟩ = some (.int .i64 x) := (cell_of_row _ w.heap.size 0 #[.int .i64 x, .int .u32 (b : Int)] 46 (0, 0) (World.alloc_heap_new w _))
  have c1 : (w.alloc (.cells #[.int .i64 x, .int .u32 (b : Int)] 46)).cell? ⟨w.heap.size, 1, none⟩ = some (.int .u32 (b : Int)) := (cell_of_row _ w.heap.size 1 #[.int .i64 x, .int .u32 (b : Int)] 46 (0, 0) (World.alloc_heap_new w _))
  have hA := bel_alloc w (.cells #[.int .i64 x, .int .u32 (b : Int)] 46)
  have hr := rright_any x b hb
  have hbt := rbits13_any x b hb hxb
  have hE : strikeE xs x b = if rightB x b then (if bitsOk x b then flipE xs (bitsV x b) else 130) else 2 := rfl
  have hV : strikeV xs x b = if bitsOk x b then flipV xs (bitsV x b) else [] := rfl
  have hbe : bitsE x b = if bitsOk x b then 0 else 2 := rfl
  cases hrb : rightB x b with
  | false =>
    rw [hrb] at hr hE
    rw [if_neg (by decide)] at hE
    rw [bitsOk_right hrb, if_neg (by decide)] at hV
    rw [hE, hV]
    have HR := Lib.hid hr
    clear hr hbt hE hV hrb hbe
    go_enter Tryz.func17, Tryz.ntmps17
    go_wp2_with fail
    refine (HR.out _).mono ?_
    rintro e w1 ⟨rfl, hb1⟩
    have hB1 := bel_trans hA hb1 (by simp)
    clear hA hb1
    go_wp2_with fail
    go_ret2
    exact ⟨_, rfl, Owns.nil _ _ _ _, hB1⟩
  | true =>
    rw [hrb] at hr hE
    rw [if_pos rfl] at hE
    have HR := Lib.hid hr
    cases hok : bitsOk x b with
    | false =>
      rw [hok, if_neg (by decide)] at hE hV hbe
      rw [hbe] at hbt
      rw [hE, hV]
      have HBT := Lib.hid hbt
      clear hr hbt hE hV hrb hbe hok
      go_enter Tryz.func17, Tryz.ntmps17
      go_wp2_with fail
      refine (HR.out _).mono ?_
      rintro e w1 ⟨rfl, hb1⟩
      have hB1 := bel_trans hA hb1 (by simp)
      have d0 := cell_keep hb1 c0 (cell_lt c0)
      have d1 := cell_keep hb1 c1 (cell_lt c1)
      clear hA hb1 c0 c1
      go_wp2_with fail
      refine (HBT.out _).mono ?_
      rintro e w2 ⟨v2, rfl, ho2, hb2⟩
      have hB2 := hB1.trans (hb2.mono hB1.size)
      clear hB1 hb2 ho2
      go_wp2_with fail
      go_ret2
      exact ⟨_, rfl, Owns.nil _ _ _ _, hB2⟩
    | true =>
      rw [hok, if_pos rfl] at hE hV hbe
      rw [hbe] at hbt
      rw [hE, hV]
      have hbb := @bitsV_bound x b
      obtain ⟨L, HL⟩ := nm (bitsV x b)
      simp only [HL.out] at hbt
      rw [HL.out] at hbb ⊢
      have HBT := Lib.hid hbt
      have HBB := Lib.hid hbb
      clear hr hbt hE hV hrb hbe hok hbb
      go_enter Tryz.func17, Tryz.ntmps17
      go_wp2_with fail
      refine (HR.out _).mono ?_
      rintro e w1 ⟨rfl, hb1⟩
      have hB1 := bel_trans hA hb1 (by simp)
      have d0 := cell_keep hb1 c0 (cell_lt c0)
      have d1 := cell_keep hb1 c1 (cell_lt c1)
      clear hA hb1 c0 c1
      go_wp2_with fail
      refine (HBT.out _).mono ?_
      rintro e w2 ⟨v2, rfl, ho2, hb2⟩
      have hB2 := hB1.trans (hb2.mono hB1.size)
      have hr2 := ho2.reads
      have HR2 := Lib.hid hr2
      clear hB1 hb2 ho2 hr2 d0 d1
      go_wp2_with fail
      refine (rflip13_any v xs v2 L _ (hv.keep hB2 (Nat.le_refl _)) hx hxl HR2.out HBB.out).mono ?_
      rintro e w3 ⟨v3, rfl, ho3, hb3⟩
      have hB3 := hB2.trans (hb3.mono hB2.size)
      have HO3 := Lib.hid (ho3.mono hB2.size)
      clear hB2 hb3 ho3
      go_wp2_with fail
      go_ret2
      exact ⟨_, rfl, HO3.out, hB3⟩


set_option maxRecDepth 100000 in
set_option maxHeartbeats 2000000 in
theorem rfound13_any (v : Value) (xs : List Nat) (vl : Value) (l : List Int) (w : World) (hv : Reads .u8 w v xs) (hx : Bytes xs) (hxl : xs.length < 100000000) (hl : ReadsI .i64 w vl l) (hlb : ∀ k ∈ l, -9223372036854775808 ≤ k ∧ k ≤ 9223372036854775807) :
    Calls Tryz.prog 19 #[v, vl] w fun e w' => e = .returned (.tuple #[.bool (foundV xs l), .int .i64 (foundE xs l)]) ∧ Below w.heap.size w w' := by
  have hE : foundE xs l = if sealedB xs then flipE xs l else 132 := rfl
  have hV : foundV xs l = (sealedB xs && (decide (flipE xs l = 0) && !sealedB (flipV xs l))) := rfl
  have hs := rsealed_any v xs w hv hx (by omega)
  cases hsb : sealedB xs with
  | false =>
    rw [hsb] at hE hV hs
    rw [if_neg (by decide)] at hE
    rw [Bool.false_and] at hV
    rw [hE, hV]
    have HS := Lib.hid hs
    clear hE hV hs hsb
    go_enter Tryz.func19, Tryz.ntmps19
    go_wp2_with fail
    refine HS.out.mono ?_
    rintro e w1 ⟨rfl, hb1⟩
    go_wp2_with fail
    go_ret2
    exact ⟨rfl, hb1⟩
  | true =>
    rw [hsb] at hE hV hs
    rw [if_pos rfl] at hE
    rw [Bool.true_and] at hV
    rw [hE, hV]
    have hby := bytes_flipV hx l
    have hyl : (flipV xs l).length < 1099511627776 := by
      unfold flipV
      split
      · rw [Gf.flips_length]; omega
      · decide
    obtain ⟨E, HE⟩ := nm (flipE xs l)
    have hfl := fun w1 h1 h2 => rflip13_any v xs vl l w1 h1 hx hxl h2 hlb
    obtain ⟨Y, HY⟩ := nm (flipV xs l)
    simp only [HE.out, HY.out] at hfl
    rw [HE.out, HY.out]
    rw [HY.out] at hby hyl
    have HS := Lib.hid hs
    have HF := Lib.hid hfl
    clear hE hV hs hsb hfl
    by_cases h0 : E = 0
    · subst h0
      go_enter Tryz.func19, Tryz.ntmps19
      go_wp2_with fail
      refine HS.out.mono ?_
      rintro e w1 ⟨rfl, hb1⟩
      go_wp2_with fail
      refine (HF.out _ (hv.keep hb1 (Nat.le_refl _)) (hl.keep hb1 (Nat.le_refl _))).mono ?_
      rintro e w2 ⟨v2, rfl, ho2, hb2⟩
      have hB2 := hb1.trans (hb2.mono hb1.size)
      have HR2 := Lib.hid ho2.reads
      clear hb1 hb2 ho2
      go_wp2_with fail
      refine (rsealed_any v2 Y _ HR2.out hby hyl).mono ?_
      rintro e w3 ⟨rfl, hb3⟩
      have hB3 := hB2.trans (hb3.mono hB2.size)
      clear hB2 hb3
      cases hc : sealedB Y
      · go_wp2_with fail
        go_ret2
        exact ⟨by rw [hc]; rfl, hB3⟩
      · go_wp2_with fail
        go_ret2
        exact ⟨by rw [hc]; rfl, hB3⟩
    · have he0 : (E == 0) = false := beq_false_of_ne h0
      rw [decide_eq_false h0, Bool.false_and]
      clear h0
      go_enter Tryz.func19, Tryz.ntmps19
      go_wp2_with fail
      refine HS.out.mono ?_
      rintro e w1 ⟨rfl, hb1⟩
      go_wp2_with fail
      refine (HF.out _ (hv.keep hb1 (Nat.le_refl _)) (hl.keep hb1 (Nat.le_refl _))).mono ?_
      rintro e w2 ⟨v2, rfl, ho2, hb2⟩
      have hB2 := hb1.trans (hb2.mono hb1.size)
      clear hb1 hb2 ho2
      go_wp2_with fail
      go_ret2
      exact ⟨rfl, hB2⟩

set_option maxRecDepth 100000 in
set_option maxHeartbeats 4000000 in
theorem rbetween13_any (va vb : Value) (xs ys : List Nat) (w : World) (ha : Reads .u8 w va xs) (hb : Reads .u8 w vb ys) (hx : Bytes xs) (hy : Bytes ys) (hxl : xs.length < 400000) (hyl : ys.length < 400000) :
    Calls Tryz.prog 18 #[va, vb] w fun e w' => (∃ v, e = .returned (.tuple #[v, .int .i64 (betweenE xs ys)]) ∧ OwnsI .i64 3 w' w.heap.size v (betweenV xs ys)) ∧ Below w.heap.size w w' := by
  have HA := Lib.hid ha
  have HB := Lib.hid hb
  obtain ⟨aa, ca, rfl, hlca, hcma, -⟩ := ha
  obtain ⟨ab, cb, rfl, hlcb, hcmb, -⟩ := hb
  have hbE : betweenE xs ys = if xs.length = ys.length then 0 else 2 := rfl
  have hbV : betweenV xs ys = if xs.length = ys.length then (diffTo xs ys (8 * xs.length)).map fun (x : Nat) => (x : Int) else [] := rfl
  have HX := Lib.hid hx
  have HY := Lib.hid hy
  clear hx hy
  obtain ⟨n, HN⟩ := nm xs.length
  obtain ⟨m, HM⟩ := nm ys.length
  rw [HN.out] at hlca hxl HA hbE hbV ⊢
  rw [HM.out] at hlcb hyl HB hbE hbV ⊢
  by_cases hnm : n = m
  · subst hnm
    rw [if_pos rfl] at hbE hbV
    rw [hbE, hbV]
    have HLY := Lib.hid (fun k (hk : k / 8 < n) => (show k / 8 < ys.length by rw [HM.out]; exact hk))
    have HLX := Lib.hid (fun k (hk : k / 8 < n) => (show k / 8 < xs.length by rw [HN.out]; exact hk))
    clear hbE hbV
    obtain ⟨N8, HN8⟩ := nm (8 * n)
    have hn8 : 8 * (n : Int) = (N8 : Int) := by have := HN8.out; omega
    have hwr : IntKind.i64.wrap (8 * (n : Int)) = (N8 : Int) := by rw [IntWalk.i64_in _ (by omega)]; exact hn8
    rw [HN8.out]
    have hN8 : N8 < 4000000 := by have := HN8.out; omega
    go_enter Tryz.func18, Tryz.ntmps18
    go_wp2_with fail
    go_loopw [6, 7] (fun vo vk wr => ∃ k : Nat, k ≤ N8 ∧ vk = .int .i64 (k : Int) ∧ OwnsI .i64 3 wr w.heap.size vo ((diffTo xs ys k).map fun (x : Nat) => (x : Int)) ∧ Below w.heap.size w wr) (fun _ vk _ => N8 - (intOf vk).toNat)
    case atStart => exact ⟨0, Nat.zero_le _, rfl, OwnsI.nil _ _ _ _, bel_refl _⟩
    case round =>
      obtain ⟨k, hk, rfl, ho, hBr⟩ := hrel
      obtain ⟨oa, om, oc, rfl, -⟩ := ho.slice
      have HO := Lib.hid ho
      have HBr := Lib.hid hBr
      clear ho hBr
      by_cases hlt : k < N8
      · have hk8 : k / 8 < n := by have := HN8.out; omega
        have h1 := rbit13_any _ xs k wr (HA.out.keep HBr.out (Nat.le_refl _)) HX.out (HLX.out k hk8) (by omega)
        have h2 := rbit13_any _ ys k wr (HB.out.keep HBr.out (Nat.le_refl _)) HY.out (HLY.out k hk8) (by omega)
        have hd := diffTo_succ xs ys k
        rw [diffB_bit] at hd
        have hdl := diffTo_le xs ys k
        rw [bitV_eq] at h1 h2
        have hk1 : (k : Int) < (N8 : Int) := by omega
        obtain ⟨Z, HZ⟩ := nm (diffTo xs ys k)
        rw [HZ.out] at hd hdl HO
        obtain ⟨Z2, HZ2⟩ := nm (diffTo xs ys (k + 1))
        rw [HZ2.out] at hd
        clear hk8
        cases e1 : bitAt xs k with
        | true =>
          cases e2 : bitAt ys k with
          | true =>
            rw [e1, if_pos rfl] at h1
            rw [e2, if_pos rfl] at h2
            rw [e1, e2, if_neg (by decide)] at hd
            have H1 := Lib.hid h1
            have H2 := Lib.hid h2
            have HD := Lib.hid hd
            rw [show ((1 : Nat) : Int) = 1 from rfl] at H1
            rw [show ((1 : Nat) : Int) = 1 from rfl] at H2
            clear h1 h2 hd e1 e2
            go_wp2_with fail
            refine H1.out.mono ?_
            rintro e w1 ⟨rfl, rfl⟩
            go_wp2_with fail
            refine H2.out.mono ?_
            rintro e w1 ⟨rfl, rfl⟩
            go_wp2_with fail
            go_roundw
            case rel => exact ⟨k + 1, by omega, by go_num, by rw [HZ2.out, HD.out]; exact HO.out, HBr.out⟩
            case measure => simp [intOf]; omega
          | false =>
            rw [e1, if_pos rfl] at h1
            rw [e2, if_neg (by decide)] at h2
            rw [e1, e2, if_pos (by decide)] at hd
            have H1 := Lib.hid h1
            have H2 := Lib.hid h2
            have HD := Lib.hid hd
            rw [show ((1 : Nat) : Int) = 1 from rfl] at H1
            rw [show ((0 : Nat) : Int) = 0 from rfl] at H2
            clear h1 h2 hd e1 e2
            go_wp2_with fail
            refine H1.out.mono ?_
            rintro e w1 ⟨rfl, rfl⟩
            go_wp2_with fail
            refine H2.out.mono ?_
            rintro e w1 ⟨rfl, rfl⟩
            have hzl : (Z.map fun (x : Nat) => (x : Int)).length < 17592186044414 := by rw [List.length_map]; omega
            have HZL := Lib.hid hzl
            clear hzl
            go_wp2_with (at_builtin; refine wpl_app1I rfl (.tmp 27) (.tmp 29) 23 rfl .i64 3 8 Tryz.underlying23 info_int (by decide) w.heap.size _ _ wr HO.out rfl (k : Int) rfl HZL.out HBr.out.size ?_; intro v5 w5 ho5 hb5; obtain ⟨oa5, om5, oc5, rfl, -⟩ := ho5.slice; have HO5 := Lib.hid ho5; have HB5 := Lib.hid (HBr.out.trans hb5); clear ho5 hb5)
            go_roundw
            case rel => exact ⟨k + 1, by omega, by go_num, by rw [HZ2.out, HD.out, List.map_append]; exact HO5.out, HB5.out⟩
            case measure => simp [intOf]; omega
        | false =>
          cases e2 : bitAt ys k with
          | true =>
            rw [e1, if_neg (by decide)] at h1
            rw [e2, if_pos rfl] at h2
            rw [e1, e2, if_pos (by decide)] at hd
            have H1 := Lib.hid h1
            have H2 := Lib.hid h2
            have HD := Lib.hid hd
            rw [show ((0 : Nat) : Int) = 0 from rfl] at H1
            rw [show ((1 : Nat) : Int) = 1 from rfl] at H2
            clear h1 h2 hd e1 e2
            go_wp2_with fail
            refine H1.out.mono ?_
            rintro e w1 ⟨rfl, rfl⟩
            go_wp2_with fail
            refine H2.out.mono ?_
            rintro e w1 ⟨rfl, rfl⟩
            have hzl : (Z.map fun (x : Nat) => (x : Int)).length < 17592186044414 := by rw [List.length_map]; omega
            have HZL := Lib.hid hzl
            clear hzl
            go_wp2_with (at_builtin; refine wpl_app1I rfl (.tmp 27) (.tmp 29) 23 rfl .i64 3 8 Tryz.underlying23 info_int (by decide) w.heap.size _ _ wr HO.out rfl (k : Int) rfl HZL.out HBr.out.size ?_; intro v5 w5 ho5 hb5; obtain ⟨oa5, om5, oc5, rfl, -⟩ := ho5.slice; have HO5 := Lib.hid ho5; have HB5 := Lib.hid (HBr.out.trans hb5); clear ho5 hb5)
            go_roundw
            case rel => exact ⟨k + 1, by omega, by go_num, by rw [HZ2.out, HD.out, List.map_append]; exact HO5.out, HB5.out⟩
            case measure => simp [intOf]; omega
          | false =>
            rw [e1, if_neg (by decide)] at h1
            rw [e2, if_neg (by decide)] at h2
            rw [e1, e2, if_neg (by decide)] at hd
            have H1 := Lib.hid h1
            have H2 := Lib.hid h2
            have HD := Lib.hid hd
            rw [show ((0 : Nat) : Int) = 0 from rfl] at H1
            rw [show ((0 : Nat) : Int) = 0 from rfl] at H2
            clear h1 h2 hd e1 e2
            go_wp2_with fail
            refine H1.out.mono ?_
            rintro e w1 ⟨rfl, rfl⟩
            go_wp2_with fail
            refine H2.out.mono ?_
            rintro e w1 ⟨rfl, rfl⟩
            go_wp2_with fail
            go_roundw
            case rel => exact ⟨k + 1, by omega, by go_num, by rw [HZ2.out, HD.out]; exact HO.out, HBr.out⟩
            case measure => simp [intOf]; omega
      · obtain rfl : N8 = k := by omega
        go_wp2_with fail
        go_ret2
        exact ⟨⟨_, rfl, HO.out⟩, HBr.out⟩
  · rw [if_neg hnm] at hbE hbV
    rw [hbE, hbV]
    have hne : ¬ (n : Int) = (m : Int) := by omega
    clear hbE hbV
    go_enter Tryz.func18, Tryz.ntmps18
    go_wp2_with fail
    go_ret2
    exact ⟨⟨_, rfl, OwnsI.nil _ _ _ _⟩, bel_refl _⟩
end Go.Proofs.YtmjigpnpcacefaaGreatDoor

