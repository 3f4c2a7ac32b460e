/- The walk of the law MaskTells. -/
import Derived.Test.YtjpkldndeakkkaaDoorMRefC
import Derived.Test.YtjpkldndeakkkaaDoorMskI
import Derived.Test.YtjpkldndeakkkaaDoorMskR
import Derived.Deep.DeepCutAuto
namespace Go.Proofs.YtjpkldndeakkkaaDoor
open Go Go.RowKit Go.Shelf

/-- What asked says. -/
def askB (i : Int) (ok : Bool) (want : Int) : Bool := (ok == decide (0 ≤ want)) && decide (i = max want 0)
set_option maxHeartbeats 1000000 in
theorem asked_any (i : Int) (ok : Bool) (want : Int) (w : World) (h : ok = decide (0 ≤ want)) (hi : i = max want 0) :
    Calls Tryd.prog 47 #[.int .i64 i, .bool ok, .int .i64 want] w fun e w' => e = .returned (.bool true) ∧ w = w' := by
  by_cases h0 : 0 ≤ want
  · obtain rfl : i = want := by omega
    rw [decide_eq_true h0] at h
    subst h
    have hd : decide (0 ≤ i) = true := decide_eq_true h0
    have hm : max i 0 = i := by omega
    clear hi
    go_enter Tryd.func47, Tryd.ntmps47
    go_wp2_with fail
    all_goals
      go_ret
      exact ⟨rfl, rfl⟩
  · obtain rfl : i = 0 := by omega
    rw [decide_eq_false h0] at h
    subst h
    have hd : decide (0 ≤ want) = false := decide_eq_false h0
    have hm : max want 0 = 0 := by omega
    clear hi
    go_enter Tryd.func47, Tryd.ntmps47
    go_wp2_with fail
    all_goals
      go_ret
      exact ⟨rfl, rfl⟩
theorem orL_members {m : Nat} (hm : m < 18446744073709551616) : orL (ints (members m)) = m := by
  apply Nat.eq_of_testBit_eq
  intro i
  rw [orL_mem _ _ (fun c hc => by
    have := ok_ints hc
    have := of_decide_eq_true this
    omega)]
  by_cases h : m.testBit i = true
  · rw [h]
    exact decide_eq_true (ints_mem'.2 ((members_mem hm).2 h))
  · have : m.testBit i = false := by simpa using h
    rw [this]
    exact decide_eq_false (fun q => h ((members_mem hm).1 (ints_mem'.1 q)))
theorem next_ask (m : Nat) (c : Int) : nextB m c = decide (0 ≤ rnextI m c) ∧ nextI m c = max (rnextI m c) 0 := by
  unfold rnextI
  obtain ⟨p, h1, h2, h3⟩ := cut_at m c _ (Nat.le_refl (members m).length)
  by_cases e : p = (members m).length
  · obtain ⟨e1, e2⟩ := next_over (m := m) (c := c) (fun i hi => h2 i (by omega))
    rw [e1, e2]
    exact ⟨rfl, rfl⟩
  · obtain ⟨e1, e2⟩ := next_at (m := m) (j := p) (c := c) (by omega) h2 (h3 p (Nat.le_refl _) (by omega))
    have := mat_bd (m := m) (j := p) (by omega)
    rw [e1, e2, if_pos rfl]
    exact ⟨(decide_eq_true this.1).symm, by omega⟩
/-- What the reference makes of Around. -/
def raround (m : Nat) (c : Int) : Int := if rnextI m c < 0 then rnextI m 0 else rnextI m c
theorem around_ask (m : Nat) (c : Int) : aroundB m c = decide (0 ≤ raround m c) ∧ aroundI m c = max (raround m c) 0 := by
  obtain ⟨h1, h2⟩ := next_ask m c
  obtain ⟨h3, h4⟩ := next_ask m 0
  unfold aroundB aroundI raround
  by_cases h : rnextI m c < 0
  · rw [if_pos h]
    have hb : nextB m c = false := by rw [h1]; exact decide_eq_false (by omega)
    rw [hb, Bool.false_or]
    refine ⟨h3, ?_⟩
    rw [← h4]; rfl
  · rw [if_neg h]
    have hb : nextB m c = true := by rw [h1]; exact decide_eq_true (by omega)
    rw [hb, Bool.true_or]
    refine ⟨(decide_eq_true (by omega)).symm, ?_⟩
    rw [← h2]; rfl
def rnear0 (m : Nat) (c : Int) : Int := if m = 0 then -1 else nearI m c
theorem near_ask {m : Nat} (hm : m < 18446744073709551616) (c : Int) : nearB m = decide (0 ≤ rnear0 m c) ∧ nearI m c = max (rnear0 m c) 0 := by
  unfold nearB rnear0
  by_cases h : m = 0
  · rw [if_pos h]
    exact ⟨by rw [decide_eq_false (by omega)]; rfl, by unfold nearI; rw [if_pos h]; rfl⟩
  · rw [if_neg h]
    obtain ⟨j, _, _, h3, _, _⟩ := near_spec hm h c
    exact ⟨by rw [decide_eq_true h, decide_eq_true h3], by omega⟩
/-- Whether c is among the first members. -/
def hasTo (m : Nat) (c : Int) : Nat → Bool
  | 0 => false
  | i + 1 => hasTo m c i || decide (mat m i = c)
theorem hasTo_iff (m : Nat) (c : Int) : ∀ n, hasTo m c n = true ↔ ∃ i, i < n ∧ mat m i = c
  | 0 => ⟨fun h => (by cases h), fun ⟨i, hi, _⟩ => (by omega)⟩
  | n + 1 => by
    unfold hasTo
    rw [Bool.or_eq_true, hasTo_iff m c n, decide_eq_true_eq]
    constructor
    · rintro (⟨i, hi, e⟩ | e)
      · exact ⟨i, by omega, e⟩
      · exact ⟨n, by omega, e⟩
    · rintro ⟨i, hi, e⟩
      by_cases q : i = n
      · subst q; exact .inr e
      · exact .inl ⟨i, by omega, e⟩
theorem hasTo_all {m : Nat} (hm : m < 18446744073709551616) (c : Int) : hasTo m c (members m).length = hasB m c := by
  rw [Bool.eq_iff_iff, hasTo_iff]
  constructor
  · rintro ⟨i, hi, e⟩
    rw [← e]
    exact mem_ints_has hm hi
  · intro h
    exact has_mem_ints hm h
theorem count_all64 {n : Nat} (hn : n ≤ 64) : (members (allV (n : Int))).length = n := by
  have : allV (n : Int) = 2 ^ n - 1 := by unfold allV; rw [if_pos (by omega), Int.toNat_natCast]
  rw [this]; exact members_all hn
theorem right_all64 {n : Nat} (hn : n ≤ 64) (h0 : 0 < n) : mrightB (allV (n : Int)) (n : Int) = true := by
  have e : allV (n : Int) = 2 ^ n - 1 := by unfold allV; rw [if_pos (by omega), Int.toNat_natCast]
  have hp : (2 : Nat) ≤ 2 ^ n := by
    have := Nat.pow_le_pow_right (n := 2) (by decide) h0
    simpa using this
  rw [e]
  unfold mrightB
  exact decide_eq_true ⟨by omega, by omega, by omega, by rw [Int.toNat_natCast]; omega⟩

set_option maxRecDepth 100000 in
set_option maxHeartbeats 8000000 in
theorem tells_any (m : Nat) (hm : m < 18446744073709551616) (c : Int) (hc : -9223372036854775808 ≤ c ∧ c ≤ 9223372036854775807) (n : Int) (hn : -9223372036854775808 ≤ n ∧ n ≤ 9223372036854775807) (w : World) :
    Calls Tryd.prog 23 #[.int .u64 m, .int .i64 c, .int .i64 n] w fun e w' => e = .returned (.bool true) ∧ Below w.heap.size w w' := by
  go_enter Tryd.func23, Tryd.ntmps23
  go_wp2_with fail
  refine (rmembers_any m hm _).mono ?_
  rintro e w1 ⟨v1, rfl, ho, hb⟩
  obtain ⟨a, cp, rfl, hl64, hlc, hcm, hcs⟩ := members_cells ho
  have HO := Lib.hid ho.reads
  have HB := Lib.hid hb
  have HHAS := Lib.hid (hasTo_all hm c)
  have HCN := Lib.hid (fun W => mcount_any m hm W)
  have HST := Lib.hid (fun i => (show hasTo m c (i + 1) = (hasTo m c i || decide (mat m i = c)) from rfl))
  have HLL := Lib.hid (show (ints (members m)).length ≤ 64 by rw [ints_length]; exact mat_len m)
  obtain ⟨L, HL⟩ := nm (members m).length
  rw [HL.out] at hlc hl64 hcs HO HHAS ⊢
  simp only [HL.out] at HCN
  have HCS := Lib.hid hcs
  clear ho hb hcs
  go_wp2_with fail
  go_loopw [8, 26] (fun vh vi wr => ∃ i : Nat, i ≤ L ∧ vi = .int .i64 (i : Int) ∧ vh = .bool (hasTo m c i) ∧ w1 = wr) (fun _ vi _ => L - (intOf vi).toNat)
  case atStart => exact ⟨0, Nat.zero_le _, rfl, rfl, rfl⟩
  case round =>
    obtain ⟨i, hi, rfl, rfl, rfl⟩ := hrel
    by_cases hlt : i < L
    · obtain ⟨b, o, rfl, hcell⟩ := HCS.out.resolve_left (fun h => by omega)
      have ck := hcell i hlt
      have hst := HST.out i
      obtain ⟨x, HX⟩ := nm (mat m i)
      rw [HX.out] at ck hst
      obtain ⟨r, HR⟩ := nm (hasTo m c i)
      rw [HR.out] at hst ⊢
      obtain ⟨r2, HR2⟩ := nm (hasTo m c (i + 1))
      rw [HR2.out] at hst
      have HREL := Lib.hid (fun (q : Bool) (h : q = r2) => (show Value.bool q = .bool (hasTo m c (i + 1)) from by rw [HR2.out, h]))
      clear hcell
      cases r with
      | true =>
        rw [Bool.true_or] at hst
        have HSS := Lib.hid hst
        clear hst
        go_wp2_with fail
        go_roundw
        case rel => exact ⟨i + 1, by omega, by go_num, HREL.out _ HSS.out.symm, trivial⟩
        case measure => simp [intOf]; omega
      | false =>
        rw [Bool.false_or] at hst
        by_cases hxc : x = c
        · rw [decide_eq_true hxc] at hst
          have hq : (x == c) = true := by rw [hxc]; simp
          have HSS := Lib.hid hst
          clear hst hxc
          go_wp2_with fail
          go_roundw
          case rel => exact ⟨i + 1, by omega, by go_num, HREL.out _ HSS.out.symm, trivial⟩
          case measure => simp [intOf]; omega
        · rw [decide_eq_false hxc] at hst
          have hq : (x == c) = false := beq_false_of_ne hxc
          have HSS := Lib.hid hst
          clear hst hxc
          go_wp2_with fail
          go_roundw
          case rel => exact ⟨i + 1, by omega, by go_num, HREL.out _ HSS.out.symm, trivial⟩
          case measure => simp [intOf]; omega
    · obtain rfl : i = L := by omega
      rw [HHAS.out]
      have HAL := Lib.hid (fun W => all_any n W hn)
      obtain ⟨wo, rfl⟩ : ∃ wo : World, wo = w1 := ⟨_, rfl⟩
      have HA1 := Lib.hid (show (¬ (0 ≤ n ∧ n ≤ 64)) → allV n = 0 ∧ allE n = 2 from fun h => ⟨if_neg h, if_neg h⟩)
      have HA2 := Lib.hid (show (0 ≤ n ∧ n ≤ 64) → allE n = 0 ∧ ((members (allV n)).length : Int) = n ∧ (0 < n → mrightB (allV n) n = true) from fun h => by
        obtain ⟨k, rfl⟩ := Int.eq_ofNat_of_zero_le h.1
        exact ⟨if_pos h, by rw [count_all64 (by omega)], fun h0 => right_all64 (by omega) (by omega)⟩)
      have hal := allV_lt n
      have HRM := Lib.hid (fun W => rmembers_any (allV n) hal W)
      have HRO := Lib.hid (fun W v base (h : OwnsI .i64 3 W base v (ints (members (allV n)))) => rof_any v _ W h.reads (by rw [ints_length]; have := mat_len (allV n); omega) (fun c hc => ok_ints hc))
      have HCA := Lib.hid (fun W => mcount_any (allV n) hal W)
      have HRA := Lib.hid (fun W => rright_any (allV n) hal n W)
      simp only [orL_members hal] at HRO
      obtain ⟨A, HA⟩ := nm (allV n)
      obtain ⟨E, HE⟩ := nm (allE n)
      simp only [HA.out, HE.out] at HAL HA1 HA2
      simp only [HA.out] at HRM HRO HCA HRA
      rw [HA.out] at hal
      obtain ⟨LA, HLA⟩ := nm (members A).length
      simp only [HLA.out] at HA2 HCA
      obtain ⟨RA, HRAN⟩ := nm (mrightB A n)
      simp only [HRAN.out] at HA2 HRA
      have HBN := Lib.hid (Below.refl wo.heap.size wo)
      clear hal
      by_cases hneg : n < 0
      case' pos =>
        have hd1 : decide (n < 0) = true := decide_eq_true hneg
        go_wp2_with fail
        refine (HAL.out _).mono ?_
        rintro e w2 ⟨rfl, rfl⟩
        go_upto_if 47 with fail
      case' neg =>
        have hd1 : decide (n < 0) = false := decide_eq_false hneg
        by_cases hbig : 64 < n
        case' pos =>
          have hd2 : decide (64 < n) = true := decide_eq_true hbig
          go_wp2_with fail
          refine (HAL.out _).mono ?_
          rintro e w2 ⟨rfl, rfl⟩
          go_upto_if 47 with fail
        case' neg =>
          have hd2 : decide (64 < n) = false := decide_eq_false hbig
          go_wp2_with fail
          refine (HAL.out _).mono ?_
          rintro e w2 ⟨rfl, rfl⟩
          go_upto_if 47 with fail
      all_goals
       go_cut [6] (fun v wx => v = .bool false ∧ Below wo.heap.size wo wx)
       case first =>
        by_cases hrange : 0 ≤ n ∧ n ≤ 64
        · first
          | exact absurd hrange (by omega)
          | (obtain ⟨e1, e2, e3⟩ := HA2.out hrange
             have hE1 : (E == 0) = true := by rw [e1]; rfl
             have hE2 : (E != 0) = false := by rw [e1]; rfl
             have hla : ((LA : Int) == n) = true := by rw [e2]; simp
             have hla2 : ((LA : Int) != n) = false := by rw [e2]; simp
             have H3 := Lib.hid e3
             have H2 := Lib.hid e2
             clear e1 e3 e2
             go_wp2_with fail
             refine (HRM.out _).mono ?_
             rintro e w2 ⟨v2, rfl, ho2, hb2⟩
             have HO2 := Lib.hid ho2
             have HB2 := Lib.hid hb2
             clear ho2 hb2
             go_wp2_with fail
             refine (HRO.out _ _ _ HO2.out).mono ?_
             rintro e w3 ⟨rfl, hb3⟩
             have HB3 := Lib.hid (HB2.out.trans (hb3.mono HB2.out.size))
             clear hb3
             go_wp2_with fail
             refine (HCA.out _).mono ?_
             rintro e w4 ⟨rfl, hb4⟩
             have HB4 := Lib.hid (HB3.out.trans (hb4.mono HB3.out.size))
             clear hb4
             by_cases h0 : 0 < n
             · have hd3 : decide (0 < n) = true := decide_eq_true h0
               have hra := H3.out h0
               rw [hra] at HRA
               clear hra
               go_wp2_with fail
               refine (HRA.out _).mono ?_
               rintro e w5 ⟨rfl, hb5⟩
               have HB5 := Lib.hid (HB4.out.trans (hb5.mono HB4.out.size))
               clear hb5
               go_wp2_with fail
               go_meet
               exact ⟨rfl, HB5.out⟩
             · have hd3 : decide (0 < n) = false := decide_eq_false h0
               go_wp2_with fail
               go_meet
               exact ⟨rfl, HB4.out⟩)
        · obtain ⟨e1, e2⟩ := HA1.out hrange
          have hE1 : (E == 2) = true := by rw [e2]; rfl
          have hE2 : (E != 2) = false := by rw [e2]; rfl
          have hA1 : ((A : Int) == 0) = true := by rw [e1]; rfl
          have hA2 : ((A : Int) != 0) = false := by rw [e1]; rfl
          clear e1 e2
          all_goals go_wp2_with fail
          all_goals go_meet
          all_goals exact ⟨rfl, HBN.out⟩
       case rest =>
        obtain ⟨rfl, hbc⟩ := hcut
        have HBC := Lib.hid hbc
        clear hbc HRM HRO HCA HRA HA1 HA2 HAL
        have HNX := Lib.hid (fun W => rnext_any m hm c W)
        have HN0 := Lib.hid (fun W => rnext_any m hm 0 W)
        obtain ⟨a1, a2⟩ := next_ask m c
        obtain ⟨a3, a4⟩ := around_ask m c
        obtain ⟨a5, a6⟩ := near_ask hm c
        have HRD := Lib.hid (show raround m c = if rnextI m c < 0 then rnextI m 0 else rnextI m c from rfl)
        have HQ1 := Lib.hid (fun W => next_any m hm c W)
        have HQ2 := Lib.hid (fun W => around_any m hm c W)
        have HQ3 := Lib.hid (fun W => near_any m hm c W)
        have HRN := Lib.hid (fun (h : m ≠ 0) W => rnear_any m hm h c hc W)
        have HR0 := Lib.hid (show rnear0 m c = if m = 0 then -1 else nearI m c from rfl)
        have HK1 := Lib.hid (fun W => asked_any (nextI m c) (nextB m c) (rnextI m c) W a1 a2)
        have HK2 := Lib.hid (fun W => asked_any (aroundI m c) (aroundB m c) (raround m c) W a3 a4)
        have HK3 := Lib.hid (fun W => asked_any (nearI m c) (nearB m) (rnear0 m c) W a5 a6)
        have HT1 := Lib.hid (fun W => mtext_any m hm W)
        have HT2 := Lib.hid (fun W => rtext_any m hm W)
        have HS1 := Lib.hid (fun W => mmembers_any m hm W)
        have HS2 := Lib.hid (fun W v base (hB : Below wo.heap.size wo W) (h : OwnsI .i64 3 W base v (ints (members m))) => (show Calls Tryd.prog 46 #[v, .slice a i cp] W (fun e w' => e = .returned (.bool true) ∧ Below W.heap.size W w') from by
          have h2 := sameInts_any v _ _ _ W h.reads (HO.out.keep hB (Nat.le_refl _)) (by have := HLL.out; omega)
          rw [decide_eq_true rfl] at h2
          exact h2))
        have HH := Lib.hid (fun W => has_any m hm c hc W)
        have HP1 := Lib.hid (fun W => mright_any m hm n hn W)
        have HP2 := Lib.hid (fun W => rright_any m hm n W)
        clear a1 a2 a3 a4 a5 a6
        obtain ⟨N, HN⟩ := nm (rnextI m c)
        obtain ⟨N0, HN00⟩ := nm (rnextI m 0)
        obtain ⟨RD, HRDN⟩ := nm (raround m c)
        obtain ⟨NR, HNRN⟩ := nm (rnear0 m c)
        obtain ⟨nI, HnI⟩ := nm (nextI m c)
        obtain ⟨nB, HnB⟩ := nm (nextB m c)
        obtain ⟨aI, HaI⟩ := nm (aroundI m c)
        obtain ⟨aB, HaB⟩ := nm (aroundB m c)
        obtain ⟨rI, HrI⟩ := nm (nearI m c)
        obtain ⟨rB, HrB⟩ := nm (nearB m)
        obtain ⟨T, HTT⟩ := nm (bstr (mtextB m))
        obtain ⟨hB, HhB⟩ := nm (hasB m c)
        obtain ⟨pB, HpB⟩ := nm (mrightB m n)
        simp only [HN.out] at HNX HRD HK1
        simp only [HN00.out] at HN0 HRD
        simp only [HRDN.out] at HRD HK2
        simp only [HNRN.out] at HR0 HK3
        simp only [HnI.out, HnB.out] at HQ1 HK1
        simp only [HaI.out, HaB.out] at HQ2 HK2
        simp only [HrI.out] at HQ3 HK3 HRN HR0
        simp only [HrB.out] at HQ3 HK3
        simp only [HTT.out] at HT1 HT2
        simp only [HhB.out] at HH
        rw [HhB.out]
        simp only [HpB.out] at HP1 HP2
        go_wp2_with fail
        refine (HNX.out _).mono ?_
        rintro e wn ⟨rfl, hbn⟩
        replace HBC := Lib.hid (HBC.out.trans (hbn.mono HBC.out.size))
        clear hbn
        go_wp2_with fail
        refine (HNX.out _).mono ?_
        rintro e wn2 ⟨rfl, hbn⟩
        replace HBC := Lib.hid (HBC.out.trans (hbn.mono HBC.out.size))
        clear hbn
        go_upto_if 86 with fail
        go_cut [14] (fun v wx => v = .int .i64 RD ∧ Below wo.heap.size wo wx)
        case first =>
          by_cases hN0 : N < 0
          · have hd1 : decide (N < 0) = true := decide_eq_true hN0
            have hr := HRD.out
            rw [if_pos hN0] at hr
            have HRR := Lib.hid hr
            clear hr
            go_wp2_with fail
            refine (HN0.out _).mono ?_
            rintro e wn3 ⟨rfl, hbn⟩
            replace HBC := Lib.hid (HBC.out.trans (hbn.mono HBC.out.size))
            clear hbn
            go_wp2_with fail
            go_meet
            exact ⟨by rw [HRR.out], HBC.out⟩
          · have hd1 : decide (N < 0) = false := decide_eq_false hN0
            have hr := HRD.out
            rw [if_neg hN0] at hr
            have HRR := Lib.hid hr
            clear hr
            go_wp2_with fail
            go_meet
            exact ⟨by rw [HRR.out], HBC.out⟩
        case rest =>
          obtain ⟨rfl, hbc⟩ := hcut
          replace HBC := Lib.hid hbc
          clear hbc
          go_upto_if 90 with fail
          go_cut [15] (fun v wx => v = .int .i64 NR ∧ Below wo.heap.size wo wx)
          case first =>
            by_cases h0 : m = 0
            · have hr := HR0.out
              rw [if_pos h0] at hr
              have HRR := Lib.hid hr
              have hq1 : ((m : Int) == 0) = true := by rw [h0]; rfl
              have hq2 : ((m : Int) != 0) = false := by rw [h0]; rfl
              clear hr h0
              go_wp2_with fail
              go_meet
              exact ⟨by rw [HRR.out], HBC.out⟩
            · have hr := HR0.out
              rw [if_neg h0] at hr
              have HRR := Lib.hid hr
              have hq1 : ((m : Int) == 0) = false := beq_false_of_ne (by omega)
              have hq2 : ((m : Int) != 0) = true := by simp only [bne, hq1]; rfl
              have HRN2 := Lib.hid (fun W => HRN.out h0 W)
              clear hr h0
              go_wp2_with fail
              refine (HRN2.out _).mono ?_
              rintro e wn3 ⟨rfl, hbn⟩
              replace HBC := Lib.hid (HBC.out.trans (hbn.mono HBC.out.size))
              clear hbn
              go_wp2_with fail
              go_meet
              exact ⟨by rw [HRR.out], HBC.out⟩
          case rest =>
            obtain ⟨rfl, hbc⟩ := hcut
            replace HBC := Lib.hid hbc
            clear hbc
            have hLL : ((i : Int) == (i : Int)) = true := by simp
            go_wp2_with fail
            refine (HQ1.out _).mono ?_
            rintro e wn ⟨rfl, hbn⟩
            replace HBC := Lib.hid (HBC.out.trans (hbn.mono HBC.out.size))
            clear hbn
            go_wp2_with fail
            refine (HQ2.out _).mono ?_
            rintro e wn2 ⟨rfl, hbn⟩
            replace HBC := Lib.hid (HBC.out.trans (hbn.mono HBC.out.size))
            clear hbn
            go_wp2_with fail
            refine (HQ3.out _).mono ?_
            rintro e wn3 ⟨rfl, hbn⟩
            replace HBC := Lib.hid (HBC.out.trans (hbn.mono HBC.out.size))
            clear hbn
            go_wp2_with fail
            refine (HP1.out _).mono ?_
            rintro e w9 ⟨rfl, rfl⟩
            go_wp2_with fail
            refine (HP2.out _).mono ?_
            rintro e wn4 ⟨rfl, hbn⟩
            replace HBC := Lib.hid (HBC.out.trans (hbn.mono HBC.out.size))
            clear hbn
            go_wp2_with fail
            refine (HH.out _).mono ?_
            rintro e w9 ⟨rfl, rfl⟩
            go_wp2_with fail
            refine (HCN.out _).mono ?_
            rintro e wn5 ⟨rfl, hbn⟩
            replace HBC := Lib.hid (HBC.out.trans (hbn.mono HBC.out.size))
            clear hbn
            go_wp2_with fail
            refine (HS1.out _).mono ?_
            rintro e wn6 ⟨vs, rfl, hos, hbn⟩
            replace HBC := Lib.hid (HBC.out.trans (hbn.mono HBC.out.size))
            have HOS := Lib.hid hos
            clear hbn hos
            go_wp2_with fail
            refine (HS2.out _ _ _ HBC.out HOS.out).mono ?_
            rintro e wn7 ⟨rfl, hbn⟩
            replace HBC := Lib.hid (HBC.out.trans (hbn.mono HBC.out.size))
            clear hbn
            go_wp2_with fail
            refine (HK1.out _).mono ?_
            rintro e w9 ⟨rfl, rfl⟩
            go_wp2_with fail
            refine (HK2.out _).mono ?_
            rintro e w9 ⟨rfl, rfl⟩
            go_wp2_with fail
            refine (HK3.out _).mono ?_
            rintro e w9 ⟨rfl, rfl⟩
            go_wp2_with fail
            refine (HT1.out _).mono ?_
            rintro e wn8 ⟨rfl, hbn⟩
            replace HBC := Lib.hid (HBC.out.trans (hbn.mono HBC.out.size))
            clear hbn
            go_wp2_with fail
            refine (HT2.out _).mono ?_
            rintro e wn9 ⟨rfl, hbn⟩
            replace HBC := Lib.hid (HBC.out.trans (hbn.mono HBC.out.size))
            clear hbn
            go_wp2_with fail
            go_ret
            exact ⟨rfl, HB.out.trans (HBC.out.mono HB.out.size)⟩

theorem maskTells_all (w : World) (m : Nat) (hm : m < 18446744073709551616) (c : Int) (hc : -9223372036854775808 ≤ c ∧ c ≤ 9223372036854775807) (n : Int) (hn : -9223372036854775808 ≤ n ∧ n ≤ 9223372036854775807) (hE : EV w) :
    Calls Tryd.prog 8 #[.int .u64 m, .int .i64 c, .int .i64 n] w fun e w' => e = .returned (.bool true) ∧ Below w.heap.size w w' := by
  have HH := Lib.hid (tells_any m hm c hc n hn w)
  have HE := Lib.hid hE
  clear hE
  go_enter Tryd.func8, Tryd.ntmps8
  go_wp2_with fail
  refine (HH.out).mono ?_
  rintro e w2 ⟨rfl, hb2⟩
  have HE2 := Lib.hid (HE.out.keep hb2 (Nat.le_refl _))
  have HB2 := Lib.hid hb2
  clear hb2
  go_wp2_with fail
  refine (awakeM_any w2 HE2.out).mono ?_
  rintro e w3 ⟨rfl, hb3⟩
  go_wp2_with fail
  go_ret
  exact ⟨rfl, HB2.out.trans (hb3.mono HB2.out.size)⟩
end Go.Proofs.YtjpkldndeakkkaaDoor
