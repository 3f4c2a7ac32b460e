/- The reference masks: the walks of decimal and Text. -/
import Derived.Test.YtjpkldndeakkkaaDoorMRefB
import Derived.Laws.Runes
import Derived.Deep.DeepCutAuto
namespace Go.Proofs.YtjpkldndeakkkaaDoor
open Go Go.RowKit Go.Shelf

theorem enc_one : ∀ n : Nat, n < 10 → Utf8.encode (48 + (n : Int)) = bstr (Lib.decDigits n) := by decide +kernel
theorem enc_two : ∀ n : Nat, n < 64 → 10 ≤ n → Utf8.encode (48 + ((n / 10 : Nat) : Int)) ++ Utf8.encode (48 + ((n % 10 : Nat) : Int)) = bstr (Lib.decDigits n) := by decide +kernel
theorem enc_size : ∀ n : Nat, n < 10 → (Utf8.encode (48 + (n : Int))).size = 1 := by decide +kernel
theorem decimal_any (n : Nat) (hn : n < 64) (w : World) :
    Calls Tryd.prog 49 #[.int .i64 (n : Int)] w fun e w' => e = .returned (.string (bstr (Lib.decDigits n))) ∧ w = w' := by
  by_cases h : n < 10
  · have hd : decide ((n : Int) < 10) = true := decide_eq_true (by omega)
    have he := enc_one n h
    have hw1 : IntKind.i64.wrap (48 + (n : Int)) = 48 + (n : Int) := IntWalk.i64_in _ (by omega)
    have hw2 : IntKind.i32.wrap (48 + (n : Int)) = 48 + (n : Int) := by simp [IntKind.wrap, IntKind.bits, IntKind.signed]; omega
    obtain ⟨s, HS⟩ := nm (bstr (Lib.decDigits n))
    rw [HS.out] at he ⊢
    go_enter Tryd.func49, Tryd.ntmps49
    go_wp2_with fail
    go_ret
    exact ⟨rfl, rfl⟩
  · have hd : decide ((n : Int) < 10) = false := decide_eq_false (by omega)
    have he := enc_two n hn (by omega)
    have hs1 := enc_size (n / 10) (by omega)
    have hs2 := enc_size (n % 10) (by omega)
    have hq1 : (n : Int) / 10 = ((n / 10 : Nat) : Int) := by omega
    have hq2 : (n : Int).tdiv 10 = ((n / 10 : Nat) : Int) := by rw [Int.tdiv_eq_ediv_of_nonneg (by omega)]; exact hq1
    have hr1 : (n : Int) % 10 = ((n % 10 : Nat) : Int) := by omega
    have hr2 : (n : Int).tmod 10 = ((n % 10 : Nat) : Int) := by rw [Int.tmod_eq_emod_of_nonneg (by omega)]; exact hr1
    have hd10 : n / 10 < 10 := by omega
    have hm10 : n % 10 < 10 := by omega
    obtain ⟨p, HP⟩ := nm (n / 10)
    obtain ⟨q, HQ⟩ := nm (n % 10)
    rw [HP.out] at hd10 hq1 hq2 hs1
    rw [HQ.out] at hm10 hr1 hr2 hs2
    rw [HP.out, HQ.out] at he
    have hw1 : IntKind.i64.wrap (48 + (p : Int)) = 48 + (p : Int) := IntWalk.i64_in _ (by omega)
    have hw2 : IntKind.i32.wrap (48 + (p : Int)) = 48 + (p : Int) := by simp [IntKind.wrap, IntKind.bits, IntKind.signed]; omega
    have hw3 : IntKind.i64.wrap (48 + (q : Int)) = 48 + (q : Int) := IntWalk.i64_in _ (by omega)
    have hw4 : IntKind.i32.wrap (48 + (q : Int)) = 48 + (q : Int) := by simp [IntKind.wrap, IntKind.bits, IntKind.signed]; omega
    obtain ⟨s, HS⟩ := nm (bstr (Lib.decDigits n))
    obtain ⟨x, HX⟩ := nm (Utf8.encode (48 + (p : Int)))
    obtain ⟨y, HY⟩ := nm (Utf8.encode (48 + (q : Int)))
    rw [HX.out] at hs1 he
    rw [HY.out] at hs2 he
    have hx := HX.out
    have hy := HY.out
    rw [HS.out] at he ⊢
    have HE := Lib.hid he
    clear he
    go_enter Tryd.func49, Tryd.ntmps49
    go_wp2_with fail
    go_ret
    exact ⟨by rw [← HE.out]; rfl, rfl⟩
theorem runs_elt {m : Nat} : ∀ f c, ∀ x ∈ runs m f c, x ≠ []
  | 0, _ => fun x h => by cases h
  | f + 1, c => by
    intro x hx
    unfold runs at hx
    split at hx
    · cases hx
    · split at hx
      · rcases List.mem_cons.1 hx with rfl | hx
        · exact rtext_ne (by omega)
        · exact runs_elt f _ x hx
      · exact runs_elt f _ x hx
theorem bstr_list (l : List UInt8) : (bstr l).toList = l := by rw [ByteArray.toList_eq]; simp [bstr]

set_option maxRecDepth 100000 in
set_option maxHeartbeats 8000000 in
theorem rtext_any (m : Nat) (hm : m < 18446744073709551616) (w : World) :
    Calls Tryd.prog 24 #[.int .u64 m] w fun e w' => e = .returned (.string (bstr (mtextB m))) ∧ Below w.heap.size w w' := by
  have HSH := Lib.hid (runs_short hm 65 0)
  have HEL := Lib.hid (fun x hx => runs_elt (m := m) 65 0 x hx)
  have HT0 := Lib.hid (fun (h : runs m 65 0 = []) => (show mtextB m = [45] from by
    by_cases h0 : m = 0
    · exact if_pos h0
    · exact absurd h (runs_ne hm h0)))
  have HT1 := Lib.hid (fun (h : runs m 65 0 ≠ []) => (show mtextB m = Lib.join (runs m 65 0) [44] from by
    have h0 : m ≠ 0 := by
      intro e; subst e
      exact h (by decide +kernel)
    exact if_neg h0))
  obtain ⟨X, HX⟩ := nm (runs m 65 0)
  simp only [HX.out] at HSH HEL HT0 HT1
  obtain ⟨T, HT⟩ := nm (mtextB m)
  simp only [HT.out] at HT0 HT1
  rw [HT.out]
  go_enter Tryd.func24, Tryd.ntmps24
  go_wp2_with fail
  refine (rbits_any m hm _).mono ?_
  rintro e w1 ⟨rfl, hb1⟩
  go_wp2_with (refine wpl_arr rfl rfl 69 3 (.tmp 8) rfl rfl rfl rfl (of_decide_eq_true rfl) zb64 (cb64 m) (zb64_zero _) rfl (cb64_size m) (zb64_cb m) (cb64_one m) ?_)
  have ha := Arr.laid w1 m
  have hB := hb1.alloc hb1.size (.cells (cb64 m) 69)
  obtain ⟨w2, HW2⟩ := nm (w1.alloc (.cells (cb64 m) 69))
  obtain ⟨g, HG⟩ := nm w1.heap.size
  rw [HW2.out] at ha hB ⊢
  rw [HG.out] at ha ⊢
  have HCELL := Lib.hid (fun c (h : c < 64) => (show w2.cell? ⟨g, c, none⟩ = some (.bool (m.testBit c)) from by rw [ha.cell h, bt_get m h]))
  have HB := Lib.hid hB
  clear ha hB hb1
  go_wp2_with fail
  go_loopw [4, 5] (fun vo vc wr => ∃ (c : Nat) (pre : List (List UInt8)) (out : ByteArray), c ≤ 64 ∧ vc = .int .i64 (c : Int) ∧ vo = .string out ∧ Hid (out = bstr (Lib.join pre [44])) ∧ Hid (X = pre ++ runs m 65 (nxt m c)) ∧ Hid (pre.length ≤ c) ∧ w2 = wr) (fun _ vc _ => 64 - (intOf vc).toNat)
  case atStart => exact ⟨0, [], ⟨#[]⟩, by omega, rfl, rfl, Lib.hid rfl, Lib.hid (by rw [nxt_zero, HX.out]; rfl), Lib.hid (Nat.le_refl _), rfl⟩
  case round =>
    obtain ⟨c, pre, out, hc, rfl, rfl, HO, HE, HPL, rfl⟩ := hrel
    have hpX : ∀ x ∈ pre, x ∈ X := fun x hx => by rw [HE.out]; exact List.mem_append.2 (.inl hx)
    have HPX := Lib.hid hpX
    have hjl := join_len 5 pre [44] (fun x hx => HSH.out x (hpX x hx))
    have hosz : out.size ≤ 400 := by
      rw [HO.out, bstr_size]
      have := HPL.out
      refine Nat.le_trans hjl ?_
      show pre.length * 6 ≤ 400
      omega
    have HTE := Lib.hid (show out.toList = [] → pre = [] from fun h => by
      rw [HO.out, bstr_list] at h
      exact join_empty (fun x hx => HEL.out x (hpX x hx)) h)
    have HTN := Lib.hid (show pre = [] → out = bstr [] from fun h => by rw [HO.out, h]; rfl)
    clear hpX hjl
    by_cases hlt : c < 64
    · have ck := HCELL.out c hlt
      by_cases hb : m.testBit c = true
      · rw [hb] at ck
        by_cases hprev : 0 < c ∧ m.testBit (c - 1) = true
        · have ck1 := HCELL.out (c - 1) (by omega)
          rw [hprev.2] at ck1
          have hc0 : decide (0 < (c : Int)) = true := decide_eq_true (by omega)
          have hw1 : IntKind.i64.wrap ((c : Int) - 1) = ((c - 1 : Nat) : Int) := by rw [IntWalk.i64_in _ (by omega)]; omega
          have hin := nxt_in hm hprev.1 hb hprev.2
          obtain ⟨d, HD⟩ := nm (c - 1)
          rw [HD.out] at hw1 ck1
          have hd64 : (d : Int) < 64 := by have := HD.out; omega
          have hd0 : (0 : Int) ≤ (d : Int) := by omega
          have HIN := Lib.hid hin
          have hcn : 0 < c := hprev.1
          clear hin hprev hb
          go_wp2_with fail
          go_roundw
          case rel => exact ⟨c + 1, pre, out, by omega, by go_num, rfl, HO, Lib.hid (by rw [← HIN.out]; exact HE.out), Lib.hid (by have := HPL.out; omega), trivial⟩
          case measure => simp [intOf]; omega
        · have HAT := Lib.hid (fun l h1 h2 h3 h4 => nxt_at (m := m) (c := c) (l := l) hm hlt hb (by
            by_cases e : c = 0
            · exact .inl e
            · right
              cases hq : m.testBit (c - 1) with
              | false => rfl
              | true => exact absurd ⟨by omega, hq⟩ hprev) h1 h2 h3 h4)
          have HBIT := Lib.hid hb
          -- what stands before this run
          obtain ⟨o1, HO1⟩ := nm (if pre = [] then bstr [] else out ++ ⟨#[44]⟩)
          have HO1J := Lib.hid (fun (x : List UInt8) => (show o1 ++ bstr x = bstr (Lib.join (pre ++ [x]) [44]) from by
            rw [← HO1.out]
            by_cases hp : pre = []
            · rw [if_pos hp, hp, bstr_append]; simp [Lib.join_cons, Lib.joinTail]
            · rw [if_neg hp, join_more pre x hp, HO.out, show (⟨#[44]⟩ : ByteArray) = bstr [44] from rfl, bstr_append, bstr_append]))
          have ho1s : o1.size ≤ 401 := by
            rw [← HO1.out]
            split
            · decide
            · rw [ByteArray.size_append]; have : (⟨#[44]⟩ : ByteArray).size = 1 := rfl; omega
          have hcc : (decide (0 < (c : Int)) = true ∧ 0 < c) ∧ (∃ d : Nat, IntKind.i64.wrap ((c : Int) - 1) = (d : Int) ∧ (d : Int) < 64 ∧ w2.cell? ⟨g, d, none⟩ = some (.bool false)) ∨ (decide (0 < (c : Int)) = false ∧ ¬ 0 < c) := by
            by_cases e : c = 0
            · right; exact ⟨decide_eq_false (by omega), by omega⟩
            · left
              refine ⟨⟨decide_eq_true (by omega), by omega⟩, c - 1, by rw [IntWalk.i64_in _ (by omega)]; omega, by omega, ?_⟩
              rw [HCELL.out (c - 1) (by omega)]
              cases hq : m.testBit (c - 1) with
              | false => rfl
              | true => exact absurd ⟨by omega, hq⟩ hprev
          clear hprev hb
          have HCC := Lib.hid hcc
          clear hcc
          obtain ⟨wo, rfl⟩ : ∃ wo : World, wo = w2 := ⟨_, rfl⟩
          rcases HCC.out with ⟨⟨hc0, hcn⟩, d, hw1, hd64, ck1⟩ | ⟨hc0, hcn⟩
          all_goals
            go_upto_if 28 with fail
            go_cut [4] (fun v wx => v = .string o1 ∧ wo = wx)
            case first =>
              by_cases hp : out.toList = []
              · have hpre := HTE.out hp
                have q1 : out.toList.isEmpty = true := by rw [hp]; rfl
                have hout := HTN.out hpre
                have ho : o1 = out := by rw [← HO1.out, if_pos hpre, hout]
                have HOO := Lib.hid ho
                clear hpre hout ho
                rw [q1]
                clear q1 hp
                go_wp2_with fail
                go_meet
                exact ⟨by rw [HOO.out], rfl⟩
              · have hpre : ¬ pre = [] := fun e => hp (by rw [HTN.out e]; exact bstr_list [])
                have q1 : out.toList.isEmpty = false := by
                  cases hq : out.toList with
                  | nil => exact absurd hq hp
                  | cons a b => rfl
                have ho : o1 = out ++ ⟨#[44]⟩ := by rw [← HO1.out, if_neg hpre]
                have HOO := Lib.hid ho
                clear hpre ho
                rw [q1]
                clear q1 hp
                go_wp2_with fail
                go_meet
                exact ⟨by rw [HOO.out], rfl⟩
            case rest =>
              obtain ⟨rfl, rfl⟩ := hcut
              go_wp2_with fail
              go_loopw [6] (fun vl wr => ∃ l : Nat, c ≤ l ∧ l < 64 ∧ vl = .int .i64 (l : Int) ∧ Hid (∀ i, c ≤ i → i ≤ l → m.testBit i = true) ∧ wo = wr) (fun vl _ => 64 - (intOf vl).toNat)
              case atStart => exact ⟨c, Nat.le_refl _, hlt, rfl, Lib.hid (fun i h1 h2 => by rw [show i = c by omega]; exact HBIT.out), rfl⟩
              case round =>
                obtain ⟨l, hcl, hl64, rfl, HBL, rfl⟩ := hrel
                by_cases hgo : l < 63 ∧ m.testBit (l + 1) = true
                · have c1 := HCELL.out (l + 1) (by omega)
                  rw [hgo.2] at c1
                  have hd3 : decide ((l : Int) < 63) = true := decide_eq_true (by omega)
                  have HNB := Lib.hid (show ∀ i, c ≤ i → i ≤ l + 1 → m.testBit i = true from fun i h1 h2 => by
                    by_cases e : i = l + 1
                    · rw [e]; exact hgo.2
                    · exact HBL.out i h1 (by omega))
                  have hwl : IntKind.i64.wrap ((l : Int) + 1) = ((l + 1 : Nat) : Int) := by rw [IntWalk.i64_in _ (by omega)]; omega
                  have hl2 : l + 1 < 64 := by omega
                  obtain ⟨l2, HL2⟩ := nm (l + 1)
                  rw [HL2.out] at hwl c1 hl2
                  have hl2i : (l2 : Int) < 64 := by omega
                  have hl20 : (0 : Int) ≤ (l2 : Int) := by omega
                  clear hgo
                  go_wp2_with fail
                  go_roundw
                  case rel => exact ⟨l2, by have := HL2.out; omega, hl2, rfl, Lib.hid (fun i h1 h2 => HNB.out i h1 (by rw [HL2.out]; exact h2)), trivial⟩
                  case measure => have := HL2.out; simp [intOf]; omega
                · have hstop : m.testBit (l + 1) = false := by
                    cases hq : m.testBit (l + 1) with
                    | false => rfl
                    | true =>
                      by_cases h63 : l < 63
                      · exact absurd ⟨h63, hq⟩ hgo
                      · rw [Gf.bit_ge (n := 64) hm (by omega)] at hq; cases hq
                  have hrun := HAT.out l hcl hl64 HBL.out hstop
                  have HRUN := Lib.hid hrun
                  have HREL := Lib.hid (fun (o : ByteArray) (h : o = o1 ++ bstr (rtext c l)) => (show o = bstr (Lib.join (pre ++ [rtext c l]) [44]) ∧ X = (pre ++ [rtext c l]) ++ runs m 65 (nxt m (c + 1)) ∧ (pre ++ [rtext c l]).length ≤ c + 1 from
                    ⟨h.trans (HO1J.out _), by rw [HE.out, HRUN.out]; simp, by have := HPL.out; simp; omega⟩))
                  have hdc := fun W => decimal_any c hlt W
                  have hdl := fun W => decimal_any l hl64 W
                  have hs1 : (bstr (Lib.decDigits c)).size ≤ 2 := by rw [bstr_size]; exact dec_len c hlt
                  have hs2 : (bstr (Lib.decDigits l)).size ≤ 2 := by rw [bstr_size]; exact dec_len l hl64
                  have HR1 := Lib.hid (show c < l → bstr (rtext c l) = bstr (Lib.decDigits c) ++ (⟨#[45]⟩ ++ bstr (Lib.decDigits l)) from fun h => by
                    unfold rtext
                    rw [if_pos h, ← bstr_append, ← bstr_append]; rfl)
                  have HR2 := Lib.hid (show ¬ c < l → bstr (rtext c l) = bstr (Lib.decDigits c) from fun h => by unfold rtext; rw [if_neg h])
                  obtain ⟨dc, HDC⟩ := nm (bstr (Lib.decDigits c))
                  obtain ⟨dl, HDL⟩ := nm (bstr (Lib.decDigits l))
                  simp only [HDC.out] at hdc hs1 HR1 HR2
                  simp only [HDL.out] at hdl hs2 HR1
                  have HDEC := Lib.hid hdc
                  have HDEL := Lib.hid hdl
                  have hlI : (l : Int) ≤ 63 := by omega
                  have hclI : (c : Int) ≤ (l : Int) := by omega
                  clear hrun hdc hdl hgo
                  by_cases h63 : l < 63
                  case' pos =>
                    have c1 := HCELL.out (l + 1) (by omega)
                    rw [hstop] at c1
                    have hd3 : decide ((l : Int) < 63) = true := decide_eq_true (by omega)
                    have hwl : IntKind.i64.wrap ((l : Int) + 1) = ((l + 1 : Nat) : Int) := by rw [IntWalk.i64_in _ (by omega)]; omega
                    obtain ⟨l2, HL2⟩ := nm (l + 1)
                    rw [HL2.out] at hwl c1
                    have hl2i : (l2 : Int) < 64 := by have := HL2.out; omega
                    have hl20 : (0 : Int) ≤ (l2 : Int) := by omega
                    clear hstop
                    go_wp2_with fail
                  case' neg =>
                    have hd3 : decide ((l : Int) < 63) = false := decide_eq_false (by omega)
                    clear hstop
                    go_wp2_with fail
                  all_goals
                    refine (HDEC.out _).mono ?_
                    rintro e w3 ⟨rfl, rfl⟩
                    by_cases hgt : c < l
                    · have hd4 : decide ((c : Int) < (l : Int)) = true := decide_eq_true (by omega)
                      have hr1 := HR1.out hgt
                      have HRR := Lib.hid hr1
                      clear hr1
                      go_wp2_with fail
                      refine (HDEL.out _).mono ?_
                      rintro e w3 ⟨rfl, rfl⟩
                      go_wp2_with fail
                      go_roundw
                      case rel =>
                        obtain ⟨a1, a2, a3⟩ := HREL.out _ rfl
                        refine ⟨c + 1, _, _, by omega, by go_num, rfl, Lib.hid ?_, Lib.hid a2, Lib.hid a3, trivial⟩
                        rw [← a1, HRR.out]
                        simp only [ByteArray.append_assoc]
                      case measure => simp [intOf]; omega
                    · have hd4 : decide ((c : Int) < (l : Int)) = false := decide_eq_false (by omega)
                      have hr1 := HR2.out hgt
                      have HRR := Lib.hid hr1
                      clear hr1
                      go_wp2_with fail
                      go_roundw
                      case rel =>
                        obtain ⟨a1, a2, a3⟩ := HREL.out _ rfl
                        refine ⟨c + 1, _, _, by omega, by go_num, rfl, Lib.hid ?_, Lib.hid a2, Lib.hid a3, trivial⟩
                        rw [← a1, HRR.out]
                      case measure => simp [intOf]; omega
      · have hb' : m.testBit c = false := by simpa using hb
        rw [hb'] at ck
        have hno := nxt_no hlt hb'
        have HNO := Lib.hid hno
        clear hno hb hb'
        go_wp2_with fail
        go_roundw
        case rel => exact ⟨c + 1, pre, out, by omega, by go_num, rfl, HO, Lib.hid (by rw [← HNO.out]; exact HE.out), Lib.hid (by have := HPL.out; omega), trivial⟩
        case measure => simp [intOf]; omega
    · obtain rfl : c = 64 := by omega
      have hx : X = pre := by rw [HE.out, nxt_end hm, List.append_nil]
      subst hx
      rw [show ((64 : Nat) : Int) = 64 from rfl]
      by_cases hp : out.toList = []
      · have hX := HTE.out hp
        have q1 : out.toList.isEmpty = true := by rw [hp]; rfl
        have hT := HT0.out hX
        have HTT := Lib.hid hT
        clear hT hX
        go_wp2_with fail
        go_ret
        exact ⟨by rw [HTT.out]; rfl, HB.out⟩
      · have hX : X ≠ [] := fun e => hp (by rw [HTN.out e]; exact bstr_list [])
        have q1 : out.toList.isEmpty = false := by
          cases hq : out.toList with
          | nil => exact absurd hq hp
          | cons a b => rfl
        have hT := HT1.out hX
        have HTT := Lib.hid hT
        clear hT hX
        go_wp2_with fail
        go_ret
        exact ⟨by rw [HTT.out, HO.out]; rfl, HB.out⟩
end Go.Proofs.YtjpkldndeakkkaaDoor
