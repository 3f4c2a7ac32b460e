/- The reference masks: the walks of number and Read. -/
import Derived.Test.YtjpkldndeakkkaaDoorMRefA
import Derived.Test.YtjpkldndeakkkaaDoorMRefQ
import Derived.Deep.DeepCutAuto
namespace Go.Proofs.YtjpkldndeakkkaaDoor
open Go Go.RowKit Go.Shelf

theorem idx_str {t : TypeId} (h : Tryd.prog.underlying t = some .string) {s : List UInt8} {sv : ByteArray} (hs : sv = bstr s) {i : Nat} (hi : i < s.length) (W : World) :
    (Instr.index t (.string sv) (.int .i64 (i : Int))).run Tryd.prog W = .ok (.int .u8 (((s[i]?.getD 0).toNat : Nat) : Int)) W := by
  subst hs
  have hsz : (bstr s).size = s.length := by show s.toArray.size = _; simp
  rw [run_index_string W t (bstr s) .i64 (i : Int) h, dif_pos ⟨by omega, by omega⟩]
  have : getElem (bstr s) ((i : Int)).toNat (by rw [hsz]; omega) = s[i]?.getD 0 := by
    rw [List.getElem?_eq_getElem hi, Option.getD_some]
    show getElem s.toArray ((i : Int)).toNat _ = _
    simp
  rw [this]
theorem dv_bd {t : List UInt8} (h : ∀ c ∈ t, isDig c = true) (hl : t.length ≤ 3) : 0 ≤ dv t ∧ dv t ≤ 999 := by
  match t, h, hl with
  | [], _, _ => exact ⟨by decide, by decide⟩
  | [a], h, _ =>
    have := of_decide_eq_true (h a List.mem_cons_self)
    show 0 ≤ 10 * (0 : Int) + (a.toNat : Int) - 48 ∧ 10 * (0 : Int) + (a.toNat : Int) - 48 ≤ 999
    omega
  | [a, b], h, _ =>
    have h1 := of_decide_eq_true (h a List.mem_cons_self)
    have h2 := of_decide_eq_true (h b (List.mem_cons_of_mem _ List.mem_cons_self))
    show 0 ≤ 10 * (10 * (0 : Int) + (a.toNat : Int) - 48) + (b.toNat : Int) - 48 ∧ 10 * (10 * (0 : Int) + (a.toNat : Int) - 48) + (b.toNat : Int) - 48 ≤ 999
    omega
  | [a, b, c], h, _ =>
    have h1 := of_decide_eq_true (h a List.mem_cons_self)
    have h2 := of_decide_eq_true (h b (List.mem_cons_of_mem _ List.mem_cons_self))
    have h3 := of_decide_eq_true (h c (List.mem_cons_of_mem _ (List.mem_cons_of_mem _ List.mem_cons_self)))
    show 0 ≤ 10 * (10 * (10 * (0 : Int) + (a.toNat : Int) - 48) + (b.toNat : Int) - 48) + (c.toNat : Int) - 48 ∧ 10 * (10 * (10 * (0 : Int) + (a.toNat : Int) - 48) + (b.toNat : Int) - 48) + (c.toNat : Int) - 48 ≤ 999
    omega
  | a :: b :: c :: d :: r, _, hl => simp at hl
theorem drop_get (s : List UInt8) (i j : Nat) : (s.drop i)[j]?.getD 0 = s[i + j]?.getD 0 := by rw [List.getElem?_drop]

set_option maxRecDepth 100000 in
set_option maxHeartbeats 4000000 in
theorem rnumber_any (s : List UInt8) (hs : s.length ≤ 300) (i : Nat) (hi : i ≤ s.length) (w : World) :
    Calls Tryd.prog 50 #[.string (bstr s), .int .i64 (i : Int)] w fun e w' => e = .returned (.tuple #[.int .i64 (rnum (s.drop i)), .int .i64 ((i + (digs (s.drop i)).length : Nat) : Int)]) ∧ w = w' := by
  have hszv : (bstr s).size = s.length := by show s.toArray.size = _; simp
  obtain ⟨sv, HSV⟩ := nm (bstr s)
  rw [HSV.out] at hszv ⊢
  have HIX := Lib.hid (fun k (h : k < s.length) W => idx_str (s := s) (sv := sv) Tryd.underlying9 HSV.out.symm h W)
  have HDL := Lib.hid (show (s.drop i).length = s.length - i from List.length_drop)
  have HDA := Lib.hid (fun j h1 h2 h3 h4 => digs_at (D := s.drop i) (j := j) h1 h2 h3 h4)
  have HTK := Lib.hid (fun j (h : i + j < s.length) => (show (s.drop i).take (j + 1) = (s.drop i).take j ++ [s[i + j]?.getD 0] from by
    have hj : j < (s.drop i).length := by rw [List.length_drop]; omega
    rw [List.take_succ_eq_append_getElem hj, List.getElem_drop, List.getElem?_eq_getElem h]; rfl))
  have HHD := Lib.hid (fun (h : i < s.length) => (show (s.drop i).head? = some (s[i]?.getD 0) from by
    rw [List.head?_drop, List.getElem?_eq_getElem h]; rfl))
  have HRN := Lib.hid (show rnum (s.drop i) = if digs (s.drop i) = [] ∨ 63 < dv (digs (s.drop i)) ∨ ((s.drop i).head? = some 48 ∧ 1 < (digs (s.drop i)).length) then -1 else dv (digs (s.drop i)) from rfl)
  have HDG := Lib.hid (fun j => (show (s.drop i)[j]?.getD 0 = s[i + j]?.getD 0 from drop_get s i j))
  obtain ⟨L, HL⟩ := nm s.length
  simp only [HL.out] at hszv hs hi HIX HDL HTK HHD
  obtain ⟨D, HD⟩ := nm (s.drop i)
  simp only [HD.out] at HDL HDA HTK HHD HRN HDG
  rw [HD.out]
  obtain ⟨R, HR⟩ := nm (rnum D)
  obtain ⟨K, HK⟩ := nm (digs D)
  rw [HR.out] at HRN
  simp only [HK.out] at HRN HDA
  rw [HR.out, HK.out]
  obtain ⟨Q, HQ⟩ := nm (i + K.length)
  rw [HQ.out]
  have hw3 : IntKind.i64.wrap ((i : Int) + 3) = (i : Int) + 3 := IntWalk.i64_in _ (by omega)
  have hw1 : IntKind.i64.wrap ((i : Int) + 1) = (i : Int) + 1 := IntWalk.i64_in _ (by omega)
  go_enter Tryd.func50, Tryd.ntmps50
  go_wp2_with fail
  go_loopw [6, 7] (fun vn va wr => ∃ j : Nat, j ≤ 3 ∧ i + j ≤ L ∧ va = .int .i64 ((i + j : Nat) : Int) ∧ vn = .int .i64 (dv (D.take j)) ∧ Hid (∀ k, k < j → isDig (D[k]?.getD 0) = true) ∧ w = wr) (fun _ va _ => L - (intOf va).toNat)
  case atStart => exact ⟨0, Nat.zero_le _, by omega, rfl, rfl, Lib.hid (fun k h => by omega), rfl⟩
  case round =>
    obtain ⟨j, hj, hij, rfl, rfl, HG, rfl⟩ := hrel
    have hdv : 0 ≤ dv (D.take j) ∧ dv (D.take j) ≤ 999 := dv_bd (fun c hc => by
      obtain ⟨k, hk, rfl⟩ := List.mem_iff_getElem.1 hc
      rw [List.length_take] at hk
      have := HG.out k (by omega)
      rw [List.getElem?_eq_getElem (by omega)] at this
      rw [List.getElem_take]
      exact this) (by rw [List.length_take]; omega)
    by_cases hgo : i + j < L ∧ isDig (s[i + j]?.getD 0) = true ∧ j < 3
    · obtain ⟨h1, h2, h3⟩ := hgo
      have hix := HIX.out (i + j) h1
      have hdg := of_decide_eq_true h2
      have hsn := dv_snoc (D.take j) (s[i + j]?.getD 0)
      rw [← HTK.out j h1] at hsn
      have HNG := Lib.hid (show ∀ k, k < j + 1 → isDig (D[k]?.getD 0) = true from fun k hk => by
        by_cases e : k = j
        · rw [e, HDG.out]; exact h2
        · exact HG.out k (by omega))
      obtain ⟨c, HC⟩ := nm (s[i + j]?.getD 0).toNat
      simp only [HC.out] at hix hdg hsn
      obtain ⟨n, HN⟩ := nm (dv (D.take j))
      obtain ⟨n2, HN2⟩ := nm (dv (D.take (j + 1)))
      rw [HN.out] at hdv hsn ⊢
      rw [HN2.out] at hsn
      have ha3 : ((i + j : Nat) : Int) < (i : Int) + 3 := by omega
      have haL : ((i + j : Nat) : Int) < (L : Int) := by omega
      obtain ⟨p, HP⟩ := nm (i + j)
      simp only [HP.out] at hix ha3 haL
      rw [HP.out] at hij ⊢
      have hwa : IntKind.i64.wrap ((p : Int) + 1) = ((p + 1 : Nat) : Int) := by rw [IntWalk.i64_in _ (by omega)]; omega
      have hwm : IntKind.i64.wrap (10 * n) = 10 * n := IntWalk.i64_in _ (by omega)
      have hwn : IntKind.i64.wrap (10 * n + (c : Int)) = 10 * n + (c : Int) := IntWalk.i64_in _ (by omega)
      have hwq : IntKind.i64.wrap (10 * n + (c : Int) - 48) = n2 := by rw [IntWalk.i64_in _ (by omega)]; omega
      have hc48 : (48 : Int) ≤ (c : Int) := by omega
      have hc57 : (c : Int) ≤ 57 := by omega
      have HSN := Lib.hid hsn
      clear h1 h2 hsn
      go_wp2_with fail
      go_roundw
      case rel => exact ⟨j + 1, by omega, by have := HP.out; omega, by first | (rw [← HP.out]; done) | (rw [← HP.out]; rfl) | (have := HP.out; congr 1; omega), by rw [HN2.out], HNG, trivial⟩
      case measure => have := HP.out; simp [intOf]; omega
    · have hdigs : K = D.take j := HDA.out j hj (by rw [HDL.out]; omega) HG.out (by
        rw [HDL.out, HDG.out]
        by_cases e3 : j = 3
        · exact .inl e3
        · by_cases eL : i + j = L
          · exact .inr (.inl (by omega))
          · right; right
            cases hq : isDig (s[i + j]?.getD 0) with
            | false => rfl
            | true => exact absurd ⟨by omega, hq, by omega⟩ hgo)
      have hKl : K.length = j := by rw [hdigs, List.length_take, HDL.out]; omega
      have hrn := HRN.out
      have hnil : K = [] ↔ j = 0 := by rw [← hKl]; exact List.length_eq_zero_iff.symm
      rw [hKl] at hrn
      rw [hdigs] at hrn
      have hnil' : D.take j = [] ↔ j = 0 := by rw [← hdigs]; exact hnil
      simp only [hnil'] at hrn
      obtain ⟨n, HN⟩ := nm (dv (D.take j))
      rw [HN.out] at hdv hrn ⊢
      have HRNN := Lib.hid hrn
      have HEX := Lib.hid (show (i + j = L) ∨ (i + j < L ∧ (((s[i + j]?.getD 0).toNat < 48) ∨ (57 < (s[i + j]?.getD 0).toNat) ∨ j = 3)) from by
        by_cases eL : i + j = L
        · exact .inl eL
        · right
          refine ⟨by omega, ?_⟩
          by_cases e3 : j = 3
          · exact .inr (.inr e3)
          · have : ¬ isDig (s[i + j]?.getD 0) = true := fun hq => hgo ⟨by omega, hq, by omega⟩
            unfold isDig at this
            rw [decide_eq_true_eq] at this
            omega)
      obtain ⟨p, HP⟩ := nm (i + j)
      have hpj : p = i + j := HP.out.symm
      simp only [HP.out] at HEX
      rw [HP.out] at hij ⊢
      have HPJ := Lib.hid hpj
      have HQP := Lib.hid (show Q = p from by rw [← HQ.out, hKl]; exact hpj.symm)
      clear hgo hdigs hKl hrn hnil hnil' hpj
      -- where the loop ends
      have HFIN := Lib.hid (show ((j = 0 ∨ 63 < n ∨ ((s[i]?.getD 0).toNat = 48 ∧ 1 < j)) → R = -1) ∧ ((¬ j = 0 ∧ ¬ 63 < n ∧ ¬ ((s[i]?.getD 0).toNat = 48 ∧ 1 < j)) → R = n) from by
        have hh : i < L → (D.head? = some 48 ↔ (s[i]?.getD 0).toNat = 48) := fun h => by
          rw [HHD.out h]
          constructor
          · intro q; rw [Option.some.inj q]; rfl
          · intro q; rw [show s[i]?.getD 0 = 48 from UInt8.toNat_inj.1 q]
        rw [HRNN.out]
        have hjL : ¬ j = 0 → i < L := fun q => by have := HPJ.out; omega
        constructor
        · intro q
          rw [if_pos]
          rcases q with q | q | ⟨q1, q2⟩
          · exact .inl q
          · exact .inr (.inl q)
          · exact .inr (.inr ⟨(hh (hjL (by omega))).2 q1, q2⟩)
        · rintro ⟨q1, q2, q3⟩
          rw [if_neg]
          rintro (q | q | ⟨q, q'⟩)
          · exact q1 q
          · exact q2 q
          · exact q3 ⟨(hh (hjL q1)).1 q, q'⟩)
      rcases HEX.out with hpL | ⟨hpL, hc⟩
      case' inl =>
        have hq : decide ((p : Int) < (L : Int)) = false := decide_eq_false (by omega)
        have hqn : decide (p < L) = false := decide_eq_false (by omega)
        have hqm : ¬ (p < L) := by omega
        have HPLL := Lib.hid hpL
        clear hpL
        go_upto_region 5 with fail
      case' inr =>
        have hq : decide ((p : Int) < (L : Int)) = true := decide_eq_true (by omega)
        have hix := HIX.out p hpL
        obtain ⟨c, HC⟩ := nm (s[p]?.getD 0).toNat
        simp only [HC.out] at hix hc
        by_cases hc1 : (c : Int) < 48
        case' pos =>
          have hq1 : decide (48 ≤ (c : Int)) = false := decide_eq_false (by omega)
          go_upto_region 5 with fail
        case' neg =>
          have hq1 : decide (48 ≤ (c : Int)) = true := decide_eq_true (by omega)
          by_cases hc2 : 57 < (c : Int)
          case' pos =>
            have hq2 : decide ((c : Int) ≤ 57) = false := decide_eq_false (by omega)
            go_upto_region 5 with fail
          case' neg =>
            have hq2 : decide ((c : Int) ≤ 57) = true := decide_eq_true (by omega)
            have hq3 : decide ((p : Int) < (i : Int) + 3) = false := decide_eq_false (by have := HPJ.out; omega)
            go_upto_region 5 with fail
      all_goals
        try clear hix
        by_cases j0 : j = 0
        · have hR := HFIN.out.1 (.inl j0)
          have HRR := Lib.hid hR
          have HQI := Lib.hid (show Q = i from by rw [HQP.out]; have := HPJ.out; omega)
          have hpi : ((p : Int) == (i : Int)) = true := by have := HPJ.out; simp; omega
          clear hR
          go_wp2_with fail
          go_ret2
          exact ⟨by first | (rw [HRR.out, HQI.out]; done) | (rw [HRR.out, HQI.out]; rfl) | (rw [HRR.out, HQP.out]; rfl), rfl⟩
        · have hpi : ((p : Int) == (i : Int)) = false := beq_false_of_ne (by have := HPJ.out; omega)
          by_cases n63 : 63 < n
          · have hR := HFIN.out.1 (.inr (.inl n63))
            have HRR := Lib.hid hR
            have hn : decide (63 < n) = true := decide_eq_true n63
            clear hR
            go_wp2_with fail
            go_ret2
            exact ⟨by first | (rw [HRR.out, HQP.out]; done) | (rw [HRR.out, HQP.out]; rfl), rfl⟩
          · have hn : decide (63 < n) = false := decide_eq_false n63
            have hiL : i < L := by have := HPJ.out; omega
            have hiLI : (i : Int) < (L : Int) := by omega
            have hix := HIX.out i hiL
            have hfin := HFIN.out
            obtain ⟨c0, HC0⟩ := nm (s[i]?.getD 0).toNat
            simp only [HC0.out] at hix hfin
            by_cases c48 : c0 = 48
            · have hq4 : ((c0 : Int) == 48) = true := by simp; omega
              by_cases j1 : 1 < j
              · have hR := hfin.1 (.inr (.inr ⟨c48, j1⟩))
                have HRR := Lib.hid hR
                have hq5 : decide ((i : Int) + 1 < (p : Int)) = true := decide_eq_true (by have := HPJ.out; omega)
                clear hR hfin
                go_wp2_with fail
                go_ret2
                exact ⟨by first | (rw [HRR.out, HQP.out]; done) | (rw [HRR.out, HQP.out]; rfl), rfl⟩
              · have hR := hfin.2 ⟨j0, by omega, fun q => j1 q.2⟩
                have HRR := Lib.hid hR
                have hq5 : decide ((i : Int) + 1 < (p : Int)) = false := decide_eq_false (by have := HPJ.out; omega)
                clear hR hfin
                go_wp2_with fail
                go_ret2
                exact ⟨by first | (rw [HRR.out, HQP.out]; done) | (rw [HRR.out, HQP.out]; rfl), rfl⟩
            · have hq4 : ((c0 : Int) == 48) = false := beq_false_of_ne (by omega)
              have hR := hfin.2 ⟨j0, by omega, fun q => c48 q.1⟩
              have HRR := Lib.hid hR
              clear hR hfin
              go_wp2_with fail
              go_ret2
              exact ⟨by first | (rw [HRR.out, HQP.out]; done) | (rw [HRR.out, HQP.out]; rfl), rfl⟩
end Go.Proofs.YtjpkldndeakkkaaDoor
