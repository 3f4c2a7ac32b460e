/- The reference masks: the walk of Read. -/
import Derived.Test.YtjpkldndeakkkaaDoorMRefD
import Derived.Deep.DeepCutAuto
namespace Go.Proofs.YtjpkldndeakkkaaDoor
open Go Go.RowKit Go.Shelf

/-- Where the first number ends, and where the run ends. -/
def rk (s : List UInt8) (at' : Nat) : Nat := at' + (digs (s.drop at')).length
def rmin (s : List UInt8) (at' : Nat) : Prop := rk s at' < s.length ∧ (s[rk s at']?.getD 0).toNat = 45
def rpos (s : List UInt8) (at' : Nat) : Nat := if (s.drop (rk s at')).head? = some 45 then rk s (rk s at' + 1) else rk s at'
theorem rk_le {s : List UInt8} {at' : Nat} (h : at' ≤ s.length) : at' ≤ rk s at' ∧ rk s at' ≤ s.length := by
  have := digs_len (s.drop at')
  rw [List.length_drop] at this
  unfold rk
  omega
theorem head_at (s : List UInt8) (k : Nat) (c : UInt8) : (s.drop k).head? = some c ↔ k < s.length ∧ (s[k]?.getD 0).toNat = c.toNat := by
  rw [List.head?_drop]
  constructor
  · intro h
    obtain ⟨h1, h2⟩ := List.getElem?_eq_some_iff.1 h
    exact ⟨h1, by rw [h]; rfl⟩
  · rintro ⟨h1, h2⟩
    rw [List.getElem?_eq_getElem h1] at h2 ⊢
    rw [Option.getD_some] at h2
    rw [UInt8.toNat_inj.1 h2]
theorem rmin_iff (s : List UInt8) (at' : Nat) : (s.drop (rk s at')).head? = some 45 ↔ rmin s at' := head_at s _ 45
theorem rD1_drop (s : List UInt8) (at' : Nat) : rD1 (s.drop at') = s.drop (rk s at') := by unfold rD1 rk; rw [List.drop_drop]
theorem rD2_drop (s : List UInt8) (at' : Nat) : (rD1 (s.drop at')).drop 1 = s.drop (rk s at' + 1) := by rw [rD1_drop, List.drop_drop]
theorem rpos_yes {s : List UInt8} {at' : Nat} (h : rmin s at') : rpos s at' = rk s (rk s at' + 1) ∧ rto (s.drop at') = rnum (s.drop (rk s at' + 1)) ∧ (rbad (s.drop at') ↔ rnum (s.drop (rk s at' + 1)) ≤ rnum (s.drop at')) := by
  have hh := (rmin_iff s at').2 h
  refine ⟨if_pos hh, ?_, ?_⟩
  · unfold rto; rw [rD2_drop, rD1_drop, if_pos hh]
  · unfold rbad; rw [rD2_drop, rD1_drop]; exact ⟨fun q => q.2, fun q => ⟨hh, q⟩⟩
theorem rpos_no {s : List UInt8} {at' : Nat} (h : ¬ rmin s at') : rpos s at' = rk s at' ∧ rto (s.drop at') = rnum (s.drop at') ∧ ¬ rbad (s.drop at') := by
  have hh : ¬ (s.drop (rk s at')).head? = some 45 := fun q => h ((rmin_iff s at').1 q)
  refine ⟨if_neg hh, ?_, ?_⟩
  · unfold rto; rw [rD1_drop, if_neg hh]
  · unfold rbad; rw [rD1_drop]; exact fun q => hh q.1
theorem rrest_drop (s : List UInt8) (at' : Nat) : rrest (s.drop at') = s.drop (rpos s at') := by
  unfold rrest rpos
  rw [rD2_drop, rD1_drop, rD1_drop]
  split <;> rfl
theorem rpos_le {s : List UInt8} {at' : Nat} (h : at' ≤ s.length) : at' ≤ rpos s at' ∧ rpos s at' ≤ s.length := by
  have h1 := rk_le h
  by_cases hm : rmin s at'
  · rw [(rpos_yes hm).1]
    have := rk_le (s := s) (at' := rk s at' + 1) (by have := hm.1; omega)
    omega
  · rw [(rpos_no hm).1]; exact h1
theorem rrd_none {s : List UInt8} {at' f : Nat} {least : Int} {l : List Int} (h : rnum (s.drop at') < least ∨ rbad (s.drop at')) : rrd (f + 1) (s.drop at') least l = none := by
  unfold rrd; rw [if_pos h]
theorem rrd_end {s : List UInt8} {at' f : Nat} {least : Int} {l : List Int} (h : ¬ (rnum (s.drop at') < least ∨ rbad (s.drop at'))) (hp : rpos s at' = s.length) :
    rrd (f + 1) (s.drop at') least l = some (orL (l ++ spanI (rnum (s.drop at')) (rto (s.drop at')))) := by
  unfold rrd; rw [if_neg h, rrest_drop, hp, List.drop_length]
theorem rrd_comma {s : List UInt8} {at' f : Nat} {least : Int} {l : List Int} (h : ¬ (rnum (s.drop at') < least ∨ rbad (s.drop at'))) (hp : rpos s at' < s.length) :
    rrd (f + 1) (s.drop at') least l = if (s[rpos s at']?.getD 0).toNat = 44 then rrd f (s.drop (rpos s at' + 1)) (rto (s.drop at') + 2) (l ++ spanI (rnum (s.drop at')) (rto (s.drop at'))) else none := by
  have e : s.drop (rpos s at') = s[rpos s at']?.getD 0 :: s.drop (rpos s at' + 1) := by
    rw [List.drop_eq_getElem_cons hp, List.getElem?_eq_getElem hp]; rfl
  conv => lhs; unfold rrd
  rw [if_neg h, rrest_drop, e]
  simp only
  by_cases hc : s[rpos s at']?.getD 0 = 44
  · rw [if_pos hc, if_pos (by rw [hc]; rfl)]
  · have hc' : ¬ (s[rpos s at']?.getD 0).toNat = 44 := fun q => hc (UInt8.toNat_inj.1 q)
    rw [if_neg hc, if_neg hc']
theorem span_snoc {a b : Int} (h : a ≤ b + 1) : spanI a (b + 1) = spanI a b ++ [b + 1] := by
  unfold spanI
  rw [show (b + 1 + 1 - a).toNat = (b + 1 - a).toNat + 1 by omega, List.range_succ, List.map_append]
  congr 1
  simp; omega
theorem span_nil (a : Int) : spanI a (a - 1) = [] := by unfold spanI; rw [show (a - 1 + 1 - a).toNat = 0 by omega]; rfl
theorem span_length (a b : Int) : (spanI a b).length = (b + 1 - a).toNat := by simp [spanI]
def rdV (o : Option Nat) : Nat := o.getD 0
def rdB (o : Option Nat) : Bool := o.isSome
theorem run_bd {D : List UInt8} (h : 0 ≤ rnum D) (hb : ¬ rbad D) : ∃ a b : Nat, a ≤ b ∧ b < 64 ∧ rnum D = (a : Int) ∧ rto D = (b : Int) := by
  obtain ⟨a, b, h1, h2, h3, h4, _⟩ := run_of h hb
  exact ⟨a, b, h1, h2, h3, h4⟩
theorem rnum_bd (D : List UInt8) : -1 ≤ rnum D ∧ rnum D < 64 := by
  by_cases h : 0 ≤ rnum D
  · obtain ⟨n, h1, h2, _⟩ := rnum_dec h
    omega
  · unfold rnum at h ⊢
    by_cases hc : digs D = [] ∨ 63 < dv (digs D) ∨ (D.head? = some 48 ∧ 1 < (digs D).length)
    · rw [if_pos hc]; decide
    · rw [if_neg hc] at h
      have := dv_bd (fun c hc => digs_dig (D := D) c hc) (digs_len D).1
      omega

set_option maxRecDepth 100000 in
set_option maxHeartbeats 8000000 in
theorem rread_any (s : List UInt8) (hs : s.length ≤ 300) (w : World) :
    Calls Tryd.prog 29 #[.string (bstr s)] w fun e w' => e = .returned (.tuple #[.int .u64 (rdV (rread s) : Nat), .bool (rdB (rread s))]) ∧ Below w.heap.size w w' := by
  have hszv : (bstr s).size = s.length := by show s.toArray.size = _; simp
  have HNUM := Lib.hid (fun i (h : i ≤ s.length) W => rnumber_any s hs i h W)
  have hsv : ((bstr s).toList == [45]) = decide (s = [45]) := by rw [ByteArray.toList_eq, show (bstr s).data.toList = s by simp [bstr]]; exact List_beq s [45]
  obtain ⟨sv, HSV⟩ := nm (bstr s)
  simp only [HSV.out] at HNUM
  rw [HSV.out] at hszv hsv ⊢
  have HIX := Lib.hid (fun k (h : k < s.length) W => idx_str (s := s) (sv := sv) Tryd.underlying9 HSV.out.symm h W)
  by_cases h45 : s = [45]
  · have hr : rread s = some 0 := if_pos h45
    rw [decide_eq_true h45] at hsv
    rw [hr]
    clear hr h45
    go_enter Tryd.func29, Tryd.ntmps29
    go_wp2_with fail
    go_ret2
    exact ⟨rfl, bel_refl _⟩
  have hr : rread s = rrd (s.length + 1) s 0 [] := if_neg h45
  rw [decide_eq_false h45] at hsv
  obtain ⟨R, HR⟩ := nm (rread s)
  rw [HR.out] at hr ⊢
  have HRR := Lib.hid hr
  clear hr h45
  obtain ⟨L, HL⟩ := nm s.length
  simp only [HL.out] at hszv hs HNUM HIX HRR
  go_enter Tryd.func29, Tryd.ntmps29
  go_wp2_with fail
  go_loopw [4, 5, 6] (fun vl va vm wr => ∃ (a f : Nat) (m : Nat) (l : List Int), a ≤ L ∧ va = .int .i64 (a : Int) ∧ vm = .int .i64 (m : Int) ∧ m < 66 ∧ OwnsI .i64 3 wr w.heap.size vl l ∧ Hid (R = rrd (f + 1) (s.drop a) (m : Int) l) ∧ Hid (L ≤ a + f) ∧ Hid (∀ c ∈ l, okC c = true) ∧ Hid (l.length ≤ 64 * a) ∧ Below w.heap.size w wr) (fun _ va _ _ => L - (intOf va).toNat)
  case atStart => exact ⟨0, L, 0, [], Nat.zero_le _, rfl, rfl, by omega, OwnsI.nil _ _ _ _, Lib.hid HRR.out, Lib.hid (by omega), Lib.hid (fun c h => by cases h), Lib.hid (Nat.zero_le _), bel_refl _⟩
  case round =>
    obtain ⟨a, f, m, l, ha, rfl, rfl, hm66, hown, HRD, HF, HOK, HLL, hBr⟩ := hrel
    have hk := rk_le (s := s) (at' := a) (by rw [HL.out]; exact ha)
    rw [HL.out] at hk
    have HN1 := Lib.hid (fun W => HNUM.out a ha W)
    have HNONE := Lib.hid (fun h => rrd_none (s := s) (at' := a) (f := f) (least := (m : Int)) (l := l) h)
    have HEND := Lib.hid (fun h hp => rrd_end (s := s) (at' := a) (f := f) (least := (m : Int)) (l := l) h hp)
    have HCOM := Lib.hid (fun h hp => rrd_comma (s := s) (at' := a) (f := f) (least := (m : Int)) (l := l) h hp)
    have HBND := Lib.hid (fun h hb => run_bd (D := s.drop a) h hb)
    have HYES := Lib.hid (fun h => rpos_yes (s := s) (at' := a) h)
    have HNO := Lib.hid (fun h => rpos_no (s := s) (at' := a) h)
    have hpl := rpos_le (s := s) (at' := a) (by rw [HL.out]; exact ha)
    rw [HL.out] at hpl
    have HMIN := Lib.hid (show rmin s a ↔ (rk s a < s.length ∧ (s[rk s a]?.getD 0).toNat = 45) from Iff.rfl)
    have hkdef : a + (digs (s.drop a)).length = rk s a := rfl
    rw [hkdef] at HN1
    have hfb := rnum_bd (s.drop a)
    have HRD' := HRD
    obtain ⟨A, HA⟩ := nm (rnum (s.drop a))
    obtain ⟨k, HK⟩ := nm (rk s a)
    obtain ⟨P, HP⟩ := nm (rpos s a)
    obtain ⟨T, HT⟩ := nm (rto (s.drop a))
    simp only [HA.out, HK.out] at HN1
    simp only [HA.out] at HNONE
    simp only [HA.out, HT.out, HP.out, HL.out] at HEND HCOM
    simp only [HA.out, HT.out] at HBND
    simp only [HA.out, HT.out, HP.out, HK.out] at HYES HNO
    simp only [HK.out, HL.out] at HMIN
    rw [HA.out] at hfb
    rw [HK.out] at hk
    rw [HP.out] at hpl
    have HO := Lib.hid hown
    clear hown hkdef HRD'
    go_wp2_with fail
    refine (HN1.out _).mono ?_
    rintro e w1 ⟨rfl, rfl⟩
    by_cases hlow : A < (m : Int)
    · have hd : decide (A < (m : Int)) = true := decide_eq_true hlow
      have hR : R = none := HRD.out.trans (HNONE.out (.inl hlow))
      have HRR := Lib.hid hR
      clear hR
      go_wp2_with fail
      go_ret2
      exact ⟨by rw [HRR.out]; rfl, hBr⟩
    have hd : decide (A < (m : Int)) = false := decide_eq_false hlow
    by_cases hbad : rbad (s.drop a)
    · have hR : R = none := HRD.out.trans (HNONE.out (.inr hbad))
      have HRR := Lib.hid hR
      have hmin : rmin s a := by
        apply Classical.byContradiction
        intro h
        exact (HNO.out h).2.2 hbad
      obtain ⟨y1, y2, y3⟩ := HYES.out hmin
      obtain ⟨m1, m2⟩ := HMIN.out.1 hmin
      have hle := y3.1 hbad
      have hix := HIX.out k m1
      simp only [m2] at hix
      have HN2 := Lib.hid (fun W => HNUM.out (k + 1) (by omega) W)
      obtain ⟨B, HB⟩ := nm (rnum (s.drop (k + 1)))
      simp only [HB.out] at HN2
      rw [HB.out] at hle
      have hd2 : decide (B ≤ A) = true := decide_eq_true hle
      have hkL : (k : Int) < (L : Int) := by omega
      have hwk : IntKind.i64.wrap ((k : Int) + 1) = ((k + 1 : Nat) : Int) := by rw [IntWalk.i64_in _ (by omega)]; omega
      clear hR y1 y2 y3 m2
      go_wp2_with fail
      refine (HN2.out _).mono ?_
      rintro e w1 ⟨rfl, rfl⟩
      go_wp2_with fail
      go_ret2
      exact ⟨by rw [HRR.out]; rfl, hBr⟩
    obtain ⟨x, y, hxy, hy64, rfl, rfl⟩ := HBND.out (by omega) hbad
    have HBAD := Lib.hid hbad
    have HNOT := Lib.hid (show ¬ ((x : Int) < (m : Int) ∨ rbad (s.drop a)) from fun q => q.elim hlow hbad)
    clear hbad
    have hBR := Lib.hid hBr
    clear hBr
    obtain ⟨wo, rfl⟩ : ∃ wo : World, wo = wr := ⟨_, rfl⟩
    have hx64 : x < 64 := by omega
    have hPb := hpl.2
    have HCUT := Lib.hid (And.intro HYES HNO)
    have hAx : ¬ ((x : Int) < (m : Int)) := by omega
    by_cases hkL : k < L
    case' pos =>
      have hix := HIX.out k hkL
      obtain ⟨c, HC⟩ := nm (s[k]?.getD 0).toNat
      simp only [HC.out] at hix
      have hkI : (k : Int) < (L : Int) := by omega
      go_upto_if 32 with fail
    case' neg =>
      have hkI : decide ((k : Int) < (L : Int)) = false := decide_eq_false (by omega)
      have hkn : decide (k < L) = false := decide_eq_false hkL
      go_upto_if 32 with fail
    all_goals
      go_cut [8, 9] (fun vi vt wx => vi = .int .i64 (P : Int) ∧ vt = .int .i64 (y : Int) ∧ wo = wx)
      case first =>
        by_cases hmin : rmin s a
        · first
          | exact absurd (HMIN.out.1 hmin).1 hkL
          | (obtain ⟨y1, y2, y3⟩ := HYES.out hmin
             have m2 := (HMIN.out.1 hmin).2
             rw [HC.out] at m2
             have hq1 : ((c : Int) == 45) = true := by rw [m2]; rfl
             have HN2 := Lib.hid (fun W => HNUM.out (k + 1) (by omega) W)
             have hgt : ¬ rnum (s.drop (k + 1)) ≤ (x : Int) := fun q => HBAD.out (y3.2 q)
             have hP1 : k + 1 + (digs (s.drop (k + 1))).length = P := y1.symm
             rw [← y2] at hgt
             simp only [← y2, hP1] at HN2
             have hd2 : decide ((y : Int) ≤ (x : Int)) = false := decide_eq_false hgt
             have hyx : ¬ y ≤ x := by omega
             have hwk : IntKind.i64.wrap ((k : Int) + 1) = ((k + 1 : Nat) : Int) := by rw [IntWalk.i64_in _ (by omega)]; omega
             clear y1 y2 y3 m2 hP1
             rw [hq1]
             go_wp2_with fail
             refine (HN2.out _).mono ?_
             rintro e w1 ⟨rfl, rfl⟩
             go_wp2_with fail
             go_meet
             exact ⟨rfl, rfl, rfl⟩)
        · obtain ⟨y1, y2, -⟩ := HNO.out hmin
          have hyx : y = x := by omega
          have hkP : P = k := y1
          have HYX := Lib.hid hyx
          have HKP := Lib.hid hkP
          clear y1 y2 hyx hkP
          first
          | (have hne : ¬ c = 45 := fun q => hmin (HMIN.out.2 ⟨hkL, by rw [HC.out]; exact q⟩)
             have hq1 : ((c : Int) == 45) = false := beq_false_of_ne (by omega)
             rw [hq1]
             go_wp2_with fail
             go_meet
             exact ⟨by rw [HKP.out], by rw [HYX.out], rfl⟩)
          | (go_wp2_with fail
             go_meet
             exact ⟨by rw [HKP.out], by rw [HYX.out], rfl⟩)
      case rest =>
        obtain ⟨rfl, rfl, rfl⟩ := hcut
        have hPL : (P : Int) ≤ (L : Int) := by omega
        have hxy1 : (x : Int) ≤ (y : Int) := by omega
        go_wp2_with fail
        go_loopw [4, 10] (fun vl vc wr => ∃ c : Nat, x ≤ c ∧ c ≤ y + 1 ∧ vc = .int .i64 (c : Int) ∧ OwnsI .i64 3 wr w.heap.size vl (l ++ spanI (x : Int) ((c : Int) - 1)) ∧ Below w.heap.size w wr) (fun _ vc _ => y + 1 - (intOf vc).toNat)
        case atStart => exact ⟨x, Nat.le_refl _, by omega, rfl, by rw [span_nil, List.append_nil]; exact HO.out, hBR.out⟩
        case round =>
          obtain ⟨c, hxc, hcy, rfl, hown, hBr⟩ := hrel
          have hsz := hBr.size
          have hLen := HLL.out
          by_cases hle : c ≤ y
          · have hcy1 : (c : Int) ≤ (y : Int) := by omega
            have hlen : (l ++ spanI (x : Int) ((c : Int) - 1)).length < 17592186044414 := by rw [List.length_append, span_length]; omega
            have hsn : l ++ spanI (x : Int) (((c + 1 : Nat) : Int) - 1) = (l ++ spanI (x : Int) ((c : Int) - 1)) ++ [(c : Int)] := by
              have := span_snoc (a := (x : Int)) (b := (c : Int) - 1) (by omega)
              rw [show (c : Int) - 1 + 1 = (c : Int) by omega] at this
              rw [show ((c + 1 : Nat) : Int) - 1 = (c : Int) by omega, this, List.append_assoc]
            have HSN := Lib.hid hsn
            have HO2 := Lib.hid hown
            clear hown hsn
            go_wp2_with (at_builtin; refine wpl_app1I rfl (.tmp 49) (.tmp 51) 24 rfl .i64 3 8 Tryd.underlying24 info_int (by decide) w.heap.size _ (l ++ spanI (x : Int) ((c : Int) - 1)) wr HO2.out rfl (c : Int) rfl hlen hsz ?_; intro v' w3 hown' hB')
            go_roundw
            case rel => exact ⟨c + 1, by omega, by omega, by go_num, by rw [HSN.out]; exact hown', hBr.trans hB'⟩
            case measure => simp [intOf]; omega
          · obtain rfl : c = y + 1 := by omega
            have hsp : spanI (x : Int) (((y + 1 : Nat) : Int) - 1) = spanI (x : Int) (y : Int) := by rw [show ((y + 1 : Nat) : Int) - 1 = (y : Int) by omega]
            rw [hsp] at hown
            have hcy1 : ¬ ((y + 1 : Nat) : Int) ≤ (y : Int) := by omega
            have hcy2 : decide (((y + 1 : Nat) : Int) ≤ (y : Int)) = false := decide_eq_false hcy1
            have hcy3 : decide (y + 1 ≤ y) = false := decide_eq_false hle
            have hok2 : ∀ q ∈ l ++ spanI (x : Int) (y : Int), okC q = true := by
              intro q hq
              rcases List.mem_append.1 hq with hq | hq
              · exact HOK.out q hq
              · have := span_mem.1 hq
                unfold okC
                exact decide_eq_true (by omega)
            have hl2 : (l ++ spanI (x : Int) (y : Int)).length ≤ 64 * (a + 1) := by rw [List.length_append, span_length]; omega
            have HO2 := Lib.hid hown
            have HOK2 := Lib.hid hok2
            have HL2 := Lib.hid hl2
            have HBR3 := Lib.hid hBr
            clear hown hok2 hl2 hsp hBr
            by_cases hPe : P = L
            · have hR := HRD.out.trans (HEND.out HNOT.out hPe)
              have hpe : ((P : Int) == (L : Int)) = true := by rw [hPe]; simp
              have HOF := Lib.hid (rof_any _ _ _ HO2.out.reads (by have := HL2.out; omega) HOK2.out)
              obtain ⟨V, HV⟩ := nm (orL (l ++ spanI (x : Int) (y : Int)))
              rw [HV.out] at hR HOF
              have HRR := Lib.hid hR
              have HPE := Lib.hid hPe
              clear hR hPe hle hcy1
              go_wp2_with fail
              refine (HOF.out).mono ?_
              rintro e w5 ⟨rfl, hb5⟩
              have HB5 := Lib.hid (HBR3.out.trans (hb5.mono HBR3.out.size))
              clear hb5
              go_wp2_with fail
              go_ret2
              exact ⟨by rw [HRR.out]; rfl, HB5.out⟩
            · have hPlt : P < L := by omega
              have hR := HRD.out.trans (HCOM.out HNOT.out hPlt)
              have hpe : ((P : Int) == (L : Int)) = false := beq_false_of_ne (by omega)
              have hPLi : (P : Int) < (L : Int) := by omega
              have hixP := HIX.out P hPlt
              obtain ⟨q, HQQ⟩ := nm (s[P]?.getD 0).toNat
              simp only [HQQ.out] at hixP
              rw [HQQ.out] at hR
              have HPE := Lib.hid hPe
              clear hPe hle hcy1
              by_cases h44 : q = 44
              · rw [if_pos h44] at hR
                have HRR := Lib.hid hR
                have hq4 : ((q : Int) == 44) = true := by rw [h44]; rfl
                have hq5 : ((q : Int) != 44) = false := by rw [h44]; rfl
                obtain ⟨f', hf'⟩ : ∃ f', f = f' + 1 := ⟨f - 1, by have := HF.out; omega⟩
                have HFF := Lib.hid hf'
                have hwp : IntKind.i64.wrap ((P : Int) + 1) = ((P + 1 : Nat) : Int) := by rw [IntWalk.i64_in _ (by omega)]; omega
                have hwy : IntKind.i64.wrap ((y : Int) + 2) = ((y + 2 : Nat) : Int) := by rw [IntWalk.i64_in _ (by omega)]; omega
                clear hR h44 hf'
                go_wp2_with fail
                go_roundw
                case rel =>
                  refine ⟨P + 1, f', y + 2, l ++ spanI (x : Int) (y : Int), by omega, by first | rfl | go_num, by first | rfl | go_num, by omega, HO2.out, Lib.hid ?_, Lib.hid ?_, Lib.hid HOK2.out, Lib.hid ?_, HBR3.out⟩
                  · rw [HRR.out, HFF.out]; rfl
                  · have := HF.out; have := HFF.out; omega
                  · have := HL2.out; omega
                case measure => simp [intOf]; omega
              · rw [if_neg h44] at hR
                have HRR := Lib.hid hR
                have hq4 : ((q : Int) == 44) = false := beq_false_of_ne (by omega)
                have hq5 : ((q : Int) != 44) = true := by simp only [bne, hq4]; rfl
                clear hR
                go_wp2_with fail
                go_ret2
                exact ⟨by rw [HRR.out]; rfl, HBR3.out⟩
end Go.Proofs.YtjpkldndeakkkaaDoor
