/- The walk of the law MaskTexts. -/
import Derived.Test.YtjpkldndeakkkaaDoorMskI
import Derived.Test.YtjpkldndeakkkaaDoorMskT
namespace Go.Proofs.YtjpkldndeakkkaaDoor
open Go Go.RowKit Go.Shelf

set_option maxRecDepth 100000 in
set_option maxHeartbeats 4000000 in
theorem maskTexts_all (w : World) (m : Nat) (hm : m < 18446744073709551616) (o : Nat) (ho : o < 18446744073709551616) (s : ByteArray) (hs : s.size ≤ maxLen) (hE : EV w) :
    Calls Tryd.prog 5 #[.int .u64 m, .int .u64 o, .string s] w fun e w' => e = .returned (.bool true) ∧ Below w.heap.size w w' := by
  have HE := Lib.hid hE
  have h1 := fun W => mtext_any m hm W
  have h2 := fun W => mtext_any o ho W
  have hlm : (mtextB m).length < 1000000 ∧ mtextB m ≠ [] := ⟨mtext_small hm, mtext_ne hm⟩
  have h3 := fun W (hW : EV W) => mread_any (mtextB m) hlm.1 W hW
  rw [(readV_text hm).1, (readV_text hm).2] at h3
  have htt : ((bstr (mtextB m)).toList == (bstr (mtextB o)).toList) = decide (m = o) := by
    rw [ByteArray.toList_eq, ByteArray.toList_eq, show (bstr (mtextB m)).data.toList = mtextB m by simp [bstr], show (bstr (mtextB o)).data.toList = mtextB o by simp [bstr], List_beq]
    by_cases h : m = o
    · subst h; simp
    · rw [decide_eq_false h, decide_eq_false (fun e => h (mtext_inj hm ho e))]
  have hn1 : (bstr (mtextB m)).toList ≠ [] := by
    rw [ByteArray.toList_eq, show (bstr (mtextB m)).data.toList = mtextB m by simp [bstr]]; exact hlm.2
  have hn2 : (bstr (mtextB m)).toList.isEmpty = false := by
    rcases h : (bstr (mtextB m)).toList with _ | ⟨a, r⟩
    · exact absurd h hn1
    · rfl
  have hn3 : ((bstr (mtextB m)).toList == []) = false := beq_false_of_ne hn1
  obtain ⟨t, HT⟩ := nm (bstr (mtextB m))
  obtain ⟨u, HU⟩ := nm (bstr (mtextB o))
  simp only [HT.out] at h1 h3
  simp only [HU.out] at h2
  rw [HT.out, HU.out] at htt
  rw [HT.out] at hn1 hn2 hn3
  obtain ⟨l, HL⟩ := nm s.data.toList
  have hsl : s = bstr l := by rw [← HL.out, bstr_toList]
  have hsz : s.size = l.length := by rw [hsl, bstr_size]
  have h4 := fun (hl : l.length < 1000000) W (hW : EV W) => mread_any l hl W hW
  rw [← hsl] at h4
  have h5 := fun W => mtext_any (readV l) (by unfold readV; split; exact readM_lt l; decide) W
  have hcase : (readE l = 0 ∧ ((bstr (mtextB (readV l))).toList == s.toList) = true) ∨ (readE l = 201 ∧ readV l = 0) := by
    by_cases h : mtextB (readM l) = l
    · refine .inl ⟨by unfold readE; rw [if_pos h], ?_⟩
      unfold readV
      rw [if_pos h, h, ← hsl]
      simp
    · exact .inr ⟨by unfold readE; rw [if_neg h], by unfold readV; rw [if_neg h]⟩
  obtain ⟨v, HTV⟩ := nm (bstr (mtextB (readV l)))
  simp only [HTV.out] at h5 hcase
  obtain ⟨x, HX⟩ := nm (readV l)
  obtain ⟨E, HEE⟩ := nm (readE l)
  simp only [HX.out, HEE.out] at h4 h5 hcase
  obtain ⟨L, HLL⟩ := nm l.length
  rw [HLL.out] at hsz h4
  have H1 := Lib.hid h1
  have H2 := Lib.hid h2
  have H3 := Lib.hid h3
  have H4 := Lib.hid h4
  have H5 := Lib.hid h5
  have HC := Lib.hid hcase
  have HTT := Lib.hid htt
  clear h1 h2 h3 h4 h5 hcase htt hsl hE hlm
  have hs2 : L ≤ 9223372036854775807 := by unfold maxLen at hs; omega
  clear hs
  go_enter Tryd.func5, Tryd.ntmps5
  go_wp2_with fail
  refine (awakeM_any w HE.out).mono ?_
  rintro e w1 ⟨rfl, hb1⟩
  have HB1 := Lib.hid hb1
  clear hb1
  go_wp2_with fail
  refine (H1.out _).mono ?_
  rintro e w2 ⟨rfl, hb2⟩
  have HB2 := Lib.hid (gr_tr HB1.out hb2)
  clear hb2 HB1
  go_wp2_with fail
  refine (H3.out _ (HE.out.keep HB2.out (Nat.le_refl _))).mono ?_
  rintro e w3 ⟨rfl, hb3⟩
  have HB3 := Lib.hid (gr_tr HB2.out hb3)
  clear hb3 HB2
  go_wp2_with fail
  refine (H2.out _).mono ?_
  rintro e w4 ⟨rfl, hb4⟩
  have HB4 := Lib.hid (gr_tr HB3.out hb4)
  clear hb4 HB3
  have htt := HTT.out
  have hmo : ((m : Int) == (o : Int)) = decide (m = o) := by
    by_cases h : m = o
    · subst h; simp
    · rw [decide_eq_false h]; exact beq_false_of_ne (by omega)
  obtain ⟨b, hb⟩ : ∃ b, decide (m = o) = b := ⟨_, rfl⟩
  rw [hb] at htt hmo
  clear hb
  by_cases hlong : 300 < L
  · have hl1 : (300 : Int) < (s.size : Int) := by omega
    rcases b with _ | _
    · go_wp2_with fail
      go_ret
      exact ⟨rfl, HB4.out⟩
    · go_wp2_with fail
      go_ret
      exact ⟨rfl, HB4.out⟩
  · have hl1 : ¬ (300 : Int) < (s.size : Int) := by omega
    have h4 := H4.out (by omega) w4 (HE.out.keep HB4.out (Nat.le_refl _))
    rcases HC.out with ⟨rfl, hq⟩ | ⟨rfl, rfl⟩
    · have H4' := Lib.hid h4
      clear h4
      rcases b with _ | _
      all_goals
        go_wp2_with fail
        refine H4'.out.mono ?_
        rintro e w5 ⟨rfl, hb5⟩
        have HB5 := Lib.hid (gr_tr HB4.out hb5)
        clear hb5
        go_wp2_with fail
        refine (H5.out _).mono ?_
        rintro e w6 ⟨rfl, hb6⟩
        have HB6 := Lib.hid (gr_tr HB5.out hb6)
        clear hb6
        go_wp2_with fail
        go_ret
        exact ⟨by simp, HB6.out⟩
    · have H4' := Lib.hid h4
      clear h4
      rcases b with _ | _
      all_goals
        go_wp2_with fail
        refine H4'.out.mono ?_
        rintro e w5 ⟨rfl, hb5⟩
        have HB5 := Lib.hid (gr_tr HB4.out hb5)
        clear hb5
        go_wp2_with fail
        go_ret
        exact ⟨by simp, HB5.out⟩
end Go.Proofs.YtjpkldndeakkkaaDoor
