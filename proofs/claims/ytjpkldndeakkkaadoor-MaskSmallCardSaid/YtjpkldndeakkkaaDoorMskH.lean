/- Masks of CPUs: the walk of mask.Read. -/
import Derived.Test.YtjpkldndeakkkaaDoorMskG
namespace Go.Proofs.YtjpkldndeakkkaaDoor
open Go Go.RowKit Go.Shelf

def orR (m a : Nat) : Nat → Nat
  | 0 => m
  | k + 1 => orR m a k ||| 1 <<< (a + k)
def gA (R : List UInt8) : Nat := if 45 ∈ cutA R 44 then numI (cutA R 45) else numI (cutA R 44)
def gB (R : List UInt8) : Nat := if 45 ∈ cutA R 44 then numI (cutA (cutR R 45) 44) else numI (cutA R 44)
def gR (R : List UInt8) : List UInt8 := if 45 ∈ cutA R 44 then cutR (cutR R 45) 44 else cutR R 44
def gM (m : Nat) (R : List UInt8) : Nat := orR m (gA R) (gB R + 1 - gA R)
def guess : Nat → Nat → List UInt8 → Nat
  | 0, m, _ => m
  | f + 1, m, R => if R = [] then m else guess f (gM m R) (gR R)
def readM (s : List UInt8) : Nat := if s = [45] then 0 else guess s.length 0 s
def readV (s : List UInt8) : Nat := if mtextB (readM s) = s then readM s else 0
def readE (s : List UInt8) : Int := if mtextB (readM s) = s then 0 else 201
theorem orR_lt {m a : Nat} (hm : m < 18446744073709551616) : ∀ k, a + k ≤ 64 → orR m a k < 18446744073709551616
  | 0, _ => hm
  | k + 1, h => Nat.or_lt_two_pow (n := 64) (orR_lt hm k (by omega)) (one_shl_lt (by omega))
theorem gA_lt (R : List UInt8) : gA R < 64 := by unfold gA; split <;> exact numI_lt _
theorem gB_lt (R : List UInt8) : gB R < 64 := by unfold gB; split <;> exact numI_lt _
theorem gM_lt {m : Nat} (hm : m < 18446744073709551616) (R : List UInt8) : gM m R < 18446744073709551616 := orR_lt hm _ (by have := gA_lt R; have := gB_lt R; omega)
theorem cutR_short {R : List UInt8} (c : UInt8) (h : R ≠ []) : (cutR R c).length < R.length := by
  have h1 := List.length_pos_iff.2 h
  have h2 := (List.dropWhile_suffix (fun x => x != c) (l := R)).length_le
  unfold cutR
  rw [List.length_drop]
  omega
theorem gR_short {R : List UInt8} (h : R ≠ []) : (gR R).length < R.length := by
  unfold gR
  split
  · exact Nat.lt_of_le_of_lt (cutR_len _ _) (cutR_short 45 h)
  · exact cutR_short 44 h
theorem guess_lt : ∀ f {m : Nat} R, m < 18446744073709551616 → guess f m R < 18446744073709551616
  | 0, _, _, h => h
  | f + 1, m, R, h => by
    unfold guess
    split
    · exact h
    · exact guess_lt f _ (gM_lt h R)
theorem guess_step {m : Nat} {R : List UInt8} (h : R ≠ []) : ∀ f, R.length ≤ f → guess f m R = guess (gR R).length (gM m R) (gR R) := by
  have fuel : ∀ f g m R, R.length ≤ f → R.length ≤ g → guess f m R = guess g m R := by
    intro f
    induction f with
    | zero =>
      intro g m R h1 _
      have : R = [] := List.length_eq_zero_iff.1 (by omega)
      subst this
      cases g <;> simp [guess]
    | succ f ih =>
      intro g m R h1 h2
      by_cases e : R = []
      · subst e
        cases g <;> simp [guess]
      · cases g with
        | zero => exact absurd (List.length_eq_zero_iff.1 (by omega)) e
        | succ g =>
          unfold guess
          rw [if_neg e, if_neg e]
          have := gR_short e
          exact ih g _ _ (by omega) (by omega)
  intro f hf
  cases f with
  | zero => exact absurd (List.length_eq_zero_iff.1 (by omega)) h
  | succ f =>
    conv => lhs; unfold guess
    rw [if_neg h]
    have := gR_short h
    exact fuel _ _ _ _ (by omega) (Nat.le_refl _)
theorem has_byte (R : List UInt8) (c : UInt8) : decide (0 ≤ Lib.indexByte R c) = decide (c ∈ R) := by
  have hge := Lib.indexByte_ge R c
  by_cases hi : Lib.indexByte R c = -1
  · rw [hi, decide_eq_false (cut_none hi).2.2]; rfl
  · obtain ⟨o, ho⟩ := Int.eq_ofNat_of_zero_le (show 0 ≤ Lib.indexByte R c by omega)
    rw [decide_eq_true (cut_some ho).2.2.2, decide_eq_true (by omega)]
theorem List_beq (a b : List UInt8) : (a == b) = decide (a = b) := by
  by_cases h : a = b
  · rw [decide_eq_true h, h]; simp
  · rw [decide_eq_false h]; exact beq_false_of_ne h
theorem readM_lt (s : List UInt8) : readM s < 18446744073709551616 := by
  unfold readM
  split
  · decide
  · exact guess_lt _ _ (by decide)

set_option maxRecDepth 100000 in
set_option maxHeartbeats 4000000 in
theorem mread_any (s : List UInt8) (hs : s.length < 1000000) (w : World) (hE : EV w) :
    Calls Tryd.prog 16 #[.string (bstr s)] w fun e w' => e = .returned (.tuple #[.int .u64 (readV s : Nat), .int .i64 (readE s)]) ∧ Below w.heap.size w w' := by
  have HEV := Lib.hid hE
  have HTX := Lib.hid (fun W => mtext_any (readM s) (readM_lt s) W)
  have HG := Lib.hid (fun m R (h : R ≠ []) f hf => guess_step (m := m) h f hf)
  have hM : readM s = if s = [45] then 0 else guess s.length 0 s := rfl
  have hV : readV s = if mtextB (readM s) = s then readM s else 0 := rfl
  have hEq : readE s = if mtextB (readM s) = s then 0 else 201 := rfl
  obtain ⟨V, HV⟩ := nm (readV s)
  obtain ⟨E, HEE⟩ := nm (readE s)
  obtain ⟨M, HMM⟩ := nm (readM s)
  rw [HV.out, HMM.out] at hV
  rw [HEE.out, HMM.out] at hEq
  rw [HMM.out] at hM
  simp only [HMM.out] at HTX
  rw [HV.out, HEE.out]
  have HVV := Lib.hid hV
  have HEV2 := Lib.hid hEq
  have HM := Lib.hid hM
  clear hE hV hEq hM
  have hsv : ((bstr s).toList == [45]) = decide (s = [45]) := by rw [ByteArray.toList_eq, show (bstr s).data.toList = s by simp [bstr]]; exact List_beq s [45]
  have htx : ((bstr (mtextB M)).toList == (bstr s).toList) = decide (mtextB M = s) := by
    rw [ByteArray.toList_eq, ByteArray.toList_eq, show (bstr s).data.toList = s by simp [bstr], show (bstr (mtextB M)).data.toList = mtextB M by simp [bstr]]
    exact List_beq _ _
  obtain ⟨sv, HSV⟩ := nm (bstr s)
  obtain ⟨tx, HTXV⟩ := nm (bstr (mtextB M))
  rw [HSV.out] at hsv
  rw [HSV.out, HTXV.out] at htx
  simp only [HTXV.out] at HTX
  rw [HSV.out]
  have HSV1 := Lib.hid hsv
  have HTX1 := Lib.hid htx
  clear hsv htx
  go_enter Tryd.func16, Tryd.ntmps16
  go_wp2_with fail
  have hb0 := cell_new_l w (.string sv) 9
  rw [← HSV.out] at hb0
  have HB0 := Lib.hid hb0
  rw [HSV.out] at HB0
  clear hb0
  go_loopw [4] (fun vm wr => ∃ (m : Nat) (R : List UInt8), m < 18446744073709551616 ∧ R.length ≤ s.length ∧ vm = .int .u64 (m : Int) ∧ wr.cell? ⟨w.heap.size, 0, none⟩ = some (.string (bstr R)) ∧ wr.frozen? ⟨w.heap.size, 0, none⟩ = false ∧ Hid (M = if s = [45] then m else guess R.length m R) ∧ Below w.heap.size w wr)
    (fun _ wr => match wr.cell? ⟨w.heap.size, 0, none⟩ with | some (.string r) => r.size | _ => 0)
  case atStart => exact ⟨0, s, by decide, Nat.le_refl _, rfl, by rw [HSV.out]; exact HB0.out.1, HB0.out.2, Lib.hid (by rw [HM.out]), bel_alloc w _⟩
  case round =>
    obtain ⟨m, R, hm, hR, rfl, hcr, hfr, HMR, hBr⟩ := hrel
    have ev := HEV.out.keep hBr (Nat.le_refl _)
    have HEVr := Lib.hid ev
    clear ev HM
    have hrv : (bstr R).toList = R := by rw [ByteArray.toList_eq]; simp [bstr]
    by_cases hx : R = [] ∨ s = [45]
    · have hMm : M = m := by
        rw [HMR.out]
        by_cases h : s = [45]
        · rw [if_pos h]
        · rw [if_neg h]
          rcases hx with h1 | h1
          · subst h1; simp [guess]
          · exact absurd h1 h
      subst hMm
      have t1 : ¬ (bstr R).toList = [] → (sv.toList == [45]) = true := fun h => by
        rw [hrv] at h
        rw [HSV1.out]; exact decide_eq_true (hx.resolve_left h)
      have t2 : (bstr R).toList.isEmpty = false → (sv.toList == [45]) = true := fun h => t1 (fun e => by rw [e] at h; cases h)
      obtain ⟨rv, HRV⟩ := nm (bstr R)
      rw [HRV.out] at hcr t1 t2
      have T1 := Lib.hid t1
      clear hrv hx t1 t2
      by_cases hfin : mtextB M = s
      · have hV := HVV.out
        have hE := HEV2.out
        rw [if_pos hfin] at hV hE
        have q1 : (tx.toList == sv.toList) = true := by rw [HTX1.out]; exact decide_eq_true hfin
        have HVf := Lib.hid hV
        have HEf := Lib.hid hE
        clear hV hE hfin
        by_cases he : rv.toList = []
        · go_wp2_with fail
          refine (HTX.out _).mono ?_
          rintro e w1 ⟨rfl, hb1⟩
          have hB1 := bel_trans hBr hb1 hBr.size
          clear hb1
          go_wp2_with fail
          go_ret2
          exact ⟨by rw [HVf.out, HEf.out]; rfl, hB1⟩
        · have he2 : rv.toList.isEmpty = false := by simpa using he
          have q2 := T1.out he
          go_wp2_with fail
          refine (HTX.out _).mono ?_
          rintro e w1 ⟨rfl, hb1⟩
          have hB1 := bel_trans hBr hb1 hBr.size
          clear hb1
          go_wp2_with fail
          go_ret2
          exact ⟨by rw [HVf.out, HEf.out]; rfl, hB1⟩
      · have hV := HVV.out
        have hE := HEV2.out
        rw [if_neg hfin] at hV hE
        have q1 : (tx.toList == sv.toList) = false := by rw [HTX1.out]; exact decide_eq_false hfin
        have HVf := Lib.hid hV
        have HEf := Lib.hid hE
        clear hV hE hfin
        by_cases he : rv.toList = []
        · go_wp2_with fail
          refine (HTX.out _).mono ?_
          rintro e w1 ⟨rfl, hb1⟩
          have hB1 := bel_trans hBr hb1 hBr.size
          clear hb1
          go_wp2_with fail
          go_ret2
          exact ⟨by rw [HVf.out, HEf.out]; rfl, hB1⟩
        · have he2 : rv.toList.isEmpty = false := by simpa using he
          have q2 := T1.out he
          go_wp2_with fail
          refine (HTX.out _).mono ?_
          rintro e w1 ⟨rfl, hb1⟩
          have hB1 := bel_trans hBr hb1 hBr.size
          clear hb1
          go_wp2_with fail
          go_ret2
          exact ⟨by rw [HVf.out, HEf.out]; rfl, hB1⟩
    · have hR0 : R ≠ [] := fun e => hx (.inl e)
      have hS0 : s ≠ [45] := fun e => hx (.inr e)
      have HR0 := Lib.hid hR0
      have HS0 := Lib.hid hS0
      have q1 : (sv.toList == [45]) = false := by rw [HSV1.out]; exact decide_eq_false hS0
      have q2 : ¬ (bstr R).toList = [] := by rw [hrv]; exact hR0
      have q3 : (bstr R).toList.isEmpty = false := by rw [hrv]; simpa using hR0
      have hRl : R.length < 1000000 := by omega
      have HCUT := Lib.hid (fun W => scut_any R 44 hRl W)
      have hcon := fun W => Tryd.strings_Contains_one (bstr (cutA R 44)) 45 W
      simp only [show (bstr (cutA R 44)).data.toList = cutA R 44 by simp [bstr], has_byte] at hcon
      have HN1 := Lib.hid (fun c W hB hf hE => number_any R hRl c w.heap.size W hB hf hE)
      have hR1 : (cutR R 45).length < 1000000 := Nat.lt_of_le_of_lt (cutR_len R 45) hRl
      have HN2 := Lib.hid (fun W hB hf hE => number_any (cutR R 45) hR1 44 w.heap.size W hB hf hE)
      have hga := gA_lt R
      have hgb := gB_lt R
      have CR := Lib.hid hcr
      obtain ⟨a, HA⟩ := nm (gA R)
      obtain ⟨b, HB⟩ := nm (gB R)
      rw [HA.out] at hga
      rw [HB.out] at hgb
      obtain ⟨rv, HRV⟩ := nm (bstr R)
      rw [HRV.out] at hcr q2 q3
      simp only [HRV.out] at HCUT HN1
      have hcr' := hcr
      rw [← HRV.out] at hcr'
      have HFR := Lib.hid hfr
      have HCR := Lib.hid hcr
      have pre : ∀ (w1 : World), Below wr.heap.size wr w1 → w1.cell? ⟨w.heap.size, 0, none⟩ = some (.string rv) ∧ w1.frozen? ⟨w.heap.size, 0, none⟩ = false ∧ EV w1 := fun w1 h => ⟨cell_keep h HCR.out (cell_lt HCR.out), (h.frozen (p := ⟨w.heap.size, 0, none⟩) (cell_lt HCR.out)).trans HFR.out, HEVr.out.keep h (Nat.le_refl _)⟩
      have HPRE := Lib.hid pre
      clear pre hrv hx hR0 hS0 hcr' hRl hR1 HVV HEV2 HB0 HTX HTX1 HV HEE HMM
      go_wp2_with fail
      refine (HCUT.out _).mono ?_
      rintro e w1 ⟨rfl, hb1⟩
      obtain ⟨rn, HRN⟩ := nm (bstr (cutA R 44))
      rw [HRN.out]
      simp only [HRN.out] at hcon
      have HCON := Lib.hid hcon
      clear hcon
      by_cases hin : 45 ∈ cutA R 44
      · have GA : Hid (gA R = a) := HA
        have GB : Hid (gB R = b) := HB
        have ga1 : numI (cutA R 45) = a := by rw [← HA.out]; unfold gA; rw [if_pos hin]
        have gb1 : numI (cutA (cutR R 45) 44) = b := by rw [← HB.out]; unfold gB; rw [if_pos hin]
        have gr1 : gR R = cutR (cutR R 45) 44 := by unfold gR; rw [if_pos hin]
        have GR := Lib.hid gr1
        have HC2 := HCON.out
        simp only [decide_eq_true hin] at HC2
        have HC3 := Lib.hid HC2
        have hn1 := HN1.out 45
        have hn2 := HN2.out
        simp only [ga1] at hn1
        simp only [gb1, ← gr1] at hn2
        have HN1' := Lib.hid hn1
        have HN2' := Lib.hid hn2
        have HP1 := Lib.hid (HPRE.out w1 hb1)
        have HB1 := Lib.hid hb1
        clear HC2 ga1 gb1 gr1 hin HCON hb1 hn1 hn2
        go_wp2_with fail
        refine (HC3.out _).mono ?_
        rintro e w2 ⟨rfl, rfl⟩
        go_wp2_with fail
        refine (HN1'.out w2 HP1.out.1 HP1.out.2.1 HP1.out.2.2).mono ?_
        rintro e w3 ⟨rfl, W3, hb3, rfl⟩
        have p3 := HPRE.out W3 (bel_trans HB1.out hb3 HB1.out.size)
        have c3 : (W3.setCell ⟨w.heap.size, 0, none⟩ (.string (bstr (cutR R 45)))).cell? ⟨w.heap.size, 0, none⟩ = some (.string (bstr (cutR R 45))) := World.cell?_setCell_same' _ _ _ (by rw [p3.1]; rfl)
        have f3 : (W3.setCell ⟨w.heap.size, 0, none⟩ (.string (bstr (cutR R 45)))).frozen? ⟨w.heap.size, 0, none⟩ = false := (World.frozen?_setCell _ _ _ _).trans p3.2.1
        have e3 : EV (W3.setCell ⟨w.heap.size, 0, none⟩ (.string (bstr (cutR R 45)))) := HEV.out.keep (((hBr.trans (HB1.out.mono hBr.size)).trans (hb3.mono (Nat.le_trans hBr.size HB1.out.size))).setCell (p := ⟨w.heap.size, 0, none⟩) (Nat.le_refl _) _) (Nat.le_refl _)
        have b3 : Below w.heap.size w (W3.setCell ⟨w.heap.size, 0, none⟩ (.string (bstr (cutR R 45)))) := ((hBr.trans (HB1.out.mono hBr.size)).trans (hb3.mono (Nat.le_trans hBr.size HB1.out.size))).setCell (p := ⟨w.heap.size, 0, none⟩) (Nat.le_refl _) _
        clear hb3 p3
        obtain ⟨w4, HW4⟩ := nm (W3.setCell ⟨w.heap.size, 0, none⟩ (.string (bstr (cutR R 45))))
        rw [HW4.out] at c3 f3 e3 b3 ⊢
        have C3 := Lib.hid c3
        have F3 := Lib.hid f3
        have E3 := Lib.hid e3
        have B3 := Lib.hid b3
        clear c3 f3 e3 b3 hcr hfr hBr
        go_wp2_with fail
        refine (HN2'.out w4 C3.out F3.out E3.out).mono ?_
        rintro e w5 ⟨rfl, W5, hb5, rfl⟩
        have CE := Lib.hid (show (W5.setCell ⟨w.heap.size, 0, none⟩ (.string (bstr (gR R)))).cell? ⟨w.heap.size, 0, none⟩ = some (.string (bstr (gR R))) from World.cell?_setCell_same' _ _ _ (by rw [cell_keep hb5 C3.out (cell_lt C3.out)]; rfl))
        have FE := Lib.hid (show (W5.setCell ⟨w.heap.size, 0, none⟩ (.string (bstr (gR R)))).frozen? ⟨w.heap.size, 0, none⟩ = false from (World.frozen?_setCell _ _ _ _).trans ((hb5.frozen (p := ⟨w.heap.size, 0, none⟩) (cell_lt C3.out)).trans F3.out))
        have BE := Lib.hid (show Below w.heap.size w (W5.setCell ⟨w.heap.size, 0, none⟩ (.string (bstr (gR R)))) from (bel_trans B3.out hb5 B3.out.size).setCell (p := ⟨w.heap.size, 0, none⟩) (Nat.le_refl _) _)
        clear hb5
        obtain ⟨wo, rfl⟩ : ∃ wo : World, wo = wr := ⟨_, rfl⟩
        obtain ⟨WE, HWE⟩ := nm (W5.setCell ⟨w.heap.size, 0, none⟩ (.string (bstr (gR R))))
        rw [HWE.out] at CE FE BE ⊢
        go_wp2_with fail
        go_loopw [4, 12] (fun vm vi wr => ∃ k : Nat, k ≤ b + 1 - a ∧ vi = .int .i64 ((a : Int) + (k : Int)) ∧ vm = .int .u64 (orR m a k : Nat) ∧ WE = wr) (fun _ vi _ => 200 - (intOf vi).toNat)
        case atStart => exact ⟨0, Nat.zero_le _, by simp, rfl, rfl⟩
        case round =>
          obtain ⟨k, hk, rfl, rfl, rfl⟩ := hrel
          have ho := orR_lt hm k (by omega : a + k ≤ 64)
          by_cases hlt : k < b + 1 - a
          · have hak : a + k < 64 := by omega
            have hsn : orR m a (k + 1) = orR m a k ||| 1 <<< (a + k) := rfl
            have hw := wrap_shl_one hak
            have hl1 := one_shl_lt hak
            have hij : (a : Int) + (k : Int) = ((a + k : Nat) : Int) := by omega
            have hle : ((a + k : Nat) : Int) ≤ (b : Int) := by omega
            obtain ⟨q, HQ⟩ := nm (1 <<< (a + k) : Nat)
            rw [HQ.out] at hw hl1 hsn
            obtain ⟨o, HO⟩ := nm (orR m a k)
            rw [HO.out] at ho hsn ⊢
            obtain ⟨o2, HO2⟩ := nm (orR m a (k + 1))
            rw [HO2.out] at hsn
            have hor := u64_or_nat o q ho hl1
            rw [← hsn] at hor
            obtain ⟨z, HZ⟩ := nm (a + k)
            rw [HZ.out] at hw hak hij hle
            rw [hij]
            have HIJ := Lib.hid hij
            clear hsn hij
            go_wp2_with fail
            go_roundw
            case rel => exact ⟨k + 1, by omega, by have := HZ.out; go_num, by rw [HO2.out], trivial⟩
            case measure => simp [intOf]; omega
          · obtain rfl : k = b + 1 - a := by omega
            have hgm : gM m R = orR m a (b + 1 - a) := by unfold gM; rw [GA.out, GB.out]
            have hle : (b : Int) < (a : Int) + ((b + 1 - a : Nat) : Int) := by omega
            have GM := Lib.hid hgm
            clear hgm
            go_wp2_with fail
            have hgl := gM_lt hm R
            refine ⟨⟨gM m R, gR R, hgl, by have := gR_short HR0.out; omega, by rw [GM.out], by exact CE.out, FE.out, Lib.hid ?_, BE.out⟩, ?_⟩
            · rw [HMR.out, if_neg HS0.out, if_neg HS0.out]
              exact HG.out m R HR0.out _ (Nat.le_refl _)
            · rw [CE.out, CR.out]
              have h1 := gR_short HR0.out
              show (bstr (gR R)).size < (bstr R).size
              rw [bstr_size, bstr_size]
              exact h1
      · have GA : Hid (gA R = a) := HA
        have GB : Hid (gB R = b) := HB
        have ga1 : numI (cutA R 44) = a := by rw [← HA.out]; unfold gA; rw [if_neg hin]
        have hab : a = b := by rw [← HA.out, ← HB.out]; unfold gA gB; rw [if_neg hin, if_neg hin]
        have gr1 : gR R = cutR R 44 := by unfold gR; rw [if_neg hin]
        have HC2 := HCON.out
        simp only [decide_eq_false hin] at HC2
        have HC3 := Lib.hid HC2
        have hn1 := HN1.out 44
        simp only [ga1, ← gr1] at hn1
        have HN1' := Lib.hid hn1
        have HP1 := Lib.hid (HPRE.out w1 hb1)
        have HB1 := Lib.hid hb1
        clear HC2 ga1 gr1 hin HCON hb1 hn1
        subst hab
        go_wp2_with fail
        refine (HC3.out _).mono ?_
        rintro e w2 ⟨rfl, rfl⟩
        have B3 := Lib.hid (hBr.trans (HB1.out.mono hBr.size))
        clear hcr hfr hBr
        go_wp2_with fail
        refine (HN1'.out w2 HP1.out.1 HP1.out.2.1 HP1.out.2.2).mono ?_
        rintro e w5 ⟨rfl, W5, hb5, rfl⟩
        have CE := Lib.hid (show (W5.setCell ⟨w.heap.size, 0, none⟩ (.string (bstr (gR R)))).cell? ⟨w.heap.size, 0, none⟩ = some (.string (bstr (gR R))) from World.cell?_setCell_same' _ _ _ (by rw [cell_keep hb5 HP1.out.1 (cell_lt HP1.out.1)]; rfl))
        have FE := Lib.hid (show (W5.setCell ⟨w.heap.size, 0, none⟩ (.string (bstr (gR R)))).frozen? ⟨w.heap.size, 0, none⟩ = false from (World.frozen?_setCell _ _ _ _).trans ((hb5.frozen (p := ⟨w.heap.size, 0, none⟩) (cell_lt HP1.out.1)).trans HP1.out.2.1))
        have BE := Lib.hid (show Below w.heap.size w (W5.setCell ⟨w.heap.size, 0, none⟩ (.string (bstr (gR R)))) from (bel_trans B3.out hb5 B3.out.size).setCell (p := ⟨w.heap.size, 0, none⟩) (Nat.le_refl _) _)
        clear hb5
        obtain ⟨wo, rfl⟩ : ∃ wo : World, wo = wr := ⟨_, rfl⟩
        obtain ⟨WE, HWE⟩ := nm (W5.setCell ⟨w.heap.size, 0, none⟩ (.string (bstr (gR R))))
        rw [HWE.out] at CE FE BE ⊢
        go_wp2_with fail
        go_loopw [4, 12] (fun vm vi wr => ∃ k : Nat, k ≤ a + 1 - a ∧ vi = .int .i64 ((a : Int) + (k : Int)) ∧ vm = .int .u64 (orR m a k : Nat) ∧ WE = wr) (fun _ vi _ => 200 - (intOf vi).toNat)
        case atStart => exact ⟨0, Nat.zero_le _, by simp, rfl, rfl⟩
        case round =>
          obtain ⟨k, hk, rfl, rfl, rfl⟩ := hrel
          have ho := orR_lt hm k (by omega : a + k ≤ 64)
          by_cases hlt : k < a + 1 - a
          · have hak : a + k < 64 := by omega
            have hsn : orR m a (k + 1) = orR m a k ||| 1 <<< (a + k) := rfl
            have hw := wrap_shl_one hak
            have hl1 := one_shl_lt hak
            have hij : (a : Int) + (k : Int) = ((a + k : Nat) : Int) := by omega
            have hle : ((a + k : Nat) : Int) ≤ (a : Int) := by omega
            obtain ⟨q, HQ⟩ := nm (1 <<< (a + k) : Nat)
            rw [HQ.out] at hw hl1 hsn
            obtain ⟨o, HO⟩ := nm (orR m a k)
            rw [HO.out] at ho hsn ⊢
            obtain ⟨o2, HO2⟩ := nm (orR m a (k + 1))
            rw [HO2.out] at hsn
            have hor := u64_or_nat o q ho hl1
            rw [← hsn] at hor
            obtain ⟨z, HZ⟩ := nm (a + k)
            rw [HZ.out] at hw hak hij hle
            rw [hij]
            have HIJ := Lib.hid hij
            clear hsn hij
            go_wp2_with fail
            go_roundw
            case rel => exact ⟨k + 1, by omega, by have := HZ.out; go_num, by rw [HO2.out], trivial⟩
            case measure => simp [intOf]; omega
          · obtain rfl : k = a + 1 - a := by omega
            have hgm : gM m R = orR m a (a + 1 - a) := by unfold gM; rw [GA.out, GB.out]
            have hle : (a : Int) < (a : Int) + ((a + 1 - a : Nat) : Int) := by omega
            have GM := Lib.hid hgm
            clear hgm
            go_wp2_with fail
            have hgl := gM_lt hm R
            refine ⟨⟨gM m R, gR R, hgl, by have := gR_short HR0.out; omega, by rw [GM.out], by exact CE.out, FE.out, Lib.hid ?_, BE.out⟩, ?_⟩
            · rw [HMR.out, if_neg HS0.out, if_neg HS0.out]
              exact HG.out m R HR0.out _ (Nat.le_refl _)
            · rw [CE.out, CR.out]
              have h1 := gR_short HR0.out
              show (bstr (gR R)).size < (bstr R).size
              rw [bstr_size, bstr_size]
              exact h1
end Go.Proofs.YtjpkldndeakkkaaDoor
