/- The reference of polynomials as lists of coefficients: the walks of trim, Sum, Of, Divide. -/
import Derived.Test.YtidkjcflppbpdaaDoorOwn
namespace Go.Proofs.YtidkjcflppbpdaaDoor
open Go Go.RowKit Go.Shelf

theorem info_int : (Tryd.prog.info? 3).map (fun i => (i.zero, i.size, i.bytes)) = some (some (.int .i64 0), 1, 8) := by kernel_rfl
theorem info_u8 : (Tryd.prog.info? 5).map (fun i => (i.zero, i.size, i.bytes)) = some (some (.int .u8 0), 1, 1) := by kernel_rfl

/-- The bits of a number, as many as are asked. -/
def bitsN (p n : Nat) : List Nat := (List.range n).map fun i => (p.testBit i).toNat
theorem bitsN_length (p n : Nat) : (bitsN p n).length = n := by simp [bitsN]
theorem bitsN_get (p n i : Nat) (h : i < n) : (bitsN p n)[i]?.getD 0 = (p.testBit i).toNat := by simp [bitsN, h]
theorem bitsN_succ (p n : Nat) : bitsN p (n + 1) = bitsN p n ++ [(p.testBit n).toNat] := by simp [bitsN, List.range_succ]
theorem bitsN_eq {p : Nat} {xs : List Nat} {n : Nat} (hl : xs.length = n) (h : ∀ i, i < n → xs[i]?.getD 0 = (p.testBit i).toNat) : xs = bitsN p n := by
  apply List.ext_getElem
  · rw [hl, bitsN_length]
  · intro i h1 h2
    have := h i (by omega)
    simp only [h1, getElem?_pos, Option.getD_some] at this
    simp [bitsN, this]
/-- The coefficients of a polynomial. -/
def coeffs (p : Nat) : List Nat := bitsN p (Gf.plen p)
theorem coeffs_length (p : Nat) : (coeffs p).length = Gf.plen p := bitsN_length _ _
theorem toNat_le (b : Bool) : b.toNat ≤ 1 := by cases b <;> decide

set_option maxHeartbeats 1000000 in
theorem trim_any (p n : Nat) (hp : Gf.plen p ≤ n) (v : Value) (w : World) (hv : Reads .i64 w v (bitsN p n)) :
    Calls Tryd.prog 50 #[v] w fun e w' => (∃ v', e = .returned v' ∧ Reads .i64 w v' (coeffs p)) ∧ w = w' := by
  obtain ⟨a, cap, rfl, hlc, hcm, hcs⟩ := hv
  rw [bitsN_length] at hlc hcs ⊢
  rcases hcs with rfl | ⟨b, off, rfl, hcell⟩
  · obtain rfl : n = 0 := by omega
    have hp0 : p = 0 := Gf.plen_eq_zero.1 (by omega)
    subst hp0
    go_enter Tryd.func50, Tryd.ntmps50
    go_wp2
    refine wp_loop_rounds 1 ?_
    rw [rounds_succ]
    go_wp2
    go_ret
    exact ⟨⟨_, rfl, a, 0, rfl, by simp [coeffs_length, Gf.plen_zero], by decide, .inl rfl⟩, rfl⟩
  · go_enter Tryd.func50, Tryd.ntmps50
    go_wp2
    go_loop [0] (fun vs => ∃ m : Nat, Gf.plen p ≤ m ∧ m ≤ n ∧ vs = .slice (some ⟨b, off, none⟩) m cap) (fun vs => match vs with | .slice _ m _ => m | _ => 0)
    case atStart => exact ⟨n, hp, Nat.le_refl _, rfl⟩
    case round =>
      obtain ⟨m, hm1, hm2, rfl⟩ := hrel
      by_cases h0 : m = 0
      · subst h0
        have hp0 : Gf.plen p = 0 := by omega
        have HP := Lib.hid hp0
        clear hp0
        go_wp2
        go_ret
        refine ⟨⟨_, rfl, some ⟨b, off, none⟩, cap, ?_, by rw [coeffs_length, HP.out]; omega, hcm, .inr ⟨b, off, rfl, ?_⟩⟩, rfl⟩
        · rw [coeffs_length, HP.out]; rfl
        · intro i hi
          rw [coeffs_length, HP.out] at hi
          omega
      · have hc := hcell (m - 1) (by omega)
        rw [bitsN_get p n _ (by omega)] at hc
        by_cases htop : Gf.plen p = m
        · have hb1 : p.testBit (m - 1) = true := by rw [← htop]; exact Gf.plen_top (by intro e; rw [e, Gf.plen_zero] at htop; omega)
          rw [hb1] at hc
          have HT := Lib.hid htop
          have hm0 : 0 < m := by omega
          clear htop hb1 h0
          go_wp2
          go_ret
          refine ⟨⟨_, rfl, some ⟨b, off, none⟩, cap, ?_, by rw [coeffs_length, HT.out]; omega, hcm, .inr ⟨b, off, rfl, ?_⟩⟩, rfl⟩
          · rw [coeffs_length, HT.out]; rfl
          · intro i hi
            rw [coeffs_length, HT.out] at hi
            have := hcell i (by omega)
            rw [bitsN_get p n _ (by omega)] at this
            rw [this]
            unfold coeffs
            rw [bitsN_get p _ _ (by rw [HT.out]; exact hi)]
        · have hb1 : p.testBit (m - 1) = false := Gf.bit_plen (by omega)
          rw [hb1] at hc
          have hm0 : 0 < m := by omega
          clear hb1 h0
          go_wp2
          go_round
          case rel => exact ⟨m - 1, by omega, by omega, rfl⟩
          case measure => simp; omega

theorem bit_shl (b k i : Nat) : (b <<< k).testBit i = (decide (k ≤ i) && b.testBit (i - k)) := by rw [Nat.testBit_shiftLeft]
theorem xor_toNat (a b : Bool) : (a ^^ b).toNat = (a.toNat + b.toNat) % 2 := by cases a <;> cases b <;> rfl

set_option maxRecDepth 100000 in
set_option maxHeartbeats 2000000 in
theorem rsum_any (A B k : Nat) (va vb : Value) (w : World) (ha : Reads .i64 w va (coeffs A)) (hb : Reads .i64 w vb (coeffs B)) (hA : Gf.plen A < 17592186044415) (hB : Gf.plen B + k < 17592186044415) :
    Calls Tryd.prog 56 #[va, vb, .int .i64 k] w fun e w' => ∃ v, e = .returned v ∧ Reads .i64 w' v (coeffs (A ^^^ B <<< k)) ∧ Below w.heap.size w w' := by
  obtain ⟨X, hX⟩ : ∃ X, A ^^^ B <<< k = X := ⟨_, rfl⟩
  have hbit : ∀ i, (X.testBit i).toNat = ((A.testBit i).toNat + (decide (k ≤ i) && B.testBit (i - k)).toNat) % 2 := by
    intro i; rw [← hX, Nat.testBit_xor, bit_shl, xor_toNat]
  have hXl : Gf.plen X ≤ max (Gf.plen A) (Gf.plen B + k) := by
    rw [← hX]
    refine Nat.le_trans (Gf.plen_xor_le _ _) (Nat.max_le.2 ⟨Nat.le_max_left _ _, Nat.le_trans (Gf.plen_shl_le _ _) (Nat.le_max_right _ _)⟩)
  rw [hX]
  clear hX
  have ha0 := ha
  have hb0 := hb
  obtain ⟨aa, ca, rfl, hla, hma, hcsa⟩ := ha
  obtain ⟨ab, cb, rfl, hlb, hmb, hcsb⟩ := hb
  rw [coeffs_length] at hla hlb hcsa hcsb ⊢
  rw [coeffs_length] at ha0 hb0
  rw [coeffs_length]
  obtain ⟨la, HLA⟩ := nm (Gf.plen A)
  obtain ⟨lb, HLB⟩ := nm (Gf.plen B)
  rw [HLA.out] at hA hla hcsa hXl ⊢
  rw [HLB.out] at hB hlb hcsb hXl ⊢
  have HB := Lib.hid hbit
  clear hbit ha0 hb0
  go_enter Tryd.func56, Tryd.ntmps56
  go_wp2
  go_loopw [7, 8] (fun vo vi wr => ∃ i : Nat, i ≤ max la (lb + k) ∧ vi = .int .i64 (i : Int) ∧ Owns .i64 3 wr w.heap.size vo (bitsN X i) ∧ Below w.heap.size w wr)
    (fun _ vi _ => max la (lb + k) - (intOf vi).toNat)
  case atStart => exact ⟨0, Nat.zero_le _, rfl, Owns.nil _ _ _ _, Below.refl _ _⟩
  case round =>
    obtain ⟨i, hi, rfl, hown, hBr⟩ := hrel
    have hX := HB.out i
    have hsz := hBr.size
    by_cases h0 : i < max la (lb + k)
    · have hlen : (bitsN X i).length < 17592186044415 := by rw [bitsN_length]; omega
      have hsum : i < la ∨ i < lb + k := by omega
      clear h0
      by_cases h1 : i < la <;> by_cases h2 : k ≤ i <;> by_cases h3 : i - k < lb <;> (try (exfalso; omega))
      all_goals
        try
          obtain ⟨b1, o1, rfl, hc1⟩ := hcsa.resolve_left (fun h => by omega)
          have hc1' := cell_keep hBr (hc1 i h1) (cell_lt (hc1 i h1))
          rw [show (coeffs A)[i]?.getD 0 = (A.testBit i).toNat from bitsN_get A _ _ (by rw [HLA.out]; exact h1)] at hc1'
          clear hc1
        try
          have hz1 : A.testBit i = false := Gf.bit_plen (by rw [HLA.out]; omega)
          rw [hz1] at hX
          clear hz1
        try
          obtain ⟨b2, o2, rfl, hc2⟩ := hcsb.resolve_left (fun h => by omega)
          have hc2' := cell_keep hBr (hc2 (i - k) h3) (cell_lt (hc2 (i - k) h3))
          rw [show (coeffs B)[i - k]?.getD 0 = (B.testBit (i - k)).toNat from bitsN_get B _ _ (by rw [HLB.out]; exact h3)] at hc2'
          clear hc2
        try
          have hz2 : B.testBit (i - k) = false := Gf.bit_plen (by rw [HLB.out]; omega)
          rw [hz2] at hX
          clear hz2
        try rw [decide_eq_true h2, Bool.true_and] at hX
        try rw [decide_eq_false h2, Bool.false_and] at hX
        have t1 := toNat_le (A.testBit i)
        have t2 := toNat_le (B.testBit (i - k))
        try simp only [Bool.toNat_false, Nat.zero_add, Nat.add_zero] at hX
        generalize (A.testBit i).toNat = x1 at *
        generalize (B.testBit (i - k)).toNat = x2 at *
        have HX := Lib.hid hX
        have HO := Lib.hid hown
        clear hX hcsa hcsb hown
        have h3' : (lb : Int) ≤ (i : Int) - (k : Int) ∨ (i : Int) - (k : Int) < (lb : Int) := by omega
        go_wp2_with (at_builtin; refine wpl_app1 rfl (.tmp 52) (.tmp 54) 63 rfl .i64 3 8 Tryd.underlying63 info_int (by decide) w.heap.size _ (bitsN X i) wr HO.out rfl _ (X.testBit i).toNat rfl ?_ hlen hsz ?_; (have := HX.out; omega); intro v' w1 hown' hB')
        go_roundw
        case rel => exact ⟨i + 1, by omega, by go_num, by rw [bitsN_succ]; exact hown', hBr.trans hB'⟩
        case measure => simp [intOf]; omega
    · have hr := hown.reads
      have hXi : Gf.plen X ≤ i := by omega
      have h1 : ¬ i < la := by omega
      have h2 : ¬ i < lb + k := by omega
      clear hcsa hcsb
      go_wp2_with fail
      refine (trim_any X i hXi _ _ hr).mono ?_
      rintro e w2 ⟨⟨v', rfl, hv'⟩, rfl⟩
      go_wp2_with fail
      go_ret
      exact ⟨v', rfl, hv', hBr⟩
end Go.Proofs.YtidkjcflppbpdaaDoor
