/- The reference of polynomials: the walks of Of and Divide; the reference of checksums: bits, Linear, Shift, Update, Sum. -/
import Derived.Test.YtidkjcflppbpdaaDoorRefA
namespace Go.Proofs.YtidkjcflppbpdaaDoor
open Go Go.RowKit Go.Shelf

def lenOf : Value → Nat
  | .slice _ n _ => n
  | _ => 0
theorem rem2_u64 (p k : Nat) (h : p < 18446744073709551616) : ((p : Int) / 2 ^ k).tmod 2 = ((p.testBit k).toNat : Int) := by
  have e : ((p : Int) / 2 ^ k) = ((p / 2 ^ k : Nat) : Int) := by simp
  rw [e, Int.tmod_eq_emod_of_nonneg (Int.natCast_nonneg _), Nat.testBit_eq_decide_div_mod_eq]
  rcases Nat.mod_two_eq_zero_or_one (p / 2 ^ k) with h | h
  · rw [h]; simp; omega
  · rw [h]; simp; omega

set_option maxRecDepth 100000 in
set_option maxHeartbeats 1000000 in
theorem of_any (p : Nat) (hp : p < 18446744073709551616) (w : World) :
    Calls Tryd.prog 35 #[.int .u64 p] w fun e w' => ∃ v, e = .returned v ∧ Reads .i64 w' v (coeffs p) ∧ Below w.heap.size w w' := by
  have hp64 := plen_le64 hp
  go_enter Tryd.func35, Tryd.ntmps35
  go_wp2
  go_loopw [3, 4] (fun vo vi wr => ∃ i : Nat, i ≤ 64 ∧ vi = .int .i64 (i : Int) ∧ Owns .i64 3 wr w.heap.size vo (bitsN p i) ∧ Below w.heap.size w wr)
    (fun _ vi _ => 64 - (intOf vi).toNat)
  case atStart => exact ⟨0, Nat.zero_le _, rfl, Owns.nil _ _ _ _, Below.refl _ _⟩
  case round =>
    obtain ⟨i, hi, rfl, hown, hBr⟩ := hrel
    have hsz := hBr.size
    by_cases hlt : i < 64
    · have hlen : (bitsN p i).length < 17592186044415 := by rw [bitsN_length]; omega
      have h1 := rem2_u64 p i hp
      have t1 := toNat_le (p.testBit i)
      obtain ⟨x, HX⟩ := nm (p.testBit i).toNat
      rw [HX.out] at h1 t1
      have HO := Lib.hid hown
      clear hown
      go_wp2_with (at_builtin; refine wpl_app1 rfl (.tmp 9) (.tmp 15) 63 rfl .i64 3 8 Tryd.underlying63 info_int (by decide) w.heap.size _ (bitsN p i) wr HO.out rfl _ x rfl rfl hlen hsz ?_; intro v' w1 hown' hB')
      go_roundw
      case rel => exact ⟨i + 1, by omega, by go_num, by rw [bitsN_succ, HX.out]; exact hown', hBr.trans hB'⟩
      case measure => simp [intOf]; omega
    · have hr := hown.reads
      have hXi : Gf.plen p ≤ i := by omega
      go_wp2_with fail
      refine (trim_any p i hXi _ _ hr).mono ?_
      rintro e w2 ⟨⟨v', rfl, hv'⟩, rfl⟩
      go_wp2_with fail
      go_ret
      exact ⟨v', rfl, hv', hBr⟩

theorem coeffs_one : coeffs 1 = [1] := rfl
theorem coeffs_zero : coeffs 0 = [] := rfl

set_option maxRecDepth 100000 in
set_option maxHeartbeats 2000000 in
theorem divide_any (A B : Nat) (va vb : Value) (w : World) (ha : Reads .i64 w va (coeffs A)) (hb : Reads .i64 w vb (coeffs B)) (hB0 : B ≠ 0) (hA : Gf.plen A < 17592186044414) :
    Calls Tryd.prog 48 #[va, vb] w fun e w' => ∃ vq vr, e = .returned (.tuple #[vq, vr]) ∧ Reads .i64 w' vq (coeffs (Gf.pdiv A B)) ∧ Reads .i64 w' vr (coeffs (Gf.pmod A B)) ∧ Below w.heap.size w w' := by
  have pb := Gf.plen_pos hB0
  obtain ⟨lb, HLB⟩ := nm (Gf.plen B)
  have hb0 := hb
  obtain ⟨ab, cb, rfl, hlb, hmb, hcsb⟩ := hb
  clear hcsb
  rw [coeffs_length, HLB.out] at hlb hb0 ⊢
  rw [HLB.out] at pb
  have hlb44 : lb ≤ 9223372036854775807 := by omega
  go_enter Tryd.func48, Tryd.ntmps48
  go_wp2
  go_loopw [0, 6] (fun va' vq wr => ∃ A' Q : Nat, Reads .i64 wr va' (coeffs A') ∧ Reads .i64 wr vq (coeffs Q) ∧ Gf.plen A' ≤ Gf.plen A ∧ Gf.plen Q ≤ Gf.plen A ∧ Hid (A = Gf.pmul Q B ^^^ A') ∧ Below w.heap.size w wr)
    (fun va' _ _ => lenOf va')
  case atStart => exact ⟨A, 0, ha, ⟨none, 0, rfl, by simp [coeffs_zero], by decide, .inl rfl⟩, Nat.le_refl _, by simp [Gf.plen_zero], Lib.hid (by rw [Gf.pmul_zero_left, Nat.zero_xor]), Below.refl _ _⟩
  case round =>
    obtain ⟨A', Q, hrA, hrQ, hlA, hlQ, He, hBr⟩ := hrel
    have hrA0 := hrA
    obtain ⟨aa, ca, rfl, hla, hma, hcsa⟩ := hrA
    clear hcsa
    rw [coeffs_length] at hla hrA0 ⊢
    obtain ⟨la, HLA⟩ := nm (Gf.plen A')
    rw [HLA.out] at hla hrA0 hlA ⊢
    by_cases hge : lb ≤ la
    · obtain ⟨k, hk⟩ : ∃ k, la = lb + k := ⟨_, (Nat.add_sub_cancel' hge).symm⟩
      have hki : ((la : Int) - (lb : Int)) = (k : Int) := by omega
      have hkl : k < la := by omega
      have HK := Lib.hid hk
      have HKI := Lib.hid hki
      clear hk hki
      have hlt := Gf.pdm_step_lt hB0 (show Gf.plen B ≤ Gf.plen A' by rw [HLA.out, HLB.out]; exact hge)
      rw [HLA.out, HLB.out, show la - lb = k by have := HK.out; omega] at hlt
      have hq1 := reads_one .i64 wr 1 3 1 rfl
      have hAl : Below wr.heap.size wr (wr.alloc (.cells #[.int .i64 1] 3)) := (bel_refl _).alloc (Nat.le_refl _) _
      go_wp2_with fail
      rw [HKI.out]
      refine (rsum_any Q 1 k _ _ _ (hrQ.keep hAl (Nat.le_refl _)) (by rw [coeffs_one]; exact hq1) (by omega) (by rw [show Gf.plen 1 = 1 from rfl]; omega)).mono ?_
      rintro e w1 ⟨vq, rfl, hrq, hb1⟩
      have hW1 : Below wr.heap.size wr w1 := bel_trans hAl hb1 (by simp)
      go_wp2_with fail
      refine (rsum_any A' B k _ _ _ (hrA0.keep hW1 (Nat.le_refl _)) (hb0.keep (hBr.trans (hW1.mono hBr.size)) (Nat.le_refl _)) (by rw [HLA.out]; omega) (by rw [HLB.out]; have := HK.out; omega)).mono ?_
      rintro e w2 ⟨va2, rfl, hra, hb2⟩
      have hW2 := bel_trans hW1 hb2 hW1.size
      go_wp2_with fail
      go_roundw
      case rel =>
        refine ⟨A' ^^^ B <<< k, Q ^^^ 1 <<< k, hra, hrq.keep hb2 (Nat.le_refl _), by omega, ?_, ?_, hBr.trans (hW2.mono hBr.size)⟩
        · have h1 := Gf.plen_xor_le Q (1 <<< k)
          have h2 := Gf.plen_shl_le 1 k
          rw [show Gf.plen 1 = 1 from rfl] at h2
          have h3 : max (Gf.plen Q) (Gf.plen (1 <<< k)) ≤ Gf.plen A := Nat.max_le.2 ⟨hlQ, by omega⟩
          omega
        · refine Lib.hid ?_
          rw [Gf.pmul_xor_left, Gf.pmul_shl_left, Gf.pmul_one_left, Nat.xor_assoc, Nat.xor_comm A', Gf.xor_cancel']
          exact He
      case measure =>
        obtain ⟨a3, c3, rfl, _, _, _⟩ := hra
        simp only [lenOf, Array.getD_eq_getD_getElem?]
        simp [lenOf, coeffs_length]
        exact hlt
    · have hd := Lib.hid (Gf.div_unique hB0 He.out (by rw [HLA.out, HLB.out]; omega))
      go_wp2_with fail
      go_ret2
      exact ⟨_, _, rfl, by rw [← hd.out.1]; exact hrQ, by rw [← hd.out.2]; exact hrA0, hBr⟩
end Go.Proofs.YtidkjcflppbpdaaDoor
