/- The walk of the law CrcJoins. -/
import Derived.Test.YtomddpplhllgcaaDoorConcat
import Derived.Test.YtomddpplhllgcaaDoorAwake
namespace Gf
theorem sum_append (a b : List Nat) (ha : ∀ x ∈ a, x < 256) (hb : ∀ x ∈ b, x < 256) : stepN (8 * b.length) (sum a) ^^^ sum b = sum (a ++ b) := by
  have h1 : run (inv 0) a < 4294967296 := run_lt (inv_lt 0) ha
  have h2 : run (inv 0) b < 4294967296 := run_lt (inv_lt 0) hb
  have h3 : run (inv 0) (a ++ b) < 4294967296 := run_lt (inv_lt 0) (fun x hx => (List.mem_append.1 hx).elim (ha x) (hb x))
  unfold sum update
  rw [inv_eq h1, inv_eq h2, inv_eq h3, run_append, run_start (run (inv 0) a) b, run_start (inv 0) b, stepN_xor]
  have e : inv 0 = 4294967295 := rfl
  rw [e]
  generalize stepN (8 * b.length) (run 4294967295 a) = p
  generalize stepN (8 * b.length) 4294967295 = q
  generalize run 0 b = r
  rw [xor_xor_comm, Nat.xor_assoc p, xor_xor_comm q r q, Nat.xor_self, Nat.zero_xor, ← Nat.xor_assoc]
theorem update_sum (a b : List Nat) (ha : ∀ x ∈ a, x < 256) : update (sum a) b = sum (a ++ b) := by
  unfold sum update
  rw [inv_inv (run_lt (inv_lt 0) ha), run_append]
end Gf
namespace Go.Proofs.YtomddpplhllgcaaDoor
open Go Go.RowKit Go.Shelf

theorem concat2 (w : World) (aa ab : Option Addr) (na ca nb cb : Nat) (XA XB : List Nat) (t : TypeId) (hna : na = XA.length) (hnb : nb = XB.length) (ra : Reads .u8 w (.slice aa na ca) XA) (rb : Reads .u8 w (.slice ab nb cb) XB) (hl : XA.length + XB.length ≤ 100000) :
    Calls Tryd.prog 26 #[.slice (some ⟨w.heap.size, 0, none⟩) 2 2] (w.alloc (.cells #[.slice aa na ca, .slice ab nb cb] t)) fun e w' => ∃ ao n c, e = .returned (.slice ao n c) ∧ Owns .u8 5 w' (w.heap.size + 1) (.slice ao n c) (XA ++ XB) ∧ Below w.heap.size w w' := by
  subst hna hnb
  have hk := bel_alloc w (.cells #[.slice aa XA.length ca, .slice ab XB.length cb] t)
  have hc2 : cat (fun i => if i = 0 then XA else XB) 2 = XA ++ XB := by simp [cat]
  refine (concat_any w.heap.size 0 2 2 (fun i => if i = 0 then XA else XB) (by rw [hc2]; simp; omega) (Nat.le_refl _) (by decide) _ ?_).mono ?_
  · intro i hi
    match i, hi with
    | 0, _ => exact ⟨aa, ca, by rw [World.cell?_alloc_at _ _ _ _ rfl]; rfl, ra.keep hk (Nat.le_refl _)⟩
    | 1, _ => exact ⟨ab, cb, by rw [World.cell?_alloc_at _ _ _ _ rfl]; rfl, rb.keep hk (Nat.le_refl _)⟩
  · rintro e w' ⟨v', rfl, ho, hb⟩
    rw [hc2, World.size_alloc] at ho
    rw [World.size_alloc] at hb
    obtain ⟨ao, n, c, rfl, _⟩ := ho.slice
    exact ⟨ao, n, c, rfl, ho, hk.trans (hb.mono (by omega))⟩
theorem join_names (XA XB : List Nat) (hA : Bytes XA) (hB : Bytes XB) (sa sb sab : Nat) (HA : Hid (Gf.sum XA = sa)) (HB : Hid (Gf.sum XB = sb)) (HAB : Hid (Gf.sum (XA ++ XB) = sab)) (n : Int) (hn : n = (XB.length : Int)) (h : n ≤ 16777216) (w : World) :
    Calls Tryd.prog 27 #[.int .u32 sa, .int .u32 sb, .int .i64 n] w fun e w' => e = .returned (.tuple #[.int .u32 sab, .int .i64 0]) ∧ Below w.heap.size w w' := by
  refine (join_any sa sb n (by rw [← HA.out]; exact Gf.update_lt 0 XA) (by rw [← HB.out]; exact Gf.update_lt 0 XB) (by omega) h w).mono ?_
  rintro e w' ⟨rfl, hb⟩
  refine ⟨?_, hb⟩
  rw [← HAB.out, ← HA.out, ← HB.out, ← Gf.sum_append XA XB hA hB, hn]
  rfl

set_option maxRecDepth 100000 in
set_option maxHeartbeats 4000000 in
theorem crcJoins_all (va : Value) (xa : List Nat) (w : World) (hra : Reads .u8 w va xa) (hxa : Bytes xa) (vb : Value) (xb : List Nat) (hrb : Reads .u8 w vb xb) (hxb : Bytes xb) (vc : Value) (xc : List Nat) (hrc : Reads .u8 w vc xc) (hxc : Bytes xc)
    (m : Nat) (hm : m < 4294967296) (n : Nat) (hn : n < 4294967296) (hT : Tab w) :
    Calls Tryd.prog 8 #[va, vb, vc, .int .u32 m, .int .u32 n] w fun e w' => e = .returned (.bool true) ∧ Below w.heap.size w w' := by
  have hra0 := hra
  have hrb0 := hrb
  have hrc0 := hrc
  obtain ⟨aa, ca, rfl, hlca, hcma, hcsa⟩ := hra
  obtain ⟨ab, cb, rfl, hlcb, hcmb, hcsb⟩ := hrb
  obtain ⟨ac, cc, rfl, hlcc, hcmc, hcsc⟩ := hrc
  obtain ⟨la, HLA⟩ := nm xa.length
  obtain ⟨lb, HLB⟩ := nm xb.length
  obtain ⟨lc, HLC⟩ := nm xc.length
  rw [HLA.out] at hlca hra0 ⊢
  rw [HLB.out] at hlcb hrb0 ⊢
  rw [HLC.out] at hlcc hrc0 ⊢
  have HRA := Lib.hid hra0
  have HRB := Lib.hid hrb0
  have HRC := Lib.hid hrc0
  have HT := Lib.hid hT
  clear hcsa hcsb hcsc hra0 hrb0 hrc0 hT
  go_enter Tryd.func8, Tryd.ntmps8
  go_upto_region 1 with fail
  go_cut [0, 1, 2] (fun v0 v1 v2 wx => ∃ na nb nc : Nat, v0 = .slice aa na ca ∧ v1 = .slice ab nb cb ∧ v2 = .slice ac nc cc ∧ na ≤ la ∧ na ≤ 300 ∧ nb ≤ lb ∧ nb ≤ 300 ∧ nc ≤ lc ∧ nc ≤ 300 ∧ Below w.heap.size w wx)
  case first =>
    by_cases c1 : la ≤ 300 <;> by_cases c2 : lb ≤ 300 <;> by_cases c3 : lc ≤ 300
    all_goals
      go_region
      go_wp2_with fail
      go_meet
      exact ⟨_, _, _, rfl, rfl, rfl, by omega, by omega, by omega, by omega, by omega, by omega, (Below.refl _ _).drew⟩
  case rest =>
    obtain ⟨na, nb, nc, rfl, rfl, rfl, ha1, ha2, hb1, hb2, hc1, hc2, hB0⟩ := hcut
    have ra := (reads_pre HRA.out ha1).keep hB0 (Nat.le_refl _)
    have rb := (reads_pre HRB.out hb1).keep hB0 (Nat.le_refl _)
    have rc := (reads_pre HRC.out hc1).keep hB0 (Nat.le_refl _)
    have hA : Bytes (xa.take na) := hxa.take na
    have hB : Bytes (xb.take nb) := hxb.take nb
    have hC : Bytes (xc.take nc) := hxc.take nc
    have lA : (xa.take na).length = na := by have := HLA.out; simp; omega
    have lB : (xb.take nb).length = nb := by have := HLB.out; simp; omega
    have lC : (xc.take nc).length = nc := by have := HLC.out; simp; omega
    obtain ⟨XA, HXA⟩ := nm (xa.take na)
    obtain ⟨XB, HXB⟩ := nm (xb.take nb)
    obtain ⟨XC, HXC⟩ := nm (xc.take nc)
    rw [HXA.out] at ra hA lA
    rw [HXB.out] at rb hB lB
    rw [HXC.out] at rc hC lC
    have hT0 := HT.out.keep hB0 (Nat.le_refl _)
    have LA := Lib.hid lA
    have LB := Lib.hid lB
    have LC := Lib.hid lC
    clear lA lB lC
    obtain ⟨sa, HSA⟩ := nm (Gf.sum XA)
    obtain ⟨sb, HSB⟩ := nm (Gf.sum XB)
    obtain ⟨sc, HSC⟩ := nm (Gf.sum XC)
    obtain ⟨sab, HSAB⟩ := nm (Gf.sum (XA ++ XB))
    obtain ⟨sbc, HSBC⟩ := nm (Gf.sum (XB ++ XC))
    obtain ⟨sabc, HSABC⟩ := nm (Gf.sum (XA ++ XB ++ XC))
    have hsa : sa < 4294967296 := by rw [← HSA.out]; exact Gf.update_lt 0 XA
    have hAB : Bytes (XA ++ XB) := hA.append hB
    have hBC : Bytes (XB ++ XC) := hB.append hC
    have sumA : ∀ (w : World), Tab w → Reads .u8 w (.slice aa na ca) XA → Calls Tryd.prog 18 #[.slice aa na ca] w fun e w' => e = .returned (.int .u32 sa) ∧ w = w' := fun w h1 h2 => HSA.out ▸ sum_any _ XA hA w h1 h2
    have sumB : ∀ (w : World), Tab w → Reads .u8 w (.slice ab nb cb) XB → Calls Tryd.prog 18 #[.slice ab nb cb] w fun e w' => e = .returned (.int .u32 sb) ∧ w = w' := fun w h1 h2 => HSB.out ▸ sum_any _ XB hB w h1 h2
    have sumC : ∀ (w : World), Tab w → Reads .u8 w (.slice ac nc cc) XC → Calls Tryd.prog 18 #[.slice ac nc cc] w fun e w' => e = .returned (.int .u32 sc) ∧ w = w' := fun w h1 h2 => HSC.out ▸ sum_any _ XC hC w h1 h2
    have SA := Lib.hid sumA
    have SB := Lib.hid sumB
    have SC := Lib.hid sumC
    clear sumA sumB sumC
    go_wp2_with fail
    refine (concat2 wc aa ab na ca nb cb XA XB _ LA.out.symm LB.out.symm ra rb (by rw [LA.out, LB.out]; omega)).mono ?_
    rintro e w1 ⟨aab, nab, cab, rfl, hoab, hb01⟩
    have hT1 := hT0.keep hb01 (Nat.le_refl _)
    have hB1 := hB0.trans (hb01.mono hB0.size)
    have ra1 := ra.keep hb01 (Nat.le_refl _)
    have rb1 := rb.keep hb01 (Nat.le_refl _)
    have rc1 := rc.keep hb01 (Nat.le_refl _)
    have rab1 := hoab.reads
    clear hoab hb01 ra rb rc hT0 hB0
    go_wp2_with fail
    refine (SA.out _ hT1 ra1).mono ?_
    rintro e w2 ⟨rfl, rfl⟩
    go_wp2_with fail
    refine (SB.out _ hT1 rb1).mono ?_
    rintro e w2 ⟨rfl, rfl⟩
    go_wp2_with fail
    refine (join_names XA XB hA hB sa sb sab HSA HSB HSAB nb (by rw [LB.out]) (by omega) _).mono ?_
    rintro e w2 ⟨rfl, hb2⟩
    have hT2 := hT1.keep hb2 (Nat.le_refl _)
    have hB2 := hB1.trans (hb2.mono hB1.size)
    have ra2 := ra1.keep hb2 (Nat.le_refl _)
    have rb2 := rb1.keep hb2 (Nat.le_refl _)
    have rc2 := rc1.keep hb2 (Nat.le_refl _)
    have rab2 := rab1.keep hb2 (Nat.le_refl _)
    clear hb2 hT1 hB1 ra1 rb1 rc1 rab1
    go_wp2_with fail
    refine (SC.out _ hT2 rc2).mono ?_
    rintro e w3 ⟨rfl, rfl⟩
    go_wp2_with fail
    refine (join_names (XA ++ XB) XC hAB hC sab sc sabc HSAB HSC HSABC nc (by rw [LC.out]) (by omega) _).mono ?_
    rintro e w3 ⟨rfl, hb3⟩
    have hT3 := hT2.keep hb3 (Nat.le_refl _)
    have hB3 := hB2.trans (hb3.mono hB2.size)
    have ra3 := ra2.keep hb3 (Nat.le_refl _)
    have rb3 := rb2.keep hb3 (Nat.le_refl _)
    have rc3 := rc2.keep hb3 (Nat.le_refl _)
    have rab3 := rab2.keep hb3 (Nat.le_refl _)
    clear hb3 hT2 hB2 ra2 rb2 rc2 rab2
    go_wp2_with fail
    refine (SB.out _ hT3 rb3).mono ?_
    rintro e w4 ⟨rfl, rfl⟩
    go_wp2_with fail
    refine (SC.out _ hT3 rc3).mono ?_
    rintro e w4 ⟨rfl, rfl⟩
    go_wp2_with fail
    refine (join_names XB XC hB hC sb sc sbc HSB HSC HSBC nc (by rw [LC.out]) (by omega) _).mono ?_
    rintro e w4 ⟨rfl, hb4⟩
    have hT4 := hT3.keep hb4 (Nat.le_refl _)
    have hB4 := hB3.trans (hb4.mono hB3.size)
    have ra4 := ra3.keep hb4 (Nat.le_refl _)
    have rb4 := rb3.keep hb4 (Nat.le_refl _)
    have rc4 := rc3.keep hb4 (Nat.le_refl _)
    have rab4 := rab3.keep hb4 (Nat.le_refl _)
    clear hb4 hT3 hB3 ra3 rb3 rc3 rab3
    go_wp2_with fail
    refine (SA.out _ hT4 ra4).mono ?_
    rintro e w5 ⟨rfl, rfl⟩
    go_wp2_with fail
    refine (join_names XA (XB ++ XC) hA hBC sa sbc sabc HSA HSBC (by rw [← List.append_assoc]; exact HSABC) (nb + nc) (by rw [List.length_append, LB.out, LC.out]; omega) (by omega) _).mono ?_
    rintro e w5 ⟨rfl, hb5⟩
    have hT5 := hT4.keep hb5 (Nat.le_refl _)
    have hB5 := hB4.trans (hb5.mono hB4.size)
    have ra5 := ra4.keep hb5 (Nat.le_refl _)
    have rb5 := rb4.keep hb5 (Nat.le_refl _)
    have rc5 := rc4.keep hb5 (Nat.le_refl _)
    have rab5 := rab4.keep hb5 (Nat.le_refl _)
    clear hb5 hT4 hB4 ra4 rb4 rc4 rab4
    have sumAB : Calls Tryd.prog 18 #[.slice aab nab cab] w5 fun e w' => e = .returned (.int .u32 sab) ∧ w5 = w' := HSAB.out ▸ sum_any _ _ hAB w5 hT5 rab5
    have SAB := Lib.hid sumAB
    clear sumAB
    go_wp2_with fail
    refine SAB.out.mono ?_
    rintro e w6 ⟨rfl, rfl⟩
    go_wp2_with fail
    refine (SA.out _ hT5 ra5).mono ?_
    rintro e w6 ⟨rfl, rfl⟩
    have hup := update_any sa _ XB hsa hB w5 hT5 rb5
    rw [← HSA.out, Gf.update_sum XA XB hA, HSAB.out, HSA.out] at hup
    have HUP := Lib.hid hup
    clear hup
    go_wp2_with fail
    refine HUP.out.mono ?_
    rintro e w6 ⟨rfl, rfl⟩
    have lAB : nab = (XA ++ XB).length := by obtain ⟨_, _, e, _⟩ := rab5; cases e; rfl
    have LAB := Lib.hid lAB
    clear lAB
    go_wp2_with fail
    refine (concat2 w5 aab ac nab cab nc cc (XA ++ XB) XC _ LAB.out LC.out.symm rab5 rc5 (by rw [List.length_append, LA.out, LB.out, LC.out]; omega)).mono ?_
    rintro e w6 ⟨aq, nq, cq, rfl, hoq, hb56⟩
    have hT6 := hT5.keep hb56 (Nat.le_refl _)
    have hB6 := hB5.trans (hb56.mono hB5.size)
    have ra6 := ra5.keep hb56 (Nat.le_refl _)
    have sumABC : Calls Tryd.prog 18 #[.slice aq nq cq] w6 fun e w' => e = .returned (.int .u32 sabc) ∧ w6 = w' := HSABC.out ▸ sum_any _ _ (hAB.append hC) w6 hT6 hoq.reads
    have SABC := Lib.hid sumABC
    clear sumABC hoq hb56 hT5 hB5 ra5 rb5 rc5 rab5
    go_wp2_with fail
    refine SABC.out.mono ?_
    rintro e w7 ⟨rfl, rfl⟩
    have k1 : (m : Int) % 8388609 = ((m % 8388609 : Nat) : Int) := by omega
    have k2 : (n : Int) % 8388609 = ((n % 8388609 : Nat) : Int) := by omega
    have k3 : m % 8388609 ≤ 8388608 := by omega
    have k4 : n % 8388609 ≤ 8388608 := by omega
    obtain ⟨K, HK⟩ := nm (m % 8388609)
    obtain ⟨L, HL⟩ := nm (n % 8388609)
    rw [HK.out] at k1 k3
    rw [HL.out] at k2 k4
    have K1 := Lib.hid k1
    have K2 := Lib.hid k2
    clear k1 k2
    go_wp2_with fail
    refine (SA.out _ hT6 ra6).mono ?_
    rintro e w7 ⟨rfl, rfl⟩
    have hsp := Gf.stepN_lt (8 * K) hsa
    have hsq := Gf.stepN_add (8 * K) (8 * L) sa
    obtain ⟨P, HP⟩ := nm (Gf.stepN (8 * K) sa)
    rw [HP.out] at hsp hsq
    obtain ⟨Q, HQ⟩ := nm (Gf.stepN (8 * L) P)
    rw [HQ.out, ← Nat.mul_add] at hsq
    have HSQ := Lib.hid hsq
    clear hsq
    go_wp2_with fail
    rw [K1.out]
    refine (shift_any sa K hsa (by omega) (by omega) _).mono ?_
    rintro e w7 ⟨rfl, hb7⟩
    rw [show 8 * (K : Int).toNat = 8 * K by omega, HP.out]
    have hB7 := hB6.trans (hb7.mono hB6.size)
    have hT7 := hT6.keep hb7 (Nat.le_refl _)
    have ra7 := ra6.keep hb7 (Nat.le_refl _)
    clear hB6 hT6 ra6 hb7
    go_wp2_with fail
    rw [K2.out]
    refine (shift_any P L hsp (by omega) (by omega) _).mono ?_
    rintro e w8 ⟨rfl, hb8⟩
    rw [show 8 * (L : Int).toNat = 8 * L by omega, HQ.out]
    have hB8 := hB7.trans (hb8.mono hB7.size)
    have hT8 := hT7.keep hb8 (Nat.le_refl _)
    have ra8 := ra7.keep hb8 (Nat.le_refl _)
    clear hB7 hT7 ra7 hb8
    go_wp2_with fail
    refine (SA.out _ hT8 ra8).mono ?_
    rintro e w9 ⟨rfl, rfl⟩
    go_wp2_with fail
    refine (shift_any sa (K + L) hsa (by omega) (by omega) _).mono ?_
    rintro e w9 ⟨rfl, hb9⟩
    rw [show 8 * ((K : Int) + (L : Int)).toNat = 8 * (K + L) by omega, HSQ.out]
    have hB9 := hB8.trans (hb9.mono hB8.size)
    have hT9 := hT8.keep hb9 (Nat.le_refl _)
    clear hB8 hT8 ra8 hb9
    go_wp2_with fail
    refine (awake_any _ hT9).mono ?_
    rintro e w10 ⟨rfl, hb10⟩
    go_wp2_with fail
    go_ret
    exact ⟨rfl, hB9.trans (hb10.mono hB9.size)⟩
end Go.Proofs.YtomddpplhllgcaaDoor
