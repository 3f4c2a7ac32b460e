/- The reference of polynomials: the walks of Of and Divide; the reference of checksums: bits, Linear, Shift, Update, Sum. The reference of checksums: the walk of bits. The reference of checksums: the walks of Linear, Shift, Update, Sum. -/
import Derived.Test.YtmjigpnpcacefaaGreatDoorOwnV
namespace Go.Proofs.YtmjigpnpcacefaaGreatDoor
open Go Go.RowKit Go.Shelf

def lenOf : Value → Nat
  | .slice _ n _ => n
  | _ => 0
theorem rem2_u64 (p k : Nat) (_h : p < 18446744073709551616) : ((p : Int) / 2 ^ k).tmod 2 = ((p.testBit k).toNat : Int) := by
  have e : ((p : Int) / 2 ^ k) = ((p / 2 ^ k : Nat) : Int) := by simp
  rw [e, Int.tmod_eq_emod_of_nonneg (Int.natCast_nonneg _), Nat.testBit_eq_decide_div_mod_eq]
  rcases Nat.mod_two_eq_zero_or_one (p / 2 ^ k) with h | h
  · rw [h]; simp; omega
  · rw [h]; simp; omega

set_option maxRecDepth 100000 in
set_option maxHeartbeats 1000000 in
theorem of_any (p : Nat) (hp : p < 18446744073709551616) (w : World) :
    Calls Tryz.prog 90 #[.int .u64 p] w fun e w' => ∃ v, e = .returned v ∧ Reads .i64 w' v (coeffs p) ∧ Below w.heap.size w w' := by
  have hp64 := plen_le64 hp
  go_enter Tryz.func90, Tryz.ntmps90
  go_wp2
  go_loopw [3, 4] (fun vo vi wr => ∃ i : Nat, i ≤ 64 ∧ vi = .int .i64 (i : Int) ∧ Owns .i64 3 wr w.heap.size vo (bitsN p i) ∧ Below w.heap.size w wr)
    (fun _ vi _ => 64 - (intOf vi).toNat)
  case atStart => exact ⟨0, Nat.zero_le _, rfl, Owns.nil _ _ _ _, Below.refl _ _⟩
  case round =>
    obtain ⟨i, hi, rfl, hown, hBr⟩ := hrel
    have hsz := hBr.size
    by_cases hlt : i < 64
    · have hlen : (bitsN p i).length < 17592186044415 := by rw [bitsN_length]; omega
      have h1 := rem2_u64 p i hp
      have t1 := toNat_le (p.testBit i)
      obtain ⟨x, HX⟩ := nm (p.testBit i).toNat
      rw [HX.out] at h1 t1
      have HO := Lib.hid hown
      clear hown
      go_wp2_with (at_builtin; refine wpl_app1 rfl (.tmp 9) (.tmp 15) 122 rfl .i64 3 8 Tryz.underlying122 info_int (by decide) w.heap.size _ (bitsN p i) wr HO.out rfl _ x rfl rfl hlen hsz ?_; intro v' w1 hown' hB')
      go_roundw
      case rel => exact ⟨i + 1, by omega, by go_num, by rw [bitsN_succ, HX.out]; exact hown', hBr.trans hB'⟩
      case measure => simp [intOf]; omega
    · have hr := hown.reads
      have hXi : Gf.plen p ≤ i := by omega
      go_wp2_with fail
      refine (trim_any p i hXi _ _ hr).mono ?_
      rintro e w2 ⟨⟨v', rfl, hv'⟩, rfl⟩
      go_wp2_with fail
      go_ret
      exact ⟨v', rfl, hv', hBr⟩

theorem coeffs_one : coeffs 1 = [1] := rfl
theorem coeffs_zero : coeffs 0 = [] := rfl

set_option maxRecDepth 100000 in
set_option maxHeartbeats 2000000 in
theorem divide_any (A B : Nat) (va vb : Value) (w : World) (ha : Reads .i64 w va (coeffs A)) (hb : Reads .i64 w vb (coeffs B)) (hB0 : B ≠ 0) (hA : Gf.plen A < 17592186044414) :
    Calls Tryz.prog 88 #[va, vb] w fun e w' => ∃ vq vr, e = .returned (.tuple #[vq, vr]) ∧ Reads .i64 w' vq (coeffs (Gf.pdiv A B)) ∧ Reads .i64 w' vr (coeffs (Gf.pmod A B)) ∧ Below w.heap.size w w' := by
  have pb := Gf.plen_pos hB0
  obtain ⟨lb, HLB⟩ := nm (Gf.plen B)
  have hb0 := hb
  obtain ⟨ab, cb, rfl, hlb, hmb, hcsb⟩ := hb
  clear hcsb
  rw [coeffs_length, HLB.out] at hlb hb0 ⊢
  rw [HLB.out] at pb
  have hlb44 : lb ≤ 9223372036854775807 := by omega
  go_enter Tryz.func88, Tryz.ntmps88
  go_wp2
  go_loopw [0, 6] (fun va' vq wr => ∃ A' Q : Nat, Reads .i64 wr va' (coeffs A') ∧ Reads .i64 wr vq (coeffs Q) ∧ Gf.plen A' ≤ Gf.plen A ∧ Gf.plen Q ≤ Gf.plen A ∧ Hid (A = Gf.pmul Q B ^^^ A') ∧ Below w.heap.size w wr)
    (fun va' _ _ => lenOf va')
  case atStart => exact ⟨A, 0, ha, ⟨none, 0, rfl, by simp [coeffs_zero], by decide, .inl rfl⟩, Nat.le_refl _, by simp [Gf.plen_zero], Lib.hid (by rw [Gf.pmul_zero_left, Nat.zero_xor]), Below.refl _ _⟩
  case round =>
    obtain ⟨A', Q, hrA, hrQ, hlA, hlQ, He, hBr⟩ := hrel
    have hrA0 := hrA
    obtain ⟨aa, ca, rfl, hla, hma, hcsa⟩ := hrA
    clear hcsa
    rw [coeffs_length] at hla hrA0 ⊢
    obtain ⟨la, HLA⟩ := nm (Gf.plen A')
    rw [HLA.out] at hla hrA0 hlA ⊢
    by_cases hge : lb ≤ la
    · obtain ⟨k, hk⟩ : ∃ k, la = lb + k := ⟨_, (Nat.add_sub_cancel' hge).symm⟩
      have hki : ((la : Int) - (lb : Int)) = (k : Int) := by omega
      have hkl : k < la := by omega
      have HK := Lib.hid hk
      have HKI := Lib.hid hki
      clear hk hki
      have hlt := Gf.pdm_step_lt hB0 (show Gf.plen B ≤ Gf.plen A' by rw [HLA.out, HLB.out]; exact hge)
      rw [HLA.out, HLB.out, show la - lb = k by have := HK.out; omega] at hlt
      have hq1 := reads_one .i64 wr 1 3 1 rfl
      have hAl : Below wr.heap.size wr (wr.alloc (.cells #[.int .i64 1] 3)) := (bel_refl _).alloc (Nat.le_refl _) _
      go_wp2_with fail
      rw [HKI.out]
      refine (rsum_any Q 1 k _ _ _ (hrQ.keep hAl (Nat.le_refl _)) (by rw [coeffs_one]; exact hq1) (by omega) (by rw [show Gf.plen 1 = 1 from rfl]; omega)).mono ?_
      rintro e w1 ⟨vq, rfl, hrq, hb1⟩
      have hW1 : Below wr.heap.size wr w1 := bel_trans hAl hb1 (by simp)
      go_wp2_with fail
      refine (rsum_any A' B k _ _ _ (hrA0.keep hW1 (Nat.le_refl _)) (hb0.keep (hBr.trans (hW1.mono hBr.size)) (Nat.le_refl _)) (by rw [HLA.out]; omega) (by rw [HLB.out]; have := HK.out; omega)).mono ?_
      rintro e w2 ⟨va2, rfl, hra, hb2⟩
      have hW2 := bel_trans hW1 hb2 hW1.size
      go_wp2_with fail
      go_roundw
      case rel =>
        refine ⟨A' ^^^ B <<< k, Q ^^^ 1 <<< k, hra, hrq.keep hb2 (Nat.le_refl _), by omega, ?_, ?_, hBr.trans (hW2.mono hBr.size)⟩
        · have h1 := Gf.plen_xor_le Q (1 <<< k)
          have h2 := Gf.plen_shl_le 1 k
          rw [show Gf.plen 1 = 1 from rfl] at h2
          have h3 : max (Gf.plen Q) (Gf.plen (1 <<< k)) ≤ Gf.plen A := Nat.max_le.2 ⟨hlQ, by omega⟩
          omega
        · refine Lib.hid ?_
          rw [Gf.pmul_xor_left, Gf.pmul_shl_left, Gf.pmul_one_left, Nat.xor_assoc, Nat.xor_comm A', Gf.xor_cancel']
          exact He
      case measure =>
        obtain ⟨a3, c3, rfl, _, _, _⟩ := hra
        simp only [lenOf]
        simp [coeffs_length]
        exact hlt
    · have hd := Lib.hid (Gf.div_unique hB0 He.out (by rw [HLA.out, HLB.out]; omega))
      go_wp2_with fail
      go_ret2
      exact ⟨_, _, rfl, by rw [← hd.out.1]; exact hrQ, by rw [← hd.out.2]; exact hrA0, hBr⟩
end Go.Proofs.YtmjigpnpcacefaaGreatDoor
namespace Go.Proofs.YtmjigpnpcacefaaGreatDoor
open Go Go.RowKit Go.Shelf

/-- The bits from c on. -/
def part (X N c : Nat) : List Nat := (List.range N).map fun i => if c ≤ i then (X.testBit i).toNat else 0
theorem part_length (X N c : Nat) : (part X N c).length = N := by simp [part]
theorem part_all (X N : Nat) : part X N N = List.replicate N 0 := by
  apply List.ext_getElem
  · simp [part]
  · intro i h1 h2
    rw [part_length] at h1
    simp [part]
    omega
theorem part_set (X N c : Nat) (_h : c < N) : (part X N (c + 1)).set c (X.testBit c).toNat = part X N c := by
  apply List.ext_getElem
  · simp [part]
  · intro i h1 h2
    rw [part_length] at h2
    rw [List.getElem_set]
    simp only [part, List.getElem_map, List.getElem_range]
    by_cases e : c = i
    · subst e; simp
    · by_cases h3 : c ≤ i
      · simp [e, h3, show c + 1 ≤ i by omega]
      · simp [e, h3, show ¬ c + 1 ≤ i by omega]
theorem part_low (X N c : Nat) (h : ∀ i, i < c → X.testBit i = false) : part X N c = bitsN X N := by
  apply List.ext_getElem
  · simp [part, bitsN]
  · intro i h1 h2
    simp only [part, bitsN, List.getElem_map, List.getElem_range]
    by_cases h3 : c ≤ i
    · simp [h3]
    · simp [h3, h i (by omega)]

/-- The polynomial of bytes, times x^32. -/
@[irreducible] def bp32 (xs : List Nat) : Nat := Gf.bpoly xs <<< 32
theorem bp32_bit (xs : List Nat) (i : Nat) : (bp32 xs).testBit i = (decide (32 ≤ i) && (Gf.bpoly xs).testBit (i - 32)) := by
  unfold bp32; rw [Nat.testBit_shiftLeft]
theorem bp32_len (xs : List Nat) : Gf.plen (bp32 xs) ≤ 8 * xs.length + 32 := by
  unfold bp32
  have := Gf.plen_shl_le (Gf.bpoly xs) 32
  have := Gf.plen_le.2 (Gf.bpoly_lt xs)
  omega
theorem byte_bit (x j : Nat) : ((x : Int) / 2 ^ j).tmod 2 = ((x.testBit j).toNat : Int) := by
  have e : ((x : Int) / 2 ^ j) = ((x / 2 ^ j : Nat) : Int) := by simp
  rw [e, Int.tmod_eq_emod_of_nonneg (Int.natCast_nonneg _), Nat.testBit_eq_decide_div_mod_eq]
  rcases Nat.mod_two_eq_zero_or_one (x / 2 ^ j) with h | h
  · rw [h]; simp; omega
  · rw [h]; simp; omega

set_option maxRecDepth 100000 in
set_option maxHeartbeats 2000000 in
theorem rbits_any (xs : List Nat) (v : Value) (w : World) (hv : Reads .u8 w v xs) (hx : Bytes xs) (hlen : xs.length < 1099511627776) :
    Calls Tryz.prog 89 #[v] w fun e w' => ∃ v', e = .returned v' ∧ Reads .i64 w' v' (coeffs (bp32 xs)) ∧ Below w.heap.size w w' := by
  obtain ⟨a, cap, rfl, hlc, hcm, hcs⟩ := hv
  have hXb : ∀ k, k < 8 * xs.length → (bp32 xs).testBit (31 + 8 * xs.length - k) = (xs[k / 8]?.getD 0).testBit (k % 8) := by
    intro k hk
    rw [bp32_bit, show 31 + 8 * xs.length - k - 32 = 8 * xs.length - 1 - k by omega, Gf.bpoly_bit xs k hk, List.getD_eq_getElem?_getD]
    simp; omega
  have hX0 : ∀ i, i < 32 → (bp32 xs).testBit i = false := by
    intro i hi; rw [bp32_bit]; simp; omega
  have hXl := bp32_len xs
  obtain ⟨X, HX⟩ := nm (bp32 xs)
  rw [HX.out] at hXl hXb hX0 ⊢
  have HXB := Lib.hid hXb
  have HX0 := Lib.hid hX0
  clear hXb hX0
  obtain ⟨L, HL⟩ := nm xs.length
  rw [HL.out] at hlc hcs hXl hlen ⊢
  go_enter Tryz.func89, Tryz.ntmps89
  go_wp2_with (refine wpl_make rfl (.tmp 10) (.tmp 10) 122 rfl .i64 3 8 Tryz.underlying122 info_int (by decide) w.heap.size w (8 * L + 32) _ _ rfl rfl ?_ ?_ ?_ (Nat.le_refl _) ?_; (simp); (simp); (omega); intro v1 w1 hown hB1)
  rw [← part_all X] at hown
  obtain ⟨g, c1, rfl, hg1, hg2, hc1, hc2⟩ := (hown.form.resolve_left (fun h => by have := congrArg List.length h.2; rw [part_length] at this; simp at this))
  rw [part_length] at hc1 hown ⊢
  go_loopw [5] (fun vk wr => ∃ k : Nat, k ≤ 8 * L ∧ vk = .int .i64 (k : Int) ∧ Owns .i64 3 wr w.heap.size (.slice (some ⟨g, 0, none⟩) (8 * L + 32) c1) (part X (8 * L + 32) (8 * L + 32 - k)) ∧ Below w.heap.size w wr)
    (fun vk _ => 8 * L - (intOf vk).toNat)
  case atStart => exact ⟨0, Nat.zero_le _, rfl, hown, hB1⟩
  case round =>
    obtain ⟨k, hk, rfl, hownr, hBr⟩ := hrel
    by_cases hlt : k < 8 * L
    · obtain ⟨bb, off, rfl, hcell⟩ := hcs.resolve_left (fun h => by omega)
      have hcb := cell_keep hBr (hcell (k / 8) (by omega)) (cell_lt (hcell (k / 8) (by omega)))
      have hbit := byte_bit (xs[k / 8]?.getD 0) (k % 8)
      have hxv := hx.get (k / 8)
      rw [← HXB.out k (by rw [HL.out]; omega), HL.out] at hbit
      obtain ⟨x, Hx⟩ := nm (xs[k / 8]?.getD 0)
      rw [Hx.out] at hcb hbit hxv
      have ht := toNat_le (X.testBit (31 + 8 * L - k))
      have hset := fun c hc => hownr.set (by rw [part_length]) (31 + 8 * L - k) (X.testBit (31 + 8 * L - k)).toNat c hc (by rw [part_length]; omega)
      have hps := part_set X (8 * L + 32) (31 + 8 * L - k) (by omega)
      rw [show 8 * L + 32 - k = 31 + 8 * L - k + 1 by omega] at hset
      rw [hps] at hset
      obtain ⟨y, Hy⟩ := nm (X.testBit (31 + 8 * L - k)).toNat
      rw [Hy.out] at hbit ht hset
      have hcg := hownr.cellAt (by rw [part_length]) (31 + 8 * L - k) (by omega)
      have hfg := hownr.frozenAt (by rw [part_length]) (31 + 8 * L - k)
      have HS := Lib.hid hset
      clear hps hset hcell hcs
      go_wp2_with fail
      go_roundw
      case rel =>
        refine ⟨k + 1, by omega, by go_num, ?_, hBr.setCell (by exact hg1) _⟩
        rw [show 8 * L + 32 - (k + 1) = 31 + 8 * L - k by omega]
        exact HS.out _ rfl
      case measure => simp [intOf]; omega
    · obtain rfl : k = 8 * L := by omega
      rw [show 8 * L + 32 - 8 * L = 32 by omega, part_low X _ 32 HX0.out] at hownr
      have hcell2 := fun i hi => hownr.cellAt (by rw [bitsN_length]) i hi
      have HC := Lib.hid hcell2
      clear hcell2 hcs hown
      have HO := Lib.hid hownr
      clear hownr
      go_wp2_with fail
      go_loop [4] (fun vs => ∃ m : Nat, Gf.plen X ≤ m ∧ m ≤ 8 * L + 32 ∧ vs = .slice (some ⟨g, 0, none⟩) m c1) (fun vs => lenOf vs)
      case atStart => exact ⟨8 * L + 32, hXl, Nat.le_refl _, rfl⟩
      case round =>
        obtain ⟨m, hm1, hm2, rfl⟩ := hrel
        have hfin : Gf.plen X = m → Reads .i64 wr (.slice (some ⟨g, 0, none⟩) m c1) (coeffs X) := by
          intro e
          refine ⟨some ⟨g, 0, none⟩, c1, by rw [coeffs_length, e], by rw [coeffs_length]; omega, hc2, .inr ⟨g, 0, rfl, ?_⟩⟩
          intro i hi
          rw [coeffs_length] at hi
          rw [Nat.zero_add, HC.out i (by omega), bitsN_get X _ _ (by omega)]
          unfold coeffs
          rw [bitsN_get X _ _ hi]
        have HF := Lib.hid hfin
        clear hfin
        by_cases h0 : m = 0
        · have HP := Lib.hid (show Gf.plen X = m by omega)
          subst h0
          go_wp2_with fail
          go_ret
          exact ⟨_, rfl, HF.out HP.out, hBr⟩
        · have hc := HC.out (m - 1) (by omega)
          rw [bitsN_get X _ _ (by omega)] at hc
          by_cases htop : Gf.plen X = m
          · have hb1 : X.testBit (m - 1) = true := by rw [← htop]; exact Gf.plen_top (by intro e; rw [e, Gf.plen_zero] at htop; omega)
            rw [hb1] at hc
            have HT := Lib.hid htop
            have hm0 : 0 < m := by omega
            clear htop hb1 h0
            go_wp2_with fail
            go_ret
            exact ⟨_, rfl, HF.out HT.out, hBr⟩
          · have hb1 : X.testBit (m - 1) = false := Gf.bit_plen (by omega)
            rw [hb1] at hc
            have hm0 : 0 < m := by omega
            clear hb1 h0
            go_wp2_with fail
            go_round
            case rel => exact ⟨m - 1, by omega, by omega, rfl⟩
            case measure => simp [lenOf]; omega
end Go.Proofs.YtmjigpnpcacefaaGreatDoor
namespace Go.Proofs.YtmjigpnpcacefaaGreatDoor
open Go Go.RowKit Go.Shelf

theorem lin_bp32 (xs : List Nat) : Gf.lin xs = Gf.rev (Gf.pmod (bp32 xs) 4374732215) 32 := by
  unfold Gf.lin bp32 Gf.G; rfl

set_option maxRecDepth 100000 in
set_option maxHeartbeats 2000000 in
theorem rlinear_any (xs : List Nat) (v : Value) (w : World) (hv : Reads .u8 w v xs) (hx : Bytes xs) (hlen : xs.length < 1099511627776) :
    Calls Tryz.prog 75 #[v] w fun e w' => e = .returned (.int .u32 (Gf.lin xs)) ∧ Below w.heap.size w w' := by
  have hG0 : (4374732215 : Nat) ≠ 0 := by decide
  have hGl : Gf.plen 4374732215 = 33 := Gf.plen_G
  have hP := Gf.plen_pmod (bp32 xs) hG0
  rw [hGl] at hP
  have hXl := bp32_len xs
  have hlb := lin_bp32 xs
  obtain ⟨P, HP⟩ := nm (Gf.pmod (bp32 xs) 4374732215)
  rw [HP.out] at hP hlb
  have HL := Lib.hid hlb
  clear hlb hGl
  go_enter Tryz.func75, Tryz.ntmps75
  go_wp2_with fail
  refine (rbits_any xs v _ hv hx hlen).mono ?_
  rintro e w1 ⟨v1, rfl, hr1, hb1⟩
  go_wp2_with fail
  refine (of_any 4374732215 (by decide) _).mono ?_
  rintro e w2 ⟨v2, rfl, hr2, hb2⟩
  go_wp2_with fail
  refine (divide_any (bp32 xs) 4374732215 _ _ _ (hr1.keep hb2 (Nat.le_refl _)) hr2 hG0 (by omega)).mono ?_
  rintro e w3 ⟨vq, vr, rfl, hrq, hrr, hb3⟩
  rw [HP.out] at hrr
  have hB3 := bel_trans (hb1.trans (hb2.mono hb1.size)) hb3 (Nat.le_trans hb1.size hb2.size)
  obtain ⟨a, cap, rfl, hlc, hcm, hcs⟩ := hrr
  rw [coeffs_length] at hlc hcs ⊢
  obtain ⟨L, HLP⟩ := nm (Gf.plen P)
  rw [HLP.out] at hlc hcs hP ⊢
  clear hr1 hr2 hrq
  go_wp2_with fail
  go_loop [5, 6] (fun vc vk => ∃ k : Nat, k ≤ L ∧ vk = .int .i64 (k : Int) ∧ vc = .int .u32 ((Gf.rev P k * 2 ^ (32 - k) : Nat) : Int))
    (fun _ vk => L - (intOf vk).toNat)
  case atStart => exact ⟨0, Nat.zero_le _, rfl, by simp [Gf.rev]⟩
  case round =>
    obtain ⟨k, hk, rfl, rfl⟩ := hrel
    by_cases hlt : k < L
    · obtain ⟨b, off, rfl, hcell⟩ := hcs.resolve_left (fun h => by omega)
      have hc := hcell k hlt
      rw [show (coeffs P)[k]?.getD 0 = (P.testBit k).toNat from bitsN_get P _ _ (by rw [HLP.out]; exact hlt)] at hc
      have hstep : Gf.rev P (k + 1) * 2 ^ (32 - (k + 1)) = Gf.rev P k * 2 ^ (32 - k) + (P.testBit k).toNat * 2 ^ (31 - k) := by
        rw [Gf.rev, Nat.add_mul, show 32 - (k + 1) = 31 - k by omega, show 32 - k = 31 - k + 1 by omega, Nat.pow_succ, Nat.testBit_eq_decide_div_mod_eq]
        have e1 : 2 * Gf.rev P k * 2 ^ (31 - k) = Gf.rev P k * (2 ^ (31 - k) * 2) := by rw [Nat.mul_comm 2, Nat.mul_assoc, Nat.mul_comm 2]
        rw [e1]
        congr 2
        rcases Nat.mod_two_eq_zero_or_one (P / 2 ^ k) with h | h <;> rw [h] <;> rfl
      have hlt32 : Gf.rev P (k + 1) * 2 ^ (32 - (k + 1)) < 4294967296 := by
        have := Gf.rev_lt P (k + 1)
        calc _ < 2 ^ (k + 1) * 2 ^ (32 - (k + 1)) := Nat.mul_lt_mul_of_pos_right this (Nat.two_pow_pos _)
          _ = 2 ^ 32 := by rw [← Nat.pow_add]; congr 1; omega
          _ = 4294967296 := rfl
      rw [hstep] at hlt32
      obtain ⟨c0, HC0⟩ := nm (Gf.rev P k * 2 ^ (32 - k))
      have HST := Lib.hid hstep
      rw [HC0.out] at hlt32 ⊢
      clear hstep hcell hcs
      cases hb : P.testBit k
      · rw [hb] at hc hlt32
        have HB := Lib.hid hb
        clear hb
        go_wp2_with fail
        go_round
        case rel => exact ⟨k + 1, by omega, by go_num, by rw [HST.out, HC0.out, HB.out]; simp⟩
        case measure => simp [intOf]; omega
      · rw [hb] at hc hlt32
        have HB := Lib.hid hb
        clear hb
        simp only [Bool.toNat_true, Nat.one_mul] at hlt32
        obtain ⟨t, HT⟩ := nm (2 ^ (31 - k) : Nat)
        rw [HT.out] at hlt32
        have hw1 : IntKind.u32.wrap ((2 : Int) ^ (31 - k)) = (t : Int) := by
          rw [show ((2 : Int) ^ (31 - k)) = (t : Int) by rw [← HT.out]; simp, IntKind.wrap_u32]; omega
        go_wp2_with fail
        go_round
        case rel => exact ⟨k + 1, by omega, by go_num, by rw [HST.out, HC0.out, HB.out, HT.out]; simp⟩
        case measure => simp [intOf]; omega
    · obtain rfl : k = L := by omega
      have hfin : Gf.rev P k * 2 ^ (32 - k) = Gf.rev P 32 := Gf.rev_up (by rw [← HLP.out]; exact Gf.lt_two_plen P) (by omega)
      have HF := Lib.hid hfin
      clear hfin hcs
      go_wp2_with fail
      go_ret
      exact ⟨by rw [HL.out, ← HF.out]; rfl, hB3⟩


/-- One byte by the definition, as the reference reckons it. -/
theorem byteR_zero (c : Nat) : Gf.byteR c 0 = c / 256 ^^^ Gf.lin [c % 256] := by
  have := Gf.byteR_lin (c := c) (x := 0) (by decide)
  rwa [Nat.xor_zero] at this


set_option maxHeartbeats 2000000 in
theorem rupdate_any (c : Nat) (v : Value) (xs : List Nat) (hc : c < 4294967296) (hx : Bytes xs) (w : World) (hv : Reads .u8 w v xs) :
    Calls Tryz.prog 59 #[.int .u32 c, v] w fun e w' => e = .returned (.int .u32 (Gf.update c xs)) ∧ Below w.heap.size w w' := by
  have hl := hv.len
  obtain ⟨a, cap, rfl, hlc, hcm, hcs⟩ := hv
  have hinv : IntKind.u32.wrap (4294967295 - (c : Int)) = ((Gf.inv c : Nat) : Int) := by unfold Gf.inv; rw [IntKind.wrap_u32]; omega
  have hil := Gf.inv_lt c
  go_enter Tryz.func59, Tryz.ntmps59
  go_wp2_with fail
  go_loopw [0, 5] (fun vc vi wr => ∃ i : Nat, i ≤ xs.length ∧ vi = .int .i64 (i : Int) ∧ vc = .int .u32 ((Gf.run (Gf.inv c) (xs.take i) : Nat) : Int) ∧ Below w.heap.size w wr)
    (fun _ vi _ => xs.length - (intOf vi).toNat)
  case atStart => exact ⟨0, Nat.zero_le _, rfl, rfl, Below.refl _ _⟩
  case round =>
    obtain ⟨i, hi, rfl, rfl, hBr⟩ := hrel
    have hc0 : Gf.run (Gf.inv c) (xs.take i) < 4294967296 := Gf.run_lt hil (fun y hy => hx y (List.mem_of_mem_take hy))
    by_cases hlt : i < xs.length
    · obtain ⟨b, off, rfl, hcell⟩ := hcs.resolve_left (fun h => by omega)
      have hck := cell_keep hBr (hcell i hlt) (cell_lt (hcell i hlt))
      have hxi := hx.get i
      have hnx : Gf.run (Gf.inv c) (xs.take (i + 1)) = Gf.byteR (Gf.run (Gf.inv c) (xs.take i)) (xs[i]?.getD 0) := by
        rw [List.take_succ_eq_append_getElem hlt, Gf.run_snoc]
        simp [hlt]
      rw [Gf.byteR_lin hxi] at hnx
      obtain ⟨c0, HC⟩ := nm (Gf.run (Gf.inv c) (xs.take i))
      obtain ⟨x, HX⟩ := nm (xs[i]?.getD 0)
      rw [HC.out] at hc0 hnx ⊢
      rw [HX.out] at hck hxi hnx
      have hx8 : bits BinOp.xor IntKind.u8 ((c0 : Int) % 256) (x : Int) = ((c0 % 256 ^^^ x : Nat) : Int) := by
        rw [← u8_xor_nat (c0 % 256) x (by omega) hxi]; simp
      have hcm : c0 % 256 ^^^ x < 256 := Nat.xor_lt_two_pow (n := 8) (by omega) (by omega)
      obtain ⟨y, HY⟩ := nm (c0 % 256 ^^^ x)
      rw [HY.out] at hx8 hcm hnx
      have hll : Gf.lin [y] < 4294967296 := by
        rw [Gf.lin_eq _ (by simpa using hcm)]; exact Gf.run_lt (by decide) (by simpa using hcm)
      have hxx : bits BinOp.xor IntKind.u32 ((c0 : Int) / 256) ((Gf.lin [y] : Nat) : Int) = ((c0 / 256 ^^^ Gf.lin [y] : Nat) : Int) := by
        rw [← u32_xor_nat (c0 / 256) _ (by omega) hll]; simp
      rw [← hnx] at hxx
      obtain ⟨l0, HL0⟩ := nm (Gf.lin [y])
      obtain ⟨c1, HC1⟩ := nm (Gf.run (Gf.inv c) (xs.take (i + 1)))
      rw [HL0.out, HC1.out] at hxx
      rw [HL0.out] at hll
      clear hnx hcell hcs
      have hone := reads_one .u8 wr (y : Int) 5 y rfl
      have hAl : Below wr.heap.size wr (wr.alloc (.cells #[.int .u8 (y : Int)] 5)) := (bel_refl _).alloc (Nat.le_refl _) _
      go_wp2_with fail
      refine (rlinear_any [y] _ _ hone (fun z hz => by simp at hz; omega) (by simp)).mono ?_
      rintro e w1 ⟨rfl, hb1⟩
      rw [HL0.out]
      go_wp2_with fail
      go_roundw
      case rel => exact ⟨i + 1, by omega, by go_num, by rw [HC1.out], hBr.trans ((bel_trans hAl hb1 (by simp)).mono hBr.size)⟩
      case measure => simp [intOf]; omega
    · obtain rfl : i = xs.length := by omega
      rw [List.take_length] at hc0 ⊢
      have hu : IntKind.u32.wrap (4294967295 - ((Gf.run (Gf.inv c) xs : Nat) : Int)) = ((Gf.update c xs : Nat) : Int) := by
        unfold Gf.update
        rw [IntKind.wrap_u32, show Gf.inv (Gf.run (Gf.inv c) xs) = 4294967295 - Gf.run (Gf.inv c) xs from rfl]; omega
      have hul := Gf.update_lt c xs
      obtain ⟨c0, HC⟩ := nm (Gf.run (Gf.inv c) xs)
      obtain ⟨u, HU⟩ := nm (Gf.update c xs)
      rw [HC.out] at hc0 hu ⊢
      rw [HU.out] at hu hul
      clear hcs
      have hu2 : 4294967295 - (c0 : Int) = (u : Int) := by rw [IntKind.wrap_u32] at hu; omega
      clear hu
      have HU2 := Lib.hid hu2
      clear hu2
      go_wp2_with fail
      go_ret
      exact ⟨by rw [HU.out, ← HU2.out]; rfl, hBr⟩
theorem rsum4_any (v : Value) (xs : List Nat) (hx : Bytes xs) (w : World) (hv : Reads .u8 w v xs) :
    Calls Tryz.prog 38 #[v] w fun e w' => e = .returned (.int .u32 (Gf.sum xs)) ∧ Below w.heap.size w w' := by
  go_enter Tryz.func38, Tryz.ntmps38
  go_wp2_with fail
  refine (rupdate_any 0 v xs (by decide) hx _ hv).mono ?_
  rintro e w1 ⟨rfl, hb⟩
  go_wp2_with fail
  go_ret
  exact ⟨rfl, hb⟩
end Go.Proofs.YtmjigpnpcacefaaGreatDoor
