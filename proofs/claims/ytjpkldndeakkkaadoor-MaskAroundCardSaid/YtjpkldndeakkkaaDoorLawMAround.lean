/- The walk of the law MaskAround. -/
import Derived.Test.YtjpkldndeakkkaaDoorMskI
import Derived.Test.YtjpkldndeakkkaaDoorMskQ
namespace Go.Proofs.YtjpkldndeakkkaaDoor
open Go Go.RowKit Go.Shelf

set_option maxRecDepth 100000 in
theorem pick64 (k : Nat) (hk : k < 64) (w : World) :
    Calls Tryd.prog 22 #[.int .i64 (k : Int), .int .i64 64] w fun e w' => e = .returned (.int .i64 (k : Int)) ∧ w = w' := by
  have hr1 : Int.tmod (k : Int) 64 = (k : Int) := by rw [Int.tmod_eq_emod_of_nonneg (by omega)]; omega
  have hr2 : (k : Int) % 64 = (k : Int) := by omega
  go_enter Tryd.func22, Tryd.ntmps22
  go_wp2_with fail
  go_ret
  exact ⟨rfl, rfl⟩
/-- Where Next is asked from. -/
def frm (m : Nat) : Nat → Int
  | 0 => -5
  | i + 1 => mat m i + 1
theorem next_frm {m i : Nat} (hi : i < (members m).length) : nextI m (frm m i) = mat m i ∧ nextB m (frm m i) = true := by
  refine next_at hi (fun t ht => ?_) ?_
  · cases i with
    | zero => omega
    | succ i =>
      show mat m t < mat m i + 1
      by_cases e : t = i
      · rw [e]; omega
      · have := mat_rise (m := m) (show t < i by omega) (by omega)
        omega
  · cases i with
    | zero => have := mat_bd hi; show (-5 : Int) ≤ _; omega
    | succ i => have := mat_rise (m := m) (show i < i + 1 by omega) hi; show mat m i + 1 ≤ _; omega
theorem next_end {m n : Nat} (hn : n = (members m).length) (hp : 0 < n) : nextI m (frm m n) = 0 ∧ nextB m (frm m n) = false := by
  obtain ⟨q, rfl⟩ : ∃ q, n = q + 1 := ⟨n - 1, by omega⟩
  refine next_over (fun t ht => ?_)
  show mat m t < mat m q + 1
  by_cases e : t = q
  · rw [e]; omega
  · have := mat_rise (m := m) (show t < q by omega) (by omega)
    omega

set_option maxRecDepth 100000 in
set_option maxHeartbeats 4000000 in
theorem maskAround_none (w : World) (m : Nat) (hm : m < 18446744073709551616) (h0 : m = 0) (c : Int) (hE : EV w) :
    Calls Tryd.prog 6 #[.int .u64 m, .int .i64 c] w fun e w' => e = .returned (.bool true) ∧ Below w.heap.size w w' := by
  have HE := Lib.hid hE
  have hlen : (members m).length = 0 := by subst h0; decide +kernel
  have hno : ∀ x, nextI m x = 0 ∧ nextB m x = false := fun x => next_over (fun i hi => by omega)
  have ha : aroundI m c = 0 ∧ aroundB m c = false := by
    unfold aroundI aroundB
    rw [(hno c).2, (hno 0).2, (hno 0).1]; exact ⟨rfl, rfl⟩
  have hnb : nearB m = false := decide_eq_false (fun h => h h0)
  have hz : ((m : Int) == 0) = true := by subst h0; rfl
  have h1 := fun W => around_any m hm c W
  rw [ha.1, ha.2] at h1
  have h2 := fun W => next_any m hm c W
  rw [(hno c).1, (hno c).2] at h2
  have h3 := fun W => near_any m hm c W
  rw [hnb] at h3
  have HMB := Lib.hid (fun W => mmembers_any m hm W)
  obtain ⟨y, HY⟩ := nm (nearI m c)
  simp only [HY.out] at h3
  have H1 := Lib.hid h1
  have H2 := Lib.hid h2
  have H3 := Lib.hid h3
  clear hlen hno ha hnb h1 h2 h3 h0 hE
  go_enter Tryd.func6, Tryd.ntmps6
  go_wp2_with fail
  refine (awakeM_any w HE.out).mono ?_
  rintro e w1 ⟨rfl, hb1⟩
  have HB1 := Lib.hid hb1
  clear hb1
  go_wp2_with fail
  refine (HMB.out _).mono ?_
  rintro e w2 ⟨vl, rfl, _, hb2⟩
  have HB2 := Lib.hid (gr_tr HB1.out hb2)
  clear hb2 HB1
  go_wp2_with fail
  refine (H1.out _).mono ?_
  rintro e w3 ⟨rfl, hb3⟩
  have HB3 := Lib.hid (gr_tr HB2.out hb3)
  clear hb3 HB2
  go_wp2_with fail
  refine (H2.out _).mono ?_
  rintro e w4 ⟨rfl, hb4⟩
  have HB4 := Lib.hid (gr_tr HB3.out hb4)
  clear hb4 HB3
  go_wp2_with fail
  refine (H3.out _).mono ?_
  rintro e w5 ⟨rfl, hb5⟩
  have HB5 := Lib.hid (gr_tr HB4.out hb5)
  clear hb5 HB4
  go_wp2_with fail
  go_ret
  exact ⟨rfl, HB5.out⟩

set_option maxRecDepth 100000 in
set_option maxHeartbeats 4000000 in
theorem maskAround_some (w : World) (m : Nat) (hm : m < 18446744073709551616) (h0 : m ≠ 0) (c : Int) (hE : EV w) :
    Calls Tryd.prog 6 #[.int .u64 m, .int .i64 c] w fun e w' => e = .returned (.bool true) ∧ Below w.heap.size w w' := by
  have HE := Lib.hid hE
  obtain ⟨j, hj, hjx⟩ := around_first hm h0 c
  have hp := members_pos hm h0
  have hl64 := members_len m
  have hz : ((m : Int) == 0) = false := beq_false_of_ne (by omega)
  have hbd := fun i (hi : i < (members m).length) => mat_bd hi
  have h1 := fun W => around_any m hm c W
  rw [around_yes hm h0, hjx] at h1
  have h2 := fun i (hi : i < (members m).length) W => around_any m hm (mat m i + 1) W
  have h2' : ∀ i, i < (members m).length → ∀ W, Calls Tryd.prog 18 #[.int .u64 m, .int .i64 (mat m i + 1)] W fun e w' => e = .returned (.tuple #[.int .i64 (mat m ((i + 1) % (members m).length)), .bool true]) ∧ Below W.heap.size W w' := fun i hi W => by
    have h := h2 i hi W
    rwa [around_yes hm h0, around_step hm h0 hi] at h
  have h3 : ∀ i, i < (members m).length → ∀ W, Calls Tryd.prog 19 #[.int .u64 m, .int .i64 (frm m i)] W fun e w' => e = .returned (.tuple #[.int .i64 (mat m i), .bool true]) ∧ Below W.heap.size W w' := fun i hi W => by
    have h := next_any m hm (frm m i) W
    rwa [(next_frm hi).1, (next_frm hi).2] at h
  have h4 := fun W => next_any m hm (frm m (members m).length) W
  rw [(next_end rfl hp).1, (next_end rfl hp).2] at h4
  have h5 := fun W => has_any m hm (mat m j) (by have := mat_bd hj; omega) W
  rw [show hasB m (mat m j) = true from mem_ints_has hm hj] at h5
  have hst := fun i => show seenN m j (i + 1) = seenN m j i ||| 1 <<< (mat m ((j + i) % (members m).length)).toNat from rfl
  have hsl := fun i => seenN_lt hm h0 j i
  have hall := seenN_all hm h0 hj
  have HMB := Lib.hid (fun W => mmembers_any m hm W)
  have hln := ints_length (members m)
  obtain ⟨n, HN⟩ := nm (members m).length
  simp only [HN.out] at hbd h2' h3 hst
  rw [HN.out] at hall hj hp hl64 hln
  rw [HN.out] at h4
  obtain ⟨l, HL⟩ := nm (ints (members m))
  have hml : ∀ i, l[i]?.getD 0 = mat m i := fun i => by rw [← HL.out]; rfl
  simp only [HL.out] at HMB hln
  have HBD := Lib.hid hbd
  have H1 := Lib.hid h1
  have H2 := Lib.hid h2'
  have H3 := Lib.hid h3
  have H4 := Lib.hid h4
  have H5 := Lib.hid h5
  have HST := Lib.hid hst
  have HSL := Lib.hid hsl
  have HALL := Lib.hid hall
  have HML := Lib.hid hml
  have HLN := Lib.hid hln
  clear hbd h1 h2 h2' h3 h4 h5 hst hsl hall hml hln hE hjx h0
  go_enter Tryd.func6, Tryd.ntmps6
  go_wp2_with fail
  refine (awakeM_any w HE.out).mono ?_
  rintro e w1 ⟨rfl, hb1⟩
  have HB1 := Lib.hid hb1
  clear hb1
  go_wp2_with fail
  refine (HMB.out _).mono ?_
  rintro e w2 ⟨vl, rfl, ho, hb2⟩
  have HB2 := Lib.hid (gr_tr HB1.out hb2)
  rcases ho.form with ⟨_, hnil⟩ | ⟨gl, cl, rfl, hg1, hg2, hg3, hg4⟩
  · have := congrArg List.length hnil; rw [HLN.out] at this; simp at this; omega
  rw [HLN.out] at hg3 ⊢
  have hoc := fun i (hi : i < n) => World.ownsRow.cellAt ho i (by rw [HLN.out]; omega)
  have hcl : ∀ i, i < n → w2.cell? ⟨gl, i, none⟩ = some (.int .i64 (mat m i)) := fun i hi => by rw [hoc i hi, valsI_get .i64 l i (by rw [HLN.out]; exact hi), HML.out]
  have HCL := Lib.hid hcl
  clear hb2 ho hoc hcl HB1
  go_wp2_with fail
  refine (H1.out _).mono ?_
  rintro e w3 ⟨rfl, hb3⟩
  have HB3 := Lib.hid hb3
  clear hb3
  go_wp2_with fail
  refine (H5.out _).mono ?_
  rintro e w4 ⟨rfl, rfl⟩
  go_wp2_with fail
  go_loopw [6, 7, 12, 67] (fun va vo vs vi wz => ∃ i : Nat, i ≤ n ∧ vi = .int .i64 (i : Int) ∧ va = .int .i64 (mat m ((j + i) % n)) ∧ vo = .bool true ∧ vs = .int .u64 (seenN m j i : Nat) ∧ Below w2.heap.size w2 wz) (fun _ _ _ vi _ => n - (intOf vi).toNat)
  case atStart => exact ⟨0, Nat.zero_le _, rfl, by rw [Nat.add_zero, Nat.mod_eq_of_lt hj], rfl, rfl, HB3.out⟩
  case round =>
    obtain ⟨i, hi, rfl, rfl, rfl, rfl, hBz⟩ := hrel
    by_cases hlt : i < n
    · have hmod := Nat.mod_lt (j + i) hp
      have hb := HBD.out _ hmod
      have h2 := H2.out _ hmod
      have hst := HST.out i
      have hS := HSL.out i
      rw [show ((j + i) % n + 1) % n = (j + (i + 1)) % n by rw [Nat.mod_add_mod]; rfl] at h2
      obtain ⟨a, HA⟩ := nm (mat m ((j + i) % n))
      simp only [HA.out] at hb h2 hst ⊢
      obtain ⟨k, rfl⟩ := Int.eq_ofNat_of_zero_le hb.1
      have hk : k < 64 := by omega
      rw [Int.toNat_natCast] at hst
      obtain ⟨a2, HA2⟩ := nm (mat m ((j + (i + 1)) % n))
      simp only [HA2.out] at h2
      obtain ⟨S, HS⟩ := nm (seenN m j i)
      obtain ⟨S2, HS2⟩ := nm (seenN m j (i + 1))
      rw [HS.out, HS2.out] at hst
      rw [HS.out] at hS ⊢
      have hw := wrap_shl_one hk
      have hl1 := one_shl_lt hk
      obtain ⟨q, HQ⟩ := nm (1 <<< k : Nat)
      rw [HQ.out] at hw hl1 hst
      have hor := u64_or_nat S q hS hl1
      rw [← hst] at hor
      have hw1 : IntKind.i64.wrap ((k : Int) + 1) = (k : Int) + 1 := IntWalk.i64_in _ (by omega)
      have H2' := Lib.hid h2
      have HP := Lib.hid (fun W => pick64 k hk W)
      have hi1 : (i : Int) < (n : Int) := by omega
      clear h2 hst hmod hb
      go_wp2_with fail
      refine (HP.out _).mono ?_
      rintro e w5 ⟨rfl, rfl⟩
      go_wp2_with fail
      refine (H2'.out _).mono ?_
      rintro e w5 ⟨rfl, hb5⟩
      have HB5 := Lib.hid (bel_trans hBz hb5 hBz.size)
      clear hb5
      go_wp2_with fail
      go_roundw
      case rel => exact ⟨i + 1, by omega, by go_num, by rw [HA2.out], rfl, by rw [HS2.out], HB5.out⟩
      case measure => simp [intOf]; omega
    · obtain rfl : n = i := by omega
      have HBz := Lib.hid hBz
      rw [show (j + n) % n = j by rw [Nat.add_mod_right, Nat.mod_eq_of_lt hj], HALL.out]
      have h1 := H1.out wr
      obtain ⟨x, HX⟩ := nm (mat m j)
      rw [HX.out] at h1 ⊢
      have H1' := Lib.hid h1
      clear h1 hBz
      go_wp2_with fail
      refine H1'.out.mono ?_
      rintro e w5 ⟨rfl, hb5⟩
      have HB5 := Lib.hid (bel_trans HBz.out hb5 HBz.out.size)
      clear hb5
      go_wp2_with fail
      obtain ⟨wo, rfl⟩ : ∃ wo : World, wo = wr := ⟨_, rfl⟩
      go_loopw [14, 104] (fun vf vi wz => ∃ i : Nat, i ≤ n ∧ vi = .int .i64 (i : Int) ∧ vf = .int .i64 (frm m i) ∧ Below w2.heap.size w2 wz) (fun _ vi _ => n - (intOf vi).toNat)
      case atStart => exact ⟨0, Nat.zero_le _, rfl, rfl, HB5.out⟩
      case round =>
        obtain ⟨i, hi, rfl, rfl, hBz⟩ := hrel
        by_cases hlt : i < n
        · have ck := cell_keep hBz (HCL.out i hlt) (cell_lt (HCL.out i hlt))
          have h3 := H3.out i hlt wr
          have hb := HBD.out i hlt
          have hf2 : frm m (i + 1) = mat m i + 1 := rfl
          obtain ⟨a, HA⟩ := nm (mat m i)
          rw [HA.out] at ck h3 hb hf2
          obtain ⟨f, HF⟩ := nm (frm m i)
          rw [HF.out] at h3 ⊢
          have hw1 : IntKind.i64.wrap (a + 1) = a + 1 := IntWalk.i64_in _ (by omega)
          have H3' := Lib.hid h3
          have HF2 := Lib.hid hf2
          have hi1 : (i : Int) < (n : Int) := by omega
          clear h3 hf2
          go_wp2_with fail
          refine H3'.out.mono ?_
          rintro e w6 ⟨rfl, hb6⟩
          have HB6 := Lib.hid (bel_trans hBz hb6 hBz.size)
          clear hb6
          go_wp2_with fail
          go_roundw
          case rel => exact ⟨i + 1, by omega, by go_num, by rw [HF2.out], HB6.out⟩
          case measure => simp [intOf]; omega
        · obtain rfl : n = i := by omega
          have h4 := H4.out wr
          obtain ⟨f, HF⟩ := nm (frm m n)
          rw [HF.out] at h4 ⊢
          have H4' := Lib.hid h4
          clear h4
          go_wp2_with fail
          refine H4'.out.mono ?_
          rintro e w6 ⟨rfl, hb6⟩
          have HB6 := Lib.hid (gr_tr HB2.out (bel_trans hBz hb6 hBz.size))
          clear hb6
          go_wp2_with fail
          go_ret
          exact ⟨rfl, HB6.out⟩
theorem maskAround_all (w : World) (m : Nat) (hm : m < 18446744073709551616) (c : Int) (_hc : -9223372036854775808 ≤ c ∧ c ≤ 9223372036854775807) (hE : EV w) :
    Calls Tryd.prog 6 #[.int .u64 m, .int .i64 c] w fun e w' => e = .returned (.bool true) ∧ Below w.heap.size w w' := by
  by_cases h0 : m = 0
  · exact maskAround_none w m hm h0 c hE
  · exact maskAround_some w m hm h0 c hE
end Go.Proofs.YtjpkldndeakkkaaDoor
