/- Masks of CPUs: the walks of mask.nearest, slices.MinFunc with its closure, mask.Nearest. -/
import Derived.Test.YtjpkldndeakkkaaDoorMskC
namespace Go.Proofs.YtjpkldndeakkkaaDoor
open Go Go.RowKit Go.Shelf

def dist (c i : Int) : Int := max (i - c) (c - i)
/-- The first nearest one of the numbers up to index k. -/
def nearU (c : Int) (l : List Int) : Nat → Int
  | 0 => l[0]?.getD 0
  | k + 1 => if dist c (l[k + 1]?.getD 0) < dist c (nearU c l k) then l[k + 1]?.getD 0 else nearU c l k
def clip (c : Int) : Int := min (max c (-1)) 64
def nearI (m : Nat) (c : Int) : Int := if m = 0 then 0 else nearU (clip c) (ints (members m)) ((members m).length - 1)
def nearB (m : Nat) : Bool := decide (m ≠ 0)

theorem ret_int {k : IntKind} {a b : Int} (h : a = b) : Ending.returned (.int k a) = .returned (.int k b) := by rw [h]
theorem near1_any (a b c : Int) (B : Nat) (ha : 0 ≤ a ∧ a < 64) (hb : 0 ≤ b ∧ b < 64) (hc : -1 ≤ c ∧ c ≤ 64) (w : World) (hB : w.cell? ⟨B, 0, none⟩ = some (.int .i64 c)) :
    Calls Tryd.prog 63 #[.int .i64 a, .int .i64 b, .pointer (some ⟨B, 0, none⟩)] w fun e w' => e = .returned (.int .i64 (dist c a - dist c b)) ∧ w = w' := by
  have h1 : IntKind.i64.wrap (a - c) = a - c := IntWalk.i64_in _ (by omega)
  have h2 : IntKind.i64.wrap (c - a) = c - a := IntWalk.i64_in _ (by omega)
  have h3 : IntKind.i64.wrap (b - c) = b - c := IntWalk.i64_in _ (by omega)
  have h4 : IntKind.i64.wrap (c - b) = c - b := IntWalk.i64_in _ (by omega)
  have h5 : dist c a = max (a - c) (c - a) := rfl
  have h6 : dist c b = max (b - c) (c - b) := rfl
  have b1 : 0 ≤ dist c a ∧ dist c a ≤ 65 := by rw [h5]; omega
  have b2 : 0 ≤ dist c b ∧ dist c b ≤ 65 := by rw [h6]; omega
  obtain ⟨x, HX⟩ := nm (dist c a)
  obtain ⟨y, HY⟩ := nm (dist c b)
  rw [HX.out] at h5 b1 ⊢
  rw [HY.out] at h6 b2 ⊢
  have h5' := h5.symm
  have h6' := h6.symm
  clear h5 h6
  go_enter Tryd.func63, Tryd.ntmps63
  go_wp2_with fail
  all_goals
    go_ret
    refine ⟨ret_int ?_, rfl⟩
    omega

set_option maxRecDepth 100000 in
set_option maxHeartbeats 2000000 in
theorem minfunc_any (v : Value) (l : List Int) (c : Int) (B : Nat) (hc : -1 ≤ c ∧ c ≤ 64) (w : World) (hl : ReadsI .i64 w v l) (h0 : 0 < l.length) (hll : l.length < 1000000) (hlb : ∀ i, i < l.length → 0 ≤ l[i]?.getD 0 ∧ l[i]?.getD 0 < 64) (hB : w.cell? ⟨B, 0, none⟩ = some (.int .i64 c)) :
    Calls Tryd.prog 62 #[v, .func (.func 63) #[] #[.pointer (some ⟨B, 0, none⟩)]] w fun e w' => e = .returned (.int .i64 (nearU c l (l.length - 1))) ∧ w = w' := by
  obtain ⟨a, cap, rfl, hlc, hcm, hcs⟩ := hl
  have hcell := hcs.resolve_left (fun h => by omega)
  obtain ⟨b, o, rfl, hcl⟩ := hcell
  have hnb : ∀ k, k < l.length → 0 ≤ nearU c l k ∧ nearU c l k < 64 := by
    intro k
    induction k with
    | zero => exact fun h => hlb 0 h
    | succ k ih =>
      intro h
      have h1 := ih (by omega)
      have h2 := hlb (k + 1) h
      unfold nearU
      split
      · exact h2
      · exact h1
  have hst : ∀ k, nearU c l (k + 1) = if dist c (l[k + 1]?.getD 0) < dist c (nearU c l k) then l[k + 1]?.getD 0 else nearU c l k := fun _ => rfl
  obtain ⟨n, HN⟩ := nm l.length
  rw [HN.out] at hlc h0 hll hcl hlb hnb ⊢
  have c0 := hcl 0 h0
  have hz0 : nearU c l 0 = l[0]?.getD 0 := rfl
  rw [← hz0, Nat.add_zero] at c0
  have HCL := Lib.hid hcl
  have HLB := Lib.hid hlb
  have HNB := Lib.hid hnb
  have HST := Lib.hid hst
  clear hcs hcl hlb hnb hst hz0
  obtain ⟨z, HZ⟩ := nm (nearU c l 0)
  rw [HZ.out] at c0
  have hn1 : (0 : Int) < (n : Int) := by omega
  obtain ⟨R, HR⟩ := nm (nearU c l (n - 1))
  rw [HR.out]
  go_enter Tryd.func62, Tryd.ntmps62
  go_wp2_with fail
  go_loopw [5, 6] (fun vm vi wr => ∃ k : Nat, k < n ∧ vi = .int .i64 ((k : Int) + 1) ∧ vm = .int .i64 (nearU c l k) ∧ w = wr) (fun _ vi _ => n - (intOf vi).toNat)
  case atStart => exact ⟨0, h0, rfl, by rw [HZ.out], rfl⟩
  case round =>
    obtain ⟨k, hk, rfl, rfl, rfl⟩ := hrel
    by_cases hlt : k + 1 < n
    · have ck := HCL.out (k + 1) hlt
      have hb1 := HLB.out (k + 1) hlt
      have hb2 := HNB.out k hk
      have hs := HST.out k
      obtain ⟨x, HX⟩ := nm (l[k + 1]?.getD 0)
      rw [HX.out] at ck hb1 hs
      obtain ⟨y, HY⟩ := nm (nearU c l k)
      rw [HY.out] at hb2 hs ⊢
      have HC := Lib.hid (near1_any x y c B hb1 hb2 hc w hB)
      have hlt1 : (k : Int) + 1 < (n : Int) := by omega
      have hadr : ((k : Int) + 1).toNat = k + 1 := by omega
      have hk0 : (0 : Int) ≤ (k : Int) + 1 := by omega
      have hw1 : IntKind.i64.wrap ((k : Int) + 1) = (k : Int) + 1 := IntWalk.i64_in _ (by omega)
      obtain ⟨d1, HD1⟩ := nm (dist c x)
      obtain ⟨d2, HD2⟩ := nm (dist c y)
      rw [HD1.out, HD2.out] at hs HC
      by_cases hd : d1 < d2
      · rw [if_pos hd] at hs
        have HS := Lib.hid hs
        have hd1 : d1 - d2 < 0 := by omega
        clear hs
        go_wp2_with fail
        refine HC.out.mono ?_
        rintro e w1 ⟨rfl, rfl⟩
        go_wp2_with fail
        go_roundw
        case rel => exact ⟨k + 1, hlt, by go_num, by rw [HS.out], trivial⟩
        case measure => simp [intOf]; omega
      · rw [if_neg hd] at hs
        have HS := Lib.hid hs
        have hd1 : 0 ≤ d1 - d2 := by omega
        clear hs
        go_wp2_with fail
        refine HC.out.mono ?_
        rintro e w1 ⟨rfl, rfl⟩
        go_wp2_with fail
        go_roundw
        case rel => exact ⟨k + 1, hlt, by go_num, by rw [HS.out], trivial⟩
        case measure => simp [intOf]; omega
    · have hlt1 : (n : Int) ≤ (k : Int) + 1 := by omega
      have he : n - 1 = k := by omega
      have hR := HR.out
      rw [he] at hR
      rw [hR]
      clear he hR
      go_wp2_with fail
      go_ret
      exact ⟨rfl, rfl⟩

theorem members_lt {m k : Nat} (h : k ∈ members m) : k < 64 := by
  unfold members memL at h
  rw [List.mem_filter, List.mem_range] at h
  exact h.1
theorem members_mem {m k : Nat} (hm : m < 18446744073709551616) : k ∈ members m ↔ m.testBit k = true := by
  unfold members memL
  rw [List.mem_filter, List.mem_range]
  constructor
  · exact fun h => h.2
  · intro h
    refine ⟨?_, h⟩
    rcases Nat.lt_or_ge k 64 with h1 | h1
    · exact h1
    · rw [Gf.bit_ge (n := 64) hm h1] at h; cases h
theorem members_len (m : Nat) : (members m).length ≤ 64 := memL_length m 64
theorem members_pos {m : Nat} (hm : m < 18446744073709551616) (h : m ≠ 0) : 0 < (members m).length := by
  have h1 := Gf.plen_top h
  exact List.length_pos_of_mem ((members_mem hm).2 h1)
theorem ints_bd {ks : List Nat} {N : Nat} (h : ∀ k ∈ ks, k < N) (i : Nat) (hi : i < (ints ks).length) : 0 ≤ (ints ks)[i]?.getD 0 ∧ (ints ks)[i]?.getD 0 < (N : Int) := by
  rw [ints_get]
  rw [ints_length] at hi
  have := h _ (List.getElem_mem hi)
  rw [List.getElem?_eq_getElem hi, Option.getD_some]
  omega

set_option maxHeartbeats 1000000 in
theorem nearest_fn (v : Value) (l : List Int) (c : Int) (hc : -1 ≤ c ∧ c ≤ 64) (w : World) (hl : ReadsI .i64 w v l) (h0 : 0 < l.length) (hll : l.length < 1000000) (hlb : ∀ i, i < l.length → 0 ≤ l[i]?.getD 0 ∧ l[i]?.getD 0 < 64) :
    Calls Tryd.prog 41 #[.int .i64 c, v] w fun e w' => e = .returned (.int .i64 (nearU c l (l.length - 1))) ∧ Below w.heap.size w w' := by
  have hbx := cell_new_l w (.int .i64 c) 3
  have H := Lib.hid (minfunc_any v l c w.heap.size hc _ (hl.keep (bel_alloc w (.cells #[.int .i64 c] 3)) (Nat.le_refl _)) h0 hll hlb hbx.1)
  obtain ⟨R, HR⟩ := nm (nearU c l (l.length - 1))
  rw [HR.out] at H ⊢
  clear hbx hl h0 hll hlb
  go_enter Tryd.func41, Tryd.ntmps41
  go_wp2_with fail
  refine H.out.mono ?_
  rintro e w1 ⟨rfl, rfl⟩
  go_wp2_with fail
  go_ret
  exact ⟨rfl, bel_alloc w _⟩

set_option maxRecDepth 100000 in
set_option maxHeartbeats 1000000 in
theorem near_any (m : Nat) (hm : m < 18446744073709551616) (c : Int) (w : World) :
    Calls Tryd.prog 20 #[.int .u64 m, .int .i64 c] w fun e w' => e = .returned (.tuple #[.int .i64 (nearI m c), .bool (nearB m)]) ∧ Below w.heap.size w w' := by
  by_cases h : m = 0
  · have e1 : nearI m c = 0 := if_pos h
    have e2 : nearB m = false := decide_eq_false (fun e => e h)
    rw [e1, e2]
    have q1 : ((m : Int) == 0) = true := by simp [h]
    clear e1 e2 h
    go_enter Tryd.func20, Tryd.ntmps20
    go_wp2_with fail
    go_ret2
    exact ⟨rfl, bel_refl _⟩
  · have e1 : nearI m c = nearU (clip c) (ints (members m)) ((ints (members m)).length - 1) := by rw [ints_length]; exact if_neg h
    have e2 : nearB m = true := decide_eq_true h
    have hp := members_pos hm h
    have hcl : clip c = min (max c (-1)) 64 := rfl
    have hcb : -1 ≤ clip c ∧ clip c ≤ 64 := by rw [hcl]; omega
    rw [e1, e2]
    have q1 : ((m : Int) == 0) = false := beq_false_of_ne (by omega)
    have hbd := fun i hi => ints_bd (N := 64) (fun k (hk : k ∈ members m) => members_lt hk) i hi
    have hln := ints_length (members m)
    have hl64 := members_len m
    have HM := Lib.hid (fun W => mmembers_any m hm W)
    obtain ⟨l, HL⟩ := nm (ints (members m))
    rw [HL.out] at hbd HM hln ⊢
    have HN := Lib.hid (fun W v ho d hd1 hd2 => nearest_fn v l d ⟨hd1, hd2⟩ W ho (by rw [hln]; exact hp) (by rw [hln]; omega) hbd)
    clear e1 e2 h hbd hln hp hl64
    rcases (show c < -1 ∨ (-1 ≤ c ∧ c ≤ 64) ∨ 64 < c by omega) with h1 | h1 | h1
    · have hd : clip c = -1 := by rw [hcl]; omega
      rw [hd]
      obtain ⟨R, HR⟩ := nm (nearU (-1) l (l.length - 1))
      rw [HR.out]
      clear hcl hd hcb
      go_enter Tryd.func20, Tryd.ntmps20
      go_wp2_with fail
      refine (HM.out _).mono ?_
      rintro e w1 ⟨v, rfl, ho, hb⟩
      have HO := Lib.hid ho.reads
      clear ho
      go_wp2_with fail
      refine (HN.out w1 v HO.out (-1) (by omega) (by omega)).mono ?_
      rintro e w2 ⟨rfl, hb2⟩
      rw [HR.out]
      go_wp2_with fail
      go_ret2
      exact ⟨rfl, bel_trans hb hb2 hb.size⟩
    · have hd : clip c = c := by rw [hcl]; omega
      rw [hd]
      obtain ⟨h2, h3⟩ := h1
      obtain ⟨R, HR⟩ := nm (nearU c l (l.length - 1))
      rw [HR.out]
      clear hcl hd hcb
      go_enter Tryd.func20, Tryd.ntmps20
      go_wp2_with fail
      refine (HM.out _).mono ?_
      rintro e w1 ⟨v, rfl, ho, hb⟩
      have HO := Lib.hid ho.reads
      clear ho
      go_wp2_with fail
      refine (HN.out w1 v HO.out c (by omega) (by omega)).mono ?_
      rintro e w2 ⟨rfl, hb2⟩
      rw [HR.out]
      go_wp2_with fail
      go_ret2
      exact ⟨rfl, bel_trans hb hb2 hb.size⟩
    · have hd : clip c = 64 := by rw [hcl]; omega
      rw [hd]
      obtain ⟨R, HR⟩ := nm (nearU 64 l (l.length - 1))
      rw [HR.out]
      clear hcl hd hcb
      go_enter Tryd.func20, Tryd.ntmps20
      go_wp2_with fail
      refine (HM.out _).mono ?_
      rintro e w1 ⟨v, rfl, ho, hb⟩
      have HO := Lib.hid ho.reads
      clear ho
      go_wp2_with fail
      refine (HN.out w1 v HO.out 64 (by omega) (by omega)).mono ?_
      rintro e w2 ⟨rfl, hb2⟩
      rw [HR.out]
      go_wp2_with fail
      go_ret2
      exact ⟨rfl, bel_trans hb hb2 hb.size⟩
end Go.Proofs.YtjpkldndeakkkaaDoor
