/- Bursts: the walks of damage.Right, Length, Bits. -/
import Derived.Test.YtmjigpnpcacefaaDoorOwnJ
namespace Go.Proofs.YtmjigpnpcacefaaDoor
open Go Go.RowKit Go.Shelf

theorem plen_half {q : Nat} (h : q ≠ 0) : Gf.plen q = Gf.plen (q / 2) + 1 := by
  have h1 := Gf.lt_two_plen q
  have h2 := Gf.lt_two_plen (q / 2)
  have h3 : Gf.plen (q / 2) ≤ Gf.plen q - 1 := Gf.plen_le.2 (by
    have e := Gf.plen_pos h
    have : 2 ^ Gf.plen q = 2 * 2 ^ (Gf.plen q - 1) := by
      conv => lhs; rw [show Gf.plen q = (Gf.plen q - 1) + 1 by omega, Nat.pow_succ]
      omega
    omega)
  have h4 : Gf.plen q ≤ Gf.plen (q / 2) + 1 := Gf.plen_le.2 (by rw [Nat.pow_succ]; omega)
  have h5 := Gf.plen_pos h
  omega
/-- Is a burst right? -/
def rightB (x : Int) (b : Nat) : Bool := decide (0 ≤ x) && decide (b % 2 = 1)
def lenB (x : Int) (b : Nat) : Nat := if rightB x b then Gf.plen b else 0
def bitsOk (x : Int) (b : Nat) : Bool := rightB x b && decide (x ≤ 9223372036854775807 - ((Gf.plen b : Int) - 1))
/-- The bits of a burst. -/
def blist (x : Int) (b : Nat) (n : Nat) : List Int := ((List.range n).filter fun i => b.testBit i).map fun (i : Nat) => x + (i : Int)
def bitsV (x : Int) (b : Nat) : List Int := if bitsOk x b then blist x b (Gf.plen b) else []
def bitsE (x : Int) (b : Nat) : Int := if bitsOk x b then 0 else 2
theorem blist_succ (x : Int) (b n : Nat) : blist x b (n + 1) = blist x b n ++ (if b.testBit n then [x + (n : Int)] else []) := by
  unfold blist
  rw [List.range_succ, List.filter_append, List.map_append]
  congr 1
  cases h : b.testBit n <;> simp [h]
theorem blist_len (x : Int) (b n : Nat) : (blist x b n).length ≤ n := by
  unfold blist
  rw [List.length_map]
  have := List.length_filter_le (fun i => b.testBit i) (List.range n)
  simpa using this

theorem and_one32 (b : Nat) (h : b < 4294967296) : bits BinOp.and IntKind.u32 (b : Int) 1 = ((b % 2 : Nat) : Int) := by
  rw [show (1 : Int) = ((1 : Nat) : Int) from rfl, u32_and_nat _ _ h (by decide), nat_mask1]

theorem right_any (x : Int) (b : Nat) (hb : b < 4294967296) (w : World) :
    Calls Tryd.prog 21 #[.agg #[.int .i64 x, .int .u32 b]] w fun e w' => e = .returned (.bool (rightB x b)) ∧ Below w.heap.size w w' := by
  have ha := and_one32 b hb
  have hB := bel_alloc w (.cells #[.int .i64 x, .int .u32 (b : Int)] 24)
  have c0 := (cell_of_row _ w.heap.size 0 #[.int .i64 x, .int .u32 (b : Int)] 24 (0, 0) (World.alloc_heap_new w _))
  have c1 := (cell_of_row _ w.heap.size 1 #[.int .i64 x, .int .u32 (b : Int)] 24 (0, 0) (World.alloc_heap_new w _))
  by_cases h0 : 0 ≤ x
  · by_cases h1 : b % 2 = 1
    · have hr : rightB x b = true := by unfold rightB; rw [decide_eq_true h0, decide_eq_true h1]; rfl
      rw [h1] at ha
      rw [hr]
      clear h1 hr
      go_enter Tryd.func21, Tryd.ntmps21
      go_wp2_with fail
      go_ret
      exact ⟨rfl, hB⟩
    · have hr : rightB x b = false := by unfold rightB; rw [decide_eq_true h0, decide_eq_false h1]; rfl
      rw [show b % 2 = 0 by omega] at ha
      rw [hr]
      clear h1 hr
      go_enter Tryd.func21, Tryd.ntmps21
      go_wp2_with fail
      go_ret
      exact ⟨rfl, hB⟩
  · have hr : rightB x b = false := by unfold rightB; rw [decide_eq_false h0]; rfl
    rw [hr]
    clear hr ha
    go_enter Tryd.func21, Tryd.ntmps21
    go_wp2_with fail
    go_ret
    exact ⟨rfl, hB⟩
theorem len_step (b k : Nat) (h : b / 2 ^ k ≠ 0) : Gf.plen (b / 2 ^ k) = Gf.plen (b / 2 ^ (k + 1)) + 1 := by
  rw [plen_half h, Nat.div_div_eq_div_mul, ← Nat.pow_succ]
set_option maxRecDepth 100000 in
set_option maxHeartbeats 1000000 in
theorem length_any (x : Int) (b : Nat) (hb : b < 4294967296) (w : World) :
    Calls Tryd.prog 17 #[.agg #[.int .i64 x, .int .u32 b]] w fun e w' => e = .returned (.int .i64 (lenB x b : Nat)) ∧ Below w.heap.size w w' := by
  have hp : Gf.plen b ≤ 32 := Gf.plen_le.2 hb
  have hA := bel_alloc w (.cells #[.int .i64 x, .int .u32 (b : Int)] 24)
  have c0 : (w.alloc (.cells #[.int .i64 x, .int .u32 (b : Int)] 24)).cell? ⟨w.heap.size, 0, none⟩ = some (.int .i64 x) := (cell_of_row _ w.heap.size 0 #[.int .i64 x, .int .u32 (b : Int)] 24 (0, 0) (World.alloc_heap_new w _))
  have c1 : (w.alloc (.cells #[.int .i64 x, .int .u32 (b : Int)] 24)).cell? ⟨w.heap.size, 1, none⟩ = some (.int .u32 (b : Int)) := (cell_of_row _ w.heap.size 1 #[.int .i64 x, .int .u32 (b : Int)] 24 (0, 0) (World.alloc_heap_new w _))
  have hr := right_any x b hb
  have hl : lenB x b = if rightB x b then Gf.plen b else 0 := rfl
  cases hrb : rightB x b with
  | false =>
    rw [hrb, if_neg (by decide)] at hl
    rw [hrb] at hr
    have HL := Lib.hid hl
    have HR := Lib.hid hr
    clear hl hr hrb c0 c1
    go_enter Tryd.func17, Tryd.ntmps17
    go_wp2_with fail
    refine (HR.out _).mono ?_
    rintro e w1 ⟨rfl, hb1⟩
    have hB1 := bel_trans hA hb1 (by simp)
    clear hA hb1
    go_wp2_with fail
    go_ret
    exact ⟨by rw [HL.out]; rfl, hB1⟩
  | true =>
    rw [hrb, if_pos rfl] at hl
    rw [hrb] at hr
    have HL := Lib.hid hl
    have HR := Lib.hid hr
    have C0 := Lib.hid c0
    have C1 := Lib.hid c1
    clear hl hr hrb c0 c1
    go_enter Tryd.func17, Tryd.ntmps17
    have c0 := C0.out
    have c1 := C1.out
    go_wp2_with fail
    refine (HR.out _).mono ?_
    rintro e w1 ⟨rfl, hb1⟩
    have hB1 := bel_trans hA hb1 (by simp)
    have d1 := cell_keep hb1 C1.out (cell_lt C1.out)
    clear hA hb1 c0 c1 C0 C1
    go_wp2_with fail
    go_loop [3, 4] (fun vn vw => ∃ k : Nat, k ≤ Gf.plen b ∧ vn = .int .i64 (k : Int) ∧ vw = .int .u32 ((b / 2 ^ k : Nat) : Int) ∧ Hid (Gf.plen b = k + Gf.plen (b / 2 ^ k))) (fun vn _ => Gf.plen b - (intOf vn).toNat)
    case atStart => exact ⟨0, Nat.zero_le _, rfl, by rw [Nat.pow_zero, Nat.div_one], Lib.hid (by rw [Nat.pow_zero, Nat.div_one]; omega)⟩
    case round =>
      obtain ⟨k, hk, rfl, rfl, HK⟩ := hrel
      have hst := len_step b k
      have hh : b / 2 ^ (k + 1) = b / 2 ^ k / 2 := by rw [Nat.pow_succ, ← Nat.div_div_eq_div_mul]
      have hq32 : b / 2 ^ k < 4294967296 := Nat.lt_of_le_of_lt (Nat.div_le_self _ _) hb
      have hpz : Gf.plen 0 = 0 := rfl
      obtain ⟨q, HQ⟩ := nm (b / 2 ^ k)
      obtain ⟨q2, HQ2⟩ := nm (b / 2 ^ (k + 1))
      rw [HQ.out] at hst hh HK hq32 ⊢
      rw [HQ2.out] at hst hh
      have hk32 : k ≤ 32 := by omega
      by_cases h0 : q = 0
      · have hpb : Gf.plen b = k := by have := HK.out; rw [h0, hpz] at this; omega
        have HP := Lib.hid hpb
        have hz : ((q : Int) == 0) = true := by rw [h0]; rfl
        clear hst hh h0 hpb hpz
        go_wp2_with fail
        go_ret
        exact ⟨by rw [HL.out, HP.out]; rfl, hB1⟩
      · have hst2 := hst h0
        have hz : ((q : Int) == 0) = false := beq_false_of_ne (by omega)
        have hd2 : (q : Int) / 2 = (q2 : Int) := by omega
        have hkk : k < Gf.plen b := by have := HK.out; omega
        have HK2 := Lib.hid (show Gf.plen b = k + 1 + Gf.plen q2 by have := HK.out; omega)
        have HPL := Lib.hid hkk
        clear hst hh h0 hst2 hkk hpz
        go_wp2_with fail
        go_round
        case rel => exact ⟨k + 1, HPL.out, by go_num, by rw [HQ2.out], by rw [HQ2.out]; exact HK2⟩
        case measure => simp [intOf]; have := HPL.out; omega
end Go.Proofs.YtmjigpnpcacefaaDoor
