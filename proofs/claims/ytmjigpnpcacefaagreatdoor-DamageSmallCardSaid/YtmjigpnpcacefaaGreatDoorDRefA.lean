/- The reference bursts: the walks of Right, places, Length, Bits. -/
import Derived.Test.YtmjigpnpcacefaaGreatDoorDRefP
namespace Go.Proofs.YtmjigpnpcacefaaGreatDoor
open Go Go.RowKit Go.Shelf

theorem rem2_nat (q : Nat) : (q : Int).tmod 2 = ((q % 2 : Nat) : Int) := by rw [Int.tmod_eq_emod_of_nonneg (Int.natCast_nonneg _)]; omega
theorem rright_any (x : Int) (b : Nat) (_hb : b < 4294967296) (w : World) :
    Calls Tryz.prog 36 #[.agg #[.int .i64 x, .int .u32 b]] w fun e w' => e = .returned (.bool (rightB x b)) ∧ Below w.heap.size w w' := by
  have hB := bel_alloc w (.cells #[.int .i64 x, .int .u32 (b : Int)] 46)
  have c0 := (cell_of_row _ w.heap.size 0 #[.int .i64 x, .int .u32 (b : Int)] 46 (0, 0) (World.alloc_heap_new w _))
  have c1 := (cell_of_row _ w.heap.size 1 #[.int .i64 x, .int .u32 (b : Int)] 46 (0, 0) (World.alloc_heap_new w _))
  have ht := rem2_nat b
  have ht2 : (b : Int) % 2 = ((b % 2 : Nat) : Int) := by omega
  by_cases h0 : 0 ≤ x
  · by_cases h1 : b % 2 = 1
    · have hr : rightB x b = true := by unfold rightB; rw [decide_eq_true h0, decide_eq_true h1]; rfl
      rw [h1] at ht ht2
      rw [hr]
      clear h1 hr
      go_enter Tryz.func36, Tryz.ntmps36
      go_wp2_with fail
      go_ret
      exact ⟨rfl, hB⟩
    · have hr : rightB x b = false := by unfold rightB; rw [decide_eq_true h0, decide_eq_false h1]; rfl
      rw [show b % 2 = 0 by omega] at ht ht2
      rw [hr]
      clear h1 hr
      go_enter Tryz.func36, Tryz.ntmps36
      go_wp2_with fail
      go_ret
      exact ⟨rfl, hB⟩
  · have hr : rightB x b = false := by unfold rightB; rw [decide_eq_false h0]; rfl
    rw [hr]
    clear hr ht ht2
    go_enter Tryz.func36, Tryz.ntmps36
    go_wp2_with fail
    go_ret
    exact ⟨rfl, hB⟩

set_option maxRecDepth 100000 in
set_option maxHeartbeats 2000000 in
theorem places_any (x : Int) (b : Nat) (hb : b < 4294967296) (w : World) :
    Calls Tryz.prog 58 #[.agg #[.int .i64 x, .int .u32 b]] w fun e w' => ∃ v', e = .returned v' ∧ OwnsI .i64 3 w' w.heap.size v' (blist 0 b 32) ∧ Below w.heap.size w w' := by
  have hA := bel_alloc w (.cells #[.int .i64 x, .int .u32 (b : Int)] 46)
  have c1 : (w.alloc (.cells #[.int .i64 x, .int .u32 (b : Int)] 46)).cell? ⟨w.heap.size, 1, none⟩ = some (.int .u32 (b : Int)) := (cell_of_row _ w.heap.size 1 #[.int .i64 x, .int .u32 (b : Int)] 46 (0, 0) (World.alloc_heap_new w _))
  go_enter Tryz.func58, Tryz.ntmps58
  go_wp2_with fail
  go_loopw [3, 4, 5] (fun vo vq vi wr => ∃ i : Nat, i ≤ 32 ∧ vi = .int .i64 (i : Int) ∧ vq = .int .u32 ((b / 2 ^ i : Nat) : Int) ∧ OwnsI .i64 3 wr w.heap.size vo (blist 0 b i) ∧ Below w.heap.size w wr) (fun _ _ vi _ => 32 - (intOf vi).toNat)
  case atStart => exact ⟨0, Nat.zero_le _, rfl, by rw [Nat.pow_zero, Nat.div_one], OwnsI.nil _ _ _ _, hA⟩
  case round =>
    obtain ⟨i, hi, rfl, rfl, hown, hBr⟩ := hrel
    have hsz := hBr.size
    by_cases hin : i < 32
    · have hq32 : b / 2 ^ i < 4294967296 := Nat.lt_of_le_of_lt (Nat.div_le_self _ _) hb
      have hh : b / 2 ^ i / 2 = b / 2 ^ (i + 1) := by rw [Nat.div_div_eq_div_mul, Nat.pow_succ]
      have hbt : b.testBit i = decide (b / 2 ^ i % 2 = 1) := Nat.testBit_eq_decide_div_mod_eq
      have hbs := blist_succ 0 b i
      have hbl := blist_len 0 b i
      obtain ⟨q, HQ⟩ := nm (b / 2 ^ i)
      obtain ⟨q2, HQ2⟩ := nm (b / 2 ^ (i + 1))
      rw [HQ.out] at hq32 hh hbt ⊢
      rw [HQ2.out] at hh
      have ht := rem2_nat q
      have ht2 : (q : Int) % 2 = ((q % 2 : Nat) : Int) := by omega
      have hd2 : (q : Int) / 2 = (q2 : Int) := by omega
      have hd3 : (q : Int).tdiv 2 = (q2 : Int) := by rw [Int.tdiv_eq_ediv_of_nonneg (by omega)]; exact hd2
      have HO := Lib.hid hown
      have HH := Lib.hid hh
      clear hown hh
      by_cases h1 : q % 2 = 1
      · rw [decide_eq_true h1] at hbt
        rw [hbt, if_pos rfl, Int.zero_add] at hbs
        rw [h1] at ht ht2
        have HBS := Lib.hid hbs
        have hlen : (blist 0 b i).length < 17592186044414 := by omega
        clear hbs hbt h1
        go_wp2_with (at_builtin; refine wpl_app1I rfl (.tmp 15) (.tmp 17) 23 rfl .i64 3 8 Tryz.underlying23 info_int (by decide) w.heap.size _ (blist 0 b i) wr HO.out rfl (i : Int) rfl hlen hsz ?_; intro v' w1 hown' hB')
        go_roundw
        case rel => exact ⟨i + 1, by omega, by go_num, by rw [HQ2.out], by rw [HBS.out]; exact hown', hBr.trans hB'⟩
        case measure => simp [intOf]; omega
      · rw [decide_eq_false h1] at hbt
        rw [hbt, if_neg (by decide), List.append_nil] at hbs
        rw [show q % 2 = 0 by omega] at ht ht2
        have HBS := Lib.hid hbs
        clear hbs hbt h1
        go_wp2_with fail
        go_roundw
        case rel => exact ⟨i + 1, by omega, by go_num, by rw [HQ2.out], by rw [HBS.out]; exact HO.out, hBr⟩
        case measure => simp [intOf]; omega
    · obtain rfl : i = 32 := by omega
      go_wp2_with fail
      go_ret
      exact ⟨_, rfl, hown, hBr⟩

set_option maxRecDepth 100000 in
set_option maxHeartbeats 2000000 in
theorem rlength_any (x : Int) (b : Nat) (hb : b < 4294967296) (w : World) :
    Calls Tryz.prog 37 #[.agg #[.int .i64 x, .int .u32 b]] w fun e w' => e = .returned (.int .i64 (lenB x b : Nat)) ∧ Below w.heap.size w w' := by
  have hA := bel_alloc w (.cells #[.int .i64 x, .int .u32 (b : Int)] 46)
  have c0 : (w.alloc (.cells #[.int .i64 x, .int .u32 (b : Int)] 46)).cell? ⟨w.heap.size, 0, none⟩ = some (.int .i64 x) := (cell_of_row _ w.heap.size 0 #[.int .i64 x, .int .u32 (b : Int)] 46 (0, 0) (World.alloc_heap_new w _))
  have c1 : (w.alloc (.cells #[.int .i64 x, .int .u32 (b : Int)] 46)).cell? ⟨w.heap.size, 1, none⟩ = some (.int .u32 (b : Int)) := (cell_of_row _ w.heap.size 1 #[.int .i64 x, .int .u32 (b : Int)] 46 (0, 0) (World.alloc_heap_new w _))
  have hr := rright_any x b hb
  have hl : lenB x b = if rightB x b then Gf.plen b else 0 := rfl
  cases hrb : rightB x b with
  | false =>
    rw [hrb, if_neg (by decide)] at hl
    rw [hrb] at hr
    have HL := Lib.hid hl
    have HR := Lib.hid hr
    clear hl hr hrb
    go_enter Tryz.func37, Tryz.ntmps37
    go_wp2_with fail
    refine (HR.out _).mono ?_
    rintro e w1 ⟨rfl, hb1⟩
    have hB1 := bel_trans hA hb1 (by simp)
    clear hA hb1
    go_wp2_with fail
    go_ret
    exact ⟨by rw [HL.out]; rfl, hB1⟩
  | true =>
    rw [hrb, if_pos rfl] at hl
    have h0 : b ≠ 0 := by
      intro e
      unfold rightB at hrb
      rw [e] at hrb
      simp at hrb
    obtain ⟨hp, hla⟩ := blist_last hb h0
    have hle := blist_len 0 b 32
    rw [hrb] at hr
    have HL := Lib.hid hl
    have HR := Lib.hid hr
    have C0 := Lib.hid c0
    have C1 := Lib.hid c1
    obtain ⟨n, HN⟩ := nm (blist 0 b 32).length
    rw [HN.out] at hp hla hle
    obtain ⟨P, HP⟩ := nm (Gf.plen b)
    rw [HP.out] at hla HL
    have hP := Gf.plen_pos h0
    have hP2 : Gf.plen b ≤ 32 := Gf.plen_le.2 hb
    rw [HP.out] at hP hP2
    have HLA := Lib.hid hla
    clear hl hr hrb c0 c1 h0 hla
    go_enter Tryz.func37, Tryz.ntmps37
    have c0 := C0.out
    have c1 := C1.out
    go_wp2_with fail
    refine (HR.out _).mono ?_
    rintro e w1 ⟨rfl, hb1⟩
    have hB1 := bel_trans hA hb1 (by simp)
    have d0 := cell_keep hb1 C0.out (cell_lt C0.out)
    have d1 := cell_keep hb1 C1.out (cell_lt C1.out)
    clear hA hb1 c0 c1 C0 C1
    go_wp2_with fail
    refine (places_any x b hb _).mono ?_
    rintro e w2 ⟨v2, rfl, ho2, hb2⟩
    have hB2 := bel_trans hB1 hb2 hB1.size
    obtain ⟨a, n', c, rfl, hn', hnc, hcm, -⟩ := ho2.slice
    rw [HN.out] at hn'
    obtain rfl : n = n' := hn'.symm
    obtain ⟨a', c', e', g1, g2, hcs⟩ := ho2.reads
    rw [HN.out] at e' hcs
    cases e'
    obtain ⟨bk, off, rfl, hcell⟩ := hcs.resolve_left (fun h => by omega)
    have cL := hcell (n - 1) (by omega)
    rw [HLA.out] at cL
    have hw1 : IntKind.i64.wrap ((n : Int) - 1) = ((n - 1 : Nat) : Int) := by rw [IntWalk.i64_in _ (by omega)]; omega
    obtain ⟨q, HQ⟩ := nm (n - 1)
    have hqn : (q : Int) < (n : Int) := by have := HQ.out; omega
    have hq0 : (0 : Int) ≤ (q : Int) := by omega
    rw [HQ.out] at hw1 cL
    have hw2 : IntKind.i64.wrap ((P : Int) - 1 + 1) = (P : Int) := by rw [IntWalk.i64_in _ (by omega)]; omega
    have hw3 : (P : Int) - 1 + 1 = (P : Int) := by omega
    clear hcell hcs ho2 hb2 hB1 g1 g2 d0 d1
    go_wp2_with fail
    go_ret
    exact ⟨by first | (rw [HL.out]; done) | (rw [HL.out]; rfl), hB2⟩
end Go.Proofs.YtmjigpnpcacefaaGreatDoor
