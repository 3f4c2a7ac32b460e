/- Bursts: the walks of damage.Right, Length, Bits. Bursts: the walk of damage.Bits. -/
import Derived.Test.YtmjigpnpcacefaaDoorOwnV
namespace Go.Proofs.YtmjigpnpcacefaaDoor
open Go Go.RowKit Go.Shelf

theorem plen_half {q : Nat} (h : q ≠ 0) : Gf.plen q = Gf.plen (q / 2) + 1 := by
  have h1 := Gf.lt_two_plen q
  have h2 := Gf.lt_two_plen (q / 2)
  have h3 : Gf.plen (q / 2) ≤ Gf.plen q - 1 := Gf.plen_le.2 (by
    have e := Gf.plen_pos h
    have : 2 ^ Gf.plen q = 2 * 2 ^ (Gf.plen q - 1) := by
      conv => lhs; rw [show Gf.plen q = (Gf.plen q - 1) + 1 by omega, Nat.pow_succ]
      omega
    omega)
  have h4 : Gf.plen q ≤ Gf.plen (q / 2) + 1 := Gf.plen_le.2 (by rw [Nat.pow_succ]; omega)
  have h5 := Gf.plen_pos h
  omega
/-- Is a burst right? -/
def rightB (x : Int) (b : Nat) : Bool := decide (0 ≤ x) && decide (b % 2 = 1)
def lenB (x : Int) (b : Nat) : Nat := if rightB x b then Gf.plen b else 0
def bitsOk (x : Int) (b : Nat) : Bool := rightB x b && decide (x ≤ 9223372036854775807 - ((Gf.plen b : Int) - 1))
/-- The bits of a burst. -/
def blist (x : Int) (b : Nat) (n : Nat) : List Int := ((List.range n).filter fun i => b.testBit i).map fun (i : Nat) => x + (i : Int)
def bitsV (x : Int) (b : Nat) : List Int := if bitsOk x b then blist x b (Gf.plen b) else []
def bitsE (x : Int) (b : Nat) : Int := if bitsOk x b then 0 else 2
theorem blist_succ (x : Int) (b n : Nat) : blist x b (n + 1) = blist x b n ++ (if b.testBit n then [x + (n : Int)] else []) := by
  unfold blist
  rw [List.range_succ, List.filter_append, List.map_append]
  congr 1
  cases h : b.testBit n <;> simp [h]
theorem blist_len (x : Int) (b n : Nat) : (blist x b n).length ≤ n := by
  unfold blist
  rw [List.length_map]
  have := List.length_filter_le (fun i => b.testBit i) (List.range n)
  simpa using this

theorem and_one32 (b : Nat) (h : b < 4294967296) : bits BinOp.and IntKind.u32 (b : Int) 1 = ((b % 2 : Nat) : Int) := by
  rw [show (1 : Int) = ((1 : Nat) : Int) from rfl, u32_and_nat _ _ h (by decide), nat_mask1]

theorem right_any (x : Int) (b : Nat) (hb : b < 4294967296) (w : World) :
    Calls Tryd.prog 21 #[.agg #[.int .i64 x, .int .u32 b]] w fun e w' => e = .returned (.bool (rightB x b)) ∧ Below w.heap.size w w' := by
  have ha := and_one32 b hb
  have hB := bel_alloc w (.cells #[.int .i64 x, .int .u32 (b : Int)] 24)
  have c0 := (cell_of_row _ w.heap.size 0 #[.int .i64 x, .int .u32 (b : Int)] 24 (0, 0) (World.alloc_heap_new w _))
  have c1 := (cell_of_row _ w.heap.size 1 #[.int .i64 x, .int .u32 (b : Int)] 24 (0, 0) (World.alloc_heap_new w _))
  by_cases h0 : 0 ≤ x
  · by_cases h1 : b % 2 = 1
    · have hr : rightB x b = true := by unfold rightB; rw [decide_eq_true h0, decide_eq_true h1]; rfl
      rw [h1] at ha
      rw [hr]
      clear h1 hr
      go_enter Tryd.func21, Tryd.ntmps21
      go_wp2_with fail
      go_ret
      exact ⟨rfl, hB⟩
    · have hr : rightB x b = false := by unfold rightB; rw [decide_eq_true h0, decide_eq_false h1]; rfl
      rw [show b % 2 = 0 by omega] at ha
      rw [hr]
      clear h1 hr
      go_enter Tryd.func21, Tryd.ntmps21
      go_wp2_with fail
      go_ret
      exact ⟨rfl, hB⟩
  · have hr : rightB x b = false := by unfold rightB; rw [decide_eq_false h0]; rfl
    rw [hr]
    clear hr ha
    go_enter Tryd.func21, Tryd.ntmps21
    go_wp2_with fail
    go_ret
    exact ⟨rfl, hB⟩
theorem len_step (b k : Nat) (h : b / 2 ^ k ≠ 0) : Gf.plen (b / 2 ^ k) = Gf.plen (b / 2 ^ (k + 1)) + 1 := by
  rw [plen_half h, Nat.div_div_eq_div_mul, ← Nat.pow_succ]
set_option maxRecDepth 100000 in
set_option maxHeartbeats 1000000 in
theorem length_any (x : Int) (b : Nat) (hb : b < 4294967296) (w : World) :
    Calls Tryd.prog 17 #[.agg #[.int .i64 x, .int .u32 b]] w fun e w' => e = .returned (.int .i64 (lenB x b : Nat)) ∧ Below w.heap.size w w' := by
  have hp : Gf.plen b ≤ 32 := Gf.plen_le.2 hb
  have hA := bel_alloc w (.cells #[.int .i64 x, .int .u32 (b : Int)] 24)
  have c0 : (w.alloc (.cells #[.int .i64 x, .int .u32 (b : Int)] 24)).cell? ⟨w.heap.size, 0, none⟩ = some (.int .i64 x) := (cell_of_row _ w.heap.size 0 #[.int .i64 x, .int .u32 (b : Int)] 24 (0, 0) (World.alloc_heap_new w _))
  have c1 : (w.alloc (.cells #[.int .i64 x, .int .u32 (b : Int)] 24)).cell? ⟨w.heap.size, 1, none⟩ = some (.int .u32 (b : Int)) := (cell_of_row _ w.heap.size 1 #[.int .i64 x, .int .u32 (b : Int)] 24 (0, 0) (World.alloc_heap_new w _))
  have hr := right_any x b hb
  have hl : lenB x b = if rightB x b then Gf.plen b else 0 := rfl
  cases hrb : rightB x b with
  | false =>
    rw [hrb, if_neg (by decide)] at hl
    rw [hrb] at hr
    have HL := Lib.hid hl
    have HR := Lib.hid hr
    clear hl hr hrb c0 c1
    go_enter Tryd.func17, Tryd.ntmps17
    go_wp2_with fail
    refine (HR.out _).mono ?_
    rintro e w1 ⟨rfl, hb1⟩
    have hB1 := bel_trans hA hb1 (by simp)
    clear hA hb1
    go_wp2_with fail
    go_ret
    exact ⟨by rw [HL.out]; rfl, hB1⟩
  | true =>
    rw [hrb, if_pos rfl] at hl
    rw [hrb] at hr
    have HL := Lib.hid hl
    have HR := Lib.hid hr
    have C0 := Lib.hid c0
    have C1 := Lib.hid c1
    clear hl hr hrb c0 c1
    go_enter Tryd.func17, Tryd.ntmps17
    have c0 := C0.out
    have c1 := C1.out
    go_wp2_with fail
    refine (HR.out _).mono ?_
    rintro e w1 ⟨rfl, hb1⟩
    have hB1 := bel_trans hA hb1 (by simp)
    have d1 := cell_keep hb1 C1.out (cell_lt C1.out)
    clear hA hb1 c0 c1 C0 C1
    go_wp2_with fail
    go_loop [3, 4] (fun vn vw => ∃ k : Nat, k ≤ Gf.plen b ∧ vn = .int .i64 (k : Int) ∧ vw = .int .u32 ((b / 2 ^ k : Nat) : Int) ∧ Hid (Gf.plen b = k + Gf.plen (b / 2 ^ k))) (fun vn _ => Gf.plen b - (intOf vn).toNat)
    case atStart => exact ⟨0, Nat.zero_le _, rfl, by rw [Nat.pow_zero, Nat.div_one], Lib.hid (by rw [Nat.pow_zero, Nat.div_one]; omega)⟩
    case round =>
      obtain ⟨k, hk, rfl, rfl, HK⟩ := hrel
      have hst := len_step b k
      have hh : b / 2 ^ (k + 1) = b / 2 ^ k / 2 := by rw [Nat.pow_succ, ← Nat.div_div_eq_div_mul]
      have hq32 : b / 2 ^ k < 4294967296 := Nat.lt_of_le_of_lt (Nat.div_le_self _ _) hb
      have hpz : Gf.plen 0 = 0 := rfl
      obtain ⟨q, HQ⟩ := nm (b / 2 ^ k)
      obtain ⟨q2, HQ2⟩ := nm (b / 2 ^ (k + 1))
      rw [HQ.out] at hst hh HK hq32 ⊢
      rw [HQ2.out] at hst hh
      have hk32 : k ≤ 32 := by omega
      by_cases h0 : q = 0
      · have hpb : Gf.plen b = k := by have := HK.out; rw [h0, hpz] at this; omega
        have HP := Lib.hid hpb
        have hz : ((q : Int) == 0) = true := by rw [h0]; rfl
        clear hst hh h0 hpb hpz
        go_wp2_with fail
        go_ret
        exact ⟨by rw [HL.out, HP.out]; rfl, hB1⟩
      · have hst2 := hst h0
        have hz : ((q : Int) == 0) = false := beq_false_of_ne (by omega)
        have hd2 : (q : Int) / 2 = (q2 : Int) := by omega
        have hkk : k < Gf.plen b := by have := HK.out; omega
        have HK2 := Lib.hid (show Gf.plen b = k + 1 + Gf.plen q2 by have := HK.out; omega)
        have HPL := Lib.hid hkk
        clear hst hh h0 hst2 hkk hpz
        go_wp2_with fail
        go_round
        case rel => exact ⟨k + 1, HPL.out, by go_num, by rw [HQ2.out], by rw [HQ2.out]; exact HK2⟩
        case measure => simp [intOf]; have := HPL.out; omega
end Go.Proofs.YtmjigpnpcacefaaDoor
namespace Go.Proofs.YtmjigpnpcacefaaDoor
open Go Go.RowKit Go.Shelf

theorem and_bit_beq32 (p k : Nat) (h : p < 4294967296) : (bits BinOp.and IntKind.u32 ((p : Int) / 2 ^ k) 1 == 1) = p.testBit k := by
  have e : ((p : Int) / 2 ^ k) = ((p / 2 ^ k : Nat) : Int) := by simp
  rw [e, and_one32 _ (Nat.lt_of_le_of_lt (Nat.div_le_self _ _) h), Nat.testBit_eq_decide_div_mod_eq]
  rcases Nat.mod_two_eq_zero_or_one (p / 2 ^ k) with h | h <;> rw [h] <;> rfl

set_option maxRecDepth 100000 in
set_option maxHeartbeats 2000000 in
theorem bits_any (x : Int) (b : Nat) (hb : b < 4294967296) (hx : -9223372036854775808 ≤ x ∧ x ≤ 9223372036854775807) (w : World) :
    Calls Tryd.prog 19 #[.agg #[.int .i64 x, .int .u32 b]] w fun e w' => ∃ v', e = .returned (.tuple #[v', .int .i64 (bitsE x b)]) ∧ OwnsI .i64 3 w' w.heap.size v' (bitsV x b) ∧ Below w.heap.size w w' := by
  have hp : Gf.plen b ≤ 32 := Gf.plen_le.2 hb
  have c0 : (w.alloc (.cells #[.int .i64 x, .int .u32 (b : Int)] 24)).cell? ⟨w.heap.size, 0, none⟩ = some (.int .i64 x) := (cell_of_row _ w.heap.size 0 #[.int .i64 x, .int .u32 (b : Int)] 24 (0, 0) (World.alloc_heap_new w _))
  have c1 : (w.alloc (.cells #[.int .i64 x, .int .u32 (b : Int)] 24)).cell? ⟨w.heap.size, 1, none⟩ = some (.int .u32 (b : Int)) := (cell_of_row _ w.heap.size 1 #[.int .i64 x, .int .u32 (b : Int)] 24 (0, 0) (World.alloc_heap_new w _))
  have hA := bel_alloc w (.cells #[.int .i64 x, .int .u32 (b : Int)] 24)
  have hr := right_any x b hb
  have hl := length_any x b hb
  have hV : bitsV x b = if bitsOk x b then blist x b (Gf.plen b) else [] := rfl
  have hE : bitsE x b = if bitsOk x b then 0 else 2 := rfl
  have hO : bitsOk x b = (rightB x b && decide (x ≤ 9223372036854775807 - ((Gf.plen b : Int) - 1))) := rfl
  have hL : lenB x b = if rightB x b then Gf.plen b else 0 := rfl
  have hsz : (w.alloc (.cells #[.int .i64 x, .int .u32 (b : Int)] 24)).heap.size = w.heap.size + 1 := by simp
  have hHK : ∀ wa, wa = w.alloc (.cells #[.int .i64 x, .int .u32 (b : Int)] 24) → ∀ W, Below wa.heap.size wa W → Below wa.heap.size wa W ∧ W.cell? ⟨w.heap.size, 0, none⟩ = some (.int .i64 x) ∧ W.cell? ⟨w.heap.size, 1, none⟩ = some (.int .u32 (b : Int)) := by
    rintro wa rfl W hW
    exact ⟨hW, cell_keep hW c0 (cell_lt c0), cell_keep hW c1 (cell_lt c1)⟩
  have HHK := Lib.hid hHK
  have HSZ := Lib.hid hsz
  clear c0 c1 hHK hsz
  cases hrb : rightB x b with
  | false =>
    rw [hrb] at hr hO
    rw [hO] at hV hE
    simp only [Bool.false_and, Bool.false_eq_true, if_false] at hV hE
    rw [hV, hE]
    have HR := Lib.hid hr
    clear hr hl hO hL hV hE hrb
    go_enter Tryd.func19, Tryd.ntmps19
    go_wp2_with fail
    obtain ⟨wa, hwa⟩ : ∃ wa, wa = w.alloc (.cells #[.int .i64 x, .int .u32 (b : Int)] 24) := ⟨_, rfl⟩
    have HK := Lib.hid (HHK.out wa hwa)
    rw [← hwa]
    rw [← hwa] at hA HSZ
    clear hwa HHK
    have hD : Below wa.heap.size wa wa.drew := (bel_refl wa).drew
    refine wp_region_held_drew (S := fun W => Below wa.heap.size wa W ∧ W.cell? ⟨w.heap.size, 0, none⟩ = some (.int .i64 x) ∧ W.cell? ⟨w.heap.size, 1, none⟩ = some (.int .u32 (b : Int))) (by kernel_rfl) (HK.out _ hD) (fun hS => ?_)
    refine wpAnyH_takeD (i := 0) (d := some 6) (v := ?_) rfl rfl (by kernel_rfl) (by kernel_rfl) (by kernel_rfl) (fun _ _ _ h => h) (Or.inl ⟨by rfl, fun w hSw => ?_⟩) (by assumption) ?_
    rotate_left
    · first | (go_simp; done) | (go_simp; with_reducible rfl)
    simp only [Act.put, List.setIfInBounds_toArray, List.set_cons_zero, List.set_cons_succ]
    refine wpAnyH_ready (rs := [1]) (by kernel_rfl) (by simp) ?_
    refine AllReadyH.cons rfl (fun K hK => ?_) AllReadyH.nil
    go_simp
    refine (HR.out _).mono ?_
    rintro e wb ⟨rfl, hb⟩
    have hD1 := hD.trans (hb.mono hD.size)
    clear hb
    refine hK _ _ (HK.out _ hD1) (fun hS' => ?_)
    clear hK K hS
    have hS := hS'
    clear hS'
    try simp only [Act.put, List.setIfInBounds_toArray, List.set_cons_zero, List.set_cons_succ]
    refine wpAnyH_takeD (i := 2) (d := some 8) (v := ?_) rfl rfl (by kernel_rfl) (by kernel_rfl) (by kernel_rfl) (fun _ _ _ h => h) (Or.inl ⟨by rfl, fun w hSw => ?_⟩) (by assumption) ?_
    rotate_left
    · first | (go_simp; done) | (go_simp; with_reducible rfl)
    simp only [Act.put, List.setIfInBounds_toArray, List.set_cons_zero, List.set_cons_succ]
    refine wpAnyH_takeD (i := 3) (d := some 9) (v := ?_) rfl rfl (by kernel_rfl) (by kernel_rfl) (by kernel_rfl) (fun _ _ _ h => h) (Or.inl ⟨by rfl, fun w hSw => ?_⟩) (by assumption) ?_
    rotate_left
    · first | (go_simp; done) | (go_simp; with_reducible rfl)
    simp only [Act.put, List.setIfInBounds_toArray, List.set_cons_zero, List.set_cons_succ]
    refine wpAnyH_takeD (i := 4) (d := some 10) rfl rfl (by kernel_rfl) (by kernel_rfl) (by kernel_rfl) (fun _ _ _ h => h) (Or.inr ⟨by rfl, rfl⟩) (by assumption) ?_
    simp only [Act.put, List.setIfInBounds_toArray, List.set_cons_zero, List.set_cons_succ]
    refine wpAnyH_takeD (i := 5) (d := some 11) rfl rfl (by kernel_rfl) (by kernel_rfl) (by kernel_rfl) (fun _ _ _ h => h) (Or.inr ⟨by rfl, rfl⟩) (by assumption) ?_
    simp only [Act.put, List.setIfInBounds_toArray, List.set_cons_zero, List.set_cons_succ]
    refine wpAnyH_takeD (i := 6) (d := some 12) rfl rfl (by kernel_rfl) (by kernel_rfl) (by kernel_rfl) (fun _ _ _ h => h) (Or.inr ⟨by rfl, rfl⟩) (by assumption) ?_
    simp only [Act.put, List.setIfInBounds_toArray, List.set_cons_zero, List.set_cons_succ]
    refine wpAnyH_takeD (i := 7) (d := some 13) rfl rfl (by kernel_rfl) (by kernel_rfl) (by kernel_rfl) (fun _ _ _ h => h) (Or.inr ⟨by rfl, rfl⟩) (by assumption) ?_
    simp only [Act.put, List.setIfInBounds_toArray, List.set_cons_zero, List.set_cons_succ]
    refine wpAnyH_takeD (i := 8) (d := some 14) rfl rfl (by kernel_rfl) (by kernel_rfl) (by kernel_rfl) (fun _ _ _ h => h) (Or.inr ⟨by rfl, rfl⟩) (by assumption) ?_
    simp only [Act.put, List.setIfInBounds_toArray, List.set_cons_zero, List.set_cons_succ]
    refine wpAnyH_takeD (i := 9) (d := some 15) rfl rfl (by kernel_rfl) (by kernel_rfl) (by kernel_rfl) (fun _ _ _ h => h) (Or.inr ⟨by rfl, rfl⟩) (by assumption) ?_
    simp only [Act.put, List.setIfInBounds_toArray, List.set_cons_zero, List.set_cons_succ]
    refine wpAnyH_takeD (i := 10) (d := some 16) rfl rfl (by kernel_rfl) (by kernel_rfl) (by kernel_rfl) (fun _ _ _ h => h) (Or.inr ⟨by rfl, rfl⟩) (by assumption) ?_
    simp only [Act.put, List.setIfInBounds_toArray, List.set_cons_zero, List.set_cons_succ]
    refine wpAnyH_takeD (i := 11) (d := some 17) (v := ?_) rfl rfl (by kernel_rfl) (by kernel_rfl) (by kernel_rfl) (fun _ _ _ h => h) (Or.inl ⟨by rfl, fun w hSw => ?_⟩) (by assumption) ?_
    rotate_left
    · first | (go_simp; done) | (go_simp; with_reducible rfl)
    simp only [Act.put, List.setIfInBounds_toArray, List.set_cons_zero, List.set_cons_succ]
    refine wpAnyH_done (by kernel_rfl) ?_ _
    go_wp2_with fail
    go_ret2
    exact ⟨_, rfl, OwnsI.nil _ _ _ _, hA.trans (hD1.mono hA.size)⟩
  | true =>
    rw [hrb] at hr hO hL
    rw [if_pos rfl] at hL
    rw [hL] at hl
    rw [Bool.true_and] at hO
    have h2 : b % 2 = 1 ∧ 0 ≤ x := by
      unfold rightB at hrb
      simp only [Bool.and_eq_true, decide_eq_true_eq] at hrb
      exact ⟨hrb.2, hrb.1⟩
    have hpp : 1 ≤ Gf.plen b := Gf.plen_pos (by omega)
    obtain ⟨n, HN⟩ := nm (Gf.plen b)
    simp only [HN.out] at hl
    rw [HN.out] at hV hO hp hpp
    have HR := Lib.hid hr
    have HL := Lib.hid hl
    clear hr hl hL hrb
    by_cases hok : x ≤ 9223372036854775807 - ((n : Int) - 1)
    · rw [decide_eq_true hok] at hO
      rw [hO, if_pos rfl] at hV hE
      rw [hV, hE]
      clear hO hV hE
      go_enter Tryd.func19, Tryd.ntmps19
      go_wp2_with fail
      obtain ⟨wa, hwa⟩ : ∃ wa, wa = w.alloc (.cells #[.int .i64 x, .int .u32 (b : Int)] 24) := ⟨_, rfl⟩
      have HK := Lib.hid (HHK.out wa hwa)
      rw [← hwa]
      rw [← hwa] at hA HSZ
      clear hwa HHK
      have hD : Below wa.heap.size wa wa.drew := (bel_refl wa).drew
      have hs1 : IntKind.i64.wrap ((n : Int) - 1) = (n : Int) - 1 := IntWalk.i64_in _ (by omega)
      have hs2 : IntKind.i64.wrap (9223372036854775807 - ((n : Int) - 1)) = 9223372036854775807 - ((n : Int) - 1) := IntWalk.i64_in _ (by omega)
      have hgt : decide (9223372036854775807 - ((n : Int) - 1) < x) = false := decide_eq_false (by omega)
      refine wp_region_held_drew (S := fun W => Below wa.heap.size wa W ∧ W.cell? ⟨w.heap.size, 0, none⟩ = some (.int .i64 x) ∧ W.cell? ⟨w.heap.size, 1, none⟩ = some (.int .u32 (b : Int))) (by kernel_rfl) (HK.out _ hD) (fun hS => ?_)
      refine wpAnyH_takeD (i := 0) (d := some 6) (v := ?_) rfl rfl (by kernel_rfl) (by kernel_rfl) (by kernel_rfl) (fun _ _ _ h => h) (Or.inl ⟨by rfl, fun w hSw => ?_⟩) (by assumption) ?_
      rotate_left
      · first | (go_simp; done) | (go_simp; with_reducible rfl)
      simp only [Act.put, List.setIfInBounds_toArray, List.set_cons_zero, List.set_cons_succ]
      refine wpAnyH_ready (rs := [1]) (by kernel_rfl) (by simp) ?_
      refine AllReadyH.cons rfl (fun K hK => ?_) AllReadyH.nil
      go_simp
      refine (HR.out _).mono ?_
      rintro e wb ⟨rfl, hb⟩
      have hD1 := hD.trans (hb.mono hD.size)
      clear hb
      refine hK _ _ (HK.out _ hD1) (fun hS' => ?_)
      clear hK K hS
      have hS := hS'
      clear hS'
      try simp only [Act.put, List.setIfInBounds_toArray, List.set_cons_zero, List.set_cons_succ]
      refine wpAnyH_takeD (i := 2) (d := some 8) (v := ?_) rfl rfl (by kernel_rfl) (by kernel_rfl) (by kernel_rfl) (fun _ _ _ h => h) (Or.inl ⟨by rfl, fun w hSw => ?_⟩) (by assumption) ?_
      rotate_left
      · first | (go_simp; done) | (go_simp; with_reducible rfl)
      simp only [Act.put, List.setIfInBounds_toArray, List.set_cons_zero, List.set_cons_succ]
      refine wpAnyH_takeD (i := 3) (d := some 9) (v := ?_) rfl rfl (by kernel_rfl) (by kernel_rfl) (by kernel_rfl) (fun _ _ _ h => h) (Or.inl ⟨by rfl, fun w hSw => ?_⟩) (by assumption) ?_
      rotate_left
      · first | (go_simp; done) | (go_simp; with_reducible rfl)
      simp only [Act.put, List.setIfInBounds_toArray, List.set_cons_zero, List.set_cons_succ]
      refine wpAnyH_takeD (i := 4) (d := some 10) (v := ?_) rfl rfl (by kernel_rfl) (by kernel_rfl) (by kernel_rfl) (fun _ _ _ h => h) (Or.inl ⟨by rfl, fun w hSw => ?_⟩) (by assumption) ?_
      rotate_left
      · first | (go_simp; done) | (go_simp; with_reducible rfl)
      simp only [Act.put, List.setIfInBounds_toArray, List.set_cons_zero, List.set_cons_succ]
      refine wpAnyH_takeD (i := 5) (d := some 11) (v := ?_) rfl rfl (by kernel_rfl) (by kernel_rfl) (by kernel_rfl) (fun _ _ _ h => h) (Or.inl ⟨by rfl, fun w hSw => ?_⟩) (by assumption) ?_
      rotate_left
      · first | (go_simp; done) | (go_simp; with_reducible rfl)
      simp only [Act.put, List.setIfInBounds_toArray, List.set_cons_zero, List.set_cons_succ]
      refine wpAnyH_takeD (i := 6) (d := some 12) (v := ?_) rfl rfl (by kernel_rfl) (by kernel_rfl) (by kernel_rfl) (fun _ _ _ h => h) (Or.inl ⟨by rfl, fun w hSw => ?_⟩) (by assumption) ?_
      rotate_left
      · first | (go_simp; done) | (go_simp; with_reducible rfl)
      simp only [Act.put, List.setIfInBounds_toArray, List.set_cons_zero, List.set_cons_succ]
      refine wpAnyH_ready (rs := [7]) (by kernel_rfl) (by simp) ?_
      refine AllReadyH.cons rfl (fun K hK => ?_) AllReadyH.nil
      go_simp
      refine (HL.out _).mono ?_
      rintro e wc ⟨rfl, hb⟩
      have hD2 := hD1.trans (hb.mono hD1.size)
      clear hb
      refine hK _ _ (HK.out _ hD2) (fun hS' => ?_)
      clear hK K hS
      have hS := hS'
      clear hS'
      try simp only [Act.put, List.setIfInBounds_toArray, List.set_cons_zero, List.set_cons_succ]
      refine wpAnyH_takeD (i := 8) (d := some 14) (v := ?_) rfl rfl (by kernel_rfl) (by kernel_rfl) (by kernel_rfl) (fun _ _ _ h => h) (Or.inl ⟨by rfl, fun w hSw => ?_⟩) (by assumption) ?_
      rotate_left
      · first | (go_simp; done) | (go_simp; with_reducible rfl)
      simp only [Act.put, List.setIfInBounds_toArray, List.set_cons_zero, List.set_cons_succ]
      refine wpAnyH_takeD (i := 9) (d := some 15) (v := ?_) rfl rfl (by kernel_rfl) (by kernel_rfl) (by kernel_rfl) (fun _ _ _ h => h) (Or.inl ⟨by rfl, fun w hSw => ?_⟩) (by assumption) ?_
      rotate_left
      · first | (go_simp; done) | (go_simp; with_reducible rfl)
      simp only [Act.put, List.setIfInBounds_toArray, List.set_cons_zero, List.set_cons_succ]
      refine wpAnyH_takeD (i := 10) (d := some 16) (v := ?_) rfl rfl (by kernel_rfl) (by kernel_rfl) (by kernel_rfl) (fun _ _ _ h => h) (Or.inl ⟨by rfl, fun w hSw => ?_⟩) (by assumption) ?_
      rotate_left
      · first | (go_simp; done) | (go_simp; with_reducible rfl)
      simp only [Act.put, List.setIfInBounds_toArray, List.set_cons_zero, List.set_cons_succ]
      refine wpAnyH_takeD (i := 11) (d := some 17) (v := ?_) rfl rfl (by kernel_rfl) (by kernel_rfl) (by kernel_rfl) (fun _ _ _ h => h) (Or.inl ⟨by rfl, fun w hSw => ?_⟩) (by assumption) ?_
      rotate_left
      · first | (go_simp; done) | (go_simp; with_reducible rfl)
      simp only [Act.put, List.setIfInBounds_toArray, List.set_cons_zero, List.set_cons_succ]
      refine wpAnyH_done (by kernel_rfl) ?_ _
      clear hs1 hs2 hgt
      obtain ⟨hS1, hS2, hS3⟩ := hS
      go_wp2_with fail
      refine (HL.out _).mono ?_
      rintro e wd ⟨rfl, hb⟩
      have hD3 := hD2.trans (hb.mono hD2.size)
      obtain ⟨_, e0, e1⟩ := HK.out _ hD3
      have HBd := Lib.hid (hA.trans (hD3.mono hA.size))
      have hlt : w.heap.size < wd.heap.size := by have := hD3.size; rw [HSZ.out] at this; omega
      clear hb hS1 hS2 hS3 hD hD1 hD2 hD3 HK HR HL
      go_wp2_with fail
      go_loopw [4, 20] (fun vo vi wr => ∃ i : Nat, i ≤ n ∧ vi = .int .i64 (i : Int) ∧ OwnsI .i64 3 wr wd.heap.size vo (blist x b i) ∧ Below wd.heap.size wd wr) (fun _ vi _ => n - (intOf vi).toNat)
      case atStart => exact ⟨0, Nat.zero_le _, rfl, OwnsI.nil _ _ _ _, bel_refl _⟩
      case round =>
        obtain ⟨i, hi, rfl, hown, hBr⟩ := hrel
        have hsz := hBr.size
        by_cases hin : i < n
        · have f0 := cell_keep hBr e0 (cell_lt e0)
          have f1 := cell_keep hBr e1 (cell_lt e1)
          have hbt := and_bit_beq32 b i hb
          have hbs := blist_succ x b i
          have hbl := blist_len x b i
          have HO := Lib.hid hown
          clear hown
          cases hb2 : b.testBit i with
          | false =>
            rw [hb2] at hbt
            rw [hb2, if_neg (by decide), List.append_nil] at hbs
            have HBS := Lib.hid hbs
            clear hbs hb2
            go_wp2_with fail
            go_roundw
            case rel => exact ⟨i + 1, by omega, by go_num, by rw [HBS.out]; exact HO.out, hBr⟩
            case measure => simp [intOf]; omega
          | true =>
            rw [hb2] at hbt
            rw [hb2, if_pos rfl] at hbs
            have HBS := Lib.hid hbs
            have hlen : (blist x b i).length < 17592186044414 := by omega
            clear hbs hb2
            go_wp2_with (at_builtin; refine wpl_app1I rfl (.tmp 29) (.tmp 34) 25 rfl .i64 3 8 Tryd.underlying25 info_int (by decide) wd.heap.size _ (blist x b i) wr HO.out rfl (x + (i : Int)) rfl hlen hsz ?_; intro v' w1 hown' hB')
            go_roundw
            case rel => exact ⟨i + 1, by omega, by go_num, by rw [HBS.out]; exact hown', hBr.trans hB'⟩
            case measure => simp [intOf]; omega
        · obtain rfl : i = n := by omega
          have HBW := HBd.out.trans (hBr.mono (Nat.le_of_lt hlt))
          have HOW := hown.mono (Nat.le_of_lt hlt)
          clear hown hBr
          go_wp2_with fail
          go_ret2
          exact ⟨_, rfl, HOW, HBW⟩
    · rw [decide_eq_false hok] at hO
      rw [hO, if_neg (by decide)] at hV hE
      rw [hV, hE]
      clear hO hV hE
      go_enter Tryd.func19, Tryd.ntmps19
      go_wp2_with fail
      obtain ⟨wa, hwa⟩ : ∃ wa, wa = w.alloc (.cells #[.int .i64 x, .int .u32 (b : Int)] 24) := ⟨_, rfl⟩
      have HK := Lib.hid (HHK.out wa hwa)
      rw [← hwa]
      rw [← hwa] at hA HSZ
      clear hwa HHK
      have hD : Below wa.heap.size wa wa.drew := (bel_refl wa).drew
      have hs1 : IntKind.i64.wrap ((n : Int) - 1) = (n : Int) - 1 := IntWalk.i64_in _ (by omega)
      have hs2 : IntKind.i64.wrap (9223372036854775807 - ((n : Int) - 1)) = 9223372036854775807 - ((n : Int) - 1) := IntWalk.i64_in _ (by omega)
      have hgt : decide (9223372036854775807 - ((n : Int) - 1) < x) = true := decide_eq_true (by omega)
      refine wp_region_held_drew (S := fun W => Below wa.heap.size wa W ∧ W.cell? ⟨w.heap.size, 0, none⟩ = some (.int .i64 x) ∧ W.cell? ⟨w.heap.size, 1, none⟩ = some (.int .u32 (b : Int))) (by kernel_rfl) (HK.out _ hD) (fun hS => ?_)
      refine wpAnyH_takeD (i := 0) (d := some 6) (v := ?_) rfl rfl (by kernel_rfl) (by kernel_rfl) (by kernel_rfl) (fun _ _ _ h => h) (Or.inl ⟨by rfl, fun w hSw => ?_⟩) (by assumption) ?_
      rotate_left
      · first | (go_simp; done) | (go_simp; with_reducible rfl)
      simp only [Act.put, List.setIfInBounds_toArray, List.set_cons_zero, List.set_cons_succ]
      refine wpAnyH_ready (rs := [1]) (by kernel_rfl) (by simp) ?_
      refine AllReadyH.cons rfl (fun K hK => ?_) AllReadyH.nil
      go_simp
      refine (HR.out _).mono ?_
      rintro e wb ⟨rfl, hb⟩
      have hD1 := hD.trans (hb.mono hD.size)
      clear hb
      refine hK _ _ (HK.out _ hD1) (fun hS' => ?_)
      clear hK K hS
      have hS := hS'
      clear hS'
      try simp only [Act.put, List.setIfInBounds_toArray, List.set_cons_zero, List.set_cons_succ]
      refine wpAnyH_takeD (i := 2) (d := some 8) (v := ?_) rfl rfl (by kernel_rfl) (by kernel_rfl) (by kernel_rfl) (fun _ _ _ h => h) (Or.inl ⟨by rfl, fun w hSw => ?_⟩) (by assumption) ?_
      rotate_left
      · first | (go_simp; done) | (go_simp; with_reducible rfl)
      simp only [Act.put, List.setIfInBounds_toArray, List.set_cons_zero, List.set_cons_succ]
      refine wpAnyH_takeD (i := 3) (d := some 9) (v := ?_) rfl rfl (by kernel_rfl) (by kernel_rfl) (by kernel_rfl) (fun _ _ _ h => h) (Or.inl ⟨by rfl, fun w hSw => ?_⟩) (by assumption) ?_
      rotate_left
      · first | (go_simp; done) | (go_simp; with_reducible rfl)
      simp only [Act.put, List.setIfInBounds_toArray, List.set_cons_zero, List.set_cons_succ]
      refine wpAnyH_takeD (i := 4) (d := some 10) (v := ?_) rfl rfl (by kernel_rfl) (by kernel_rfl) (by kernel_rfl) (fun _ _ _ h => h) (Or.inl ⟨by rfl, fun w hSw => ?_⟩) (by assumption) ?_
      rotate_left
      · first | (go_simp; done) | (go_simp; with_reducible rfl)
      simp only [Act.put, List.setIfInBounds_toArray, List.set_cons_zero, List.set_cons_succ]
      refine wpAnyH_takeD (i := 5) (d := some 11) (v := ?_) rfl rfl (by kernel_rfl) (by kernel_rfl) (by kernel_rfl) (fun _ _ _ h => h) (Or.inl ⟨by rfl, fun w hSw => ?_⟩) (by assumption) ?_
      rotate_left
      · first | (go_simp; done) | (go_simp; with_reducible rfl)
      simp only [Act.put, List.setIfInBounds_toArray, List.set_cons_zero, List.set_cons_succ]
      refine wpAnyH_takeD (i := 6) (d := some 12) (v := ?_) rfl rfl (by kernel_rfl) (by kernel_rfl) (by kernel_rfl) (fun _ _ _ h => h) (Or.inl ⟨by rfl, fun w hSw => ?_⟩) (by assumption) ?_
      rotate_left
      · first | (go_simp; done) | (go_simp; with_reducible rfl)
      simp only [Act.put, List.setIfInBounds_toArray, List.set_cons_zero, List.set_cons_succ]
      refine wpAnyH_ready (rs := [7]) (by kernel_rfl) (by simp) ?_
      refine AllReadyH.cons rfl (fun K hK => ?_) AllReadyH.nil
      go_simp
      refine (HL.out _).mono ?_
      rintro e wc ⟨rfl, hb⟩
      have hD2 := hD1.trans (hb.mono hD1.size)
      clear hb
      refine hK _ _ (HK.out _ hD2) (fun hS' => ?_)
      clear hK K hS
      have hS := hS'
      clear hS'
      try simp only [Act.put, List.setIfInBounds_toArray, List.set_cons_zero, List.set_cons_succ]
      refine wpAnyH_takeD (i := 8) (d := some 14) (v := ?_) rfl rfl (by kernel_rfl) (by kernel_rfl) (by kernel_rfl) (fun _ _ _ h => h) (Or.inl ⟨by rfl, fun w hSw => ?_⟩) (by assumption) ?_
      rotate_left
      · first | (go_simp; done) | (go_simp; with_reducible rfl)
      simp only [Act.put, List.setIfInBounds_toArray, List.set_cons_zero, List.set_cons_succ]
      refine wpAnyH_takeD (i := 9) (d := some 15) (v := ?_) rfl rfl (by kernel_rfl) (by kernel_rfl) (by kernel_rfl) (fun _ _ _ h => h) (Or.inl ⟨by rfl, fun w hSw => ?_⟩) (by assumption) ?_
      rotate_left
      · first | (go_simp; done) | (go_simp; with_reducible rfl)
      simp only [Act.put, List.setIfInBounds_toArray, List.set_cons_zero, List.set_cons_succ]
      refine wpAnyH_takeD (i := 10) (d := some 16) (v := ?_) rfl rfl (by kernel_rfl) (by kernel_rfl) (by kernel_rfl) (fun _ _ _ h => h) (Or.inl ⟨by rfl, fun w hSw => ?_⟩) (by assumption) ?_
      rotate_left
      · first | (go_simp; done) | (go_simp; with_reducible rfl)
      simp only [Act.put, List.setIfInBounds_toArray, List.set_cons_zero, List.set_cons_succ]
      refine wpAnyH_takeD (i := 11) (d := some 17) (v := ?_) rfl rfl (by kernel_rfl) (by kernel_rfl) (by kernel_rfl) (fun _ _ _ h => h) (Or.inl ⟨by rfl, fun w hSw => ?_⟩) (by assumption) ?_
      rotate_left
      · first | (go_simp; done) | (go_simp; with_reducible rfl)
      simp only [Act.put, List.setIfInBounds_toArray, List.set_cons_zero, List.set_cons_succ]
      refine wpAnyH_done (by kernel_rfl) ?_ _
      clear hs1 hs2 hgt
      go_wp2_with fail
      go_ret2
      exact ⟨_, rfl, OwnsI.nil _ _ _ _, hA.trans (hD2.mono hA.size)⟩
end Go.Proofs.YtmjigpnpcacefaaDoor
