/- The walks of damage.Strike, Found, piece. -/
import Derived.Test.YtmjigpnpcacefaaDoorDmgD
namespace Go.Proofs.YtmjigpnpcacefaaDoor
open Go Go.RowKit Go.Shelf

theorem blist_mem {x : Int} {b n : Nat} {k : Int} (h : k ∈ blist x b n) : ∃ i : Nat, i < n ∧ b.testBit i = true ∧ k = x + (i : Int) := by
  unfold blist at h
  obtain ⟨i, hi, rfl⟩ := List.mem_map.1 h
  obtain ⟨h1, h2⟩ := List.mem_filter.1 hi
  exact ⟨i, List.mem_range.1 h1, h2, rfl⟩
theorem bitsOk_le {x : Int} {b : Nat} (h : bitsOk x b = true) : 0 ≤ x ∧ b % 2 = 1 ∧ x ≤ 9223372036854775807 - ((Gf.plen b : Int) - 1) := by
  unfold bitsOk rightB at h
  simp only [Bool.and_eq_true, decide_eq_true_eq] at h
  exact ⟨h.1.1, h.1.2, h.2⟩
theorem bitsV_bound {x : Int} {b : Nat} : ∀ k ∈ bitsV x b, -9223372036854775808 ≤ k ∧ k ≤ 9223372036854775807 := by
  intro k hk
  unfold bitsV at hk
  cases h : bitsOk x b with
  | false => rw [h, if_neg (by decide)] at hk; cases hk
  | true =>
    rw [h, if_pos rfl] at hk
    obtain ⟨h0, _, h2⟩ := bitsOk_le h
    obtain ⟨i, hi, _, rfl⟩ := blist_mem hk
    omega
def strikeE (xs : List Nat) (x : Int) (b : Nat) : Int := if rightB x b then (if bitsOk x b then flipE xs (bitsV x b) else 130) else 2
def strikeV (xs : List Nat) (x : Int) (b : Nat) : List Nat := if bitsOk x b then flipV xs (bitsV x b) else []
theorem bitsOk_right {x : Int} {b : Nat} (h : rightB x b = false) : bitsOk x b = false := by unfold bitsOk; rw [h]; rfl

set_option maxRecDepth 100000 in
set_option maxHeartbeats 2000000 in
theorem strike_any (v : Value) (xs : List Nat) (x : Int) (b : Nat) (w : World) (hv : Reads .u8 w v xs) (hx : Bytes xs) (hxl : xs.length < 100000000) (hb : b < 4294967296) (hxb : -9223372036854775808 ≤ x ∧ x ≤ 9223372036854775807) :
    Calls Tryd.prog 18 #[v, .agg #[.int .i64 x, .int .u32 b]] w fun e w' => ∃ v', e = .returned (.tuple #[v', .int .i64 (strikeE xs x b)]) ∧ Owns .u8 5 w' w.heap.size v' (strikeV xs x b) ∧ Below w.heap.size w w' := by
  have c0 : (w.alloc (.cells #[.int .i64 x, .int .u32 (b : Int)] 24)).cell? ⟨w.heap.size, 0, none⟩ = some (.int .i64 x) := (cell_of_row _ w.heap.size 0 #[.int .i64 x, .int .u32 (b : Int)] 24 (0, 0) (World.alloc_heap_new w _))
  have c1 : (w.alloc (.cells #[.int .i64 x, .int .u32 (b : Int)] 24)).cell? ⟨w.heap.size, 1, none⟩ = some (.int .u32 (b : Int)) := (cell_of_row _ w.heap.size 1 #[.int .i64 x, .int .u32 (b : Int)] 24 (0, 0) (World.alloc_heap_new w _))
  have hA := bel_alloc w (.cells #[.int .i64 x, .int .u32 (b : Int)] 24)
  have hr := right_any x b hb
  have hbt := bits_any x b hb hxb
  have hE : strikeE xs x b = if rightB x b then (if bitsOk x b then flipE xs (bitsV x b) else 130) else 2 := rfl
  have hV : strikeV xs x b = if bitsOk x b then flipV xs (bitsV x b) else [] := rfl
  have hbe : bitsE x b = if bitsOk x b then 0 else 2 := rfl
  cases hrb : rightB x b with
  | false =>
    rw [hrb] at hr hE
    rw [if_neg (by decide)] at hE
    rw [bitsOk_right hrb, if_neg (by decide)] at hV
    rw [hE, hV]
    have HR := Lib.hid hr
    clear hr hbt hE hV hrb hbe
    go_enter Tryd.func18, Tryd.ntmps18
    go_wp2_with fail
    refine (HR.out _).mono ?_
    rintro e w1 ⟨rfl, hb1⟩
    have hB1 := bel_trans hA hb1 (by simp)
    clear hA hb1
    go_wp2_with fail
    go_ret2
    exact ⟨_, rfl, Owns.nil _ _ _ _, hB1⟩
  | true =>
    rw [hrb] at hr hE
    rw [if_pos rfl] at hE
    have HR := Lib.hid hr
    cases hok : bitsOk x b with
    | false =>
      rw [hok, if_neg (by decide)] at hE hV hbe
      rw [hbe] at hbt
      rw [hE, hV]
      have HBT := Lib.hid hbt
      clear hr hbt hE hV hrb hbe hok
      go_enter Tryd.func18, Tryd.ntmps18
      go_wp2_with fail
      refine (HR.out _).mono ?_
      rintro e w1 ⟨rfl, hb1⟩
      have hB1 := bel_trans hA hb1 (by simp)
      have d0 := cell_keep hb1 c0 (cell_lt c0)
      have d1 := cell_keep hb1 c1 (cell_lt c1)
      clear hA hb1 c0 c1
      go_wp2_with fail
      refine (HBT.out _).mono ?_
      rintro e w2 ⟨v2, rfl, ho2, hb2⟩
      have hB2 := hB1.trans (hb2.mono hB1.size)
      clear hB1 hb2 ho2
      go_wp2_with fail
      go_ret2
      exact ⟨_, rfl, Owns.nil _ _ _ _, hB2⟩
    | true =>
      rw [hok, if_pos rfl] at hE hV hbe
      rw [hbe] at hbt
      rw [hE, hV]
      have hbb := @bitsV_bound x b
      obtain ⟨L, HL⟩ := nm (bitsV x b)
      simp only [HL.out] at hbt
      rw [HL.out] at hbb ⊢
      have HBT := Lib.hid hbt
      have HBB := Lib.hid hbb
      clear hr hbt hE hV hrb hbe hok hbb
      go_enter Tryd.func18, Tryd.ntmps18
      go_wp2_with fail
      refine (HR.out _).mono ?_
      rintro e w1 ⟨rfl, hb1⟩
      have hB1 := bel_trans hA hb1 (by simp)
      have d0 := cell_keep hb1 c0 (cell_lt c0)
      have d1 := cell_keep hb1 c1 (cell_lt c1)
      clear hA hb1 c0 c1
      go_wp2_with fail
      refine (HBT.out _).mono ?_
      rintro e w2 ⟨v2, rfl, ho2, hb2⟩
      have hB2 := hB1.trans (hb2.mono hB1.size)
      have hr2 := ho2.reads
      have HR2 := Lib.hid hr2
      clear hB1 hb2 ho2 hr2 d0 d1
      go_wp2_with fail
      refine (flip_any v xs v2 L _ (hv.keep hB2 (Nat.le_refl _)) hx hxl HR2.out HBB.out).mono ?_
      rintro e w3 ⟨v3, rfl, ho3, hb3⟩
      have hB3 := hB2.trans (hb3.mono hB2.size)
      have HO3 := Lib.hid (ho3.mono hB2.size)
      clear hB2 hb3 ho3
      go_wp2_with fail
      go_ret2
      exact ⟨_, rfl, HO3.out, hB3⟩

/-- What Found answers. -/
def foundE (xs : List Nat) (l : List Int) : Int := if sealedB xs then flipE xs l else 132
def foundV (xs : List Nat) (l : List Int) : Bool := sealedB xs && (decide (flipE xs l = 0) && !sealedB (flipV xs l))
theorem bytes_flipV {xs : List Nat} (hx : Bytes xs) (l : List Int) : Bytes (flipV xs l) := by
  unfold flipV
  split
  · exact Gf.bytes_flips _ hx
  · intro y hy; cases hy
set_option maxRecDepth 100000 in
set_option maxHeartbeats 2000000 in
theorem found_any (v : Value) (xs : List Nat) (vl : Value) (l : List Int) (w : World) (hv : Reads .u8 w v xs) (hx : Bytes xs) (hxl : xs.length < 100000000) (hl : ReadsI .i64 w vl l) (hlb : ∀ k ∈ l, -9223372036854775808 ≤ k ∧ k ≤ 9223372036854775807) (hT : Tab w) :
    Calls Tryd.prog 27 #[v, vl] w fun e w' => e = .returned (.tuple #[.bool (foundV xs l), .int .i64 (foundE xs l)]) ∧ Below w.heap.size w w' := by
  have hE : foundE xs l = if sealedB xs then flipE xs l else 132 := rfl
  have hV : foundV xs l = (sealedB xs && (decide (flipE xs l = 0) && !sealedB (flipV xs l))) := rfl
  have hs := sealed_any v xs w hv hx hT
  cases hsb : sealedB xs with
  | false =>
    rw [hsb] at hE hV hs
    rw [if_neg (by decide)] at hE
    rw [Bool.false_and] at hV
    rw [hE, hV]
    have HS := Lib.hid hs
    clear hE hV hs hsb
    go_enter Tryd.func27, Tryd.ntmps27
    go_wp2_with fail
    refine HS.out.mono ?_
    rintro e w1 ⟨rfl, hb1⟩
    go_wp2_with fail
    go_ret2
    exact ⟨rfl, hb1⟩
  | true =>
    rw [hsb] at hE hV hs
    rw [if_pos rfl] at hE
    rw [Bool.true_and] at hV
    rw [hE, hV]
    have hby := bytes_flipV hx l
    obtain ⟨E, HE⟩ := nm (flipE xs l)
    have hfl := fun w1 h1 h2 => flip_any v xs vl l w1 h1 hx hxl h2 hlb
    obtain ⟨Y, HY⟩ := nm (flipV xs l)
    simp only [HE.out, HY.out] at hfl
    rw [HE.out, HY.out]
    rw [HY.out] at hby
    have HS := Lib.hid hs
    have HF := Lib.hid hfl
    clear hE hV hs hsb hfl
    by_cases h0 : E = 0
    · subst h0
      go_enter Tryd.func27, Tryd.ntmps27
      go_wp2_with fail
      refine HS.out.mono ?_
      rintro e w1 ⟨rfl, hb1⟩
      go_wp2_with fail
      refine (HF.out _ (hv.keep hb1 (Nat.le_refl _)) (hl.keep hb1 (Nat.le_refl _))).mono ?_
      rintro e w2 ⟨v2, rfl, ho2, hb2⟩
      have hB2 := hb1.trans (hb2.mono hb1.size)
      have hT2 := hT.keep hB2 (Nat.le_refl _)
      have HR2 := Lib.hid ho2.reads
      clear hb1 hb2 ho2
      go_wp2_with fail
      refine (sealed_any v2 Y _ HR2.out hby hT2).mono ?_
      rintro e w3 ⟨rfl, hb3⟩
      have hB3 := hB2.trans (hb3.mono hB2.size)
      clear hB2 hb3
      cases hc : sealedB Y
      · go_wp2_with fail
        go_ret2
        exact ⟨by rw [hc]; rfl, hB3⟩
      · go_wp2_with fail
        go_ret2
        exact ⟨by rw [hc]; rfl, hB3⟩
    · have he0 : (E == 0) = false := beq_false_of_ne h0
      rw [decide_eq_false h0, Bool.false_and]
      clear h0
      go_enter Tryd.func27, Tryd.ntmps27
      go_wp2_with fail
      refine HS.out.mono ?_
      rintro e w1 ⟨rfl, hb1⟩
      go_wp2_with fail
      refine (HF.out _ (hv.keep hb1 (Nat.le_refl _)) (hl.keep hb1 (Nat.le_refl _))).mono ?_
      rintro e w2 ⟨v2, rfl, ho2, hb2⟩
      have hB2 := hb1.trans (hb2.mono hb1.size)
      clear hb1 hb2 ho2
      go_wp2_with fail
      go_ret2
      exact ⟨rfl, hB2⟩

/-- Are two numbers a piece of n bytes? -/
def pieceB (n : Nat) (f t : Int) : Bool := decide (0 ≤ f ∧ f ≤ t ∧ t ≤ (n : Int))
theorem piece_any (a : Option Addr) (n c : Nat) (f t : Int) (w : World) :
    Calls Tryd.prog 48 #[.slice a n c, .int .i64 f, .int .i64 t] w fun e w' => e = .returned (.bool (pieceB n f t)) ∧ w = w' := by
  unfold pieceB
  by_cases h1 : 0 ≤ f
  · by_cases h2 : f ≤ t
    · by_cases h3 : t ≤ (n : Int)
      · rw [decide_eq_true (show 0 ≤ f ∧ f ≤ t ∧ t ≤ (n : Int) from ⟨h1, h2, h3⟩)]
        go_enter Tryd.func48, Tryd.ntmps48
        go_wp2_with fail
        go_ret
        exact ⟨rfl, rfl⟩
      · rw [decide_eq_false (fun h => h3 h.2.2)]
        go_enter Tryd.func48, Tryd.ntmps48
        go_wp2_with fail
        go_ret
        exact ⟨rfl, rfl⟩
    · rw [decide_eq_false (fun h => h2 h.2.1)]
      go_enter Tryd.func48, Tryd.ntmps48
      go_wp2_with fail
      go_ret
      exact ⟨rfl, rfl⟩
  · rw [decide_eq_false (fun h => h1 h.1)]
    go_enter Tryd.func48, Tryd.ntmps48
    go_wp2_with fail
    go_ret
    exact ⟨rfl, rfl⟩
end Go.Proofs.YtmjigpnpcacefaaDoor
