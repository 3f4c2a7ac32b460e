/- The terms of a polynomial, one after the other, and its degree: the walks of poly.terms, its iterator, and poly.Degree. -/
import Derived.RangeFuncNested
import Derived.RangeFuncBound
import Derived.RangeFuncCalls
import Derived.RangeFuncLeaves
import Derived.RangeFuncFrom
import Derived.Shelf.Abstract
import Derived.Shelf.RegionOpen
import Derived.WalkKit
import Derived.OwnWalkIn
import Derived.TacticsInMore
import Derived.LoopNIn
import Derived.LoopIn
import Derived.Outline
import Derived.Lib.Hide
import Derived.BigQuiet
import Derived.Laws.BitsAllLaws
import Derived.Test.YtidkjcflppbpdaaDoorChecked
import Derived.Test.YtidkjcflppbpdaaDoorGf
namespace Go.Proofs.YtidkjcflppbpdaaDoor
open Go Go.RowKit Go.Shelf
attribute [local go_sem] Oper.semAt_some

theorem wide_fn (f : FuncId) : Fence.wide.fn f = True := rfl
attribute [local go_sem] wide_fn

theorem cell_of_box_l {W : World} {B : Nat} {v : Value} {t : TypeId} (h : W.heap[B]? = some (.cells #[v] t (0, 0))) : W.cell? ⟨B, 0, none⟩ = some v ∧ W.frozen? ⟨B, 0, none⟩ = false := by
  constructor <;> simp [World.cell?, World.frozen?, h]
theorem cell_new_l (W : World) (v : Value) (t : TypeId) : (W.alloc (.cells #[v] t)).cell? ⟨W.heap.size, 0, none⟩ = some v ∧ (W.alloc (.cells #[v] t)).frozen? ⟨W.heap.size, 0, none⟩ = false :=
  cell_of_box_l (World.alloc_heap_new W _)
theorem cell_alloc_l {W : World} {a : Addr} {v : Value} (o : Obj) (h : W.cell? a = some v) : (W.alloc o).cell? a = some v := cell_kept h (World.grownBy_alloc W o none) (fun r e => by cases e)
theorem frozen_alloc_l {W : World} {a : Addr} {v : Value} (o : Obj) (h : W.cell? a = some v) (hf : W.frozen? a = false) : (W.alloc o).frozen? a = false := (frozen_kept h (World.grownBy_alloc W o none) (fun r e => by cases e)).trans hf

/-- A bit that is asked for by the program. -/
theorem and_bit (p k : Nat) (h : p < 18446744073709551616) : bits BinOp.and IntKind.u64 ((p : Int) / 2 ^ k) 1 = ((p / 2 ^ k % 2 : Nat) : Int) := by
  have e : ((p : Int) / 2 ^ k) = ((p / 2 ^ k : Nat) : Int) := by simp
  rw [e, show (1 : Int) = ((1 : Nat) : Int) from rfl, u64_and_nat _ _ (Nat.lt_of_le_of_lt (Nat.div_le_self _ _) h) (by decide), nat_mask1]
theorem and_bit_beq (p k : Nat) (h : p < 18446744073709551616) : (bits BinOp.and IntKind.u64 ((p : Int) / 2 ^ k) 1 == 1) = p.testBit k := by
  rw [and_bit p k h, Nat.testBit_eq_decide_div_mod_eq]
  rcases Nat.mod_two_eq_zero_or_one (p / 2 ^ k) with h | h <;> rw [h] <;> rfl

/-- The exponents below k, the greatest one first. -/
def expo (p : Nat) : Nat → List (Fin 64)
  | 0 => []
  | k + 1 => if h : k < 64 ∧ p.testBit k = true then ⟨k, h.1⟩ :: expo p k else expo p k

theorem terms_any (p : Nat) (w : World) :
    Calls Tryd.prog 31 #[.int .u64 p] w fun e w' => e = .returned (.func (.func 45) #[] #[.pointer (some ⟨w.heap.size, 0, none⟩)]) ∧ w.alloc (.cells #[.int .u64 p] 22) = w' := by
  go_enter Tryd.func31, Tryd.ntmps31
  go_wp2
  go_ret
  exact ⟨rfl, rfl⟩

set_option maxRecDepth 100000 in
set_option maxHeartbeats 1000000 in
theorem iter_in (n : Nat) (hn : 1 ≤ n) (l B n₀ : Nat) (p : Nat) (hp : p < 18446744073709551616) (hB : B < n₀) (J Jx : List (Fin 64) → World → Prop)
    (hY : ∀ pre x W, J pre W → pre.length < 64 → YieldAt Fence.wide (n - 1) Tryd.prog l #[.int .i64 (x.val : Int)] W fun e W' =>
      (e = .returned (.bool true) ∧ J (pre ++ [x]) W' ∧ Below n₀ W W') ∨ (e = .returned (.bool false) ∧ Jx (pre ++ [x]) W'))
    (W : World) (hc : W.cell? ⟨B, 0, none⟩ = some (.int .u64 p)) (h0 : J [] W) :
    CallsIn Fence.wide n Tryd.prog 45 #[.func (.yield l) #[] #[], .pointer (some ⟨B, 0, none⟩)] W fun e W' => (∃ v, e = .returned v) ∧
      ((∃ ys, ys = expo p 64 ∧ J ys W') ∨ (∃ pre, pre <+: expo p 64 ∧ Jx pre W')) := by
  refine callsIn_of_wp Tryd.func45 rfl trivial ?_ rfl
  simp only [Tryd.ntmps45, List.size_toArray, List.length_cons, List.length_nil, Nat.reduceAdd, Nat.reduceSub, Array.replicate_succ, Array.replicate_zero, List.push_toArray, List.append_toArray, List.nil_append, List.cons_append]
  gi_wp2
  gi_loopw [3] (fun i wr => ∃ (k : Nat) (pre : List (Fin 64)), k ≤ 64 ∧ i = .int .i64 ((k : Int) - 1) ∧ Hid (expo p 64 = pre ++ expo p k) ∧ pre.length + k ≤ 64 ∧ J pre wr ∧ wr.cell? ⟨B, 0, none⟩ = some (.int .u64 p))
    (fun i _ => (intOf i + 1).toNat)
  case atStart => exact ⟨64, [], by omega, rfl, Lib.hid rfl, by simp, h0, hc⟩
  case round =>
    obtain ⟨k, pre, hk, rfl, He, hl, hJ, hcr⟩ := hrel
    cases k with
    | zero =>
      gi_wp2
      go_end0
      exact ⟨⟨_, rfl⟩, .inl ⟨pre, by rw [He]; simp [expo], hJ⟩⟩
    | succ k =>
      have hbb := and_bit_beq p k hp
      by_cases hb : p.testBit k = true
      · rw [hb] at hbb
        have hx : expo p (k + 1) = ⟨k, by omega⟩ :: expo p k := by rw [expo, dif_pos ⟨by omega, hb⟩]
        have Hx := Lib.hid hx
        obtain ⟨fn, tmps, assign, body, hy, hR⟩ := hY pre ⟨k, by omega⟩ wr hJ (by omega)
        dsimp only at hy
        clear hY hx hb
        gi_wp2
        refine hR.mono ?_
        rintro e W3 (⟨rfl, hJ3, hk3⟩ | ⟨rfl, hJx3⟩)
        · have hc3 : W3.cell? ⟨B, 0, none⟩ = some (.int .u64 p) := (hk3.cell (p := ⟨B, 0, none⟩) hB).trans hcr
          gi_wp2
          go_roundw
          case rel => exact ⟨k, pre ++ [⟨k, by omega⟩], by omega, rfl, Lib.hid (by rw [He, Hx.out]; simp), by simp; omega, hJ3, hc3⟩
          case measure => simp [intOf]
        · gi_wp2
          refine bodyPost_ret (results_none rfl _ _ _) rfl ?_
          exact ⟨⟨_, rfl⟩, .inr ⟨pre ++ [⟨k, by omega⟩], ⟨expo p k, by rw [He, Hx.out]; simp⟩, hJx3⟩⟩
      · have hb' : p.testBit k = false := by simpa using hb
        rw [hb'] at hbb
        have hx : expo p (k + 1) = expo p k := by rw [expo, dif_neg (fun h => hb h.2)]
        have Hx := Lib.hid hx
        clear hY hx hb hb'
        gi_wp2
        go_roundw
        case rel => exact ⟨k, pre, by omega, rfl, Lib.hid (by rw [He, Hx.out]), by omega, hJ, hcr⟩
        case measure => simp [intOf]

theorem iter_stops (n : Nat) (hn : 1 ≤ n) (B n₀ p : Nat) (hp : p < 18446744073709551616) (hB : B < n₀) (w : World) (hle : n₀ ≤ w.heap.size) (hc : w.cell? ⟨B, 0, none⟩ = some (.int .u64 p)) :
    SeqStopsK Fence.wide n Tryd.prog 45 #[.pointer (some ⟨B, 0, none⟩)] (fun x : Fin 64 => #[Value.int .i64 (x.val : Int)]) (Below n₀)
      (fun xs => xs = expo p 64) (fun pre => pre <+: expo p 64) 64 w := by
  intro l J Jx W hW hJ hJx hY h0
  exact iter_in n hn l B n₀ p hp hB J Jx hY W ((hW.cell (p := ⟨B, 0, none⟩) (by show B < _; omega)).trans hc) h0

/-- The first exponent is the degree. -/
theorem expo_head (p : Nat) : ∀ k x l, k ≤ 64 → expo p k = x :: l → p < 2 ^ k → Gf.plen p = x.val + 1 := by
  intro k
  induction k with
  | zero => intro x l _ h; simp [expo] at h
  | succ k ih =>
    intro x l h64 h hp
    rw [expo] at h
    split at h
    · rename_i hk
      cases h
      exact Gf.plen_eq hp hk.2
    · rename_i hk
      have hb : p.testBit k = false := by
        cases hh : p.testBit k
        · rfl
        · exact absurd ⟨by omega, hh⟩ hk
      refine ih x l (by omega) h (Gf.lt_of_bits fun i hi => ?_)
      by_cases e : i = k
      · subst e; exact hb
      · exact Gf.bit_ge hp (by omega)
theorem expo_nil (p : Nat) : ∀ k, k ≤ 64 → expo p k = [] → p < 2 ^ k → p = 0 := by
  intro k
  induction k with
  | zero => intro _ _ hp; simpa using hp
  | succ k ih =>
    intro h64 h hp
    rw [expo] at h
    split at h
    · cases h
    · rename_i hk
      have hb : p.testBit k = false := by
        cases hh : p.testBit k
        · rfl
        · exact absurd ⟨by omega, hh⟩ hk
      refine ih (by omega) h (Gf.lt_of_bits fun i hi => ?_)
      by_cases e : i = k
      · subst e; exact hb
      · exact Gf.bit_ge hp (by omega)

set_option maxRecDepth 100000 in
set_option maxHeartbeats 2000000 in
theorem degree_any (p : Nat) (hp : p < 18446744073709551616) (w : World) :
    Calls Tryd.prog 17 #[.int .u64 p] w fun e w' => e = .returned (.int .i64 ((Gf.plen p : Int) - 1)) ∧ Below w.heap.size w w' := by
  refine (callsIn_wide (n := 6)).1 ?_
  have h1 : 1 ≤ 6 := by omega
  refine callsIn_of_wp_marks Tryd.func17 rfl trivial ?_ rfl
  simp only [Tryd.ntmps17, List.size_toArray, List.length_cons, List.length_nil, Nat.reduceAdd, Nat.reduceSub, Array.replicate_succ, Array.replicate_zero, List.push_toArray, List.append_toArray, List.nil_append, List.cons_append]
  gi_wp2_with (gi_at_call 31; refine (callsIn_wide.2 (terms_any p _)).mono ?_; rintro e w' ⟨rfl, rfl⟩)
  have hs := cell_new_l w (.int .i64 0) 3
  have hb := cell_new_l (w.alloc (.cells #[.int .i64 0] 3)) (.int .u64 p) 22
  rw [World.size_alloc] at hb
  have hB0 : Below w.heap.size w ((w.alloc (.cells #[.int .i64 0] 3)).alloc (.cells #[.int .u64 p] 22)) := ((Below.refl _ w).alloc (Nat.le_refl _) _).alloc (by simp) _
  refine wpIn_rangeFunc_ownF rfl h1 (gf := 45) (lb := #[.pointer (some ⟨w.heap.size + 1, 0, none⟩)]) rfl trivial (enters_of Tryd.func45 (by kernel_rfl) rfl)
    (iter_stops 5 (by omega) (w.heap.size + 1) (w.heap.size + 2) p hp (by omega) _ (by simp) hb.1) belowK_t (belowK_b (by simp)) (Below.refl _ _) (fun _ => rfl)
    (fun pre W => (pre = [] ∧ W.cell? ⟨w.heap.size, 0, none⟩ = some (.int .i64 0) ∧ W.frozen? ⟨w.heap.size, 0, none⟩ = false) ∧ Below w.heap.size w W)
    (fun c pre W => (c = .ret ∧ ∃ x : Fin 64, pre = [x] ∧ W.cell? ⟨w.heap.size, 0, none⟩ = some (.int .i64 (x.val : Int))) ∧ Below w.heap.size w W)
    (OwnFrom.and (Own.from (fun s A B row hs hg hr => ⟨hs.1, cell_kept hs.2.1 hg hr, (frozen_kept hs.2.1 hg hr).trans hs.2.2⟩) _) (ownFrom_below (Nat.le_refl _) (by simp; omega)))
    (fun c => OwnFrom.and (Own.from (fun s A B row hs hg hr => by obtain ⟨hc, x, hx, hcell⟩ := hs; exact ⟨hc, x, hx, cell_kept hcell hg hr⟩) _) (ownFrom_below (Nat.le_refl _) (by simp; omega)))
    ⟨⟨rfl, cell_alloc_l _ hs.1, frozen_alloc_l _ hs.1 hs.2⟩, hB0⟩
    (fun x => { tmps := #[.int .u64 p, undef, .pointer (some ⟨w.heap.size, 0, none⟩), .int .i64 (x.val : Int), .int .u64 p, .func (.func 45) #[] #[.pointer (some ⟨w.heap.size + 1, 0, none⟩)], .int .i64 (x.val : Int), undef], defers := [] }) ?assign ?body ?done ?stop
  case assign =>
    intro l x W K hK
    gi_wp2
    exact hK
  case body =>
    rintro l pre x W ⟨⟨rfl, hc, hf⟩, hB⟩ _
    gi_wp2
    exact ⟨KeepsOthers.setCell _ _ _, ⟨rfl, x, rfl, World.cell?_setCell_same' _ _ _ (by rw [hc]; rfl)⟩, hB.setCell (p := ⟨w.heap.size, 0, none⟩) (Nat.le_refl _) _⟩
  case done =>
    rintro D xs W hD hxs ⟨⟨rfl, hc, hf⟩, hB⟩ hK
    have h0 := expo_nil p 64 (Nat.le_refl _) hxs.symm hp
    subst h0
    gi_wp2
    have hK' := (KeepsOthers.setCell W ⟨w.heap.size, 0, none⟩ (.int .i64 (-1))).same D _ hK rfl
    refine ⟨by simp, .inl ⟨_, _, rfl, run_takeDeferred hK', ?_⟩⟩
    have hc5 := cell_kept (World.cell?_setCell_same' W ⟨w.heap.size, 0, none⟩ (.int .i64 (-1)) (by rw [hc]; rfl)) (grownBy_putObj' _ D (.deferred none)) (fun r e => by cases e; exact ⟨_, hK', rfl⟩)
    refine ⟨.int .i64 (-1), ?_, by simp [Gf.plen_zero], (hB.setCell (p := ⟨w.heap.size, 0, none⟩) (by simp) _).trans (belowK_b (w := w) (Nat.le_refl _) _ D _ _ (by simp at hD; omega) hK' rfl rfl)⟩
    simp [results, Tryd.f17, go_sem, hc5]
  case stop =>
    rintro D c pre W hD hpre ⟨⟨rfl, x, rfl, hcr⟩, hB⟩ hK
    obtain ⟨t, ht⟩ := hpre
    have hd := expo_head p 64 x t (Nat.le_refl _) ht.symm hp
    gi_wp2
    refine ⟨by simp, .inl ⟨_, _, rfl, run_takeDeferred hK, ?_⟩⟩
    have hc5 := cell_kept hcr (grownBy_putObj' _ D (.deferred none)) (fun r e => by cases e; exact ⟨_, hK, rfl⟩)
    refine ⟨.int .i64 (x.val : Int), ?_, by rw [hd]; simp, hB.trans (belowK_b (w := w) (Nat.le_refl _) W D _ _ (by simp at hD; omega) hK rfl rfl)⟩
    simp [results, Tryd.f17, go_sem, hc5]

end Go.Proofs.YtidkjcflppbpdaaDoor
