/- The terms of a polynomial, one after the other, and its degree: the walks of poly.terms, its iterator, and poly.Degree. -/
import Derived.RangeFuncNested
import Derived.RangeFuncBound
import Derived.RangeFuncCalls
import Derived.RangeFuncLeaves
import Derived.RangeFuncFrom
import Derived.Shelf.Abstract
import Derived.Shelf.RegionOpen
import Derived.WalkKit
import Derived.OwnWalkIn
import Derived.TacticsInMore
import Derived.LoopNIn
import Derived.LoopIn
import Derived.Outline
import Derived.Lib.Hide
import Derived.BigQuiet
import Derived.Laws.BitsAllLaws
import Derived.Test.YtjpkldndeakkkaaDoorChecked
import Derived.Test.YtjpkldndeakkkaaDoorGf
namespace Go.Proofs.YtjpkldndeakkkaaDoor
open Go Go.RowKit Go.Shelf
attribute [local go_sem] Oper.semAt_some

theorem wide_fn (f : FuncId) : Fence.wide.fn f = True := rfl
attribute [local go_sem] wide_fn

theorem cell_of_box_l {W : World} {B : Nat} {v : Value} {t : TypeId} (h : W.heap[B]? = some (.cells #[v] t (0, 0))) : W.cell? ⟨B, 0, none⟩ = some v ∧ W.frozen? ⟨B, 0, none⟩ = false := by
  constructor <;> simp [World.cell?, World.frozen?, h]
theorem cell_new_l (W : World) (v : Value) (t : TypeId) : (W.alloc (.cells #[v] t)).cell? ⟨W.heap.size, 0, none⟩ = some v ∧ (W.alloc (.cells #[v] t)).frozen? ⟨W.heap.size, 0, none⟩ = false :=
  cell_of_box_l (World.alloc_heap_new W _)
theorem cell_alloc_l {W : World} {a : Addr} {v : Value} (o : Obj) (h : W.cell? a = some v) : (W.alloc o).cell? a = some v := cell_kept h (World.grownBy_alloc W o none) (fun r e => by cases e)
theorem frozen_alloc_l {W : World} {a : Addr} {v : Value} (o : Obj) (h : W.cell? a = some v) (hf : W.frozen? a = false) : (W.alloc o).frozen? a = false := (frozen_kept h (World.grownBy_alloc W o none) (fun r e => by cases e)).trans hf

/-- A bit that is asked for by the program. -/
theorem and_bit (p k : Nat) (h : p < 18446744073709551616) : bits BinOp.and IntKind.u64 ((p : Int) / 2 ^ k) 1 = ((p / 2 ^ k % 2 : Nat) : Int) := by
  have e : ((p : Int) / 2 ^ k) = ((p / 2 ^ k : Nat) : Int) := by simp
  rw [e, show (1 : Int) = ((1 : Nat) : Int) from rfl, u64_and_nat _ _ (Nat.lt_of_le_of_lt (Nat.div_le_self _ _) h) (by decide), nat_mask1]
theorem and_bit_beq (p k : Nat) (h : p < 18446744073709551616) : (bits BinOp.and IntKind.u64 ((p : Int) / 2 ^ k) 1 == 1) = p.testBit k := by
  rw [and_bit p k h, Nat.testBit_eq_decide_div_mod_eq]
  rcases Nat.mod_two_eq_zero_or_one (p / 2 ^ k) with h | h <;> rw [h] <;> rfl

/-- The exponents below k, the greatest one first. -/
def expo (p : Nat) : Nat → List (Fin 64)
  | 0 => []
  | k + 1 => if h : k < 64 ∧ p.testBit k = true then ⟨k, h.1⟩ :: expo p k else expo p k




/-- The first exponent is the degree. -/
theorem expo_head (p : Nat) : ∀ k x l, k ≤ 64 → expo p k = x :: l → p < 2 ^ k → Gf.plen p = x.val + 1 := by
  intro k
  induction k with
  | zero => intro x l _ h; simp [expo] at h
  | succ k ih =>
    intro x l h64 h hp
    rw [expo] at h
    split at h
    · rename_i hk
      cases h
      exact Gf.plen_eq hp hk.2
    · rename_i hk
      have hb : p.testBit k = false := by
        cases hh : p.testBit k
        · rfl
        · exact absurd ⟨by omega, hh⟩ hk
      refine ih x l (by omega) h (Gf.lt_of_bits fun i hi => ?_)
      by_cases e : i = k
      · subst e; exact hb
      · exact Gf.bit_ge hp (by omega)
theorem expo_nil (p : Nat) : ∀ k, k ≤ 64 → expo p k = [] → p < 2 ^ k → p = 0 := by
  intro k
  induction k with
  | zero => intro _ _ hp; simpa using hp
  | succ k ih =>
    intro h64 h hp
    rw [expo] at h
    split at h
    · cases h
    · rename_i hk
      have hb : p.testBit k = false := by
        cases hh : p.testBit k
        · rfl
        · exact absurd ⟨by omega, hh⟩ hk
      refine ih (by omega) h (Gf.lt_of_bits fun i hi => ?_)
      by_cases e : i = k
      · subst e; exact hb
      · exact Gf.bit_ge hp (by omega)


end Go.Proofs.YtjpkldndeakkkaaDoor
