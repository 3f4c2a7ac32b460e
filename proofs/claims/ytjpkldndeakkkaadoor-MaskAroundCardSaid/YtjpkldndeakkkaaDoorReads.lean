/- What a slice of numbers holds. -/
import Derived.Test.YtjpkldndeakkkaaDoorPower
namespace Go.Proofs.YtjpkldndeakkkaaDoor
open Go Go.RowKit Go.Shelf

/-- The slice value reads as these numbers. -/
def Reads (k : IntKind) (w : World) (v : Value) (xs : List Nat) : Prop :=
  ∃ (a : Option Addr) (cap : Nat), v = .slice a xs.length cap ∧ xs.length ≤ cap ∧ cap ≤ 9223372036854775807 ∧
    (cap = 0 ∨ ∃ b off, a = some ⟨b, off, none⟩ ∧ ∀ i, i < xs.length → w.cell? ⟨b, off + i, none⟩ = some (.int k ((xs[i]?.getD 0 : Nat) : Int)))
theorem Reads.keep {k : IntKind} {w w' : World} {v : Value} {xs : List Nat} {n : Nat} (h : Reads k w v xs) (hB : Below n w w') (hn : w.heap.size ≤ n) : Reads k w' v xs := by
  obtain ⟨a, cap, rfl, hl, hm, hc⟩ := h
  refine ⟨a, cap, rfl, hl, hm, ?_⟩
  rcases hc with h | ⟨b, off, e, hcell⟩
  · exact .inl h
  · exact .inr ⟨b, off, e, fun i hi => cell_keep hB (hcell i hi) (Nat.lt_of_lt_of_le (cell_lt (hcell i hi)) hn)⟩
theorem Reads.len {k : IntKind} {w : World} {v : Value} {xs : List Nat} (h : Reads k w v xs) : xs.length ≤ 9223372036854775807 := by
  obtain ⟨a, cap, rfl, hl, hm, hc⟩ := h; omega
theorem reads_one (k : IntKind) (w : World) (z : Int) (t : TypeId) (x : Nat) (h : z = (x : Int)) : Reads k (w.alloc (.cells #[.int k z] t)) (.slice (some ⟨w.heap.size, 0, none⟩) 1 1) [x] := by
  refine ⟨_, 1, rfl, by simp, by decide, .inr ⟨_, _, rfl, fun i hi => ?_⟩⟩
  obtain rfl : i = 0 := by simpa using hi
  subst h
  exact (cell_new_l w _ t).1
/-- A name for a value. -/
theorem nm {α : Type} (x : α) : ∃ r, Hid (x = r) := ⟨x, rfl⟩
/-- All are bytes. -/
def Bytes (xs : List Nat) : Prop := ∀ x ∈ xs, x < 256
theorem Bytes.get {xs : List Nat} (h : Bytes xs) (i : Nat) : xs[i]?.getD 0 < 256 := by
  cases e : xs[i]? with
  | none => decide
  | some x => exact h x (List.mem_of_getElem? e)
end Go.Proofs.YtjpkldndeakkkaaDoor
