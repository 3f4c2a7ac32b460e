/- Slices of signed numbers of the call's own, inside a fence: what is kept, append of one. -/
import Derived.Test.YtmjigpnpcacefaaDoorOwnJ
import Derived.Test.YtmjigpnpcacefaaDoorReads
namespace Go.Proofs.YtmjigpnpcacefaaDoor
open Go Go.RowKit Go.Shelf
attribute [local go_sem] Oper.semAt_some
attribute [local go_sem] wide_fn

theorem ownsRow_ne {w : World} {base : Nat} {e : TypeId} {size : Nat} {v : Value} {n : Nat} {xs : List Value} {row : Option Nat} (h : w.ownsRow base e size v n xs) (hr : ∀ r, row = some r → ∃ o : Obj, w.heap[r]? = some o ∧ o.isCells = false) : v.ownBlock = none ∨ v.ownBlock ≠ row := by
  obtain ⟨_, h⟩ := h
  rcases h with ⟨rfl, _⟩ | ⟨g, cap, cur, rfl, _, hg, _⟩
  · exact .inl rfl
  · right
    intro e
    obtain ⟨o, ho, hc⟩ := hr g e.symm
    rw [hg] at ho
    cases ho
    cases hc
theorem ownsRow_cells {w : World} {base : Nat} {e : TypeId} {size : Nat} {v : Value} {n : Nat} {xs : List Value} {j : Nat} {o : Obj} (h : w.ownsRow base e size v n xs) (hj : v.ownBlock = some j) (ho : w.heap[j]? = some o) : o.isCells = true := by
  obtain ⟨_, h⟩ := h
  rcases h with ⟨rfl, _⟩ | ⟨g, cap, cur, rfl, _, hg, _⟩
  · cases hj
  · cases hj
    rw [hg] at ho
    cases ho
    rfl
theorem ownsI_other {k : IntKind} {e : TypeId} {w : World} {base g : Nat} {v u : Value} {xs : List Int} (h : OwnsI k e w base v xs) (hne : ∀ j, v.ownBlock = some j → j ≠ g) : OwnsI k e (w.setCell ⟨g, 0, none⟩ u) base v xs := by
  refine World.ownsRow.kept h (row := some g) ⟨rfl, rfl, rfl, by simp, fun k _ hk => heap_setCell_other w ⟨g, 0, none⟩ k u (fun e => hk (by simp [e]))⟩ ?_
  cases hv : v.ownBlock with
  | none => exact .inl rfl
  | some j => right; intro e2; cases e2; exact hne g hv rfl
theorem ownsRow_slice {w : World} {base : Nat} {e : TypeId} {size : Nat} {v : Value} {n : Nat} {xs : List Value} (h : w.ownsRow base e size v n xs) : ∃ a n c, v = .slice a n c := by
  obtain ⟨_, h⟩ := h
  rcases h with ⟨rfl, _⟩ | ⟨g, cap, cur, rfl, _⟩
  · exact ⟨_, _, _, rfl⟩
  · exact ⟨_, _, _, rfl⟩
/-- append(out, y), inside a fence; what else is touched is told too. -/
theorem wpListIn_app1I {F : Fence} {n : Nat} {ops : Array Oper} {rest : List Oper} {o : Oper} {a : Act} {Q : Exit → Act → World → Prop} (hgd : o.guard = none) (s x : Operand) (t : TypeId)
    (ho : o.op = .call { callee := .builtin .append, args := #[s, x], argTypes := #[t, t] }) (k : IntKind) (e : TypeId) (bytes : Nat) (ht : Tryd.prog.underlying t = some (.slice e))
    (hi : (Tryd.prog.info? e).map (fun i => (i.zero, i.size, i.bytes)) = some (some (.int k 0), 1, bytes)) (hb8 : bytes ≤ 8)
    (base : Nat) (v : Value) (xs : List Int) (wr : World) (hown : OwnsI k e wr base v xs) (hs : a.eval s = v) (c : Int) (hx : a.eval x = .slice (some ⟨wr.heap.size, 0, none⟩) 1 1)
    (hlen : xs.length < 17592186044414) (hbase : base ≤ wr.heap.size)
    (h : ∀ v' w', OwnsI k e w' base v' (xs ++ [c]) → Below base wr w' → KeepsOthers wr w' → wpListIn F n Tryd.prog ops Q rest (a.put o.dst v') w') :
    wpListIn F n Tryd.prog ops Q (o :: rest) a (wr.alloc (.cells #[.int k c] e)) := by
  obtain ⟨i0, hi0, hz0, hz1, hz2⟩ := info_parts hi
  refine wpListIn_append_own _ hgd s x t ho base e i0 (.int k 0) 1 bytes ht hi0 hz0 hz1 hz2 rfl (by decide) v xs.length (valsI k xs) hs (World.ownsRow.alloc hown _) ⟨wr.heap.size, 0, none⟩ 1 1 [.int k c] hx rfl
    (fun j u hu => (cell_one_new wr (.int k c) e) j u hu) (by simp [Value.oneCell']) (by unfold maxLen; omega) ?_ (by simp; omega) ?_
  · calc (xs.length + 1) * bytes ≤ (xs.length + 1) * 8 := Nat.mul_le_mul_left _ hb8
      _ ≤ 140737488355328 := by omega
  · intro v' w' hown' hg _
    refine h v' w' ?_ (((Below.refl base wr).alloc hbase _).trans ((Below.refl base (wr.alloc (.cells #[.int k c] e))).grown hg (by simp; omega) (ownI_base (OwnsI.alloc hown (.cells #[.int k c] e))))) ((KeepsOthers.alloc wr _).trans (KeepsOthers.of_grownBy hg (fun j o hj ho => ownsRow_cells (World.ownsRow.alloc hown (.cells #[.int k c] e)) hj ho)))
    unfold OwnsI
    simpa [valsI] using hown'

def StopHere (P : Prop) : Prop := P
theorem stop_here {P : Prop} (h : StopHere P) : P := h
end Go.Proofs.YtmjigpnpcacefaaDoor
