/- More on slices of signed numbers of the call's own: append of one, what is kept, a store. -/
import Derived.Test.YtmjigpnpcacefaaDoorOwnI
import Derived.Test.YtmjigpnpcacefaaDoorHeld
namespace Go.Proofs.YtmjigpnpcacefaaDoor
open Go Go.RowKit Go.Shelf

theorem OwnsI.nil (k : IntKind) (e : TypeId) (w : World) (base : Nat) : OwnsI k e w base (.slice none 0 0) [] := World.ownsRow_nil w base e 1
theorem OwnsI.keep {k : IntKind} {e : TypeId} {w w' : World} {base n : Nat} {v : Value} {xs : List Int} (h : OwnsI k e w base v xs) (hB : Below n w w') (hn : w.heap.size ≤ n) : OwnsI k e w' base v xs := by
  obtain ⟨h1, h⟩ := h
  refine ⟨h1, ?_⟩
  rcases h with h | ⟨g, cap, cur, rfl, hb, hg, rest⟩
  · exact .inl h
  · have hlt := (Array.getElem?_eq_some_iff.1 hg).1
    exact .inr ⟨g, cap, cur, rfl, hb, (hB.block g (by omega)).trans hg, rest⟩
theorem OwnsI.mono {k : IntKind} {e : TypeId} {w : World} {base base' : Nat} {v : Value} {xs : List Int} (h : OwnsI k e w base v xs) (hb : base' ≤ base) : OwnsI k e w base' v xs := by
  obtain ⟨h1, h⟩ := h
  refine ⟨h1, ?_⟩
  rcases h with h | ⟨g, cap, cur, rfl, hb', rest⟩
  · exact .inl h
  · exact .inr ⟨g, cap, cur, rfl, by omega, rest⟩
theorem OwnsI.alloc {k : IntKind} {e : TypeId} {w : World} {base : Nat} {v : Value} {xs : List Int} (h : OwnsI k e w base v xs) (o : Obj) : OwnsI k e (w.alloc o) base v xs := World.ownsRow.alloc h o
theorem reads_oneI (k : IntKind) (w : World) (x : Int) (t : TypeId) : ReadsI k (w.alloc (.cells #[.int k x] t)) (.slice (some ⟨w.heap.size, 0, none⟩) 1 1) [x] := by
  refine ⟨_, 1, rfl, by simp, by decide, .inr ⟨_, _, rfl, fun i hi => ?_⟩⟩
  obtain rfl : i = 0 := by simpa using hi
  exact (cell_new_l w _ t).1
/-- append(out, y). -/
theorem wpl_app1I {ops : Array Oper} {rest : List Oper} {o : Oper} {a : Act} {Q : Exit → Act → World → Prop} (hgd : o.guard = none) (s x : Operand) (t : TypeId)
    (ho : o.op = .call { callee := .builtin .append, args := #[s, x], argTypes := #[t, t] }) (k : IntKind) (e : TypeId) (bytes : Nat) (ht : Tryd.prog.underlying t = some (.slice e))
    (hi : (Tryd.prog.info? e).map (fun i => (i.zero, i.size, i.bytes)) = some (some (.int k 0), 1, bytes)) (hb8 : bytes ≤ 8)
    (base : Nat) (v : Value) (xs : List Int) (wr : World) (hown : OwnsI k e wr base v xs) (hs : a.eval s = v) (c : Int) (hx : a.eval x = .slice (some ⟨wr.heap.size, 0, none⟩) 1 1)
    (hlen : xs.length < 17592186044414) (hbase : base ≤ wr.heap.size)
    (h : ∀ v' w', OwnsI k e w' base v' (xs ++ [c]) → Below base wr w' → wpList Tryd.prog ops Q rest (a.put o.dst v') w') :
    wpList Tryd.prog ops Q (o :: rest) a (wr.alloc (.cells #[.int k c] e)) := by
  refine wpl_appI hgd s x t ho k e bytes ht hi hb8 base v xs _ (hown.alloc _) hs _ [c] hx (reads_oneI k wr c e) (by simp; omega) (by simp; omega) ?_
  intro v' w' h1 h2
  exact h v' w' h1 (((Below.refl base wr).alloc hbase _).trans h2)
theorem OwnsI.slice {k : IntKind} {e : TypeId} {w : World} {base : Nat} {v : Value} {ys : List Int} (h : OwnsI k e w base v ys) : ∃ ao m c, v = .slice ao m c ∧ m = ys.length ∧ m ≤ c ∧ c ≤ 9223372036854775807 ∧ ∀ j, (Value.slice ao m c).ownBlock = some j → base ≤ j ∧ j < w.heap.size := by
  rcases h.form with ⟨rfl, rfl⟩ | ⟨g, cap, rfl, hb, hg, hn, hc⟩
  · exact ⟨none, 0, 0, rfl, rfl, Nat.le_refl _, by decide, fun j hj => by cases hj⟩
  · exact ⟨_, _, cap, rfl, rfl, hn, hc, fun j hj => by cases hj; exact ⟨hb, hg⟩⟩
/-- A slice of constants. -/
theorem reads_litI (k : IntKind) (w : World) (xs : List Int) (t : TypeId) (cs : Array Value) (n : Nat) (hc : cs = (valsI k xs).toArray) (hn : n = xs.length) (hl : n ≤ 9223372036854775807) :
    ReadsI k (w.alloc (.cells cs t)) (.slice (some ⟨w.heap.size, 0, none⟩) n n) xs := by
  subst hn hc
  refine ⟨_, _, rfl, Nat.le_refl _, hl, .inr ⟨_, _, rfl, fun i hi => ?_⟩⟩
  have h0 : (w.alloc (.cells (valsI k xs).toArray t)).heap[w.heap.size]? = some (.cells (valsI k xs).toArray t) := World.alloc_heap_new w _
  rw [Nat.zero_add, cell_of_row _ w.heap.size i _ t (0, 0) h0, List.getElem?_toArray, valsI_get k xs i hi]
end Go.Proofs.YtmjigpnpcacefaaDoor
