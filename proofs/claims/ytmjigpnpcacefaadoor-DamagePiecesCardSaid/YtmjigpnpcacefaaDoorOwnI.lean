/- Slices of signed numbers that a call has made itself. -/
import Derived.Test.YtmjigpnpcacefaaDoorRefA
import Derived.Test.YtmjigpnpcacefaaDoorOwnB
import Derived.Test.YtmjigpnpcacefaaDoorFrameB
namespace Go.Proofs.YtmjigpnpcacefaaDoor
open Go Go.RowKit Go.Shelf

def valsI (k : IntKind) (xs : List Int) : List Value := xs.map fun x => Value.int k x
theorem valsI_length (k : IntKind) (xs : List Int) : (valsI k xs).length = xs.length := by simp [valsI]
theorem valsI_get (k : IntKind) (xs : List Int) (i : Nat) (h : i < xs.length) : (valsI k xs)[i]? = some (.int k (xs[i]?.getD 0)) := by
  simp [valsI, h]
def OwnsI (k : IntKind) (e : TypeId) (w : World) (base : Nat) (v : Value) (xs : List Int) : Prop := w.ownsRow base e 1 v xs.length (valsI k xs)
theorem OwnsI.form {k : IntKind} {e : TypeId} {w : World} {base : Nat} {v : Value} {xs : List Int} (h : OwnsI k e w base v xs) :
    (v = .slice none 0 0 ∧ xs = []) ∨ ∃ g cap, v = .slice (some ⟨g, 0, none⟩) xs.length cap ∧ base ≤ g ∧ g < w.heap.size ∧ xs.length ≤ cap ∧ cap ≤ 9223372036854775807 := by
  obtain ⟨_, h⟩ := h
  rcases h with ⟨rfl, hn⟩ | ⟨g, cap, cur, rfl, hb, hg, hn, hc, _, _⟩
  · exact .inl ⟨rfl, List.length_eq_zero_iff.1 hn⟩
  · exact .inr ⟨g, cap, rfl, hb, (Array.getElem?_eq_some_iff.1 hg).1, hn, hc⟩
theorem OwnsI.reads {k : IntKind} {e : TypeId} {w : World} {base : Nat} {v : Value} {xs : List Int} (h : OwnsI k e w base v xs) : ReadsI k w v xs := by
  rcases h.form with ⟨rfl, rfl⟩ | ⟨g, cap, rfl, _, _, hn, hc⟩
  · exact ⟨none, 0, rfl, by simp, by decide, .inl rfl⟩
  · refine ⟨_, cap, rfl, hn, hc, .inr ⟨g, 0, rfl, fun i hi => ?_⟩⟩
    rw [Nat.zero_add, World.ownsRow.cellAt h i (by omega), valsI_get k xs i hi]
theorem ownI_base {k : IntKind} {e : TypeId} {w : World} {base : Nat} {v : Value} {xs : List Int} (h : OwnsI k e w base v xs) : ∀ j, v.ownBlock = some j → base ≤ j := fun j hj => (World.ownsRow.lt h j hj).1
/-- append(out, ys...). -/
theorem wpl_appI {ops : Array Oper} {rest : List Oper} {o : Oper} {a : Act} {Q : Exit → Act → World → Prop} (hgd : o.guard = none) (s x : Operand) (t : TypeId)
    (ho : o.op = .call { callee := .builtin .append, args := #[s, x], argTypes := #[t, t] }) (k : IntKind) (e : TypeId) (bytes : Nat) (ht : Tryd.prog.underlying t = some (.slice e))
    (hi : (Tryd.prog.info? e).map (fun i => (i.zero, i.size, i.bytes)) = some (some (.int k 0), 1, bytes)) (hb8 : bytes ≤ 8)
    (base : Nat) (v : Value) (xs : List Int) (wr : World) (hown : OwnsI k e wr base v xs) (hs : a.eval s = v) (vy : Value) (ys : List Int) (hx : a.eval x = vy)
    (hy : ReadsI k wr vy ys) (hlen : xs.length + ys.length < 17592186044415) (hbase : base ≤ wr.heap.size)
    (h : ∀ v' w', OwnsI k e w' base v' (xs ++ ys) → Below base wr w' → wpList Tryd.prog ops Q rest (a.put o.dst v') w') :
    wpList Tryd.prog ops Q (o :: rest) a wr := by
  obtain ⟨i0, hi0, hz0, hz1, hz2⟩ := info_parts hi
  obtain ⟨ao, cap, rfl, hl, hm, hcell⟩ := hy
  rcases hcell with rfl | ⟨b, off, rfl, hcell⟩
  · obtain rfl : ys = [] := List.length_eq_zero_iff.1 (by omega)
    cases ao with
    | none => exact wpList_append_own_none hgd s x t ho base e i0 1 ht hi0 v xs.length (valsI k xs) hs hown hx (h v wr (by simpa using hown) (Below.refl _ _))
    | some ad =>
      refine wpList_append_own _ hgd s x t ho base e i0 (.int k 0) 1 bytes ht hi0 hz0 hz1 hz2 rfl (by decide) v xs.length (valsI k xs) hs hown ad 0 0 [] hx rfl
        (fun j u hu => by simp at hu) (by simp) (by unfold maxLen; simp at hlen; omega) ?_ hbase ?_
      · simp at hlen
        calc (xs.length + 0) * bytes ≤ (xs.length + 0) * 8 := Nat.mul_le_mul_left _ hb8
          _ ≤ 140737488355328 := by omega
      · intro v' w' hown' hg _
        refine h v' w' ?_ ((Below.refl base wr).grown hg hbase (ownI_base hown))
        unfold OwnsI
        simpa [valsI] using hown'
  · refine wpList_append_own _ hgd s x t ho base e i0 (.int k 0) 1 bytes ht hi0 hz0 hz1 hz2 rfl (by decide) v xs.length (valsI k xs) hs hown ⟨b, off, none⟩ ys.length cap (valsI k ys) hx (by rw [valsI_length]; omega)
      ?_ (by simp [valsI, Value.oneCell']) (by unfold maxLen; omega) ?_ (by omega) ?_
    · intro j u hu
      have hj : j < ys.length := by
        apply Classical.byContradiction; intro hn
        rw [List.getElem?_eq_none (by rw [valsI_length]; omega)] at hu; cases hu
      rw [valsI_get k ys j hj] at hu
      cases hu
      have ha : (⟨b, off, none⟩ : Addr).add j = ⟨b, off + j, none⟩ := by simp [Addr.add]
      rw [ha]
      exact hcell j hj
    · calc (xs.length + ys.length) * bytes ≤ (xs.length + ys.length) * 8 := Nat.mul_le_mul_left _ hb8
        _ ≤ 140737488355328 := by omega
    · intro v' w' hown' hg _
      refine h v' w' ?_ ((Below.refl base wr).grown hg hbase (ownI_base hown))
      unfold OwnsI
      simpa [valsI] using hown'
theorem ownsI_empty (k : IntKind) (e : TypeId) (w : World) (base : Nat) (h : base ≤ w.heap.size) : OwnsI k e (w.alloc (.cells #[] e)) base (.slice (some ⟨w.heap.size, 0, none⟩) 0 0) [] :=
  ⟨rfl, .inr ⟨w.heap.size, 0, #[], rfl, h, heap_alloc_new w _, Nat.le_refl _, by decide, rfl, rfl⟩⟩
end Go.Proofs.YtmjigpnpcacefaaDoor
