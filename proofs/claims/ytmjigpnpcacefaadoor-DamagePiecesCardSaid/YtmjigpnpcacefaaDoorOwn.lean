/- Slices of numbers that a call has made itself: what they hold, how they grow, how they are made. -/
import Derived.Test.YtmjigpnpcacefaaDoorReads
import Derived.Maps.AppendAt
import Derived.Laws.AppendOwnNone
namespace Go.Proofs.YtmjigpnpcacefaaDoor
open Go Go.RowKit Go.Shelf

/-- The numbers as values. -/
def vals (k : IntKind) (xs : List Nat) : List Value := xs.map fun (x : Nat) => Value.int k (x : Int)
theorem vals_length (k : IntKind) (xs : List Nat) : (vals k xs).length = xs.length := by simp [vals]
theorem vals_get (k : IntKind) (xs : List Nat) (i : Nat) (h : i < xs.length) : (vals k xs)[i]? = some (.int k ((xs[i]?.getD 0 : Nat) : Int)) := by
  simp [vals, h]
/-- The slice value is the call's own, from block base on, and holds these numbers. -/
def Owns (k : IntKind) (e : TypeId) (w : World) (base : Nat) (v : Value) (xs : List Nat) : Prop := w.ownsRow base e 1 v xs.length (vals k xs)

theorem Owns.nil (k : IntKind) (e : TypeId) (w : World) (base : Nat) : Owns k e w base (.slice none 0 0) [] := World.ownsRow_nil w base e 1
theorem Owns.form {k : IntKind} {e : TypeId} {w : World} {base : Nat} {v : Value} {xs : List Nat} (h : Owns k e w base v xs) :
    (v = .slice none 0 0 ∧ xs = []) ∨ ∃ g cap, v = .slice (some ⟨g, 0, none⟩) xs.length cap ∧ base ≤ g ∧ g < w.heap.size ∧ xs.length ≤ cap ∧ cap ≤ 9223372036854775807 := by
  obtain ⟨_, h⟩ := h
  rcases h with ⟨rfl, hn⟩ | ⟨g, cap, cur, rfl, hb, hg, hn, hc, _, _⟩
  · exact .inl ⟨rfl, List.length_eq_zero_iff.1 hn⟩
  · exact .inr ⟨g, cap, rfl, hb, (Array.getElem?_eq_some_iff.1 hg).1, hn, hc⟩
theorem Owns.reads {k : IntKind} {e : TypeId} {w : World} {base : Nat} {v : Value} {xs : List Nat} (h : Owns k e w base v xs) : Reads k w v xs := by
  rcases h.form with ⟨rfl, rfl⟩ | ⟨g, cap, rfl, _, _, hn, hc⟩
  · exact ⟨none, 0, rfl, by simp, by decide, .inl rfl⟩
  · refine ⟨_, cap, rfl, hn, hc, .inr ⟨g, 0, rfl, fun i hi => ?_⟩⟩
    rw [Nat.zero_add, World.ownsRow.cellAt h i (by omega), vals_get k xs i hi]
theorem Owns.keep {k : IntKind} {e : TypeId} {w w' : World} {base n : Nat} {v : Value} {xs : List Nat} (h : Owns k e w base v xs) (hB : Below n w w') (hn : w.heap.size ≤ n) : Owns k e w' base v xs := by
  obtain ⟨h1, h⟩ := h
  refine ⟨h1, ?_⟩
  rcases h with h | ⟨g, cap, cur, rfl, hb, hg, rest⟩
  · exact .inl h
  · have hlt := (Array.getElem?_eq_some_iff.1 hg).1
    exact .inr ⟨g, cap, cur, rfl, hb, (hB.block g (by omega)).trans hg, rest⟩
theorem Owns.mono {k : IntKind} {e : TypeId} {w : World} {base base' : Nat} {v : Value} {xs : List Nat} (h : Owns k e w base v xs) (hb : base' ≤ base) : Owns k e w base' v xs := by
  obtain ⟨h1, h⟩ := h
  refine ⟨h1, ?_⟩
  rcases h with h | ⟨g, cap, cur, rfl, hb', rest⟩
  · exact .inl h
  · exact .inr ⟨g, cap, cur, rfl, by omega, rest⟩
theorem own_base {k : IntKind} {e : TypeId} {w : World} {base : Nat} {v : Value} {xs : List Nat} (h : Owns k e w base v xs) : ∀ j, v.ownBlock = some j → base ≤ j := fun j hj => (World.ownsRow.lt h j hj).1

/-- append(out, y). -/
theorem wpl_app1 {ops : Array Oper} {rest : List Oper} {o : Oper} {a : Act} {Q : Exit → Act → World → Prop} (hgd : o.guard = none) (s x : Operand) (t : TypeId)
    (ho : o.op = .call { callee := .builtin .append, args := #[s, x], argTypes := #[t, t] }) (k : IntKind) (e : TypeId) (bytes : Nat) (ht : Tryd.prog.underlying t = some (.slice e))
    (hi : (Tryd.prog.info? e).map (fun i => (i.zero, i.size, i.bytes)) = some (some (.int k 0), 1, bytes)) (hb8 : bytes ≤ 8)
    (base : Nat) (v : Value) (xs : List Nat) (wr : World) (hown : Owns k e wr base v xs) (hs : a.eval s = v) (c : Int) (y : Nat) (hx : a.eval x = .slice (some ⟨wr.heap.size, 0, none⟩) 1 1)
    (hc : c = (y : Int)) (hlen : xs.length < 17592186044415) (hbase : base ≤ wr.heap.size)
    (h : ∀ v' w', Owns k e w' base v' (xs ++ [y]) → Below base wr w' → wpList Tryd.prog ops Q rest (a.put o.dst v') w') :
    wpList Tryd.prog ops Q (o :: rest) a (wr.alloc (.cells #[.int k c] e)) := by
  subst hc
  obtain ⟨i0, hi0, hz0, hz1, hz2⟩ := info_parts hi
  refine wpList_append_own _ hgd s x t ho base e i0 (.int k 0) 1 bytes ht hi0 hz0 hz1 hz2 rfl (by decide) v xs.length (vals k xs) hs (World.ownsRow.alloc hown _) ⟨wr.heap.size, 0, none⟩ 1 1 [.int k (y : Int)] hx rfl
    (cell_one_new _ _ _) (by simp [Value.oneCell']) (by unfold maxLen; omega) ?_ (by simp; omega) ?_
  · calc (xs.length + 1) * bytes ≤ (xs.length + 1) * 8 := Nat.mul_le_mul_left _ hb8
      _ ≤ 140737488355328 := by omega
  · intro v' w' hown' hg _
    refine h v' w' ?_ (((Below.refl base wr).alloc hbase _).grown hg (by simp; omega) (own_base hown))
    unfold Owns
    simpa [vals] using hown'
/-- append(out, ys...). -/
theorem wpl_app {ops : Array Oper} {rest : List Oper} {o : Oper} {a : Act} {Q : Exit → Act → World → Prop} (hgd : o.guard = none) (s x : Operand) (t : TypeId)
    (ho : o.op = .call { callee := .builtin .append, args := #[s, x], argTypes := #[t, t] }) (k : IntKind) (e : TypeId) (bytes : Nat) (ht : Tryd.prog.underlying t = some (.slice e))
    (hi : (Tryd.prog.info? e).map (fun i => (i.zero, i.size, i.bytes)) = some (some (.int k 0), 1, bytes)) (hb8 : bytes ≤ 8)
    (base : Nat) (v : Value) (xs : List Nat) (wr : World) (hown : Owns k e wr base v xs) (hs : a.eval s = v) (vy : Value) (ys : List Nat) (hx : a.eval x = vy)
    (hy : Reads k wr vy ys) (hlen : xs.length + ys.length < 17592186044415) (hbase : base ≤ wr.heap.size)
    (h : ∀ v' w', Owns k e w' base v' (xs ++ ys) → Below base wr w' → wpList Tryd.prog ops Q rest (a.put o.dst v') w') :
    wpList Tryd.prog ops Q (o :: rest) a wr := by
  obtain ⟨i0, hi0, hz0, hz1, hz2⟩ := info_parts hi
  obtain ⟨ao, cap, rfl, hl, hm, hcell⟩ := hy
  rcases hcell with rfl | ⟨b, off, rfl, hcell⟩
  · obtain rfl : ys = [] := List.length_eq_zero_iff.1 (by omega)
    cases ao with
    | none => exact wpList_append_own_none hgd s x t ho base e i0 1 ht hi0 v xs.length (vals k xs) hs hown hx (h v wr (by simpa using hown) (Below.refl _ _))
    | some ad =>
      refine wpList_append_own _ hgd s x t ho base e i0 (.int k 0) 1 bytes ht hi0 hz0 hz1 hz2 rfl (by decide) v xs.length (vals k xs) hs hown ad 0 0 [] hx rfl
        (fun j u hu => by simp at hu) (by simp) (by unfold maxLen; simp at hlen; omega) ?_ hbase ?_
      · simp at hlen
        calc (xs.length + 0) * bytes ≤ (xs.length + 0) * 8 := Nat.mul_le_mul_left _ hb8
          _ ≤ 140737488355328 := by omega
      · intro v' w' hown' hg _
        refine h v' w' ?_ ((Below.refl base wr).grown hg hbase (own_base hown))
        unfold Owns
        simpa [vals] using hown'
  · refine wpList_append_own _ hgd s x t ho base e i0 (.int k 0) 1 bytes ht hi0 hz0 hz1 hz2 rfl (by decide) v xs.length (vals k xs) hs hown ⟨b, off, none⟩ ys.length cap (vals k ys) hx (by rw [vals_length]; omega)
      ?_ (by simp [vals, Value.oneCell']) (by unfold maxLen; omega) ?_ (by omega) ?_
    · intro j u hu
      have hj : j < ys.length := by
        apply Classical.byContradiction; intro hn
        rw [List.getElem?_eq_none (by rw [vals_length]; omega)] at hu; cases hu
      rw [vals_get k ys j hj] at hu
      cases hu
      have ha : (⟨b, off, none⟩ : Addr).add j = ⟨b, off + j, none⟩ := by simp [Addr.add]
      rw [ha]
      exact hcell j hj
    · calc (xs.length + ys.length) * bytes ≤ (xs.length + ys.length) * 8 := Nat.mul_le_mul_left _ hb8
        _ ≤ 140737488355328 := by omega
    · intro v' w' hown' hg _
      refine h v' w' ?_ ((Below.refl base wr).grown hg hbase (own_base hown))
      unfold Owns
      simpa [vals] using hown'
/-- make([]T, 0, n). -/
theorem wpl_make0 {ops : Array Oper} {rest : List Oper} {o : Oper} {a : Act} {Q : Exit → Act → World → Prop} (hgd : o.guard = none) (l c : Operand) (t : TypeId)
    (ho : o.op = Op.makeSlice t l c) (k : IntKind) (e : TypeId) (bytes : Nat) (ht : Tryd.prog.underlying t = some (.slice e))
    (hi : (Tryd.prog.info? e).map (fun i => (i.zero, i.size, i.bytes)) = some (some (.int k 0), 1, bytes)) (hb8 : bytes ≤ 8)
    (base : Nat) (wr : World) (n : Nat) (C : Int) (hl : a.eval l = .int .i64 0) (hc : a.eval c = .int .i64 C) (hC : C = (n : Int)) (hlen : n < 17592186044415) (hbase : base ≤ wr.heap.size)
    (h : ∀ v' w', Owns k e w' base v' [] → Below base wr w' → wpList Tryd.prog ops Q rest (a.put o.dst v') w') :
    wpList Tryd.prog ops Q (o :: rest) a wr := by
  obtain ⟨i0, hi0, hz0, hz1, hz2⟩ := info_parts hi
  refine wpList_make_own wr hgd l c t ho base e i0 (.int k 0) 1 ht hi0 hz0 hz1 .i64 .i64 C n hl hc hC ?_ (by unfold maxLen; omega) hbase ?_
  · rw [hz2]
    calc bytes * n ≤ 8 * n := Nat.mul_le_mul_right _ hb8
      _ ≤ 281474976710656 := by omega
  · intro w' hown hg
    exact h _ w' hown ((Below.refl base wr).grown hg hbase (fun _ e => by cases e))
/-- make([]T, n). -/
theorem wpl_make {ops : Array Oper} {rest : List Oper} {o : Oper} {a : Act} {Q : Exit → Act → World → Prop} (hgd : o.guard = none) (l c : Operand) (t : TypeId)
    (ho : o.op = Op.makeSlice t l c) (k : IntKind) (e : TypeId) (bytes : Nat) (ht : Tryd.prog.underlying t = some (.slice e))
    (hi : (Tryd.prog.info? e).map (fun i => (i.zero, i.size, i.bytes)) = some (some (.int k 0), 1, bytes)) (hb8 : bytes ≤ 8)
    (base : Nat) (wr : World) (n : Nat) (L C : Int) (hl : a.eval l = .int .i64 L) (hc : a.eval c = .int .i64 C) (hL : L = (n : Int)) (hC : C = (n : Int)) (hlen : n < 17592186044415) (hbase : base ≤ wr.heap.size)
    (h : ∀ v' w', Owns k e w' base v' (List.replicate n 0) → Below base wr w' → wpList Tryd.prog ops Q rest (a.put o.dst v') w') :
    wpList Tryd.prog ops Q (o :: rest) a wr := by
  obtain ⟨i0, hi0, hz0, hz1, hz2⟩ := info_parts hi
  refine wpList_make_full wr hgd l c t ho base e i0 (.int k 0) 1 ht hi0 hz0 hz1 .i64 .i64 L C n hl hc hL hC ?_ (by unfold maxLen; omega) hbase ?_
  · rw [hz2]
    calc bytes * n ≤ 8 * n := Nat.mul_le_mul_right _ hb8
      _ ≤ 281474976710656 := by omega
  · intro w' hown hg
    refine h _ w' ?_ ((Below.refl base wr).grown hg hbase (fun _ e => by cases e))
    unfold Owns
    have e1 : (madeCells (Value.int k 0).cells (n * 1)).toList = vals k (List.replicate n 0) := by
      rw [Nat.mul_one, show (Value.int k 0).cells = #[Value.int k 0] from rfl, toList_madeCells_one]
      simp [vals]
    rw [e1] at hown
    simpa using hown
theorem Owns.cellAt {k : IntKind} {e : TypeId} {w : World} {base g cap : Nat} {xs : List Nat} {n : Nat} (h : Owns k e w base (.slice (some ⟨g, 0, none⟩) n cap) xs) (hn : n = xs.length) (i : Nat) (hi : i < n) :
    w.cell? ⟨g, i, none⟩ = some (.int k ((xs[i]?.getD 0 : Nat) : Int)) := by
  subst hn
  rw [World.ownsRow.cellAt h i (by omega), vals_get k xs i hi]
theorem Owns.frozenAt {k : IntKind} {e : TypeId} {w : World} {base g cap : Nat} {xs : List Nat} {n : Nat} (h : Owns k e w base (.slice (some ⟨g, 0, none⟩) n cap) xs) (hn : n = xs.length) (i : Nat) :
    w.frozen? ⟨g, i, none⟩ = false := by
  subst hn
  exact World.ownsRow.frozenAt h i
/-- out[i] = y. -/
theorem Owns.set {k : IntKind} {e : TypeId} {w : World} {base g cap : Nat} {xs : List Nat} {n : Nat} (h : Owns k e w base (.slice (some ⟨g, 0, none⟩) n cap) xs) (hn : n = xs.length) (i y : Nat) (c : Int) (hc : c = (y : Int)) (_hi : i < xs.length) :
    Owns k e (w.setCell ⟨g, i, none⟩ (.int k c)) base (.slice (some ⟨g, 0, none⟩) n cap) (xs.set i y) := by
  subst hn hc
  have h' := World.ownsRow.stored h i (.int k (y : Int))
  unfold Owns
  rw [List.length_set]
  have e1 : vals k (xs.set i y) = (vals k xs).set i (.int k (y : Int)) := by
    unfold vals; rw [List.map_set]
  rw [e1]
  exact h'.1
end Go.Proofs.YtmjigpnpcacefaaDoor
