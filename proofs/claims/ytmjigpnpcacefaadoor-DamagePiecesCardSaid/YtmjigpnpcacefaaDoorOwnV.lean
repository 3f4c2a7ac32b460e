/- Slices of truth values that a call has made itself; the table of what is in a list. append in a region that draws its order: what it runs to, and how it is handed in. A list of which two places are exchanged. -/
import Derived.Test.YtmjigpnpcacefaaDoorOwnJ
import Derived.Deep.RegionLaw
import Derived.Test.YtmjigpnpcacefaaDoorReads
import Init.Data.List.Nat.Perm
import Derived.Laws.Tables
import Derived.Deep.WholeRow
import Derived.ChangeKeysEq
import Derived.Great.Frames
namespace Go.Proofs.YtmjigpnpcacefaaDoor
open Go Go.RowKit Go.Shelf

def valsB (xs : List Bool) : List Value := xs.map Value.bool
theorem valsB_length (xs : List Bool) : (valsB xs).length = xs.length := by simp [valsB]
theorem valsB_get (xs : List Bool) (i : Nat) (h : i < xs.length) : (valsB xs)[i]? = some (.bool (xs[i]?.getD false)) := by
  simp [valsB, h]
/-- The slice value is the call's own, from block base on, and holds these truth values. -/
def OwnsB (e : TypeId) (w : World) (base : Nat) (v : Value) (xs : List Bool) : Prop := w.ownsRow base e 1 v xs.length (valsB xs)
theorem OwnsB.keep {e : TypeId} {w w' : World} {base n : Nat} {v : Value} {xs : List Bool} (h : OwnsB e w base v xs) (hB : Below n w w') (hn : w.heap.size ≤ n) : OwnsB e w' base v xs := by
  obtain ⟨h1, h⟩ := h
  refine ⟨h1, ?_⟩
  rcases h with h | ⟨g, cap, cur, rfl, hb, hg, rest⟩
  · exact .inl h
  · have hlt := (Array.getElem?_eq_some_iff.1 hg).1
    exact .inr ⟨g, cap, cur, rfl, hb, (hB.block g (by omega)).trans hg, rest⟩
theorem OwnsB.alloc {e : TypeId} {w : World} {base : Nat} {v : Value} {xs : List Bool} (h : OwnsB e w base v xs) (o : Obj) : OwnsB e (w.alloc o) base v xs := World.ownsRow.alloc h o
theorem OwnsB.slice {e : TypeId} {w : World} {base : Nat} {v : Value} {xs : List Bool} (h : OwnsB e w base v xs) (h0 : 0 < xs.length) :
    ∃ g cap, v = .slice (some ⟨g, 0, none⟩) xs.length cap ∧ base ≤ g ∧ g < w.heap.size ∧ xs.length ≤ cap ∧ cap ≤ 9223372036854775807 := by
  obtain ⟨_, h⟩ := h
  rcases h with ⟨rfl, hn⟩ | ⟨g, cap, cur, rfl, hb, hg, hn, hc, _, _⟩
  · omega
  · exact ⟨g, cap, rfl, hb, (Array.getElem?_eq_some_iff.1 hg).1, hn, hc⟩
theorem OwnsB.cellAt {e : TypeId} {w : World} {base g cap : Nat} {xs : List Bool} {n : Nat} (h : OwnsB e w base (.slice (some ⟨g, 0, none⟩) n cap) xs) (hn : n = xs.length) (i : Nat) (hi : i < n) :
    w.cell? ⟨g, i, none⟩ = some (.bool (xs[i]?.getD false)) := by
  subst hn
  rw [World.ownsRow.cellAt h i (by omega), valsB_get xs i hi]
theorem OwnsB.frozenAt {e : TypeId} {w : World} {base g cap : Nat} {xs : List Bool} {n : Nat} (h : OwnsB e w base (.slice (some ⟨g, 0, none⟩) n cap) xs) (hn : n = xs.length) (i : Nat) :
    w.frozen? ⟨g, i, none⟩ = false := by
  subst hn
  exact World.ownsRow.frozenAt h i
theorem OwnsB.set {e : TypeId} {w : World} {base g cap : Nat} {xs : List Bool} {n : Nat} (h : OwnsB e w base (.slice (some ⟨g, 0, none⟩) n cap) xs) (hn : n = xs.length) (i : Nat) (y : Bool) (_hi : i < xs.length) :
    OwnsB e (w.setCell ⟨g, i, none⟩ (.bool y)) base (.slice (some ⟨g, 0, none⟩) n cap) (xs.set i y) := by
  subst hn
  have h' := World.ownsRow.stored h i (.bool y)
  unfold OwnsB
  rw [List.length_set]
  have e1 : valsB (xs.set i y) = (valsB xs).set i (.bool y) := by
    unfold valsB; rw [List.map_set]
  rw [e1]
  exact h'.1
theorem info_bool : (Tryd.prog.info? 4).map (fun i => (i.zero, i.size, i.bytes)) = some (some (.bool false), 1, 1) := by kernel_rfl
/-- make([]bool, n). -/
theorem wpl_makeB {ops : Array Oper} {rest : List Oper} {o : Oper} {a : Act} {Q : Exit → Act → World → Prop} (hgd : o.guard = none) (l c : Operand) (t : TypeId)
    (ho : o.op = Op.makeSlice t l c) (e : TypeId) (bytes : Nat) (ht : Tryd.prog.underlying t = some (.slice e))
    (hi : (Tryd.prog.info? e).map (fun i => (i.zero, i.size, i.bytes)) = some (some (.bool false), 1, bytes)) (hb8 : bytes ≤ 8)
    (base : Nat) (wr : World) (n : Nat) (L C : Int) (hl : a.eval l = .int .i64 L) (hc : a.eval c = .int .i64 C) (hL : L = (n : Int)) (hC : C = (n : Int)) (hlen : n < 17592186044415) (hbase : base ≤ wr.heap.size)
    (h : ∀ v' w', OwnsB e w' base v' (List.replicate n false) → Below base wr w' → wpList Tryd.prog ops Q rest (a.put o.dst v') w') :
    wpList Tryd.prog ops Q (o :: rest) a wr := by
  obtain ⟨i0, hi0, hz0, hz1, hz2⟩ := info_parts hi
  refine wpList_make_full wr hgd l c t ho base e i0 (.bool false) 1 ht hi0 hz0 hz1 .i64 .i64 L C n hl hc hL hC ?_ (by unfold maxLen; omega) hbase ?_
  · rw [hz2]
    calc bytes * n ≤ 8 * n := Nat.mul_le_mul_right _ hb8
      _ ≤ 281474976710656 := by omega
  · intro w' hown hg
    refine h _ w' ?_ ((Below.refl base wr).grown hg hbase (fun _ e => by cases e))
    unfold OwnsB
    have e1 : (madeCells (Value.bool false).cells (n * 1)).toList = valsB (List.replicate n false) := by
      rw [Nat.mul_one, show (Value.bool false).cells = #[Value.bool false] from rfl, toList_madeCells_one]
      simp [valsB]
    rw [e1] at hown
    simpa using hown
/-- A store into a row of truth values keeps another row. -/
theorem OwnsB.other {e : TypeId} {w : World} {base g i : Nat} {v u : Value} {xs : List Bool} (h : OwnsB e w base v xs) (hne : ∀ j, v.ownBlock = some j → j ≠ g) : OwnsB e (w.setCell ⟨g, i, none⟩ u) base v xs := by
  refine World.ownsRow.kept h (row := some g) ⟨rfl, rfl, rfl, by simp, fun k _ hk => heap_setCell_other w ⟨g, i, none⟩ k u (fun e => hk (by simp [e]))⟩ ?_
  cases hv : v.ownBlock with
  | none => exact .inl rfl
  | some j => right; intro e2; cases e2; exact hne g hv rfl
theorem OwnsB.keepAt {e : TypeId} {w w' : World} {base n g c m : Nat} {xs : List Bool} (h : OwnsB e w base (.slice (some ⟨g, 0, none⟩) m c) xs) (hB : Below n w w') (hn : g < n) : OwnsB e w' base (.slice (some ⟨g, 0, none⟩) m c) xs := by
  obtain ⟨h1, h⟩ := h
  refine ⟨h1, ?_⟩
  rcases h with h | ⟨g', cap, cur, e', hb, hg, rest⟩
  · exact .inl h
  · cases e'
    exact .inr ⟨g, c, cur, rfl, hb, (hB.block g hn).trans hg, rest⟩
theorem OwnsI.cellAt {k : IntKind} {e : TypeId} {w : World} {base g cap : Nat} {xs : List Int} {n : Nat} (h : OwnsI k e w base (.slice (some ⟨g, 0, none⟩) n cap) xs) (hn : n = xs.length) (i : Nat) (hi : i < n) :
    w.cell? ⟨g, i, none⟩ = some (.int k (xs[i]?.getD 0)) := by
  subst hn
  rw [World.ownsRow.cellAt h i (by omega), valsI_get k xs i hi]
theorem OwnsI.frozenAt {k : IntKind} {e : TypeId} {w : World} {base g cap : Nat} {xs : List Int} {n : Nat} (h : OwnsI k e w base (.slice (some ⟨g, 0, none⟩) n cap) xs) (hn : n = xs.length) (i : Nat) :
    w.frozen? ⟨g, i, none⟩ = false := by
  subst hn
  exact World.ownsRow.frozenAt h i
theorem OwnsI.set {k : IntKind} {e : TypeId} {w : World} {base g cap : Nat} {xs : List Int} {n : Nat} (h : OwnsI k e w base (.slice (some ⟨g, 0, none⟩) n cap) xs) (hn : n = xs.length) (i : Nat) (y : Int) (_hi : i < xs.length) :
    OwnsI k e (w.setCell ⟨g, i, none⟩ (.int k y)) base (.slice (some ⟨g, 0, none⟩) n cap) (xs.set i y) := by
  subst hn
  have h' := World.ownsRow.stored h i (.int k y)
  unfold OwnsI
  rw [List.length_set]
  have e1 : valsI k (xs.set i y) = (valsI k xs).set i (.int k y) := by
    unfold valsI; rw [List.map_set]
  rw [e1]
  exact h'.1
theorem OwnsI.other {k : IntKind} {e : TypeId} {w : World} {base g i : Nat} {v u : Value} {xs : List Int} (h : OwnsI k e w base v xs) (hne : ∀ j, v.ownBlock = some j → j ≠ g) : OwnsI k e (w.setCell ⟨g, i, none⟩ u) base v xs := by
  refine World.ownsRow.kept h (row := some g) ⟨rfl, rfl, rfl, by simp, fun k _ hk => heap_setCell_other w ⟨g, i, none⟩ k u (fun e => hk (by simp [e]))⟩ ?_
  cases hv : v.ownBlock with
  | none => exact .inl rfl
  | some j => right; intro e2; cases e2; exact hne g hv rfl

theorem owns_lit (k : IntKind) (e : TypeId) (w : World) (base : Nat) (h : base ≤ w.heap.size) (xs : List Nat) (cs : Array Value) (n : Nat) (hc : cs = (vals k xs).toArray) (hn : n = xs.length) (hl : n ≤ 9223372036854775807) : Owns k e (w.alloc (.cells cs e)) base (.slice (some ⟨w.heap.size, 0, none⟩) n n) xs := by
  subst hc hn
  refine ⟨by simp [vals], .inr ⟨w.heap.size, xs.length, _, rfl, h, heap_alloc_new w _, Nat.le_refl _, hl, by simp [vals], ?_⟩⟩
  simp [vals]
  exact List.take_of_length_le (by simp)
theorem ownsI_lit (k : IntKind) (e : TypeId) (w : World) (base : Nat) (h : base ≤ w.heap.size) (xs : List Int) (cs : Array Value) (n : Nat) (hc : cs = (valsI k xs).toArray) (hn : n = xs.length) (hl : n ≤ 9223372036854775807) : OwnsI k e (w.alloc (.cells cs e)) base (.slice (some ⟨w.heap.size, 0, none⟩) n n) xs := by
  subst hc hn
  refine ⟨by simp [valsI], .inr ⟨w.heap.size, xs.length, _, rfl, h, heap_alloc_new w _, Nat.le_refl _, hl, by simp [valsI], ?_⟩⟩
  simp [valsI]
  exact List.take_of_length_le (by simp)

/-- Which of the first n numbers are in a list. -/
def tbl (n : Nat) (ks : List Nat) : List Bool := (List.range n).map fun k => decide (k ∈ ks)
theorem tbl_length (n : Nat) (ks : List Nat) : (tbl n ks).length = n := by simp [tbl]
theorem tbl_get (n : Nat) (ks : List Nat) (k : Nat) (h : k < n) : (tbl n ks)[k]?.getD false = decide (k ∈ ks) := by
  simp [tbl, h]
theorem tbl_nil (n : Nat) : tbl n [] = List.replicate n false := by
  apply List.ext_getElem
  · simp [tbl]
  · intro i h1 h2; simp [tbl]
theorem tbl_set (n : Nat) (ks : List Nat) (k : Nat) : (tbl n ks).set k true = tbl n (ks ++ [k]) := by
  apply List.ext_getElem
  · simp [tbl]
  · intro i h1 h2
    rw [List.getElem_set]
    by_cases e : k = i
    · subst e; simp [tbl]
    · rw [if_neg e]
      simp only [tbl, List.getElem_map, List.getElem_range, List.mem_append, List.mem_singleton]
      rw [decide_eq_decide]
      constructor
      · exact .inl
      · rintro (h | h)
        · exact h
        · exact absurd h.symm e
/-- The remainders, each once. -/
def uq (n : Nat) (l : List Nat) : List Nat := l.foldl (fun acc x => if x % n ∈ acc then acc else acc ++ [x % n]) []
theorem uq_snoc (n : Nat) (l : List Nat) (x : Nat) : uq n (l ++ [x]) = if x % n ∈ uq n l then uq n l else uq n l ++ [x % n] := by
  unfold uq; rw [List.foldl_append]; rfl
theorem uq_ind {P : List Nat → Prop} (n : Nat) (h0 : P []) (h1 : ∀ acc x, P acc → x % n ∉ acc → P (acc ++ [x % n])) (l : List Nat) : P (uq n l) := by
  have : ∀ (l acc : List Nat), P acc → P (l.foldl (fun acc x => if x % n ∈ acc then acc else acc ++ [x % n]) acc) := by
    intro l
    induction l with
    | nil => intro acc h; exact h
    | cons x l ih =>
      intro acc h
      rw [List.foldl_cons]
      apply ih
      by_cases hx : x % n ∈ acc
      · rw [if_pos hx]; exact h
      · rw [if_neg hx]; exact h1 acc x h hx
  exact this l [] h0
theorem uq_nodup (n : Nat) (l : List Nat) : (uq n l).Nodup :=
  uq_ind n List.nodup_nil (fun acc x h hx => by
    rw [List.nodup_append]
    refine ⟨h, List.nodup_cons.2 ⟨by simp, List.nodup_nil⟩, fun a ha b hb e => ?_⟩
    rw [List.mem_singleton] at hb
    rw [e, hb] at ha
    exact hx ha) l
theorem uq_lt (n : Nat) (hn : 0 < n) (l : List Nat) : ∀ k ∈ uq n l, k < n :=
  uq_ind (P := fun acc => ∀ k ∈ acc, k < n) n (fun k h => by cases h) (fun acc x h _ k hk => by
    rcases List.mem_append.1 hk with hk | hk
    · exact h k hk
    · rw [List.mem_singleton] at hk; rw [hk]; exact Nat.mod_lt _ hn) l
theorem uq_length_aux (n : Nat) : ∀ (l acc : List Nat), (l.foldl (fun acc x => if x % n ∈ acc then acc else acc ++ [x % n]) acc).length ≤ acc.length + l.length
  | [], acc => by simp
  | x :: l, acc => by
    rw [List.foldl_cons]
    have := uq_length_aux n l (if x % n ∈ acc then acc else acc ++ [x % n])
    have h2 : (if x % n ∈ acc then acc else acc ++ [x % n]).length ≤ acc.length + 1 := by split <;> simp
    rw [List.length_cons]
    omega
theorem uq_length (n : Nat) (l : List Nat) : (uq n l).length ≤ l.length := by
  have := uq_length_aux n l []
  simpa [uq] using this
end Go.Proofs.YtmjigpnpcacefaaDoor
namespace Go.Proofs.YtmjigpnpcacefaaDoor
open Go Go.RowKit Go.Shelf

theorem owns_form3 {k : IntKind} {e : TypeId} {w : World} {base : Nat} {v : Value} {xs : List Nat} (h : Owns k e w base v xs) : ∃ a n c, v = .slice a n c ∧ n = xs.length ∧ n ≤ c ∧ c ≤ 9223372036854775807 := by
  rcases h.form with ⟨rfl, rfl⟩ | ⟨g, cap, rfl, hb, hg, hn, hc⟩
  · exact ⟨_, _, _, rfl, rfl, by simp, by simp⟩
  · exact ⟨_, _, _, rfl, rfl, hn, hc⟩
/-- append, as one step of a region that draws. -/
theorem step_app {P : Program} {ops : Array Oper} {o : Oper} {a : Act} {w : World} {K : Act → World → Prop} {Q : Exit → Act → World → Prop} {E : Prop}
    (hg : o.guard = none) (s x : Operand) (t1 t2 : TypeId) (hop : o.op = Op.call { callee := Callee.builtin Builtin.append, args := #[s, x], argTypes := #[t1, t2] }) (v : Value) (w' : World)
    (hrun : (Builtin.append_ #[t1, t2] o.type #[a.eval s, a.eval x]).run P w = .ok v w') (hK : K (a.put o.dst v) w') :
    if Region.wanted o (yielded ops a.tmps) = true then Oper.wp P o a w K Q else E := by
  have hw : Region.wanted o (yielded ops a.tmps) = true := by simp [Region.wanted, hg]
  rw [if_pos hw]
  unfold Oper.wp
  simp [execOp, hop, resolve, invoke, builtin, hrun, Result.andThen]
  exact hK
/-- append(out, ys...): what it runs to. -/
theorem run_app (ty : TypeId) {k : IntKind} {e t : TypeId} {bytes base : Nat} (ht : Tryd.prog.underlying t = some (.slice e))
    (hi : (Tryd.prog.info? e).map (fun i => (i.zero, i.size, i.bytes)) = some (some (.int k 0), 1, bytes)) (hb8 : bytes ≤ 8)
    {v vy : Value} {xs ys : List Nat} {w : World} (hown : Owns k e w base v xs) (hy : Reads k w vy ys) (hlen : xs.length + ys.length < 17592186044415) (hbase : base ≤ w.heap.size) :
    ∃ v' w', (Builtin.append_ #[t, t] ty #[v, vy]).run Tryd.prog w = .ok v' w' ∧ Owns k e w' base v' (xs ++ ys) ∧ Below base w w' := by
  obtain ⟨i0, hi0, hz0, hz1, hz2⟩ := info_parts hi
  obtain ⟨ao, cap, rfl, hl, hm, hcell⟩ := hy
  have hbyt : (xs.length + ys.length) * bytes ≤ 140737488355328 :=
    calc (xs.length + ys.length) * bytes ≤ (xs.length + ys.length) * 8 := Nat.mul_le_mul_left _ hb8
      _ ≤ 140737488355328 := by omega
  rcases hcell with rfl | ⟨b, off, rfl, hcell⟩
  · obtain rfl : ys = [] := List.length_eq_zero_iff.1 (by omega)
    cases ao with
    | none => exact ⟨v, w, run_append_owned_none (P := Tryd.prog) (w := w) base t ty e i0 1 ht hi0 v xs.length (vals k xs) hown, by simpa using hown, Below.refl _ _⟩
    | some ad =>
      obtain ⟨v', w', hr, ho', hg', _⟩ := run_append_own (P := Tryd.prog) w base t ty e i0 (.int k 0) 1 bytes ht hi0 hz0 hz1 hz2 rfl (by decide) v xs.length (vals k xs) hown ad 0 0 [] rfl
        (fun j u hu => by simp at hu) (by simp) (by unfold maxLen; simp at hlen; omega) (by simpa using hbyt) hbase
      exact ⟨v', w', hr, by unfold Owns; simpa [vals] using ho', (Below.refl base w).grown hg' hbase (own_base hown)⟩
  · obtain ⟨v', w', hr, ho', hg', _⟩ := run_append_own (P := Tryd.prog) w base t ty e i0 (.int k 0) 1 bytes ht hi0 hz0 hz1 hz2 rfl (by decide) v xs.length (vals k xs) hown ⟨b, off, none⟩ ys.length cap (vals k ys) (by rw [vals_length]; omega)
      (fun j u hu => by
        have hj : j < ys.length := by
          apply Classical.byContradiction; intro hn
          rw [List.getElem?_eq_none (by rw [vals_length]; omega)] at hu; cases hu
        rw [vals_get k ys j hj] at hu
        cases hu
        have ha : (⟨b, off, none⟩ : Addr).add j = ⟨b, off + j, none⟩ := by simp [Addr.add]
        rw [ha]
        exact hcell j hj) (by simp [vals, Value.oneCell']) (by unfold maxLen; omega) hbyt hbase
    exact ⟨v', w', hr, by unfold Owns; simpa [vals] using ho', (Below.refl base w).grown hg' hbase (own_base hown)⟩
/-- append(out, make([]T, m)...): what it runs to. -/
theorem run_appz (ty : TypeId) {k : IntKind} {e t tn : TypeId} {bytes base : Nat} (ht : Tryd.prog.underlying t = some (.slice e)) (htn : Tryd.prog.underlying tn = some (.int .i64))
    (hi : (Tryd.prog.info? e).map (fun i => (i.zero, i.size, i.bytes)) = some (some (.int k 0), 1, bytes)) (hb8 : bytes ≤ 8)
    {v : Value} {xs : List Nat} {w : World} (hown : Owns k e w base v xs) (m : Nat) (hlen : xs.length + m < 17592186044415) (hbase : base ≤ w.heap.size) :
    ∃ v' w', (Builtin.append_ #[t, tn] ty #[v, .int .i64 (m : Int)]).run Tryd.prog w = .ok v' w' ∧ Owns k e w' base v' (xs ++ List.replicate m 0) ∧ Below base w w' := by
  obtain ⟨i0, hi0, hz0, hz1, hz2⟩ := info_parts hi
  obtain ⟨v', w', hr, hown', hg⟩ := run_append_zeros (P := Tryd.prog) w base t tn ty e i0 k bytes ht htn hi0 hz0 hz1 hz2 hb8 v xs.length (vals k xs) hown m hlen hbase
  exact ⟨v', w', hr, by unfold Owns; simpa [vals] using hown', (Below.refl base w).grown hg hbase (own_base hown)⟩
end Go.Proofs.YtmjigpnpcacefaaDoor
namespace Go.Proofs.YtmjigpnpcacefaaDoor
open Go Go.RowKit Go.Shelf

theorem swap_perm (L : List Int) {i j : Nat} (hi : i < L.length) (hj : j < L.length) : ((L.set i (L[j]?.getD 0)).set j (L[i]?.getD 0)).Perm L := by
  rw [List.getElem?_eq_getElem hi, List.getElem?_eq_getElem hj]
  exact List.set_set_perm hi hj
/-- An element of an array by value. -/
theorem index_plain {P : Program} {t e : TypeId} {n : Nat} (h : P.underlying t = some (.array n e)) (hs : (P.info? e).map (·.size) = some 1) (ha : P.plainKey e = true) {cs : Array Value} {i : Nat} {u : Value} (hi : i < n) (hu : cs[i]? = some u) (w : World) :
    (Instr.index t (.agg cs) (.int .i64 (i : Int))).run P w = .ok u w := by
  have hp := run_part_plain (P := P) (w := w) ha hu
  have hz : (sizeOf e).run P w = .ok 1 w := by
    cases hq : P.info? e with
    | none => simp [hq] at hs
    | some d =>
      have hd : d.size = 1 := by simpa [hq] using hs
      simp [sizeOf, typeInfo, hq, hd]
  unfold Instr.index
  unfold part at hp
  simp [go_sem] at hp
  simp [run_underlying h, asIntOf, hi, hz, go_sem]
  exact hp
/-- var b [n]T: a new block of zeros, whose cells stand behind a name. -/
theorem wpl_allocZ {P : Program} {ops : Array Oper} {rest : List Oper} {o : Oper} {a : Act} {Q : Exit → Act → World → Prop} {w : World} (hg : o.guard = none) (t : TypeId) (ho : o.op = .alloc t) (Z : Array Value)
    (hz : (zeroValue t).run P w = .ok (.agg Z) w) (h : wpList P ops Q rest (a.put o.dst (.pointer (some ⟨w.heap.size, 0, none⟩))) (w.alloc (.cells Z t))) : wpList P ops Q (o :: rest) a w := by
  refine wpList_plain hg fun K hK => ?_
  unfold Oper.wp
  simp [execOp, ho, Instr.alloc, hz, newVar, Value.cells, go_sem]
  exact hK _ _ h
/-- b := [n]T{}: the same, from a literal. -/
theorem wpl_zeros {P : Program} {ops : Array Oper} {rest : List Oper} {o1 o2 o3 : Oper} {a : Act} {Q : Exit → Act → World → Prop} {w : World} (g1 : o1.guard = none) (g2 : o2.guard = none) (g3 : o3.guard = none) (t : TypeId) (d1 d2 : Tmp)
    (h1 : o1.op = .build t #[]) (e1 : o1.dst = some d1) (h2 : o2.op = .alloc t) (e2 : o2.dst = some d2) (h3 : o3.op = .store t (.tmp d2) (.tmp d1)) (e3 : o3.dst = none) (hne : d1 ≠ d2) (hs1 : d1 < a.tmps.size) (hs2 : d2 < a.tmps.size) (Z : Array Value)
    (hb : P.built t [] = some Z) (hz : ∀ W : World, (zeroValue t).run P W = .ok (.agg Z) W) (hi : (P.info? t).map (·.size) = some Z.size) (hone : Z.all (·.oneCell') = true)
    (h : wpList P ops Q rest ((a.put (some d1) (.agg Z)).put (some d2) (.pointer (some ⟨w.heap.size, 0, none⟩))) (w.alloc (.cells Z t))) : wpList P ops Q (o1 :: o2 :: o3 :: rest) a w := by
  refine wpList_build g1 t #[] h1 (by simp [hb]) ?_
  have eb : (P.built t ((#[] : Array (Nat × Operand)).map (fun (i, x) => (i, a.eval x))).toList).getD #[] = Z := by simp [hb]
  rw [eb, e1]
  refine wpl_allocZ g2 t h2 Z (hz _) ?_
  rw [e2]
  refine wpList_store_row g3 t (.tmp d2) (.tmp d1) h3 w.heap.size Z ?_ ?_ t Z (World.alloc_heap_new w _) hi rfl hone ?_
  · exact Act.eval_put_same _ _ _ (by rw [Act.size_put]; exact hs2)
  · rw [Act.eval_put_ne _ _ _ _ (Ne.symm hne)]; exact Act.eval_put_same _ _ _ hs1
  · rw [e3, World.setRow_alloc_new]
    exact h
/-- append(out, ys...) of signed numbers: what it runs to. -/
theorem run_appI (ty : TypeId) {k : IntKind} {e t : TypeId} {bytes base : Nat} (ht : Tryd.prog.underlying t = some (.slice e))
    (hi : (Tryd.prog.info? e).map (fun i => (i.zero, i.size, i.bytes)) = some (some (.int k 0), 1, bytes)) (hb8 : bytes ≤ 8)
    {v vy : Value} {xs ys : List Int} {w : World} (hown : OwnsI k e w base v xs) (hy : ReadsI k w vy ys) (hlen : xs.length + ys.length < 17592186044415) (hbase : base ≤ w.heap.size) :
    ∃ v' w', (Builtin.append_ #[t, t] ty #[v, vy]).run Tryd.prog w = .ok v' w' ∧ OwnsI k e w' base v' (xs ++ ys) ∧ Below base w w' ∧ w.grownBy w' v.ownBlock := by
  obtain ⟨i0, hi0, hz0, hz1, hz2⟩ := info_parts hi
  obtain ⟨ao, cap, rfl, hl, hm, hcell⟩ := hy
  have hbyt : (xs.length + ys.length) * bytes ≤ 140737488355328 :=
    calc (xs.length + ys.length) * bytes ≤ (xs.length + ys.length) * 8 := Nat.mul_le_mul_left _ hb8
      _ ≤ 140737488355328 := by omega
  rcases hcell with rfl | ⟨b, off, rfl, hcell⟩
  · obtain rfl : ys = [] := List.length_eq_zero_iff.1 (by omega)
    cases ao with
    | none => exact ⟨v, w, run_append_owned_none (P := Tryd.prog) (w := w) base t ty e i0 1 ht hi0 v xs.length (valsI k xs) hown, by simpa using hown, Below.refl _ _, ⟨rfl, rfl, rfl, Nat.le_refl _, fun _ _ _ => rfl⟩⟩
    | some ad =>
      obtain ⟨v', w', hr, ho', hg', _⟩ := run_append_own (P := Tryd.prog) w base t ty e i0 (.int k 0) 1 bytes ht hi0 hz0 hz1 hz2 rfl (by decide) v xs.length (valsI k xs) hown ad 0 0 [] rfl
        (fun j u hu => by simp at hu) (by simp) (by unfold maxLen; simp at hlen; omega) (by simpa using hbyt) hbase
      exact ⟨v', w', hr, by unfold OwnsI; simpa [valsI] using ho', (Below.refl base w).grown hg' hbase (ownI_base hown), hg'⟩
  · obtain ⟨v', w', hr, ho', hg', _⟩ := run_append_own (P := Tryd.prog) w base t ty e i0 (.int k 0) 1 bytes ht hi0 hz0 hz1 hz2 rfl (by decide) v xs.length (valsI k xs) hown ⟨b, off, none⟩ ys.length cap (valsI k ys) (by rw [valsI_length]; omega)
      (fun j u hu => by
        have hj : j < ys.length := by
          apply Classical.byContradiction; intro hn
          rw [List.getElem?_eq_none (by rw [valsI_length]; omega)] at hu; cases hu
        rw [valsI_get k ys j hj] at hu
        cases hu
        have ha : (⟨b, off, none⟩ : Addr).add j = ⟨b, off + j, none⟩ := by simp [Addr.add]
        rw [ha]
        exact hcell j hj) (by simp [valsI, Value.oneCell']) (by unfold maxLen; omega) hbyt hbase
    exact ⟨v', w', hr, by unfold OwnsI; simpa [valsI] using ho', (Below.refl base w).grown hg' hbase (ownI_base hown), hg'⟩
theorem OwnsI.drew {k : IntKind} {e : TypeId} {w : World} {base : Nat} {v : Value} {xs : List Int} (h : OwnsI k e w base v xs) : OwnsI k e w.drew base v xs := World.ownsRow.drew h
end Go.Proofs.YtmjigpnpcacefaaDoor
