/- Slices of numbers that a call has made itself: what they hold, how they grow, how they are made. The reference of polynomials as lists of coefficients: the walks of trim, Sum, Of, Divide. append(out, make([]T, k)...); operations under a guard that holds. What the frames of all laws share: the arguments' readings. Arguments that are a burst, or three numbers in a row: how they open. Slices of signed numbers that a call has made itself. Regions that draw their order and hold calls that make memory; owned slices at their places. More on slices of signed numbers of the call's own: append of one, what is kept, a store. Slices of truth values that a call has made itself; the table of what is in a list. append in a region that draws its order: what it runs to, and how it is handed in. A list of which two places are exchanged. -/
import Derived.Test.YtmjigpnpcacefaaDoorReads
import Derived.Maps.AppendAt
import Derived.Laws.AppendOwnNone
import Derived.Lib.AppendZerosOnto
import Derived.Test.YtmjigpnpcacefaaDoorRows
import Derived.ProofKit
import Derived.OpenShut
import Derived.ShutString
import Derived.ChangeOld
import Derived.Below
import Derived.Deep.DeepHandedRow
import Derived.Lib.LaidTab
import Derived.Laws.IdiomArrays
import Derived.Deep.RegionHeld3
import Derived.Deep.RegionLaw
import Init.Data.List.Nat.Perm
import Derived.Laws.Tables
import Derived.Deep.WholeRow
import Derived.ChangeKeysEq
import Derived.Great.Frames
namespace Go.Proofs.YtmjigpnpcacefaaDoor
open Go Go.RowKit Go.Shelf

/-- The numbers as values. -/
def vals (k : IntKind) (xs : List Nat) : List Value := xs.map fun (x : Nat) => Value.int k (x : Int)
theorem vals_length (k : IntKind) (xs : List Nat) : (vals k xs).length = xs.length := by simp [vals]
theorem vals_get (k : IntKind) (xs : List Nat) (i : Nat) (h : i < xs.length) : (vals k xs)[i]? = some (.int k ((xs[i]?.getD 0 : Nat) : Int)) := by
  simp [vals, h]
/-- The slice value is the call's own, from block base on, and holds these numbers. -/
def Owns (k : IntKind) (e : TypeId) (w : World) (base : Nat) (v : Value) (xs : List Nat) : Prop := w.ownsRow base e 1 v xs.length (vals k xs)

theorem Owns.nil (k : IntKind) (e : TypeId) (w : World) (base : Nat) : Owns k e w base (.slice none 0 0) [] := World.ownsRow_nil w base e 1
theorem Owns.form {k : IntKind} {e : TypeId} {w : World} {base : Nat} {v : Value} {xs : List Nat} (h : Owns k e w base v xs) :
    (v = .slice none 0 0 ∧ xs = []) ∨ ∃ g cap, v = .slice (some ⟨g, 0, none⟩) xs.length cap ∧ base ≤ g ∧ g < w.heap.size ∧ xs.length ≤ cap ∧ cap ≤ 9223372036854775807 := by
  obtain ⟨_, h⟩ := h
  rcases h with ⟨rfl, hn⟩ | ⟨g, cap, cur, rfl, hb, hg, hn, hc, _, _⟩
  · exact .inl ⟨rfl, List.length_eq_zero_iff.1 hn⟩
  · exact .inr ⟨g, cap, rfl, hb, (Array.getElem?_eq_some_iff.1 hg).1, hn, hc⟩
theorem Owns.reads {k : IntKind} {e : TypeId} {w : World} {base : Nat} {v : Value} {xs : List Nat} (h : Owns k e w base v xs) : Reads k w v xs := by
  rcases h.form with ⟨rfl, rfl⟩ | ⟨g, cap, rfl, _, _, hn, hc⟩
  · exact ⟨none, 0, rfl, by simp, by decide, .inl rfl⟩
  · refine ⟨_, cap, rfl, hn, hc, .inr ⟨g, 0, rfl, fun i hi => ?_⟩⟩
    rw [Nat.zero_add, World.ownsRow.cellAt h i (by omega), vals_get k xs i hi]
theorem Owns.keep {k : IntKind} {e : TypeId} {w w' : World} {base n : Nat} {v : Value} {xs : List Nat} (h : Owns k e w base v xs) (hB : Below n w w') (hn : w.heap.size ≤ n) : Owns k e w' base v xs := by
  obtain ⟨h1, h⟩ := h
  refine ⟨h1, ?_⟩
  rcases h with h | ⟨g, cap, cur, rfl, hb, hg, rest⟩
  · exact .inl h
  · have hlt := (Array.getElem?_eq_some_iff.1 hg).1
    exact .inr ⟨g, cap, cur, rfl, hb, (hB.block g (by omega)).trans hg, rest⟩
theorem Owns.mono {k : IntKind} {e : TypeId} {w : World} {base base' : Nat} {v : Value} {xs : List Nat} (h : Owns k e w base v xs) (hb : base' ≤ base) : Owns k e w base' v xs := by
  obtain ⟨h1, h⟩ := h
  refine ⟨h1, ?_⟩
  rcases h with h | ⟨g, cap, cur, rfl, hb', rest⟩
  · exact .inl h
  · exact .inr ⟨g, cap, cur, rfl, by omega, rest⟩
theorem own_base {k : IntKind} {e : TypeId} {w : World} {base : Nat} {v : Value} {xs : List Nat} (h : Owns k e w base v xs) : ∀ j, v.ownBlock = some j → base ≤ j := fun j hj => (World.ownsRow.lt h j hj).1

/-- append(out, y). -/
theorem wpl_app1 {ops : Array Oper} {rest : List Oper} {o : Oper} {a : Act} {Q : Exit → Act → World → Prop} (hgd : o.guard = none) (s x : Operand) (t : TypeId)
    (ho : o.op = .call { callee := .builtin .append, args := #[s, x], argTypes := #[t, t] }) (k : IntKind) (e : TypeId) (bytes : Nat) (ht : Tryd.prog.underlying t = some (.slice e))
    (hi : (Tryd.prog.info? e).map (fun i => (i.zero, i.size, i.bytes)) = some (some (.int k 0), 1, bytes)) (hb8 : bytes ≤ 8)
    (base : Nat) (v : Value) (xs : List Nat) (wr : World) (hown : Owns k e wr base v xs) (hs : a.eval s = v) (c : Int) (y : Nat) (hx : a.eval x = .slice (some ⟨wr.heap.size, 0, none⟩) 1 1)
    (hc : c = (y : Int)) (hlen : xs.length < 17592186044415) (hbase : base ≤ wr.heap.size)
    (h : ∀ v' w', Owns k e w' base v' (xs ++ [y]) → Below base wr w' → wpList Tryd.prog ops Q rest (a.put o.dst v') w') :
    wpList Tryd.prog ops Q (o :: rest) a (wr.alloc (.cells #[.int k c] e)) := by
  subst hc
  obtain ⟨i0, hi0, hz0, hz1, hz2⟩ := info_parts hi
  refine wpList_append_own _ hgd s x t ho base e i0 (.int k 0) 1 bytes ht hi0 hz0 hz1 hz2 rfl (by decide) v xs.length (vals k xs) hs (World.ownsRow.alloc hown _) ⟨wr.heap.size, 0, none⟩ 1 1 [.int k (y : Int)] hx rfl
    (cell_one_new _ _ _) (by simp [Value.oneCell']) (by unfold maxLen; omega) ?_ (by simp; omega) ?_
  · calc (xs.length + 1) * bytes ≤ (xs.length + 1) * 8 := Nat.mul_le_mul_left _ hb8
      _ ≤ 140737488355328 := by omega
  · intro v' w' hown' hg _
    refine h v' w' ?_ (((Below.refl base wr).alloc hbase _).grown hg (by simp; omega) (own_base hown))
    unfold Owns
    simpa [vals] using hown'
/-- append(out, ys...). -/
theorem wpl_app {ops : Array Oper} {rest : List Oper} {o : Oper} {a : Act} {Q : Exit → Act → World → Prop} (hgd : o.guard = none) (s x : Operand) (t : TypeId)
    (ho : o.op = .call { callee := .builtin .append, args := #[s, x], argTypes := #[t, t] }) (k : IntKind) (e : TypeId) (bytes : Nat) (ht : Tryd.prog.underlying t = some (.slice e))
    (hi : (Tryd.prog.info? e).map (fun i => (i.zero, i.size, i.bytes)) = some (some (.int k 0), 1, bytes)) (hb8 : bytes ≤ 8)
    (base : Nat) (v : Value) (xs : List Nat) (wr : World) (hown : Owns k e wr base v xs) (hs : a.eval s = v) (vy : Value) (ys : List Nat) (hx : a.eval x = vy)
    (hy : Reads k wr vy ys) (hlen : xs.length + ys.length < 17592186044415) (hbase : base ≤ wr.heap.size)
    (h : ∀ v' w', Owns k e w' base v' (xs ++ ys) → Below base wr w' → wpList Tryd.prog ops Q rest (a.put o.dst v') w') :
    wpList Tryd.prog ops Q (o :: rest) a wr := by
  obtain ⟨i0, hi0, hz0, hz1, hz2⟩ := info_parts hi
  obtain ⟨ao, cap, rfl, hl, hm, hcell⟩ := hy
  rcases hcell with rfl | ⟨b, off, rfl, hcell⟩
  · obtain rfl : ys = [] := List.length_eq_zero_iff.1 (by omega)
    cases ao with
    | none => exact wpList_append_own_none hgd s x t ho base e i0 1 ht hi0 v xs.length (vals k xs) hs hown hx (h v wr (by simpa using hown) (Below.refl _ _))
    | some ad =>
      refine wpList_append_own _ hgd s x t ho base e i0 (.int k 0) 1 bytes ht hi0 hz0 hz1 hz2 rfl (by decide) v xs.length (vals k xs) hs hown ad 0 0 [] hx rfl
        (fun j u hu => by simp at hu) (by simp) (by unfold maxLen; simp at hlen; omega) ?_ hbase ?_
      · simp at hlen
        calc (xs.length + 0) * bytes ≤ (xs.length + 0) * 8 := Nat.mul_le_mul_left _ hb8
          _ ≤ 140737488355328 := by omega
      · intro v' w' hown' hg _
        refine h v' w' ?_ ((Below.refl base wr).grown hg hbase (own_base hown))
        unfold Owns
        simpa [vals] using hown'
  · refine wpList_append_own _ hgd s x t ho base e i0 (.int k 0) 1 bytes ht hi0 hz0 hz1 hz2 rfl (by decide) v xs.length (vals k xs) hs hown ⟨b, off, none⟩ ys.length cap (vals k ys) hx (by rw [vals_length]; omega)
      ?_ (by simp [vals, Value.oneCell']) (by unfold maxLen; omega) ?_ (by omega) ?_
    · intro j u hu
      have hj : j < ys.length := by
        apply Classical.byContradiction; intro hn
        rw [List.getElem?_eq_none (by rw [vals_length]; omega)] at hu; cases hu
      rw [vals_get k ys j hj] at hu
      cases hu
      have ha : (⟨b, off, none⟩ : Addr).add j = ⟨b, off + j, none⟩ := by simp [Addr.add]
      rw [ha]
      exact hcell j hj
    · calc (xs.length + ys.length) * bytes ≤ (xs.length + ys.length) * 8 := Nat.mul_le_mul_left _ hb8
        _ ≤ 140737488355328 := by omega
    · intro v' w' hown' hg _
      refine h v' w' ?_ ((Below.refl base wr).grown hg hbase (own_base hown))
      unfold Owns
      simpa [vals] using hown'
/-- make([]T, 0, n). -/
theorem wpl_make0 {ops : Array Oper} {rest : List Oper} {o : Oper} {a : Act} {Q : Exit → Act → World → Prop} (hgd : o.guard = none) (l c : Operand) (t : TypeId)
    (ho : o.op = Op.makeSlice t l c) (k : IntKind) (e : TypeId) (bytes : Nat) (ht : Tryd.prog.underlying t = some (.slice e))
    (hi : (Tryd.prog.info? e).map (fun i => (i.zero, i.size, i.bytes)) = some (some (.int k 0), 1, bytes)) (hb8 : bytes ≤ 8)
    (base : Nat) (wr : World) (n : Nat) (C : Int) (hl : a.eval l = .int .i64 0) (hc : a.eval c = .int .i64 C) (hC : C = (n : Int)) (hlen : n < 17592186044415) (hbase : base ≤ wr.heap.size)
    (h : ∀ v' w', Owns k e w' base v' [] → Below base wr w' → wpList Tryd.prog ops Q rest (a.put o.dst v') w') :
    wpList Tryd.prog ops Q (o :: rest) a wr := by
  obtain ⟨i0, hi0, hz0, hz1, hz2⟩ := info_parts hi
  refine wpList_make_own wr hgd l c t ho base e i0 (.int k 0) 1 ht hi0 hz0 hz1 .i64 .i64 C n hl hc hC ?_ (by unfold maxLen; omega) hbase ?_
  · rw [hz2]
    calc bytes * n ≤ 8 * n := Nat.mul_le_mul_right _ hb8
      _ ≤ 281474976710656 := by omega
  · intro w' hown hg
    exact h _ w' hown ((Below.refl base wr).grown hg hbase (fun _ e => by cases e))
/-- make([]T, n). -/
theorem wpl_make {ops : Array Oper} {rest : List Oper} {o : Oper} {a : Act} {Q : Exit → Act → World → Prop} (hgd : o.guard = none) (l c : Operand) (t : TypeId)
    (ho : o.op = Op.makeSlice t l c) (k : IntKind) (e : TypeId) (bytes : Nat) (ht : Tryd.prog.underlying t = some (.slice e))
    (hi : (Tryd.prog.info? e).map (fun i => (i.zero, i.size, i.bytes)) = some (some (.int k 0), 1, bytes)) (hb8 : bytes ≤ 8)
    (base : Nat) (wr : World) (n : Nat) (L C : Int) (hl : a.eval l = .int .i64 L) (hc : a.eval c = .int .i64 C) (hL : L = (n : Int)) (hC : C = (n : Int)) (hlen : n < 17592186044415) (hbase : base ≤ wr.heap.size)
    (h : ∀ v' w', Owns k e w' base v' (List.replicate n 0) → Below base wr w' → wpList Tryd.prog ops Q rest (a.put o.dst v') w') :
    wpList Tryd.prog ops Q (o :: rest) a wr := by
  obtain ⟨i0, hi0, hz0, hz1, hz2⟩ := info_parts hi
  refine wpList_make_full wr hgd l c t ho base e i0 (.int k 0) 1 ht hi0 hz0 hz1 .i64 .i64 L C n hl hc hL hC ?_ (by unfold maxLen; omega) hbase ?_
  · rw [hz2]
    calc bytes * n ≤ 8 * n := Nat.mul_le_mul_right _ hb8
      _ ≤ 281474976710656 := by omega
  · intro w' hown hg
    refine h _ w' ?_ ((Below.refl base wr).grown hg hbase (fun _ e => by cases e))
    unfold Owns
    have e1 : (madeCells (Value.int k 0).cells (n * 1)).toList = vals k (List.replicate n 0) := by
      rw [Nat.mul_one, show (Value.int k 0).cells = #[Value.int k 0] from rfl, toList_madeCells_one]
      simp [vals]
    rw [e1] at hown
    simpa using hown
theorem Owns.cellAt {k : IntKind} {e : TypeId} {w : World} {base g cap : Nat} {xs : List Nat} {n : Nat} (h : Owns k e w base (.slice (some ⟨g, 0, none⟩) n cap) xs) (hn : n = xs.length) (i : Nat) (hi : i < n) :
    w.cell? ⟨g, i, none⟩ = some (.int k ((xs[i]?.getD 0 : Nat) : Int)) := by
  subst hn
  rw [World.ownsRow.cellAt h i (by omega), vals_get k xs i hi]
theorem Owns.frozenAt {k : IntKind} {e : TypeId} {w : World} {base g cap : Nat} {xs : List Nat} {n : Nat} (h : Owns k e w base (.slice (some ⟨g, 0, none⟩) n cap) xs) (hn : n = xs.length) (i : Nat) :
    w.frozen? ⟨g, i, none⟩ = false := by
  subst hn
  exact World.ownsRow.frozenAt h i
/-- out[i] = y. -/
theorem Owns.set {k : IntKind} {e : TypeId} {w : World} {base g cap : Nat} {xs : List Nat} {n : Nat} (h : Owns k e w base (.slice (some ⟨g, 0, none⟩) n cap) xs) (hn : n = xs.length) (i y : Nat) (c : Int) (hc : c = (y : Int)) (_hi : i < xs.length) :
    Owns k e (w.setCell ⟨g, i, none⟩ (.int k c)) base (.slice (some ⟨g, 0, none⟩) n cap) (xs.set i y) := by
  subst hn hc
  have h' := World.ownsRow.stored h i (.int k (y : Int))
  unfold Owns
  rw [List.length_set]
  have e1 : vals k (xs.set i y) = (vals k xs).set i (.int k (y : Int)) := by
    unfold vals; rw [List.map_set]
  rw [e1]
  exact h'.1
end Go.Proofs.YtmjigpnpcacefaaDoor
namespace Go.Proofs.YtmjigpnpcacefaaDoor
open Go Go.RowKit Go.Shelf

theorem info_int : (Tryd.prog.info? 3).map (fun i => (i.zero, i.size, i.bytes)) = some (some (.int .i64 0), 1, 8) := by kernel_rfl
theorem info_u8 : (Tryd.prog.info? 5).map (fun i => (i.zero, i.size, i.bytes)) = some (some (.int .u8 0), 1, 1) := by kernel_rfl

/-- The bits of a number, as many as are asked. -/
def bitsN (p n : Nat) : List Nat := (List.range n).map fun i => (p.testBit i).toNat
theorem bitsN_length (p n : Nat) : (bitsN p n).length = n := by simp [bitsN]
theorem bitsN_get (p n i : Nat) (h : i < n) : (bitsN p n)[i]?.getD 0 = (p.testBit i).toNat := by simp [bitsN, h]
theorem bitsN_succ (p n : Nat) : bitsN p (n + 1) = bitsN p n ++ [(p.testBit n).toNat] := by simp [bitsN, List.range_succ]
theorem bitsN_eq {p : Nat} {xs : List Nat} {n : Nat} (hl : xs.length = n) (h : ∀ i, i < n → xs[i]?.getD 0 = (p.testBit i).toNat) : xs = bitsN p n := by
  apply List.ext_getElem
  · rw [hl, bitsN_length]
  · intro i h1 h2
    have := h i (by omega)
    simp only [h1, getElem?_pos, Option.getD_some] at this
    simp [bitsN, this]
/-- The coefficients of a polynomial. -/
def coeffs (p : Nat) : List Nat := bitsN p (Gf.plen p)
theorem coeffs_length (p : Nat) : (coeffs p).length = Gf.plen p := bitsN_length _ _
theorem toNat_le (b : Bool) : b.toNat ≤ 1 := by cases b <;> decide


theorem bit_shl (b k i : Nat) : (b <<< k).testBit i = (decide (k ≤ i) && b.testBit (i - k)) := by rw [Nat.testBit_shiftLeft]
theorem xor_toNat (a b : Bool) : (a ^^ b).toNat = (a.toNat + b.toNat) % 2 := by cases a <;> cases b <;> rfl

end Go.Proofs.YtmjigpnpcacefaaDoor
namespace Go.Proofs.YtmjigpnpcacefaaDoor
open Go Go.RowKit Go.Shelf

theorem bel_alloc (w : World) (o : Obj) : Below w.heap.size w (w.alloc o) := (bel_refl _).alloc (Nat.le_refl _) _
theorem bytes_lit {xs : List Nat} (h : xs.all (fun x => decide (x < 256)) = true) : Bytes xs := by
  intro x hx
  simpa using List.all_eq_true.1 h x hx

/-- An operation whose guard holds goes as one without a guard. -/
theorem wpl_unguard {P : Program} {ops : Array Oper} {rest : List Oper} {o : Oper} {a : Act} {Q : Exit → Act → World → Prop} {w : World} (hw : Region.wanted o (yielded ops a.tmps) = true)
    (h : wpList P ops Q ({ o with guard := none } :: rest) a w) : wpList P ops Q (o :: rest) a w := by
  unfold wpList at h ⊢
  rw [if_pos hw]
  have h2 : Region.wanted ({ o with guard := none } : Oper) (yielded ops a.tmps) = true := rfl
  rw [if_pos h2] at h
  exact h

theorem zeros_toList (z : Value) (hz : z.cells = #[z]) (k : Nat) : (Builtin.zeroCells z.cells k).toList = List.replicate k z := by
  rw [hz]
  unfold Builtin.zeroCells
  apply List.ext_getElem
  · simp
  · intro i h1 h2
    simp [Nat.mod_one]

theorem run_append_zeros {P : Program} (w : World) (base : Nat) (t tn ty e : TypeId) (i : TypeInfo) (k : IntKind) (bytes : Nat) (ht : P.underlying t = some (.slice e)) (htn : P.underlying tn = some (.int .i64)) (hi : P.info? e = some i)
    (hz : i.zero = some (.int k 0)) (hsize : i.size = 1) (hby : i.bytes = bytes) (hb8 : bytes ≤ 8)
    (v : Value) (n : Nat) (xs : List Value) (hown : w.ownsRow base e 1 v n xs) (m : Nat) (hlen : n + m < 17592186044415) (hbase : base ≤ w.heap.size) :
    ∃ v' w', (Builtin.append_ #[t, tn] ty #[v, .int .i64 (m : Int)]).run P w = .ok v' w' ∧ w'.ownsRow base e 1 v' (n + m) (xs ++ List.replicate m (.int k 0)) ∧ w.grownBy w' v.ownBlock := by
  have hzc : (Value.int k 0).cells = #[Value.int k 0] := rfl
  have hzt := zeros_toList (.int k 0) hzc
  have hzz : ∀ c, Builtin.zeroCells (Value.int k 0).cells c = (List.replicate c (Value.int k 0)).toArray := fun c => by rw [← hzt c]
  have hlx : (xs ++ List.replicate m (Value.int k 0)).length = (n + m) * 1 := by rw [List.length_append, List.length_replicate, hown.1]; omega
  have hmb : m * i.bytes ≤ 281474976710656 := by
    rw [hby]
    calc m * bytes ≤ m * 8 := Nat.mul_le_mul_left _ hb8
      _ ≤ _ := by omega
  have grown : ∀ (old : Nat), old < n + m → ∀ (row : Option Nat) (cs : Array Value), cs.toList = xs ++ List.replicate m (.int k 0) ++ List.replicate (grownCap w (n + m) old e - (n + m)) (.int k 0) →
      (w.drew.alloc (.cells cs e)).ownsRow base e 1 (.slice (some ⟨w.heap.size, 0, none⟩) (n + m) (grownCap w (n + m) old e)) (n + m) (xs ++ List.replicate m (.int k 0)) ∧ w.grownBy (w.drew.alloc (.cells cs e)) row := by
    intro old ho row cs hcs
    have hge := grownCap_ge w (n + m) old e
    have hcm : grownCap w (n + m) old e ≤ maxLen := grownCap_le_maxLen w (n + m) old e (by unfold maxLen; omega)
    refine ⟨⟨hlx, .inr ⟨w.heap.size, _, cs, rfl, hbase, heap_alloc_new w.drew _, hge, hcm, ?_, ?_⟩⟩, ⟨rfl, rfl, rfl, by simp, fun k hk _ => heap_alloc_old w.drew _ k hk⟩⟩
    · rw [← Array.length_toList, hcs, List.length_append, hlx, List.length_replicate]; omega
    · rw [hcs, ← hlx]; exact List.take_left
  rcases hown.2 with ⟨rfl, rfl⟩ | ⟨g, cap, cur, rfl, hbg, hg, hnc, hcm, hcs, htake⟩
  · have hx : xs = [] := List.eq_nil_of_length_eq_zero (by simpa using hown.1)
    subst hx
    by_cases hm : m = 0
    · subst hm
      refine ⟨.slice none 0 0, w, ?_, World.ownsRow_nil w base e 1, ⟨rfl, rfl, rfl, Nat.le_refl _, fun _ _ _ => rfl⟩⟩
      simp [Builtin.append_, run_underlying ht, run_underlying htn, sizeOf, typeInfo, hi, asInt, asIntOf, IntKind.wrap_i64]
    · have hr := Lib.run_append_nil_zeros (P := P) w t tn ty e i (.int k 0) .i64 .i64 ht htn hi hz m (by omega) (by omega) (by omega) hmb
      have hgr := grown 0 (by omega) (Value.ownBlock (.slice none 0 0)) (Builtin.zeroCells (Value.int k 0).cells m ++ Builtin.zeroCells (Value.int k 0).cells (grownCap w m 0 e - m)) (by rw [hzz, hzz]; simp)
      simp only [Nat.zero_add, List.nil_append] at hgr ⊢
      exact ⟨_, _, hr, hgr.1, hgr.2⟩
  · have holds : ∀ j u, xs[j]? = some u → w.cell? ((⟨g, 0, none⟩ : Addr).add j) = some u := hown.cells (g := g) rfl
    by_cases hroom : n + m ≤ cap
    · have hone : ∀ u ∈ List.replicate m (Value.int k 0), u.oneCell' = true := by
        intro u hu; rw [(List.mem_replicate.1 hu).2]; rfl
      have hst := run_storeCells_at P g (n * 1) e (List.replicate m (Value.int k 0)) 0 cur w hg (by rw [hcs, List.length_replicate]; omega) hone
      simp only [Nat.add_zero] at hst
      have hw : IntKind.i64.wrap (m : Int) = m := by rw [IntKind.wrap_i64]; omega
      have hneg : ¬ ((m : Int) < 0) := by omega
      have h48i : ¬ (281474976710656 < (m : Int) * (i.bytes : Int)) := by rw [← Int.natCast_mul]; omega
      refine ⟨.slice (some ⟨g, 0, none⟩) (n + m) cap, w.setRow g (cur.toList.take (n * 1) ++ List.replicate m (Value.int k 0) ++ cur.toList.drop (n * 1 + m)).toArray, ?_, ⟨hlx, .inr ⟨g, cap, _, rfl, hbg, setRow_heap w g cur _ e _ hg, hroom, hcm, ?_, ?_⟩⟩, ⟨rfl, rfl, rfl, by simp, fun k _ hk => setRow_other w g k _ (fun e => hk (by simp [Value.ownBlock, e]))⟩⟩
      · by_cases hm : m = 0
        · subst hm
          have hw0 : IntKind.i64.wrap 0 = 0 := by decide
          simp [Builtin.append_, run_underlying ht, run_underlying htn, sizeOf, typeInfo, hi, hsize, asInt, asIntOf, hw0, hnc, Addr.add_lit] at hst ⊢
          rw [hst]; rfl
        · simp [Builtin.append_, run_underlying ht, run_underlying htn, sizeOf, typeInfo, zeroValue, hi, hz, hsize, asInt, asIntOf, hw, hneg, h48i, hroom, hm, Addr.add_lit, hzz] at hst ⊢
          rw [hst]; rfl
      · simp only [List.size_toArray, List.length_append, List.length_take, List.length_drop, Array.length_toList, List.length_replicate]
        omega
      · rw [htake, ← hlx]; exact List.take_left
    · have hm : 0 < m := by omega
      have hb2 : Builtin.nextslicecap (n + m) cap * i.bytes ≤ 281474976710656 := by
        refine growslice_fits (by omega) ?_
        rw [hby]
        calc (n + m) * bytes ≤ (n + m) * 8 := Nat.mul_le_mul_left _ hb8
          _ ≤ _ := by omega
      have hf : (Builtin.firstCells i.size n (.slice (some ⟨g, 0, none⟩) n cap)).run P w.drew = .ok xs.toArray w.drew := by
        refine run_firstCells_some w.drew i.size n ⟨g, 0, none⟩ n cap xs (by rw [hsize]; exact hown.1) (fun j u hu => ?_)
        exact holds j u hu
      have hr := Lib.run_append_grow_zeros (P := P) w t tn ty e i (.int k 0) .i64 .i64 ht htn hi hz (some ⟨g, 0, none⟩) n cap xs hf m hm (by omega) (by omega) (by omega) hmb hb2
      have hgr := grown cap (by omega) (Value.ownBlock (.slice (some ⟨g, 0, none⟩) n cap)) (xs.toArray ++ Builtin.zeroCells (Value.int k 0).cells m ++ Builtin.zeroCells (Value.int k 0).cells (grownCap w (n + m) cap e - (n + m))) (by rw [hzz, hzz]; simp)
      exact ⟨_, _, hr, hgr.1, hgr.2⟩

/-- append(out, make([]T, m)...). -/
theorem wpl_appz {ops : Array Oper} {rest : List Oper} {o : Oper} {a : Act} {Q : Exit → Act → World → Prop} (hgd : o.guard = none) (s x : Operand) (t tn : TypeId)
    (ho : o.op = .call { callee := .builtin .append, args := #[s, x], argTypes := #[t, tn] }) (k : IntKind) (e : TypeId) (bytes : Nat) (ht : Tryd.prog.underlying t = some (.slice e)) (htn : Tryd.prog.underlying tn = some (.int .i64))
    (hi : (Tryd.prog.info? e).map (fun i => (i.zero, i.size, i.bytes)) = some (some (.int k 0), 1, bytes)) (hb8 : bytes ≤ 8)
    (base : Nat) (v : Value) (xs : List Nat) (wr : World) (hown : Owns k e wr base v xs) (hs : a.eval s = v) (m : Nat) (C : Int) (hC : C = (m : Int)) (hx : a.eval x = .int .i64 C)
    (hlen : xs.length + m < 17592186044415) (hbase : base ≤ wr.heap.size)
    (h : ∀ v' w', Owns k e w' base v' (xs ++ List.replicate m 0) → Below base wr w' → wpList Tryd.prog ops Q rest (a.put o.dst v') w') :
    wpList Tryd.prog ops Q (o :: rest) a wr := by
  subst hC
  obtain ⟨i0, hi0, hz0, hz1, hz2⟩ := info_parts hi
  obtain ⟨v', w', hr, hown', hg⟩ := run_append_zeros (P := Tryd.prog) wr base t tn o.type e i0 k bytes ht htn hi0 hz0 hz1 hz2 hb8 v xs.length (vals k xs) hown m hlen hbase
  refine Lib.wpList_append_run wr hgd s x t tn ho v (.int .i64 (m : Int)) hs hx v' w' hr (h v' w' ?_ ((Below.refl base wr).grown hg hbase (own_base hown)))
  unfold Owns
  simpa [vals] using hown'

/-- make([]T, n), the value written out. -/
theorem wpl_makeE {ops : Array Oper} {rest : List Oper} {o : Oper} {a : Act} {Q : Exit → Act → World → Prop} (hgd : o.guard = none) (l c : Operand) (t : TypeId)
    (ho : o.op = Op.makeSlice t l c) (k : IntKind) (e : TypeId) (bytes : Nat) (ht : Tryd.prog.underlying t = some (.slice e))
    (hi : (Tryd.prog.info? e).map (fun i => (i.zero, i.size, i.bytes)) = some (some (.int k 0), 1, bytes)) (hb8 : bytes ≤ 8)
    (base : Nat) (wr : World) (n : Nat) (L C : Int) (hl : a.eval l = .int .i64 L) (hc : a.eval c = .int .i64 C) (hL : L = (n : Int)) (hC : C = (n : Int)) (hlen : n < 17592186044415) (hbase : base ≤ wr.heap.size)
    (h : ∀ w', Owns k e w' base (.slice (some ⟨wr.heap.size, 0, none⟩) n n) (List.replicate n 0) → Below base wr w' → wpList Tryd.prog ops Q rest (a.put o.dst (.slice (some ⟨wr.heap.size, 0, none⟩) n n)) w') :
    wpList Tryd.prog ops Q (o :: rest) a wr := by
  obtain ⟨i0, hi0, hz0, hz1, hz2⟩ := info_parts hi
  refine wpList_make_full wr hgd l c t ho base e i0 (.int k 0) 1 ht hi0 hz0 hz1 .i64 .i64 L C n hl hc hL hC ?_ (by unfold maxLen; omega) hbase ?_
  · rw [hz2]
    calc bytes * n ≤ 8 * n := Nat.mul_le_mul_right _ hb8
      _ ≤ 281474976710656 := by omega
  · intro w' hown hg
    refine h w' ?_ ((Below.refl base wr).grown hg hbase (fun _ e => by cases e))
    unfold Owns
    have e1 : (madeCells (Value.int k 0).cells (n * 1)).toList = vals k (List.replicate n 0) := by
      rw [Nat.mul_one, show (Value.int k 0).cells = #[Value.int k 0] from rfl, toList_madeCells_one]
      simp [vals]
    rw [e1] at hown
    simpa using hown
/-- []T{}. -/
theorem owns_empty (k : IntKind) (e : TypeId) (w : World) (base : Nat) (h : base ≤ w.heap.size) : Owns k e (w.alloc (.cells #[] e)) base (.slice (some ⟨w.heap.size, 0, none⟩) 0 0) [] :=
  ⟨rfl, .inr ⟨w.heap.size, 0, #[], rfl, h, heap_alloc_new w _, Nat.le_refl _, by decide, rfl, rfl⟩⟩
/-- The first k of n values, the others 0. -/
def mixed (f : Nat → Nat) (n k : Nat) : List Nat := (List.range n).map fun i => if i < k then f i else 0
theorem mixed_length (f : Nat → Nat) (n k : Nat) : (mixed f n k).length = n := by simp [mixed]
theorem mixed_zero (f : Nat → Nat) (n : Nat) : mixed f n 0 = List.replicate n 0 := by
  apply List.ext_getElem
  · simp [mixed]
  · intro i h1 h2; simp [mixed]
theorem mixed_set (f : Nat → Nat) (n k : Nat) : (mixed f n k).set k (f k) = mixed f n (k + 1) := by
  apply List.ext_getElem
  · simp [mixed]
  · intro i h1 h2
    rw [List.getElem_set]
    simp only [mixed, List.getElem_map, List.getElem_range]
    by_cases e : k = i
    · subst e; simp
    · by_cases h3 : i < k
      · simp [e, h3, show i < k + 1 by omega]
      · simp [e, h3, show ¬ i < k + 1 by omega]
theorem mixed_all (f : Nat → Nat) (n : Nat) : mixed f n n = (List.range n).map f := by
  apply List.map_congr_left
  intro i hi
  rw [if_pos (List.mem_range.1 hi)]
/-- The value of a slice expression x[:n]. -/
theorem reads_pre {k : IntKind} {w : World} {a : Option Addr} {len cap n : Nat} {xs : List Nat} (h : Reads k w (.slice a len cap) xs) (hn : n ≤ len) : Reads k w (.slice a n cap) (xs.take n) := by
  obtain ⟨a', cap', e, hl, hm, hc⟩ := h
  cases e
  refine ⟨a, cap, by simp [Nat.min_eq_left hn], by simp; omega, hm, ?_⟩
  rcases hc with h0 | ⟨b, off, e, hcell⟩
  · exact .inl h0
  · refine .inr ⟨b, off, e, fun i hi => ?_⟩
    have hi2 : i < n := by simp at hi; omega
    rw [hcell i (by omega), List.getElem?_take, if_pos hi2]
end Go.Proofs.YtmjigpnpcacefaaDoor
namespace Go.Proofs.YtmjigpnpcacefaaDoor
open Go Go.ChangeShapes Go.WideShapes Go.ChangeAt Go.RowKit

theorem nat_of_u8 {a : Int} (h : (Lit.int .u8 a).wf = true) : ∃ n : Nat, a = (n : Int) ∧ n < 256 := by
  have := bounds_u8 h
  exact ⟨a.toNat, by omega, by omega⟩
theorem nat_of_u16 {a : Int} (h : (Lit.int .u16 a).wf = true) : ∃ n : Nat, a = (n : Int) ∧ n < 65536 := by
  have := bounds_u16 h
  exact ⟨a.toNat, by omega, by omega⟩
theorem nat_of_u32 {a : Int} (h : (Lit.int .u32 a).wf = true) : ∃ n : Nat, a = (n : Int) ∧ n < 4294967296 := by
  have := bounds_u32 h
  exact ⟨a.toNat, by omega, by omega⟩
theorem nat_of_u64 {a : Int} (h : (Lit.int .u64 a).wf = true) : ∃ n : Nat, a = (n : Int) ∧ n < 18446744073709551616 := by
  have := bounds_u64 h
  exact ⟨a.toNat, by omega, by omega⟩
theorem wf_i64 {a : Int} (h : (Lit.int .i64 a).wf = true) : -9223372036854775808 ≤ a ∧ a ≤ 9223372036854775807 := by
  have := bounds_i64 h
  omega

/-- The slice value reads as these numbers (signed ones, too). -/
def ReadsI (k : IntKind) (w : World) (v : Value) (xs : List Int) : Prop :=
  ∃ (a : Option Addr) (cap : Nat), v = .slice a xs.length cap ∧ xs.length ≤ cap ∧ cap ≤ 9223372036854775807 ∧
    (cap = 0 ∨ ∃ b off, a = some ⟨b, off, none⟩ ∧ ∀ i, i < xs.length → w.cell? ⟨b, off + i, none⟩ = some (.int k (xs[i]?.getD 0)))
theorem ReadsI.keep {k : IntKind} {w w' : World} {v : Value} {xs : List Int} {n : Nat} (h : ReadsI k w v xs) (hB : Below n w w') (hn : w.heap.size ≤ n) : ReadsI k w' v xs := by
  obtain ⟨a, cap, rfl, hl, hm, hc⟩ := h
  refine ⟨a, cap, rfl, hl, hm, ?_⟩
  rcases hc with h | ⟨b, off, e, hcell⟩
  · exact .inl h
  · exact .inr ⟨b, off, e, fun i hi => cell_keep hB (hcell i hi) (Nat.lt_of_lt_of_le (cell_lt (hcell i hi)) hn)⟩
theorem ReadsI.len {k : IntKind} {w : World} {v : Value} {xs : List Int} (h : ReadsI k w v xs) : xs.length ≤ 9223372036854775807 := by
  obtain ⟨a, cap, rfl, hl, hm, hc⟩ := h; omega
theorem reads_of_I {k : IntKind} {w : World} {v : Value} {ys : List Nat} (h : ReadsI k w v (ys.map fun (y : Nat) => (y : Int))) : Reads k w v ys := by
  obtain ⟨a, cap, rfl, hl, hm, hc⟩ := h
  rw [List.length_map] at hl hc ⊢
  refine ⟨a, cap, rfl, hl, hm, ?_⟩
  rcases hc with h | ⟨b, off, e, hcell⟩
  · exact .inl h
  · refine .inr ⟨b, off, e, fun i hi => ?_⟩
    rw [hcell i hi]
    simp [hi]
theorem nats_of {xs : List Int} (h : ∀ x ∈ xs, 0 ≤ x) : xs = (xs.map Int.toNat).map fun (y : Nat) => (y : Int) := by
  rw [List.map_map]
  conv => lhs; rw [← List.map_id xs]
  apply List.map_congr_left
  intro x hx
  have := h x hx
  simp; omega
theorem reads_of_u8 {w : World} {v : Value} {xs : List Int} (h : ReadsI .u8 w v xs) (hb : ∀ x ∈ xs, (Lit.int .u8 x).wf = true) : ∃ ys : List Nat, Reads .u8 w v ys ∧ ∀ y ∈ ys, y < 256 := by
  have hb' : ∀ x ∈ xs, 0 ≤ x ∧ x < 256 := fun x hx => by have := bounds_u8 (hb x hx); omega
  rw [nats_of (fun x hx => (hb' x hx).1)] at h
  refine ⟨_, reads_of_I h, fun y hy => ?_⟩
  obtain ⟨x, hx, rfl⟩ := List.mem_map.1 hy
  have := hb' x hx; omega
theorem reads_of_u16 {w : World} {v : Value} {xs : List Int} (h : ReadsI .u16 w v xs) (hb : ∀ x ∈ xs, (Lit.int .u16 x).wf = true) : ∃ ys : List Nat, Reads .u16 w v ys ∧ ∀ y ∈ ys, y < 65536 := by
  have hb' : ∀ x ∈ xs, 0 ≤ x ∧ x < 65536 := fun x hx => by have := bounds_u16 (hb x hx); omega
  rw [nats_of (fun x hx => (hb' x hx).1)] at h
  refine ⟨_, reads_of_I h, fun y hy => ?_⟩
  obtain ⟨x, hx, rfl⟩ := List.mem_map.1 hy
  have := hb' x hx; omega
theorem bounds_of_i64 {xs : List Int} (hb : ∀ x ∈ xs, (Lit.int .i64 x).wf = true) : ∀ x ∈ xs, -9223372036854775808 ≤ x ∧ x ≤ 9223372036854775807 := fun x hx => wf_i64 (hb x hx)

/-- A slice of integers that came in. -/
theorem readsI_of_open {H : Type} {enc : TypeId × Value → H} {base : Nat} {held : Bool} {fuel : Nat} {t e : TypeId} {k : IntKind} {w : World} {a : Option Addr} {len cap : Nat} {x : DataW H × List MemPlace}
    (ht : Tryd.prog.underlying t = some (.slice e)) (he : Tryd.prog.underlying e = some (.int k)) (hc : Tryd.prog.cellsOf e = 1)
    (h : DataW.trod enc Tryd.prog w base (fun _ => true) held fuel t (Value.slice a len cap).cells.toList = some x) :
    ∃ xs, ReadsI k w (.slice a len cap) xs ∧ ∀ x ∈ xs, (Lit.int k x).wf = true := by
  rcases open_ints ht he hc h with ⟨hcs, _⟩ | ⟨x, l, c, zs, hcs, _, hl, hm, hz, _, hcell, hwz⟩
  · simp [Value.cells] at hcs
    obtain ⟨rfl, rfl, rfl⟩ := hcs
    exact ⟨[], ⟨none, 0, rfl, by simp, by decide, .inl rfl⟩, by simp⟩
  · simp [Value.cells] at hcs
    obtain ⟨rfl, rfl, rfl⟩ := hcs
    have hz' : zs.length = cap := by simpa using hz
    refine ⟨zs.take len, ?_, fun y hy => hwz y (List.mem_of_mem_take hy)⟩
    have hlen : (zs.take len).length = len := by simp; omega
    by_cases h0 : cap = 0
    · subst h0
      obtain rfl : len = 0 := by omega
      exact ⟨some x, 0, rfl, by simp, by decide, .inl rfl⟩
    · obtain ⟨b, off, rfl, hc'⟩ := ints_at hcell (by omega)
      refine ⟨some ⟨b, off, none⟩, cap, by rw [hlen], by rw [hlen]; exact hl, by unfold maxLen at hm; exact hm, .inr ⟨b, off, rfl, fun i hi => ?_⟩⟩
      rw [hlen] at hi
      have := hc' i (by omega)
      rw [List.getElem?_take, if_pos hi, this, List.getD_eq_getElem?_getD]
end Go.Proofs.YtmjigpnpcacefaaDoor
namespace Go.Proofs.YtmjigpnpcacefaaDoor
open Go Go.ChangeShapes Go.WideShapes Go.ChangeAt Go.RowKit

set_option maxRecDepth 100000 in
theorem open_burst {H : Type} {enc : TypeId × Value → H} {W : World} {base : Nat} {v : Value} {d : DataW H} {p : List MemPlace}
    (hv : Value.okWide Tryd.prog W .any base 24 v) (h : DataW.Trod enc Tryd.prog W 0 (fun _ => true) true 24 v d p) :
    ∃ (x : Int) (b : Nat), v = .agg #[.int .i64 x, .int .u32 (b : Int)] ∧ (-9223372036854775808 ≤ x ∧ x ≤ 9223372036854775807) ∧ b < 4294967296 := by
  obtain ⟨cs, rfl, hsz⟩ := okWide_struct Tryd.underlying24 hv
  obtain ⟨c0, c1, rfl⟩ : ∃ c0 c1, cs = #[c0, c1] := by
    have h2 : cs.size = 2 := hsz.trans (by kernel_rfl)
    match cs, h2 with
    | ⟨[c0, c1]⟩, _ => exact ⟨c0, c1, rfl⟩
  obtain ⟨fuel, hf⟩ := h
  obtain ⟨y0, y1, n, _, _, h0, h1⟩ := trod_struct2 Tryd.underlying24 hf
  have k0 : Tryd.prog.cellsOf 3 = 1 := by kernel_rfl
  have k1 : Tryd.prog.cellsOf 22 = 1 := by kernel_rfl
  have h0' := h0
  have h1' := h1
  obtain ⟨x, ex, _, wx⟩ := DataW.trod_int Tryd.underlying3 h0'
  obtain ⟨b, eb, _, wb⟩ := DataW.trod_int Tryd.underlying22 h1'
  simp [Value.cells, k0] at ex
  simp [Value.cells, k1] at eb
  obtain ⟨n, rfl, hn⟩ := nat_of_u32 wb
  subst ex eb
  exact ⟨x, n, rfl, wf_i64 wx, hn⟩
set_option maxRecDepth 100000 in
theorem open_arr3 {H : Type} {enc : TypeId × Value → H} {W : World} {base : Nat} {v : Value} {d : DataW H} {p : List MemPlace}
    (hv : Value.okWide Tryd.prog W .any base 61 v) (h : DataW.Trod enc Tryd.prog W 0 (fun _ => true) true 61 v d p) :
    ∃ x y z : Nat, v = .agg #[.int .u16 (x : Int), .int .u16 (y : Int), .int .u16 (z : Int)] ∧ x < 65536 ∧ y < 65536 ∧ z < 65536 := by
  have hC : Tryd.prog.cellsOf 61 = 3 := by kernel_rfl
  simp only [Value.okWide, Tryd.underlying61] at hv
  obtain ⟨cs, rfl, hsz, _⟩ := hv
  obtain ⟨c0, c1, c2, rfl⟩ : ∃ c0 c1 c2, cs = #[c0, c1, c2] := by
    have h2 : cs.size = 3 := hsz.trans hC
    match cs, h2 with
    | ⟨[c0, c1, c2]⟩, _ => exact ⟨c0, c1, c2, rfl⟩
  obtain ⟨fuel, hf⟩ := h
  obtain ⟨y0, y1, y2, n, _, h0, h1, h2⟩ := trod_array3 Tryd.underlying61 (by kernel_rfl) (by simpa [Value.cells] using hf)
  obtain ⟨x, ex, _, wx⟩ := DataW.trod_int Tryd.underlying31 h0
  obtain ⟨y, ey, _, wy⟩ := DataW.trod_int Tryd.underlying31 h1
  obtain ⟨z, ez, _, wz⟩ := DataW.trod_int Tryd.underlying31 h2
  obtain ⟨x, rfl, hx⟩ := nat_of_u16 wx
  obtain ⟨y, rfl, hy⟩ := nat_of_u16 wy
  obtain ⟨z, rfl, hz⟩ := nat_of_u16 wz
  simp at ex ey ez
  subst ex ey ez
  exact ⟨x, y, z, rfl, hx, hy, hz⟩
end Go.Proofs.YtmjigpnpcacefaaDoor
namespace Go.Proofs.YtmjigpnpcacefaaDoor
open Go Go.RowKit Go.Shelf

def valsI (k : IntKind) (xs : List Int) : List Value := xs.map fun x => Value.int k x
theorem valsI_length (k : IntKind) (xs : List Int) : (valsI k xs).length = xs.length := by simp [valsI]
theorem valsI_get (k : IntKind) (xs : List Int) (i : Nat) (h : i < xs.length) : (valsI k xs)[i]? = some (.int k (xs[i]?.getD 0)) := by
  simp [valsI, h]
def OwnsI (k : IntKind) (e : TypeId) (w : World) (base : Nat) (v : Value) (xs : List Int) : Prop := w.ownsRow base e 1 v xs.length (valsI k xs)
theorem OwnsI.form {k : IntKind} {e : TypeId} {w : World} {base : Nat} {v : Value} {xs : List Int} (h : OwnsI k e w base v xs) :
    (v = .slice none 0 0 ∧ xs = []) ∨ ∃ g cap, v = .slice (some ⟨g, 0, none⟩) xs.length cap ∧ base ≤ g ∧ g < w.heap.size ∧ xs.length ≤ cap ∧ cap ≤ 9223372036854775807 := by
  obtain ⟨_, h⟩ := h
  rcases h with ⟨rfl, hn⟩ | ⟨g, cap, cur, rfl, hb, hg, hn, hc, _, _⟩
  · exact .inl ⟨rfl, List.length_eq_zero_iff.1 hn⟩
  · exact .inr ⟨g, cap, rfl, hb, (Array.getElem?_eq_some_iff.1 hg).1, hn, hc⟩
theorem OwnsI.reads {k : IntKind} {e : TypeId} {w : World} {base : Nat} {v : Value} {xs : List Int} (h : OwnsI k e w base v xs) : ReadsI k w v xs := by
  rcases h.form with ⟨rfl, rfl⟩ | ⟨g, cap, rfl, _, _, hn, hc⟩
  · exact ⟨none, 0, rfl, by simp, by decide, .inl rfl⟩
  · refine ⟨_, cap, rfl, hn, hc, .inr ⟨g, 0, rfl, fun i hi => ?_⟩⟩
    rw [Nat.zero_add, World.ownsRow.cellAt h i (by omega), valsI_get k xs i hi]
theorem ownI_base {k : IntKind} {e : TypeId} {w : World} {base : Nat} {v : Value} {xs : List Int} (h : OwnsI k e w base v xs) : ∀ j, v.ownBlock = some j → base ≤ j := fun j hj => (World.ownsRow.lt h j hj).1
/-- append(out, ys...). -/
theorem wpl_appI {ops : Array Oper} {rest : List Oper} {o : Oper} {a : Act} {Q : Exit → Act → World → Prop} (hgd : o.guard = none) (s x : Operand) (t : TypeId)
    (ho : o.op = .call { callee := .builtin .append, args := #[s, x], argTypes := #[t, t] }) (k : IntKind) (e : TypeId) (bytes : Nat) (ht : Tryd.prog.underlying t = some (.slice e))
    (hi : (Tryd.prog.info? e).map (fun i => (i.zero, i.size, i.bytes)) = some (some (.int k 0), 1, bytes)) (hb8 : bytes ≤ 8)
    (base : Nat) (v : Value) (xs : List Int) (wr : World) (hown : OwnsI k e wr base v xs) (hs : a.eval s = v) (vy : Value) (ys : List Int) (hx : a.eval x = vy)
    (hy : ReadsI k wr vy ys) (hlen : xs.length + ys.length < 17592186044415) (hbase : base ≤ wr.heap.size)
    (h : ∀ v' w', OwnsI k e w' base v' (xs ++ ys) → Below base wr w' → wpList Tryd.prog ops Q rest (a.put o.dst v') w') :
    wpList Tryd.prog ops Q (o :: rest) a wr := by
  obtain ⟨i0, hi0, hz0, hz1, hz2⟩ := info_parts hi
  obtain ⟨ao, cap, rfl, hl, hm, hcell⟩ := hy
  rcases hcell with rfl | ⟨b, off, rfl, hcell⟩
  · obtain rfl : ys = [] := List.length_eq_zero_iff.1 (by omega)
    cases ao with
    | none => exact wpList_append_own_none hgd s x t ho base e i0 1 ht hi0 v xs.length (valsI k xs) hs hown hx (h v wr (by simpa using hown) (Below.refl _ _))
    | some ad =>
      refine wpList_append_own _ hgd s x t ho base e i0 (.int k 0) 1 bytes ht hi0 hz0 hz1 hz2 rfl (by decide) v xs.length (valsI k xs) hs hown ad 0 0 [] hx rfl
        (fun j u hu => by simp at hu) (by simp) (by unfold maxLen; simp at hlen; omega) ?_ hbase ?_
      · simp at hlen
        calc (xs.length + 0) * bytes ≤ (xs.length + 0) * 8 := Nat.mul_le_mul_left _ hb8
          _ ≤ 140737488355328 := by omega
      · intro v' w' hown' hg _
        refine h v' w' ?_ ((Below.refl base wr).grown hg hbase (ownI_base hown))
        unfold OwnsI
        simpa [valsI] using hown'
  · refine wpList_append_own _ hgd s x t ho base e i0 (.int k 0) 1 bytes ht hi0 hz0 hz1 hz2 rfl (by decide) v xs.length (valsI k xs) hs hown ⟨b, off, none⟩ ys.length cap (valsI k ys) hx (by rw [valsI_length]; omega)
      ?_ (by simp [valsI, Value.oneCell']) (by unfold maxLen; omega) ?_ (by omega) ?_
    · intro j u hu
      have hj : j < ys.length := by
        apply Classical.byContradiction; intro hn
        rw [List.getElem?_eq_none (by rw [valsI_length]; omega)] at hu; cases hu
      rw [valsI_get k ys j hj] at hu
      cases hu
      have ha : (⟨b, off, none⟩ : Addr).add j = ⟨b, off + j, none⟩ := by simp [Addr.add]
      rw [ha]
      exact hcell j hj
    · calc (xs.length + ys.length) * bytes ≤ (xs.length + ys.length) * 8 := Nat.mul_le_mul_left _ hb8
        _ ≤ 140737488355328 := by omega
    · intro v' w' hown' hg _
      refine h v' w' ?_ ((Below.refl base wr).grown hg hbase (ownI_base hown))
      unfold OwnsI
      simpa [valsI] using hown'
theorem ownsI_empty (k : IntKind) (e : TypeId) (w : World) (base : Nat) (h : base ≤ w.heap.size) : OwnsI k e (w.alloc (.cells #[] e)) base (.slice (some ⟨w.heap.size, 0, none⟩) 0 0) [] :=
  ⟨rfl, .inr ⟨w.heap.size, 0, #[], rfl, h, heap_alloc_new w _, Nat.le_refl _, by decide, rfl, rfl⟩⟩
end Go.Proofs.YtmjigpnpcacefaaDoor
namespace Go.Proofs.YtmjigpnpcacefaaDoor
open Go Go.RowKit Go.Shelf

/-- More may be asked of the world from here on. -/
theorem wpAnyH_strong {P : Program} {md : Region.Mode} {ops : Array Oper} {Q : Exit → Act → World → Prop} {S S' : World → Prop} (hS : ∀ w, S' w → S w) :
    ∀ (fuel : Nat) (listed : Array Bool) (a : Act) (w : World), wpAnyH P md ops Q S' fuel listed a w → wpAnyH P md ops Q S fuel listed a w
  | 0, _, _, _, h => h
  | fuel + 1, _, _, _, h => ⟨h.1, fun i hi => wpOp_mono (fun a' w' h' => ⟨hS _ h'.1, wpAnyH_strong hS fuel _ a' w' h'.2⟩) (h.2 i hi)⟩

/-- The kit's law at an operation taken first, with the slot that it writes written out. -/
theorem wpAnyH_takeD {P : Program} {md : Region.Mode} {ops : Array Oper} {Q : Exit → Act → World → Prop} {S : World → Prop} {i : Nat} {oi : Oper} {d : Option Tmp} {v : Value} {fuel : Nat} {listed : Array Bool} {a : Act} {w : World} (hi : ops[i]? = some oi) (hd : oi.dst = d)
    (hs : Region.noSelect ops = true) (hf : Region.free md ops listed i = true) (hr : (Region.ready md ops listed).contains i = true)
    (hQ : ∀ c a w, Q (.panic c) (a.put d v) w → Q (.panic c) a w) (hy : YieldsIf P ops S oi v a) (hS : S w)
    (h : wpAnyH P md ops Q S fuel (listed.setIfInBounds i true) (a.put d v) w) : wpAnyH P md ops Q S (fuel + 1) listed a w := by
  subst hd
  exact wpAnyH_take hi hs hf hr hQ hy hS h

theorem Owns.other {k : IntKind} {e : TypeId} {w : World} {base g i : Nat} {v u : Value} {xs : List Nat} (h : Owns k e w base v xs) (hne : ∀ j, v.ownBlock = some j → j ≠ g) : Owns k e (w.setCell ⟨g, i, none⟩ u) base v xs := by
  refine World.ownsRow.kept h (row := some g) ⟨rfl, rfl, rfl, by simp, fun k _ hk => heap_setCell_other w ⟨g, i, none⟩ k u (fun e => hk (by simp [e]))⟩ ?_
  cases hv : v.ownBlock with
  | none => exact .inl rfl
  | some j => right; intro e2; cases e2; exact hne g hv rfl

/-- A slice of the call's own, at one of its places. -/
theorem Owns.at {k : IntKind} {e : TypeId} {w : World} {base m c i : Nat} {ao : Option Addr} {ys : List Nat} (h : Owns k e w base (.slice ao m c) ys) (hi : i < m) :
    ∃ g, ao = some ⟨g, 0, none⟩ ∧ base ≤ g ∧ g < w.heap.size ∧ m = ys.length ∧ m ≤ c ∧ c ≤ 9223372036854775807 ∧ w.cell? ⟨g, i, none⟩ = some (.int k ((ys[i]?.getD 0 : Nat) : Int)) ∧ w.frozen? ⟨g, i, none⟩ = false ∧
      ∀ c' : Int, 0 ≤ c' → Owns k e (w.setCell ⟨g, i, none⟩ (.int k c')) base (.slice (some ⟨g, 0, none⟩) m c) (ys.set i c'.toNat) := by
  rcases h.form with ⟨e1, hn⟩ | ⟨g, cap, e1, hb, hg, hn, hc⟩
  · cases e1; omega
  · cases e1
    refine ⟨g, rfl, hb, hg, rfl, hn, hc, h.cellAt rfl i hi, h.frozenAt rfl i, fun c' h0 => h.set rfl i c'.toNat c' (by omega) hi⟩
theorem Owns.len {k : IntKind} {e : TypeId} {w : World} {base m c : Nat} {ao : Option Addr} {ys : List Nat} (h : Owns k e w base (.slice ao m c) ys) : m = ys.length ∧ m ≤ c ∧ c ≤ 9223372036854775807 := by
  rcases h.form with ⟨e1, hn⟩ | ⟨g, cap, e1, hb, hg, hn, hc⟩
  · cases e1; simp [hn]
  · cases e1; exact ⟨rfl, hn, hc⟩
theorem Owns.slice {k : IntKind} {e : TypeId} {w : World} {base : Nat} {v : Value} {ys : List Nat} (h : Owns k e w base v ys) : ∃ ao m c, v = .slice ao m c ∧ m = ys.length ∧ ∀ j, (Value.slice ao m c).ownBlock = some j → base ≤ j ∧ j < w.heap.size := by
  rcases h.form with ⟨rfl, rfl⟩ | ⟨g, cap, rfl, hb, hg, _, _⟩
  · exact ⟨none, 0, 0, rfl, rfl, fun j hj => by cases hj⟩
  · exact ⟨_, _, cap, rfl, rfl, fun j hj => by cases hj; exact ⟨hb, hg⟩⟩
end Go.Proofs.YtmjigpnpcacefaaDoor
namespace Go.Proofs.YtmjigpnpcacefaaDoor
open Go Go.RowKit Go.Shelf

theorem OwnsI.nil (k : IntKind) (e : TypeId) (w : World) (base : Nat) : OwnsI k e w base (.slice none 0 0) [] := World.ownsRow_nil w base e 1
theorem OwnsI.keep {k : IntKind} {e : TypeId} {w w' : World} {base n : Nat} {v : Value} {xs : List Int} (h : OwnsI k e w base v xs) (hB : Below n w w') (hn : w.heap.size ≤ n) : OwnsI k e w' base v xs := by
  obtain ⟨h1, h⟩ := h
  refine ⟨h1, ?_⟩
  rcases h with h | ⟨g, cap, cur, rfl, hb, hg, rest⟩
  · exact .inl h
  · have hlt := (Array.getElem?_eq_some_iff.1 hg).1
    exact .inr ⟨g, cap, cur, rfl, hb, (hB.block g (by omega)).trans hg, rest⟩
theorem OwnsI.mono {k : IntKind} {e : TypeId} {w : World} {base base' : Nat} {v : Value} {xs : List Int} (h : OwnsI k e w base v xs) (hb : base' ≤ base) : OwnsI k e w base' v xs := by
  obtain ⟨h1, h⟩ := h
  refine ⟨h1, ?_⟩
  rcases h with h | ⟨g, cap, cur, rfl, hb', rest⟩
  · exact .inl h
  · exact .inr ⟨g, cap, cur, rfl, by omega, rest⟩
theorem OwnsI.alloc {k : IntKind} {e : TypeId} {w : World} {base : Nat} {v : Value} {xs : List Int} (h : OwnsI k e w base v xs) (o : Obj) : OwnsI k e (w.alloc o) base v xs := World.ownsRow.alloc h o
theorem reads_oneI (k : IntKind) (w : World) (x : Int) (t : TypeId) : ReadsI k (w.alloc (.cells #[.int k x] t)) (.slice (some ⟨w.heap.size, 0, none⟩) 1 1) [x] := by
  refine ⟨_, 1, rfl, by simp, by decide, .inr ⟨_, _, rfl, fun i hi => ?_⟩⟩
  obtain rfl : i = 0 := by simpa using hi
  exact (cell_new_l w _ t).1
/-- append(out, y). -/
theorem wpl_app1I {ops : Array Oper} {rest : List Oper} {o : Oper} {a : Act} {Q : Exit → Act → World → Prop} (hgd : o.guard = none) (s x : Operand) (t : TypeId)
    (ho : o.op = .call { callee := .builtin .append, args := #[s, x], argTypes := #[t, t] }) (k : IntKind) (e : TypeId) (bytes : Nat) (ht : Tryd.prog.underlying t = some (.slice e))
    (hi : (Tryd.prog.info? e).map (fun i => (i.zero, i.size, i.bytes)) = some (some (.int k 0), 1, bytes)) (hb8 : bytes ≤ 8)
    (base : Nat) (v : Value) (xs : List Int) (wr : World) (hown : OwnsI k e wr base v xs) (hs : a.eval s = v) (c : Int) (hx : a.eval x = .slice (some ⟨wr.heap.size, 0, none⟩) 1 1)
    (hlen : xs.length < 17592186044414) (hbase : base ≤ wr.heap.size)
    (h : ∀ v' w', OwnsI k e w' base v' (xs ++ [c]) → Below base wr w' → wpList Tryd.prog ops Q rest (a.put o.dst v') w') :
    wpList Tryd.prog ops Q (o :: rest) a (wr.alloc (.cells #[.int k c] e)) := by
  refine wpl_appI hgd s x t ho k e bytes ht hi hb8 base v xs _ (hown.alloc _) hs _ [c] hx (reads_oneI k wr c e) (by simp; omega) (by simp; omega) ?_
  intro v' w' h1 h2
  exact h v' w' h1 (((Below.refl base wr).alloc hbase _).trans h2)
theorem OwnsI.slice {k : IntKind} {e : TypeId} {w : World} {base : Nat} {v : Value} {ys : List Int} (h : OwnsI k e w base v ys) : ∃ ao m c, v = .slice ao m c ∧ m = ys.length ∧ m ≤ c ∧ c ≤ 9223372036854775807 ∧ ∀ j, (Value.slice ao m c).ownBlock = some j → base ≤ j ∧ j < w.heap.size := by
  rcases h.form with ⟨rfl, rfl⟩ | ⟨g, cap, rfl, hb, hg, hn, hc⟩
  · exact ⟨none, 0, 0, rfl, rfl, Nat.le_refl _, by decide, fun j hj => by cases hj⟩
  · exact ⟨_, _, cap, rfl, rfl, hn, hc, fun j hj => by cases hj; exact ⟨hb, hg⟩⟩
/-- A slice of constants. -/
theorem reads_litI (k : IntKind) (w : World) (xs : List Int) (t : TypeId) (cs : Array Value) (n : Nat) (hc : cs = (valsI k xs).toArray) (hn : n = xs.length) (hl : n ≤ 9223372036854775807) :
    ReadsI k (w.alloc (.cells cs t)) (.slice (some ⟨w.heap.size, 0, none⟩) n n) xs := by
  subst hn hc
  refine ⟨_, _, rfl, Nat.le_refl _, hl, .inr ⟨_, _, rfl, fun i hi => ?_⟩⟩
  have h0 : (w.alloc (.cells (valsI k xs).toArray t)).heap[w.heap.size]? = some (.cells (valsI k xs).toArray t) := World.alloc_heap_new w _
  rw [Nat.zero_add, cell_of_row _ w.heap.size i _ t (0, 0) h0, List.getElem?_toArray, valsI_get k xs i hi]
end Go.Proofs.YtmjigpnpcacefaaDoor
namespace Go.Proofs.YtmjigpnpcacefaaDoor
open Go Go.RowKit Go.Shelf

def valsB (xs : List Bool) : List Value := xs.map Value.bool
theorem valsB_length (xs : List Bool) : (valsB xs).length = xs.length := by simp [valsB]
theorem valsB_get (xs : List Bool) (i : Nat) (h : i < xs.length) : (valsB xs)[i]? = some (.bool (xs[i]?.getD false)) := by
  simp [valsB, h]
/-- The slice value is the call's own, from block base on, and holds these truth values. -/
def OwnsB (e : TypeId) (w : World) (base : Nat) (v : Value) (xs : List Bool) : Prop := w.ownsRow base e 1 v xs.length (valsB xs)
theorem OwnsB.keep {e : TypeId} {w w' : World} {base n : Nat} {v : Value} {xs : List Bool} (h : OwnsB e w base v xs) (hB : Below n w w') (hn : w.heap.size ≤ n) : OwnsB e w' base v xs := by
  obtain ⟨h1, h⟩ := h
  refine ⟨h1, ?_⟩
  rcases h with h | ⟨g, cap, cur, rfl, hb, hg, rest⟩
  · exact .inl h
  · have hlt := (Array.getElem?_eq_some_iff.1 hg).1
    exact .inr ⟨g, cap, cur, rfl, hb, (hB.block g (by omega)).trans hg, rest⟩
theorem OwnsB.alloc {e : TypeId} {w : World} {base : Nat} {v : Value} {xs : List Bool} (h : OwnsB e w base v xs) (o : Obj) : OwnsB e (w.alloc o) base v xs := World.ownsRow.alloc h o
theorem OwnsB.slice {e : TypeId} {w : World} {base : Nat} {v : Value} {xs : List Bool} (h : OwnsB e w base v xs) (h0 : 0 < xs.length) :
    ∃ g cap, v = .slice (some ⟨g, 0, none⟩) xs.length cap ∧ base ≤ g ∧ g < w.heap.size ∧ xs.length ≤ cap ∧ cap ≤ 9223372036854775807 := by
  obtain ⟨_, h⟩ := h
  rcases h with ⟨rfl, hn⟩ | ⟨g, cap, cur, rfl, hb, hg, hn, hc, _, _⟩
  · omega
  · exact ⟨g, cap, rfl, hb, (Array.getElem?_eq_some_iff.1 hg).1, hn, hc⟩
theorem OwnsB.cellAt {e : TypeId} {w : World} {base g cap : Nat} {xs : List Bool} {n : Nat} (h : OwnsB e w base (.slice (some ⟨g, 0, none⟩) n cap) xs) (hn : n = xs.length) (i : Nat) (hi : i < n) :
    w.cell? ⟨g, i, none⟩ = some (.bool (xs[i]?.getD false)) := by
  subst hn
  rw [World.ownsRow.cellAt h i (by omega), valsB_get xs i hi]
theorem OwnsB.frozenAt {e : TypeId} {w : World} {base g cap : Nat} {xs : List Bool} {n : Nat} (h : OwnsB e w base (.slice (some ⟨g, 0, none⟩) n cap) xs) (hn : n = xs.length) (i : Nat) :
    w.frozen? ⟨g, i, none⟩ = false := by
  subst hn
  exact World.ownsRow.frozenAt h i
theorem OwnsB.set {e : TypeId} {w : World} {base g cap : Nat} {xs : List Bool} {n : Nat} (h : OwnsB e w base (.slice (some ⟨g, 0, none⟩) n cap) xs) (hn : n = xs.length) (i : Nat) (y : Bool) (_hi : i < xs.length) :
    OwnsB e (w.setCell ⟨g, i, none⟩ (.bool y)) base (.slice (some ⟨g, 0, none⟩) n cap) (xs.set i y) := by
  subst hn
  have h' := World.ownsRow.stored h i (.bool y)
  unfold OwnsB
  rw [List.length_set]
  have e1 : valsB (xs.set i y) = (valsB xs).set i (.bool y) := by
    unfold valsB; rw [List.map_set]
  rw [e1]
  exact h'.1
theorem info_bool : (Tryd.prog.info? 4).map (fun i => (i.zero, i.size, i.bytes)) = some (some (.bool false), 1, 1) := by kernel_rfl
/-- make([]bool, n). -/
theorem wpl_makeB {ops : Array Oper} {rest : List Oper} {o : Oper} {a : Act} {Q : Exit → Act → World → Prop} (hgd : o.guard = none) (l c : Operand) (t : TypeId)
    (ho : o.op = Op.makeSlice t l c) (e : TypeId) (bytes : Nat) (ht : Tryd.prog.underlying t = some (.slice e))
    (hi : (Tryd.prog.info? e).map (fun i => (i.zero, i.size, i.bytes)) = some (some (.bool false), 1, bytes)) (hb8 : bytes ≤ 8)
    (base : Nat) (wr : World) (n : Nat) (L C : Int) (hl : a.eval l = .int .i64 L) (hc : a.eval c = .int .i64 C) (hL : L = (n : Int)) (hC : C = (n : Int)) (hlen : n < 17592186044415) (hbase : base ≤ wr.heap.size)
    (h : ∀ v' w', OwnsB e w' base v' (List.replicate n false) → Below base wr w' → wpList Tryd.prog ops Q rest (a.put o.dst v') w') :
    wpList Tryd.prog ops Q (o :: rest) a wr := by
  obtain ⟨i0, hi0, hz0, hz1, hz2⟩ := info_parts hi
  refine wpList_make_full wr hgd l c t ho base e i0 (.bool false) 1 ht hi0 hz0 hz1 .i64 .i64 L C n hl hc hL hC ?_ (by unfold maxLen; omega) hbase ?_
  · rw [hz2]
    calc bytes * n ≤ 8 * n := Nat.mul_le_mul_right _ hb8
      _ ≤ 281474976710656 := by omega
  · intro w' hown hg
    refine h _ w' ?_ ((Below.refl base wr).grown hg hbase (fun _ e => by cases e))
    unfold OwnsB
    have e1 : (madeCells (Value.bool false).cells (n * 1)).toList = valsB (List.replicate n false) := by
      rw [Nat.mul_one, show (Value.bool false).cells = #[Value.bool false] from rfl, toList_madeCells_one]
      simp [valsB]
    rw [e1] at hown
    simpa using hown
/-- A store into a row of truth values keeps another row. -/
theorem OwnsB.other {e : TypeId} {w : World} {base g i : Nat} {v u : Value} {xs : List Bool} (h : OwnsB e w base v xs) (hne : ∀ j, v.ownBlock = some j → j ≠ g) : OwnsB e (w.setCell ⟨g, i, none⟩ u) base v xs := by
  refine World.ownsRow.kept h (row := some g) ⟨rfl, rfl, rfl, by simp, fun k _ hk => heap_setCell_other w ⟨g, i, none⟩ k u (fun e => hk (by simp [e]))⟩ ?_
  cases hv : v.ownBlock with
  | none => exact .inl rfl
  | some j => right; intro e2; cases e2; exact hne g hv rfl
theorem OwnsB.keepAt {e : TypeId} {w w' : World} {base n g c m : Nat} {xs : List Bool} (h : OwnsB e w base (.slice (some ⟨g, 0, none⟩) m c) xs) (hB : Below n w w') (hn : g < n) : OwnsB e w' base (.slice (some ⟨g, 0, none⟩) m c) xs := by
  obtain ⟨h1, h⟩ := h
  refine ⟨h1, ?_⟩
  rcases h with h | ⟨g', cap, cur, e', hb, hg, rest⟩
  · exact .inl h
  · cases e'
    exact .inr ⟨g, c, cur, rfl, hb, (hB.block g hn).trans hg, rest⟩
theorem OwnsI.cellAt {k : IntKind} {e : TypeId} {w : World} {base g cap : Nat} {xs : List Int} {n : Nat} (h : OwnsI k e w base (.slice (some ⟨g, 0, none⟩) n cap) xs) (hn : n = xs.length) (i : Nat) (hi : i < n) :
    w.cell? ⟨g, i, none⟩ = some (.int k (xs[i]?.getD 0)) := by
  subst hn
  rw [World.ownsRow.cellAt h i (by omega), valsI_get k xs i hi]
theorem OwnsI.frozenAt {k : IntKind} {e : TypeId} {w : World} {base g cap : Nat} {xs : List Int} {n : Nat} (h : OwnsI k e w base (.slice (some ⟨g, 0, none⟩) n cap) xs) (hn : n = xs.length) (i : Nat) :
    w.frozen? ⟨g, i, none⟩ = false := by
  subst hn
  exact World.ownsRow.frozenAt h i
theorem OwnsI.set {k : IntKind} {e : TypeId} {w : World} {base g cap : Nat} {xs : List Int} {n : Nat} (h : OwnsI k e w base (.slice (some ⟨g, 0, none⟩) n cap) xs) (hn : n = xs.length) (i : Nat) (y : Int) (_hi : i < xs.length) :
    OwnsI k e (w.setCell ⟨g, i, none⟩ (.int k y)) base (.slice (some ⟨g, 0, none⟩) n cap) (xs.set i y) := by
  subst hn
  have h' := World.ownsRow.stored h i (.int k y)
  unfold OwnsI
  rw [List.length_set]
  have e1 : valsI k (xs.set i y) = (valsI k xs).set i (.int k y) := by
    unfold valsI; rw [List.map_set]
  rw [e1]
  exact h'.1
theorem OwnsI.other {k : IntKind} {e : TypeId} {w : World} {base g i : Nat} {v u : Value} {xs : List Int} (h : OwnsI k e w base v xs) (hne : ∀ j, v.ownBlock = some j → j ≠ g) : OwnsI k e (w.setCell ⟨g, i, none⟩ u) base v xs := by
  refine World.ownsRow.kept h (row := some g) ⟨rfl, rfl, rfl, by simp, fun k _ hk => heap_setCell_other w ⟨g, i, none⟩ k u (fun e => hk (by simp [e]))⟩ ?_
  cases hv : v.ownBlock with
  | none => exact .inl rfl
  | some j => right; intro e2; cases e2; exact hne g hv rfl

theorem owns_lit (k : IntKind) (e : TypeId) (w : World) (base : Nat) (h : base ≤ w.heap.size) (xs : List Nat) (cs : Array Value) (n : Nat) (hc : cs = (vals k xs).toArray) (hn : n = xs.length) (hl : n ≤ 9223372036854775807) : Owns k e (w.alloc (.cells cs e)) base (.slice (some ⟨w.heap.size, 0, none⟩) n n) xs := by
  subst hc hn
  refine ⟨by simp [vals], .inr ⟨w.heap.size, xs.length, _, rfl, h, heap_alloc_new w _, Nat.le_refl _, hl, by simp [vals], ?_⟩⟩
  simp [vals]
  exact List.take_of_length_le (by simp)
theorem ownsI_lit (k : IntKind) (e : TypeId) (w : World) (base : Nat) (h : base ≤ w.heap.size) (xs : List Int) (cs : Array Value) (n : Nat) (hc : cs = (valsI k xs).toArray) (hn : n = xs.length) (hl : n ≤ 9223372036854775807) : OwnsI k e (w.alloc (.cells cs e)) base (.slice (some ⟨w.heap.size, 0, none⟩) n n) xs := by
  subst hc hn
  refine ⟨by simp [valsI], .inr ⟨w.heap.size, xs.length, _, rfl, h, heap_alloc_new w _, Nat.le_refl _, hl, by simp [valsI], ?_⟩⟩
  simp [valsI]
  exact List.take_of_length_le (by simp)

/-- Which of the first n numbers are in a list. -/
def tbl (n : Nat) (ks : List Nat) : List Bool := (List.range n).map fun k => decide (k ∈ ks)
theorem tbl_length (n : Nat) (ks : List Nat) : (tbl n ks).length = n := by simp [tbl]
theorem tbl_get (n : Nat) (ks : List Nat) (k : Nat) (h : k < n) : (tbl n ks)[k]?.getD false = decide (k ∈ ks) := by
  simp [tbl, h]
theorem tbl_nil (n : Nat) : tbl n [] = List.replicate n false := by
  apply List.ext_getElem
  · simp [tbl]
  · intro i h1 h2; simp [tbl]
theorem tbl_set (n : Nat) (ks : List Nat) (k : Nat) : (tbl n ks).set k true = tbl n (ks ++ [k]) := by
  apply List.ext_getElem
  · simp [tbl]
  · intro i h1 h2
    rw [List.getElem_set]
    by_cases e : k = i
    · subst e; simp [tbl]
    · rw [if_neg e]
      simp only [tbl, List.getElem_map, List.getElem_range, List.mem_append, List.mem_singleton]
      rw [decide_eq_decide]
      constructor
      · exact .inl
      · rintro (h | h)
        · exact h
        · exact absurd h.symm e
/-- The remainders, each once. -/
def uq (n : Nat) (l : List Nat) : List Nat := l.foldl (fun acc x => if x % n ∈ acc then acc else acc ++ [x % n]) []
theorem uq_snoc (n : Nat) (l : List Nat) (x : Nat) : uq n (l ++ [x]) = if x % n ∈ uq n l then uq n l else uq n l ++ [x % n] := by
  unfold uq; rw [List.foldl_append]; rfl
theorem uq_ind {P : List Nat → Prop} (n : Nat) (h0 : P []) (h1 : ∀ acc x, P acc → x % n ∉ acc → P (acc ++ [x % n])) (l : List Nat) : P (uq n l) := by
  have : ∀ (l acc : List Nat), P acc → P (l.foldl (fun acc x => if x % n ∈ acc then acc else acc ++ [x % n]) acc) := by
    intro l
    induction l with
    | nil => intro acc h; exact h
    | cons x l ih =>
      intro acc h
      rw [List.foldl_cons]
      apply ih
      by_cases hx : x % n ∈ acc
      · rw [if_pos hx]; exact h
      · rw [if_neg hx]; exact h1 acc x h hx
  exact this l [] h0
theorem uq_nodup (n : Nat) (l : List Nat) : (uq n l).Nodup :=
  uq_ind n List.nodup_nil (fun acc x h hx => by
    rw [List.nodup_append]
    refine ⟨h, List.nodup_cons.2 ⟨by simp, List.nodup_nil⟩, fun a ha b hb e => ?_⟩
    rw [List.mem_singleton] at hb
    rw [e, hb] at ha
    exact hx ha) l
theorem uq_lt (n : Nat) (hn : 0 < n) (l : List Nat) : ∀ k ∈ uq n l, k < n :=
  uq_ind (P := fun acc => ∀ k ∈ acc, k < n) n (fun k h => by cases h) (fun acc x h _ k hk => by
    rcases List.mem_append.1 hk with hk | hk
    · exact h k hk
    · rw [List.mem_singleton] at hk; rw [hk]; exact Nat.mod_lt _ hn) l
theorem uq_length_aux (n : Nat) : ∀ (l acc : List Nat), (l.foldl (fun acc x => if x % n ∈ acc then acc else acc ++ [x % n]) acc).length ≤ acc.length + l.length
  | [], acc => by simp
  | x :: l, acc => by
    rw [List.foldl_cons]
    have := uq_length_aux n l (if x % n ∈ acc then acc else acc ++ [x % n])
    have h2 : (if x % n ∈ acc then acc else acc ++ [x % n]).length ≤ acc.length + 1 := by split <;> simp
    rw [List.length_cons]
    omega
theorem uq_length (n : Nat) (l : List Nat) : (uq n l).length ≤ l.length := by
  have := uq_length_aux n l []
  simpa [uq] using this
end Go.Proofs.YtmjigpnpcacefaaDoor
namespace Go.Proofs.YtmjigpnpcacefaaDoor
open Go Go.RowKit Go.Shelf

theorem owns_form3 {k : IntKind} {e : TypeId} {w : World} {base : Nat} {v : Value} {xs : List Nat} (h : Owns k e w base v xs) : ∃ a n c, v = .slice a n c ∧ n = xs.length ∧ n ≤ c ∧ c ≤ 9223372036854775807 := by
  rcases h.form with ⟨rfl, rfl⟩ | ⟨g, cap, rfl, hb, hg, hn, hc⟩
  · exact ⟨_, _, _, rfl, rfl, by simp, by simp⟩
  · exact ⟨_, _, _, rfl, rfl, hn, hc⟩
/-- append, as one step of a region that draws. -/
theorem step_app {P : Program} {ops : Array Oper} {o : Oper} {a : Act} {w : World} {K : Act → World → Prop} {Q : Exit → Act → World → Prop} {E : Prop}
    (hg : o.guard = none) (s x : Operand) (t1 t2 : TypeId) (hop : o.op = Op.call { callee := Callee.builtin Builtin.append, args := #[s, x], argTypes := #[t1, t2] }) (v : Value) (w' : World)
    (hrun : (Builtin.append_ #[t1, t2] o.type #[a.eval s, a.eval x]).run P w = .ok v w') (hK : K (a.put o.dst v) w') :
    if Region.wanted o (yielded ops a.tmps) = true then Oper.wp P o a w K Q else E := by
  have hw : Region.wanted o (yielded ops a.tmps) = true := by simp [Region.wanted, hg]
  rw [if_pos hw]
  unfold Oper.wp
  simp [execOp, hop, resolve, invoke, builtin, hrun, Result.andThen]
  exact hK
/-- append(out, ys...): what it runs to. -/
theorem run_app (ty : TypeId) {k : IntKind} {e t : TypeId} {bytes base : Nat} (ht : Tryd.prog.underlying t = some (.slice e))
    (hi : (Tryd.prog.info? e).map (fun i => (i.zero, i.size, i.bytes)) = some (some (.int k 0), 1, bytes)) (hb8 : bytes ≤ 8)
    {v vy : Value} {xs ys : List Nat} {w : World} (hown : Owns k e w base v xs) (hy : Reads k w vy ys) (hlen : xs.length + ys.length < 17592186044415) (hbase : base ≤ w.heap.size) :
    ∃ v' w', (Builtin.append_ #[t, t] ty #[v, vy]).run Tryd.prog w = .ok v' w' ∧ Owns k e w' base v' (xs ++ ys) ∧ Below base w w' := by
  obtain ⟨i0, hi0, hz0, hz1, hz2⟩ := info_parts hi
  obtain ⟨ao, cap, rfl, hl, hm, hcell⟩ := hy
  have hbyt : (xs.length + ys.length) * bytes ≤ 140737488355328 :=
    calc (xs.length + ys.length) * bytes ≤ (xs.length + ys.length) * 8 := Nat.mul_le_mul_left _ hb8
      _ ≤ 140737488355328 := by omega
  rcases hcell with rfl | ⟨b, off, rfl, hcell⟩
  · obtain rfl : ys = [] := List.length_eq_zero_iff.1 (by omega)
    cases ao with
    | none => exact ⟨v, w, run_append_owned_none (P := Tryd.prog) (w := w) base t ty e i0 1 ht hi0 v xs.length (vals k xs) hown, by simpa using hown, Below.refl _ _⟩
    | some ad =>
      obtain ⟨v', w', hr, ho', hg', _⟩ := run_append_own (P := Tryd.prog) w base t ty e i0 (.int k 0) 1 bytes ht hi0 hz0 hz1 hz2 rfl (by decide) v xs.length (vals k xs) hown ad 0 0 [] rfl
        (fun j u hu => by simp at hu) (by simp) (by unfold maxLen; simp at hlen; omega) (by simpa using hbyt) hbase
      exact ⟨v', w', hr, by unfold Owns; simpa [vals] using ho', (Below.refl base w).grown hg' hbase (own_base hown)⟩
  · obtain ⟨v', w', hr, ho', hg', _⟩ := run_append_own (P := Tryd.prog) w base t ty e i0 (.int k 0) 1 bytes ht hi0 hz0 hz1 hz2 rfl (by decide) v xs.length (vals k xs) hown ⟨b, off, none⟩ ys.length cap (vals k ys) (by rw [vals_length]; omega)
      (fun j u hu => by
        have hj : j < ys.length := by
          apply Classical.byContradiction; intro hn
          rw [List.getElem?_eq_none (by rw [vals_length]; omega)] at hu; cases hu
        rw [vals_get k ys j hj] at hu
        cases hu
        have ha : (⟨b, off, none⟩ : Addr).add j = ⟨b, off + j, none⟩ := by simp [Addr.add]
        rw [ha]
        exact hcell j hj) (by simp [vals, Value.oneCell']) (by unfold maxLen; omega) hbyt hbase
    exact ⟨v', w', hr, by unfold Owns; simpa [vals] using ho', (Below.refl base w).grown hg' hbase (own_base hown)⟩
/-- append(out, make([]T, m)...): what it runs to. -/
theorem run_appz (ty : TypeId) {k : IntKind} {e t tn : TypeId} {bytes base : Nat} (ht : Tryd.prog.underlying t = some (.slice e)) (htn : Tryd.prog.underlying tn = some (.int .i64))
    (hi : (Tryd.prog.info? e).map (fun i => (i.zero, i.size, i.bytes)) = some (some (.int k 0), 1, bytes)) (hb8 : bytes ≤ 8)
    {v : Value} {xs : List Nat} {w : World} (hown : Owns k e w base v xs) (m : Nat) (hlen : xs.length + m < 17592186044415) (hbase : base ≤ w.heap.size) :
    ∃ v' w', (Builtin.append_ #[t, tn] ty #[v, .int .i64 (m : Int)]).run Tryd.prog w = .ok v' w' ∧ Owns k e w' base v' (xs ++ List.replicate m 0) ∧ Below base w w' := by
  obtain ⟨i0, hi0, hz0, hz1, hz2⟩ := info_parts hi
  obtain ⟨v', w', hr, hown', hg⟩ := run_append_zeros (P := Tryd.prog) w base t tn ty e i0 k bytes ht htn hi0 hz0 hz1 hz2 hb8 v xs.length (vals k xs) hown m hlen hbase
  exact ⟨v', w', hr, by unfold Owns; simpa [vals] using hown', (Below.refl base w).grown hg hbase (own_base hown)⟩
end Go.Proofs.YtmjigpnpcacefaaDoor
namespace Go.Proofs.YtmjigpnpcacefaaDoor
open Go Go.RowKit Go.Shelf

theorem swap_perm (L : List Int) {i j : Nat} (hi : i < L.length) (hj : j < L.length) : ((L.set i (L[j]?.getD 0)).set j (L[i]?.getD 0)).Perm L := by
  rw [List.getElem?_eq_getElem hi, List.getElem?_eq_getElem hj]
  exact List.set_set_perm hi hj
/-- An element of an array by value. -/
theorem index_plain {P : Program} {t e : TypeId} {n : Nat} (h : P.underlying t = some (.array n e)) (hs : (P.info? e).map (·.size) = some 1) (ha : P.plainKey e = true) {cs : Array Value} {i : Nat} {u : Value} (hi : i < n) (hu : cs[i]? = some u) (w : World) :
    (Instr.index t (.agg cs) (.int .i64 (i : Int))).run P w = .ok u w := by
  have hp := run_part_plain (P := P) (w := w) ha hu
  have hz : (sizeOf e).run P w = .ok 1 w := by
    cases hq : P.info? e with
    | none => simp [hq] at hs
    | some d =>
      have hd : d.size = 1 := by simpa [hq] using hs
      simp [sizeOf, typeInfo, hq, hd]
  unfold Instr.index
  unfold part at hp
  simp [go_sem] at hp
  simp [run_underlying h, asIntOf, hi, hz, go_sem]
  exact hp
/-- var b [n]T: a new block of zeros, whose cells stand behind a name. -/
theorem wpl_allocZ {P : Program} {ops : Array Oper} {rest : List Oper} {o : Oper} {a : Act} {Q : Exit → Act → World → Prop} {w : World} (hg : o.guard = none) (t : TypeId) (ho : o.op = .alloc t) (Z : Array Value)
    (hz : (zeroValue t).run P w = .ok (.agg Z) w) (h : wpList P ops Q rest (a.put o.dst (.pointer (some ⟨w.heap.size, 0, none⟩))) (w.alloc (.cells Z t))) : wpList P ops Q (o :: rest) a w := by
  refine wpList_plain hg fun K hK => ?_
  unfold Oper.wp
  simp [execOp, ho, Instr.alloc, hz, newVar, Value.cells, go_sem]
  exact hK _ _ h
/-- b := [n]T{}: the same, from a literal. -/
theorem wpl_zeros {P : Program} {ops : Array Oper} {rest : List Oper} {o1 o2 o3 : Oper} {a : Act} {Q : Exit → Act → World → Prop} {w : World} (g1 : o1.guard = none) (g2 : o2.guard = none) (g3 : o3.guard = none) (t : TypeId) (d1 d2 : Tmp)
    (h1 : o1.op = .build t #[]) (e1 : o1.dst = some d1) (h2 : o2.op = .alloc t) (e2 : o2.dst = some d2) (h3 : o3.op = .store t (.tmp d2) (.tmp d1)) (e3 : o3.dst = none) (hne : d1 ≠ d2) (hs1 : d1 < a.tmps.size) (hs2 : d2 < a.tmps.size) (Z : Array Value)
    (hb : P.built t [] = some Z) (hz : ∀ W : World, (zeroValue t).run P W = .ok (.agg Z) W) (hi : (P.info? t).map (·.size) = some Z.size) (hone : Z.all (·.oneCell') = true)
    (h : wpList P ops Q rest ((a.put (some d1) (.agg Z)).put (some d2) (.pointer (some ⟨w.heap.size, 0, none⟩))) (w.alloc (.cells Z t))) : wpList P ops Q (o1 :: o2 :: o3 :: rest) a w := by
  refine wpList_build g1 t #[] h1 (by simp [hb]) ?_
  have eb : (P.built t ((#[] : Array (Nat × Operand)).map (fun (i, x) => (i, a.eval x))).toList).getD #[] = Z := by simp [hb]
  rw [eb, e1]
  refine wpl_allocZ g2 t h2 Z (hz _) ?_
  rw [e2]
  refine wpList_store_row g3 t (.tmp d2) (.tmp d1) h3 w.heap.size Z ?_ ?_ t Z (World.alloc_heap_new w _) hi rfl hone ?_
  · exact Act.eval_put_same _ _ _ (by rw [Act.size_put]; exact hs2)
  · rw [Act.eval_put_ne _ _ _ _ (Ne.symm hne)]; exact Act.eval_put_same _ _ _ hs1
  · rw [e3, World.setRow_alloc_new]
    exact h
/-- append(out, ys...) of signed numbers: what it runs to. -/
theorem run_appI (ty : TypeId) {k : IntKind} {e t : TypeId} {bytes base : Nat} (ht : Tryd.prog.underlying t = some (.slice e))
    (hi : (Tryd.prog.info? e).map (fun i => (i.zero, i.size, i.bytes)) = some (some (.int k 0), 1, bytes)) (hb8 : bytes ≤ 8)
    {v vy : Value} {xs ys : List Int} {w : World} (hown : OwnsI k e w base v xs) (hy : ReadsI k w vy ys) (hlen : xs.length + ys.length < 17592186044415) (hbase : base ≤ w.heap.size) :
    ∃ v' w', (Builtin.append_ #[t, t] ty #[v, vy]).run Tryd.prog w = .ok v' w' ∧ OwnsI k e w' base v' (xs ++ ys) ∧ Below base w w' ∧ w.grownBy w' v.ownBlock := by
  obtain ⟨i0, hi0, hz0, hz1, hz2⟩ := info_parts hi
  obtain ⟨ao, cap, rfl, hl, hm, hcell⟩ := hy
  have hbyt : (xs.length + ys.length) * bytes ≤ 140737488355328 :=
    calc (xs.length + ys.length) * bytes ≤ (xs.length + ys.length) * 8 := Nat.mul_le_mul_left _ hb8
      _ ≤ 140737488355328 := by omega
  rcases hcell with rfl | ⟨b, off, rfl, hcell⟩
  · obtain rfl : ys = [] := List.length_eq_zero_iff.1 (by omega)
    cases ao with
    | none => exact ⟨v, w, run_append_owned_none (P := Tryd.prog) (w := w) base t ty e i0 1 ht hi0 v xs.length (valsI k xs) hown, by simpa using hown, Below.refl _ _, ⟨rfl, rfl, rfl, Nat.le_refl _, fun _ _ _ => rfl⟩⟩
    | some ad =>
      obtain ⟨v', w', hr, ho', hg', _⟩ := run_append_own (P := Tryd.prog) w base t ty e i0 (.int k 0) 1 bytes ht hi0 hz0 hz1 hz2 rfl (by decide) v xs.length (valsI k xs) hown ad 0 0 [] rfl
        (fun j u hu => by simp at hu) (by simp) (by unfold maxLen; simp at hlen; omega) (by simpa using hbyt) hbase
      exact ⟨v', w', hr, by unfold OwnsI; simpa [valsI] using ho', (Below.refl base w).grown hg' hbase (ownI_base hown), hg'⟩
  · obtain ⟨v', w', hr, ho', hg', _⟩ := run_append_own (P := Tryd.prog) w base t ty e i0 (.int k 0) 1 bytes ht hi0 hz0 hz1 hz2 rfl (by decide) v xs.length (valsI k xs) hown ⟨b, off, none⟩ ys.length cap (valsI k ys) (by rw [valsI_length]; omega)
      (fun j u hu => by
        have hj : j < ys.length := by
          apply Classical.byContradiction; intro hn
          rw [List.getElem?_eq_none (by rw [valsI_length]; omega)] at hu; cases hu
        rw [valsI_get k ys j hj] at hu
        cases hu
        have ha : (⟨b, off, none⟩ : Addr).add j = ⟨b, off + j, none⟩ := by simp [Addr.add]
        rw [ha]
        exact hcell j hj) (by simp [valsI, Value.oneCell']) (by unfold maxLen; omega) hbyt hbase
    exact ⟨v', w', hr, by unfold OwnsI; simpa [valsI] using ho', (Below.refl base w).grown hg' hbase (ownI_base hown), hg'⟩
theorem OwnsI.drew {k : IntKind} {e : TypeId} {w : World} {base : Nat} {v : Value} {xs : List Int} (h : OwnsI k e w base v xs) : OwnsI k e w.drew base v xs := World.ownsRow.drew h
end Go.Proofs.YtmjigpnpcacefaaDoor
