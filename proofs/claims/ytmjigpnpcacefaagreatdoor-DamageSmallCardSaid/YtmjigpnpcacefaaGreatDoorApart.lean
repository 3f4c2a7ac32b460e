/- Rows that lie apart: appends that tell where what they make lies. -/
import Derived.Test.YtmjigpnpcacefaaGreatDoorOwnV
namespace Go.Proofs.YtmjigpnpcacefaaGreatDoor
open Go Go.RowKit Go.Shelf

/-- The first n of an owned row. -/
theorem ownsRow_pre {w : World} {base : Nat} {e : TypeId} {g cap n m : Nat} {xs ys : List Value} (h : w.ownsRow base e 1 (.slice (some ⟨g, 0, none⟩) (n + m) cap) (n + m) (xs ++ ys)) (hx : xs.length = n) :
    w.ownsRow base e 1 (.slice (some ⟨g, 0, none⟩) n cap) n xs := by
  obtain ⟨hl, h⟩ := h
  rcases h with ⟨h, _⟩ | ⟨g', cap', cur, hv, hb, hg, hn, hc, hs, ht⟩
  · cases h
  · cases hv
    refine ⟨by omega, .inr ⟨g, cap, cur, rfl, hb, hg, by omega, hc, hs, ?_⟩⟩
    have h2 := congrArg (List.take (n * 1)) ht
    rw [List.take_take, Nat.mul_one, Nat.mul_one, Nat.min_eq_left (by omega), ← hx, List.take_left'  rfl] at h2
    rw [Nat.mul_one, ← hx]
    exact h2
theorem owns_pre {k : IntKind} {e : TypeId} {w : World} {base g cap n m : Nat} {xs ys : List Nat} (h : Owns k e w base (.slice (some ⟨g, 0, none⟩) (n + m) cap) (xs ++ ys)) (hx : xs.length = n) (hy : ys.length = m) :
    Owns k e w base (.slice (some ⟨g, 0, none⟩) n cap) xs := by
  unfold Owns at h ⊢
  rw [List.length_append, hx, hy, show vals k (xs ++ ys) = vals k xs ++ vals k ys by simp [vals]] at h
  rw [hx]
  exact ownsRow_pre h (by rw [vals_length]; exact hx)

theorem run_append_at {P : Program} (w : World) (base : Nat) (t ty e : TypeId) (i : TypeInfo) (z : Value) (bytes : Nat) (ht : P.underlying t = some (.slice e)) (hi : P.info? e = some i) (hz : i.zero = some z)
    (hsize : i.size = 1) (hby : i.bytes = bytes) (hzs : z.cells.size = 1) (v : Value) (n : Nat) (xs : List Value) (hown : w.ownsRow base e 1 v n xs)
    (a : Addr) (m c : Nat) (news : List Value) (hl : news.length = m) (hnews : ∀ j u, news[j]? = some u → w.cell? (a.add j) = some u) (h1 : ∀ u ∈ news, u.oneCell' = true)
    (h63 : n + m ≤ maxLen) (hbytes : (n + m) * bytes ≤ 140737488355328) (hbase : base ≤ w.heap.size) :
    ∃ v' w', (Builtin.append_ #[t, t] ty #[v, .slice (some a) m c]).run P w = .ok v' w' ∧ w'.ownsRow base e 1 v' (n + m) (xs ++ news) ∧ w'.ownsRow base e 1 v n xs ∧ w.grownBy w' v.ownBlock ∧
      (v'.ownBlock = v.ownBlock ∨ ∀ g, v'.ownBlock = some g → w.heap.size ≤ g) := by
  obtain ⟨v', w', hr, ho, hg, -⟩ := run_append_own (P := P) w base t ty e i z 1 bytes ht hi hz hsize hby hzs (by decide) v n xs hown a m c news (by omega) hnews h1 h63 hbytes hbase
  refine ⟨v', w', hr, ho, ?_⟩
  have hl' : news.length = m * i.size := by rw [hsize]; omega
  have hxl : xs.length = n := by have := hown.1; omega
  rcases hown.2 with ⟨rfl, rfl⟩ | ⟨g, cap, cur, rfl, hbg, hgg, hnc, hcm, hcs, htake⟩
  · have hx : xs = [] := List.eq_nil_of_length_eq_zero hxl
    subst hx
    refine ⟨World.ownsRow_nil w' base e 1, hg, ?_⟩
    by_cases hm : m = 0
    · subst hm
      left
      rcases ho.2 with ⟨rfl, _⟩ | ⟨g', cap', cur', rfl, hb', hg', _⟩
      · rfl
      · exfalso
        have hn : news = [] := List.eq_nil_of_length_eq_zero hl
        subst hn
        have hr0 : (Builtin.append_ #[t, t] ty #[.slice none 0 0, .slice (some a) 0 c]).run P w = .ok (.slice none 0 0) w := by
          simp [Builtin.append_, run_underlying ht, sizeOf, typeInfo, hi, Builtin.lenOf, Builtin.firstCells, loadCells, loadCellsFrom]
        rw [hr0] at hr
        cases hr
    · have hr2 := run_append_nil (P := P) w t ty e i z ht hi hz a m c news hl' hnews (by omega) (by simp only [maxLen] at h63; omega) (by have hb := hbytes; rw [Nat.zero_add, ← hby] at hb; omega)
      rw [hr] at hr2
      cases hr2
      exact .inr fun g' h => by cases h; exact Nat.le_refl _
  · by_cases hroom : n + m ≤ cap
    · have hfit : n * i.size + news.length ≤ cur.size := by rw [hl, hcs, hsize]; omega
      have hr2 := run_append_room (P := P) w t ty e i ht hi g n cap cur hgg a m c news hl' hnews h1 hroom hfit
      rw [hr] at hr2
      cases hr2
      exact ⟨ownsRow_pre ho hxl, hg, .inl rfl⟩
    · have holds : ∀ j u, xs[j]? = some u → w.cell? ((⟨g, 0, none⟩ : Addr).add j) = some u := hown.cells (g := g) rfl
      have hfits : Builtin.nextslicecap (n + m) cap * i.bytes ≤ 281474976710656 := by
        refine growslice_fits (by omega) ?_
        rw [hby]
        exact hbytes
      have hr2 := run_append_grow (P := P) w t ty e i z ht hi hz ⟨g, 0, none⟩ n cap xs (by rw [hsize]; omega) holds a m c news hl' hnews (by omega) (by simp only [maxLen] at h63; omega) hfits
      rw [hr] at hr2
      cases hr2
      refine ⟨hown.kept (row := none) ⟨rfl, rfl, rfl, by simp, fun k hk _ => heap_alloc_old w.drew _ k hk⟩ (.inr (by simp [Value.ownBlock])), hg, .inr fun g' h => by cases h; exact Nat.le_refl _⟩

/-- append(out, y), with where the new row lies. -/
theorem wpl_app1L {ops : Array Oper} {rest : List Oper} {o : Oper} {a : Act} {Q : Exit → Act → World → Prop} (hgd : o.guard = none) (s x : Operand) (t : TypeId)
    (ho : o.op = .call { callee := .builtin .append, args := #[s, x], argTypes := #[t, t] }) (k : IntKind) (e : TypeId) (bytes : Nat) (ht : Tryz.prog.underlying t = some (.slice e))
    (hi : (Tryz.prog.info? e).map (fun i => (i.zero, i.size, i.bytes)) = some (some (.int k 0), 1, bytes)) (hb8 : bytes ≤ 8)
    (base : Nat) (v : Value) (xs : List Nat) (wr : World) (hown : Owns k e wr base v xs) (hs : a.eval s = v) (c : Int) (y : Nat) (hx : a.eval x = .slice (some ⟨wr.heap.size, 0, none⟩) 1 1)
    (hc : c = (y : Int)) (hlen : xs.length < 17592186044415) (hbase : base ≤ wr.heap.size)
    (h : ∀ v' w', Owns k e w' base v' (xs ++ [y]) → Owns k e w' base v xs → wr.grownBy w' v.ownBlock → (v'.ownBlock = v.ownBlock ∨ ∀ g, v'.ownBlock = some g → wr.heap.size ≤ g) → wpList Tryz.prog ops Q rest (a.put o.dst v') w') :
    wpList Tryz.prog ops Q (o :: rest) a (wr.alloc (.cells #[.int k c] e)) := by
  subst hc
  obtain ⟨i0, hi0, hz0, hz1, hz2⟩ := info_parts hi
  have hsz : (wr.alloc (.cells #[.int k (y : Int)] e)).heap.size = wr.heap.size + 1 := by simp
  obtain ⟨v', w', hr, h1, h2, hg, hl⟩ := run_append_at (P := Tryz.prog) (wr.alloc (.cells #[.int k (y : Int)] e)) base t o.type e i0 (.int k 0) bytes ht hi0 hz0 hz1 hz2 rfl v xs.length (vals k xs) (World.ownsRow.alloc hown _) ⟨wr.heap.size, 0, none⟩ 1 1 [.int k (y : Int)] rfl
    (cell_one_new _ _ _) (by simp [Value.oneCell']) (by unfold maxLen; omega) (calc (xs.length + 1) * bytes ≤ (xs.length + 1) * 8 := Nat.mul_le_mul_left _ hb8
      _ ≤ 140737488355328 := by omega) (by simp; omega)
  refine Lib.wpList_append_run _ hgd s x t t ho v (.slice (some ⟨wr.heap.size, 0, none⟩) 1 1) hs hx v' w' hr (h v' w' ?_ h2 ?_ ?_)
  · unfold Owns; simpa [vals] using h1
  · exact ⟨hg.os, hg.tape, hg.output, by have := hg.size; omega, fun b hb hne => (hg.block b (by omega) hne).trans (Below.heap_alloc wr _ b hb)⟩
  · rcases hl with hl | hl
    · exact .inl hl
    · exact .inr fun g hh => by have := hl g hh; omega
/-- append(out, ys...), with where the new row lies. -/
theorem wpl_appL {ops : Array Oper} {rest : List Oper} {o : Oper} {a : Act} {Q : Exit → Act → World → Prop} (hgd : o.guard = none) (s x : Operand) (t : TypeId)
    (ho : o.op = .call { callee := .builtin .append, args := #[s, x], argTypes := #[t, t] }) (k : IntKind) (e : TypeId) (bytes : Nat) (ht : Tryz.prog.underlying t = some (.slice e))
    (hi : (Tryz.prog.info? e).map (fun i => (i.zero, i.size, i.bytes)) = some (some (.int k 0), 1, bytes)) (hb8 : bytes ≤ 8)
    (base : Nat) (v : Value) (xs : List Nat) (wr : World) (hown : Owns k e wr base v xs) (hs : a.eval s = v) (gy m c base2 : Nat) (ys : List Nat) (hx : a.eval x = .slice (some ⟨gy, 0, none⟩) m c) (hm : m = ys.length)
    (hy : Owns k e wr base2 (.slice (some ⟨gy, 0, none⟩) m c) ys) (hlen : xs.length + ys.length < 17592186044415) (hbase : base ≤ wr.heap.size)
    (h : ∀ v' w', Owns k e w' base v' (xs ++ ys) → Owns k e w' base v xs → wr.grownBy w' v.ownBlock → (v'.ownBlock = v.ownBlock ∨ ∀ g, v'.ownBlock = some g → wr.heap.size ≤ g) → wpList Tryz.prog ops Q rest (a.put o.dst v') w') :
    wpList Tryz.prog ops Q (o :: rest) a wr := by
  obtain ⟨i0, hi0, hz0, hz1, hz2⟩ := info_parts hi
  obtain ⟨v', w', hr, h1, h2, hg, hl⟩ := run_append_at (P := Tryz.prog) wr base t o.type e i0 (.int k 0) bytes ht hi0 hz0 hz1 hz2 rfl v xs.length (vals k xs) hown ⟨gy, 0, none⟩ m c (vals k ys) (by rw [vals_length]; exact hm.symm)
    (World.ownsRow.cells hy rfl) (by simp [vals, Value.oneCell']) (by unfold maxLen; omega) (calc (xs.length + m) * bytes ≤ (xs.length + m) * 8 := Nat.mul_le_mul_left _ hb8
      _ ≤ 140737488355328 := by omega) hbase
  refine Lib.wpList_append_run _ hgd s x t t ho v _ hs hx v' w' hr (h v' w' ?_ h2 hg hl)
  unfold Owns
  rw [show vals k (xs ++ ys) = vals k xs ++ vals k ys by simp [vals], List.length_append, ← hm]
  exact h1

/-- Blocks below n, but for one row's, are as they were. -/
def Oth (R : Option Nat) (n : Nat) (w w' : World) : Prop := ∀ b, b < n → R ≠ some b → w'.heap[b]? = w.heap[b]?
theorem Oth.refl (R : Option Nat) (n : Nat) (w : World) : Oth R n w w := fun _ _ _ => rfl
theorem Oth.trans {R : Option Nat} {n : Nat} {a b c : World} (h : Oth R n a b) (k : Oth R n b c) : Oth R n a c := fun i hi hr => (k i hi hr).trans (h i hi hr)
theorem Oth.of_below {R : Option Nat} {n m : Nat} {w w' : World} (h : Below m w w') (hn : n ≤ m) : Oth R n w w' := fun b hb _ => h.block b (by omega)
theorem Oth.of_grown {R row : Option Nat} {n : Nat} {w w' : World} (h : w.grownBy w' row) (hn : n ≤ w.heap.size) (hr : row = R ∨ ∀ g, row = some g → n ≤ g) : Oth R n w w' := fun b hb hne =>
  h.block b (by omega) (by
    rcases hr with rfl | hr
    · exact fun e => hne e.symm
    · exact fun e => by have := hr b e.symm; omega)
theorem Oth.setCell {R : Option Nat} {n : Nat} (w : World) (g i : Nat) (u : Value) (hr : R = some g ∨ n ≤ g) : Oth R n w (w.setCell ⟨g, i, none⟩ u) := fun b hb hne =>
  Below.heap_setCell w _ u b (by
    show b ≠ g
    rcases hr with rfl | hr
    · exact fun e => hne (by rw [e])
    · omega)
theorem Owns.oth {k : IntKind} {e : TypeId} {w w' : World} {base n : Nat} {v : Value} {xs : List Nat} {R : Option Nat} (h : Owns k e w base v xs) (ho : Oth R n w w') (hv : ∀ g, v.ownBlock = some g → g < n ∧ R ≠ some g) : Owns k e w' base v xs := by
  obtain ⟨h1, h⟩ := h
  refine ⟨h1, ?_⟩
  rcases h with h | ⟨g, cap, cur, rfl, hb, hg, rest⟩
  · exact .inl h
  · have := hv g rfl
    exact .inr ⟨g, cap, cur, rfl, hb, (ho g this.1 this.2).trans hg, rest⟩
theorem oth_cell {R : Option Nat} {n g i : Nat} {w w' : World} {u : Value} (ho : Oth R n w w') (hc : w.cell? ⟨g, i, none⟩ = some u) (hg : g < n) (hr : R ≠ some g) : w'.cell? ⟨g, i, none⟩ = some u :=
  (World.cell?_of_block (w := w) (ho g hg hr)).trans hc
theorem oth_frozen {R : Option Nat} {n g i : Nat} {w w' : World} {b : Bool} (ho : Oth R n w w') (hc : w.frozen? ⟨g, i, none⟩ = b) (hg : g < n) (hr : R ≠ some g) : w'.frozen? ⟨g, i, none⟩ = b :=
  (World.frozen?_of_block (w := w) (ho g hg hr)).trans hc
theorem Owns.drew {k : IntKind} {e : TypeId} {w : World} {base : Nat} {v : Value} {xs : List Nat} (h : Owns k e w base v xs) : Owns k e w.drew base v xs := World.ownsRow.drew h

/-- An owned row of any values of one cell each. -/
def OwnsS (e : TypeId) (w : World) (base : Nat) (v : Value) (ts : List Value) : Prop := w.ownsRow base e 1 v ts.length ts
theorem OwnsS.cellAt {e : TypeId} {w : World} {base g cap : Nat} {ts : List Value} {n : Nat} (h : OwnsS e w base (.slice (some ⟨g, 0, none⟩) n cap) ts) (hn : n = ts.length) {i : Nat} {t : Value} (hi : ts[i]? = some t) :
    w.cell? ⟨g, i, none⟩ = some t := by
  subst hn
  have hl : i < ts.length := (List.getElem?_eq_some_iff.1 hi).1
  rw [World.ownsRow.cellAt h i (by omega)]
  exact hi
theorem OwnsS.frozenAt {e : TypeId} {w : World} {base g cap : Nat} {ts : List Value} {n : Nat} (h : OwnsS e w base (.slice (some ⟨g, 0, none⟩) n cap) ts) (hn : n = ts.length) (i : Nat) : w.frozen? ⟨g, i, none⟩ = false := by
  subst hn
  exact World.ownsRow.frozenAt h i
theorem OwnsS.set {e : TypeId} {w : World} {base g cap : Nat} {ts : List Value} {n : Nat} (h : OwnsS e w base (.slice (some ⟨g, 0, none⟩) n cap) ts) (hn : n = ts.length) (i : Nat) (t : Value) :
    OwnsS e (w.setCell ⟨g, i, none⟩ t) base (.slice (some ⟨g, 0, none⟩) n cap) (ts.set i t) := by
  subst hn
  unfold OwnsS
  rw [List.length_set]
  exact (World.ownsRow.stored h i t).1
theorem OwnsS.oth {e : TypeId} {w w' : World} {base n : Nat} {v : Value} {ts : List Value} {R : Option Nat} (h : OwnsS e w base v ts) (ho : Oth R n w w') (hv : ∀ g, v.ownBlock = some g → g < n ∧ R ≠ some g) : OwnsS e w' base v ts := by
  obtain ⟨h1, h⟩ := h
  refine ⟨h1, ?_⟩
  rcases h with h | ⟨g, cap, cur, rfl, hb, hg, rest⟩
  · exact .inl h
  · have := hv g rfl
    exact .inr ⟨g, cap, cur, rfl, hb, (ho g this.1 this.2).trans hg, rest⟩
/-- make([][]T, n). -/
theorem wpl_makeS {ops : Array Oper} {rest : List Oper} {o : Oper} {a : Act} {Q : Exit → Act → World → Prop} (hgd : o.guard = none) (l c : Operand) (t : TypeId)
    (ho : o.op = Op.makeSlice t l c) (e : TypeId) (bytes : Nat) (ht : Tryz.prog.underlying t = some (.slice e))
    (hi : (Tryz.prog.info? e).map (fun i => (i.zero, i.size, i.bytes)) = some (some (.slice none 0 0), 1, bytes)) (hb8 : bytes ≤ 24)
    (base : Nat) (wr : World) (n : Nat) (L C : Int) (hl : a.eval l = .int .i64 L) (hc : a.eval c = .int .i64 C) (hL : L = (n : Int)) (hC : C = (n : Int)) (hlen : n < 1000000) (hbase : base ≤ wr.heap.size)
    (h : ∀ w', OwnsS e w' base (.slice (some ⟨wr.heap.size, 0, none⟩) n n) (List.replicate n (.slice none 0 0)) → Below wr.heap.size wr w' → wr.heap.size < w'.heap.size → wpList Tryz.prog ops Q rest (a.put o.dst (.slice (some ⟨wr.heap.size, 0, none⟩) n n)) w') :
    wpList Tryz.prog ops Q (o :: rest) a wr := by
  obtain ⟨i0, hi0, hz0, hz1, hz2⟩ := info_parts hi
  refine wpList_make_full wr hgd l c t ho base e i0 (.slice none 0 0) 1 ht hi0 hz0 hz1 .i64 .i64 L C n hl hc hL hC ?_ (by unfold maxLen; omega) hbase ?_
  · rw [hz2]
    calc bytes * n ≤ 24 * n := Nat.mul_le_mul_right _ hb8
      _ ≤ 281474976710656 := by omega
  · intro w' hown hg
    have e1 : (madeCells (Value.slice none 0 0).cells (n * 1)).toList = List.replicate n (.slice none 0 0) := by
      rw [Nat.mul_one, show (Value.slice none 0 0).cells = #[Value.slice none 0 0] from rfl, toList_madeCells_one]
    rw [e1] at hown
    refine h w' ?_ ((Below.refl _ wr).grown hg (Nat.le_refl _) (fun _ e => by cases e)) (World.ownsRow.lt hown _ rfl).2
    unfold OwnsS
    rw [List.length_replicate]
    exact hown
end Go.Proofs.YtmjigpnpcacefaaGreatDoor
