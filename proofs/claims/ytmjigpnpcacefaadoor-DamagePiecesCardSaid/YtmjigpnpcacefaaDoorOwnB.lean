/- append(out, make([]T, k)...); operations under a guard that holds. -/
import Derived.Test.YtmjigpnpcacefaaDoorOwn
import Derived.Lib.AppendZerosOnto
namespace Go.Proofs.YtmjigpnpcacefaaDoor
open Go Go.RowKit Go.Shelf

theorem bel_alloc (w : World) (o : Obj) : Below w.heap.size w (w.alloc o) := (bel_refl _).alloc (Nat.le_refl _) _
theorem bytes_lit {xs : List Nat} (h : xs.all (fun x => decide (x < 256)) = true) : Bytes xs := by
  intro x hx
  simpa using List.all_eq_true.1 h x hx

/-- An operation whose guard holds goes as one without a guard. -/
theorem wpl_unguard {P : Program} {ops : Array Oper} {rest : List Oper} {o : Oper} {a : Act} {Q : Exit → Act → World → Prop} {w : World} (hw : Region.wanted o (yielded ops a.tmps) = true)
    (h : wpList P ops Q ({ o with guard := none } :: rest) a w) : wpList P ops Q (o :: rest) a w := by
  unfold wpList at h ⊢
  rw [if_pos hw]
  have h2 : Region.wanted ({ o with guard := none } : Oper) (yielded ops a.tmps) = true := rfl
  rw [if_pos h2] at h
  exact h

theorem zeros_toList (z : Value) (hz : z.cells = #[z]) (k : Nat) : (Builtin.zeroCells z.cells k).toList = List.replicate k z := by
  rw [hz]
  unfold Builtin.zeroCells
  apply List.ext_getElem
  · simp
  · intro i h1 h2
    simp [Nat.mod_one]

theorem run_append_zeros {P : Program} (w : World) (base : Nat) (t tn ty e : TypeId) (i : TypeInfo) (k : IntKind) (bytes : Nat) (ht : P.underlying t = some (.slice e)) (htn : P.underlying tn = some (.int .i64)) (hi : P.info? e = some i)
    (hz : i.zero = some (.int k 0)) (hsize : i.size = 1) (hby : i.bytes = bytes) (hb8 : bytes ≤ 8)
    (v : Value) (n : Nat) (xs : List Value) (hown : w.ownsRow base e 1 v n xs) (m : Nat) (hlen : n + m < 17592186044415) (hbase : base ≤ w.heap.size) :
    ∃ v' w', (Builtin.append_ #[t, tn] ty #[v, .int .i64 (m : Int)]).run P w = .ok v' w' ∧ w'.ownsRow base e 1 v' (n + m) (xs ++ List.replicate m (.int k 0)) ∧ w.grownBy w' v.ownBlock := by
  have hzc : (Value.int k 0).cells = #[Value.int k 0] := rfl
  have hzt := zeros_toList (.int k 0) hzc
  have hzz : ∀ c, Builtin.zeroCells (Value.int k 0).cells c = (List.replicate c (Value.int k 0)).toArray := fun c => by rw [← hzt c]
  have hlx : (xs ++ List.replicate m (Value.int k 0)).length = (n + m) * 1 := by rw [List.length_append, List.length_replicate, hown.1]; omega
  have hmb : m * i.bytes ≤ 281474976710656 := by
    rw [hby]
    calc m * bytes ≤ m * 8 := Nat.mul_le_mul_left _ hb8
      _ ≤ _ := by omega
  have grown : ∀ (old : Nat), old < n + m → ∀ (row : Option Nat) (cs : Array Value), cs.toList = xs ++ List.replicate m (.int k 0) ++ List.replicate (grownCap w (n + m) old e - (n + m)) (.int k 0) →
      (w.drew.alloc (.cells cs e)).ownsRow base e 1 (.slice (some ⟨w.heap.size, 0, none⟩) (n + m) (grownCap w (n + m) old e)) (n + m) (xs ++ List.replicate m (.int k 0)) ∧ w.grownBy (w.drew.alloc (.cells cs e)) row := by
    intro old ho row cs hcs
    have hge := grownCap_ge w (n + m) old e
    have hcm : grownCap w (n + m) old e ≤ maxLen := grownCap_le_maxLen w (n + m) old e (by unfold maxLen; omega)
    refine ⟨⟨hlx, .inr ⟨w.heap.size, _, cs, rfl, hbase, heap_alloc_new w.drew _, hge, hcm, ?_, ?_⟩⟩, ⟨rfl, rfl, rfl, by simp, fun k hk _ => heap_alloc_old w.drew _ k hk⟩⟩
    · rw [← Array.length_toList, hcs, List.length_append, hlx, List.length_replicate]; omega
    · rw [hcs, ← hlx]; exact List.take_left
  rcases hown.2 with ⟨rfl, rfl⟩ | ⟨g, cap, cur, rfl, hbg, hg, hnc, hcm, hcs, htake⟩
  · have hx : xs = [] := List.eq_nil_of_length_eq_zero (by simpa using hown.1)
    subst hx
    by_cases hm : m = 0
    · subst hm
      refine ⟨.slice none 0 0, w, ?_, World.ownsRow_nil w base e 1, ⟨rfl, rfl, rfl, Nat.le_refl _, fun _ _ _ => rfl⟩⟩
      simp [Builtin.append_, run_underlying ht, run_underlying htn, sizeOf, typeInfo, hi, asInt, asIntOf, IntKind.wrap_i64]
    · have hr := Lib.run_append_nil_zeros (P := P) w t tn ty e i (.int k 0) .i64 .i64 ht htn hi hz m (by omega) (by omega) (by omega) hmb
      have hgr := grown 0 (by omega) (Value.ownBlock (.slice none 0 0)) (Builtin.zeroCells (Value.int k 0).cells m ++ Builtin.zeroCells (Value.int k 0).cells (grownCap w m 0 e - m)) (by rw [hzz, hzz]; simp)
      simp only [Nat.zero_add, List.nil_append] at hgr ⊢
      exact ⟨_, _, hr, hgr.1, hgr.2⟩
  · have holds : ∀ j u, xs[j]? = some u → w.cell? ((⟨g, 0, none⟩ : Addr).add j) = some u := hown.cells (g := g) rfl
    by_cases hroom : n + m ≤ cap
    · have hone : ∀ u ∈ List.replicate m (Value.int k 0), u.oneCell' = true := by
        intro u hu; rw [(List.mem_replicate.1 hu).2]; rfl
      have hst := run_storeCells_at P g (n * 1) e (List.replicate m (Value.int k 0)) 0 cur w hg (by rw [hcs, List.length_replicate]; omega) hone
      simp only [Nat.add_zero] at hst
      have hw : IntKind.i64.wrap (m : Int) = m := by rw [IntKind.wrap_i64]; omega
      have hneg : ¬ ((m : Int) < 0) := by omega
      have h48i : ¬ (281474976710656 < (m : Int) * (i.bytes : Int)) := by rw [← Int.natCast_mul]; omega
      refine ⟨.slice (some ⟨g, 0, none⟩) (n + m) cap, w.setRow g (cur.toList.take (n * 1) ++ List.replicate m (Value.int k 0) ++ cur.toList.drop (n * 1 + m)).toArray, ?_, ⟨hlx, .inr ⟨g, cap, _, rfl, hbg, setRow_heap w g cur _ e _ hg, hroom, hcm, ?_, ?_⟩⟩, ⟨rfl, rfl, rfl, by simp, fun k _ hk => setRow_other w g k _ (fun e => hk (by simp [Value.ownBlock, e]))⟩⟩
      · by_cases hm : m = 0
        · subst hm
          have hw0 : IntKind.i64.wrap 0 = 0 := by decide
          simp [Builtin.append_, run_underlying ht, run_underlying htn, sizeOf, typeInfo, hi, hsize, asInt, asIntOf, hw0, hnc, Addr.add_lit] at hst ⊢
          rw [hst]; rfl
        · simp [Builtin.append_, run_underlying ht, run_underlying htn, sizeOf, typeInfo, zeroValue, hi, hz, hsize, asInt, asIntOf, hw, hneg, h48i, hroom, hm, Addr.add_lit, hzz] at hst ⊢
          rw [hst]; rfl
      · simp only [List.size_toArray, List.length_append, List.length_take, List.length_drop, Array.length_toList, List.length_replicate]
        omega
      · rw [htake, ← hlx]; exact List.take_left
    · have hm : 0 < m := by omega
      have hb2 : Builtin.nextslicecap (n + m) cap * i.bytes ≤ 281474976710656 := by
        refine growslice_fits (by omega) ?_
        rw [hby]
        calc (n + m) * bytes ≤ (n + m) * 8 := Nat.mul_le_mul_left _ hb8
          _ ≤ _ := by omega
      have hf : (Builtin.firstCells i.size n (.slice (some ⟨g, 0, none⟩) n cap)).run P w.drew = .ok xs.toArray w.drew := by
        refine run_firstCells_some w.drew i.size n ⟨g, 0, none⟩ n cap xs (by rw [hsize]; exact hown.1) (fun j u hu => ?_)
        exact holds j u hu
      have hr := Lib.run_append_grow_zeros (P := P) w t tn ty e i (.int k 0) .i64 .i64 ht htn hi hz (some ⟨g, 0, none⟩) n cap xs hf m hm (by omega) (by omega) (by omega) hmb hb2
      have hgr := grown cap (by omega) (Value.ownBlock (.slice (some ⟨g, 0, none⟩) n cap)) (xs.toArray ++ Builtin.zeroCells (Value.int k 0).cells m ++ Builtin.zeroCells (Value.int k 0).cells (grownCap w (n + m) cap e - (n + m))) (by rw [hzz, hzz]; simp)
      exact ⟨_, _, hr, hgr.1, hgr.2⟩

/-- append(out, make([]T, m)...). -/
theorem wpl_appz {ops : Array Oper} {rest : List Oper} {o : Oper} {a : Act} {Q : Exit → Act → World → Prop} (hgd : o.guard = none) (s x : Operand) (t tn : TypeId)
    (ho : o.op = .call { callee := .builtin .append, args := #[s, x], argTypes := #[t, tn] }) (k : IntKind) (e : TypeId) (bytes : Nat) (ht : Tryd.prog.underlying t = some (.slice e)) (htn : Tryd.prog.underlying tn = some (.int .i64))
    (hi : (Tryd.prog.info? e).map (fun i => (i.zero, i.size, i.bytes)) = some (some (.int k 0), 1, bytes)) (hb8 : bytes ≤ 8)
    (base : Nat) (v : Value) (xs : List Nat) (wr : World) (hown : Owns k e wr base v xs) (hs : a.eval s = v) (m : Nat) (C : Int) (hC : C = (m : Int)) (hx : a.eval x = .int .i64 C)
    (hlen : xs.length + m < 17592186044415) (hbase : base ≤ wr.heap.size)
    (h : ∀ v' w', Owns k e w' base v' (xs ++ List.replicate m 0) → Below base wr w' → wpList Tryd.prog ops Q rest (a.put o.dst v') w') :
    wpList Tryd.prog ops Q (o :: rest) a wr := by
  subst hC
  obtain ⟨i0, hi0, hz0, hz1, hz2⟩ := info_parts hi
  obtain ⟨v', w', hr, hown', hg⟩ := run_append_zeros (P := Tryd.prog) wr base t tn o.type e i0 k bytes ht htn hi0 hz0 hz1 hz2 hb8 v xs.length (vals k xs) hown m hlen hbase
  refine Lib.wpList_append_run wr hgd s x t tn ho v (.int .i64 (m : Int)) hs hx v' w' hr (h v' w' ?_ ((Below.refl base wr).grown hg hbase (own_base hown)))
  unfold Owns
  simpa [vals] using hown'

/-- make([]T, n), the value written out. -/
theorem wpl_makeE {ops : Array Oper} {rest : List Oper} {o : Oper} {a : Act} {Q : Exit → Act → World → Prop} (hgd : o.guard = none) (l c : Operand) (t : TypeId)
    (ho : o.op = Op.makeSlice t l c) (k : IntKind) (e : TypeId) (bytes : Nat) (ht : Tryd.prog.underlying t = some (.slice e))
    (hi : (Tryd.prog.info? e).map (fun i => (i.zero, i.size, i.bytes)) = some (some (.int k 0), 1, bytes)) (hb8 : bytes ≤ 8)
    (base : Nat) (wr : World) (n : Nat) (L C : Int) (hl : a.eval l = .int .i64 L) (hc : a.eval c = .int .i64 C) (hL : L = (n : Int)) (hC : C = (n : Int)) (hlen : n < 17592186044415) (hbase : base ≤ wr.heap.size)
    (h : ∀ w', Owns k e w' base (.slice (some ⟨wr.heap.size, 0, none⟩) n n) (List.replicate n 0) → Below base wr w' → wpList Tryd.prog ops Q rest (a.put o.dst (.slice (some ⟨wr.heap.size, 0, none⟩) n n)) w') :
    wpList Tryd.prog ops Q (o :: rest) a wr := by
  obtain ⟨i0, hi0, hz0, hz1, hz2⟩ := info_parts hi
  refine wpList_make_full wr hgd l c t ho base e i0 (.int k 0) 1 ht hi0 hz0 hz1 .i64 .i64 L C n hl hc hL hC ?_ (by unfold maxLen; omega) hbase ?_
  · rw [hz2]
    calc bytes * n ≤ 8 * n := Nat.mul_le_mul_right _ hb8
      _ ≤ 281474976710656 := by omega
  · intro w' hown hg
    refine h w' ?_ ((Below.refl base wr).grown hg hbase (fun _ e => by cases e))
    unfold Owns
    have e1 : (madeCells (Value.int k 0).cells (n * 1)).toList = vals k (List.replicate n 0) := by
      rw [Nat.mul_one, show (Value.int k 0).cells = #[Value.int k 0] from rfl, toList_madeCells_one]
      simp [vals]
    rw [e1] at hown
    simpa using hown
/-- []T{}. -/
theorem owns_empty (k : IntKind) (e : TypeId) (w : World) (base : Nat) (h : base ≤ w.heap.size) : Owns k e (w.alloc (.cells #[] e)) base (.slice (some ⟨w.heap.size, 0, none⟩) 0 0) [] :=
  ⟨rfl, .inr ⟨w.heap.size, 0, #[], rfl, h, heap_alloc_new w _, Nat.le_refl _, by decide, rfl, rfl⟩⟩
/-- The first k of n values, the others 0. -/
def mixed (f : Nat → Nat) (n k : Nat) : List Nat := (List.range n).map fun i => if i < k then f i else 0
theorem mixed_length (f : Nat → Nat) (n k : Nat) : (mixed f n k).length = n := by simp [mixed]
theorem mixed_zero (f : Nat → Nat) (n : Nat) : mixed f n 0 = List.replicate n 0 := by
  apply List.ext_getElem
  · simp [mixed]
  · intro i h1 h2; simp [mixed]
theorem mixed_set (f : Nat → Nat) (n k : Nat) : (mixed f n k).set k (f k) = mixed f n (k + 1) := by
  apply List.ext_getElem
  · simp [mixed]
  · intro i h1 h2
    rw [List.getElem_set]
    simp only [mixed, List.getElem_map, List.getElem_range]
    by_cases e : k = i
    · subst e; simp
    · by_cases h3 : i < k
      · simp [e, h3, show i < k + 1 by omega]
      · simp [e, h3, show ¬ i < k + 1 by omega]
theorem mixed_all (f : Nat → Nat) (n : Nat) : mixed f n n = (List.range n).map f := by
  apply List.map_congr_left
  intro i hi
  rw [if_pos (List.mem_range.1 hi)]
/-- The value of a slice expression x[:n]. -/
theorem reads_pre {k : IntKind} {w : World} {a : Option Addr} {len cap n : Nat} {xs : List Nat} (h : Reads k w (.slice a len cap) xs) (hn : n ≤ len) : Reads k w (.slice a n cap) (xs.take n) := by
  obtain ⟨a', cap', e, hl, hm, hc⟩ := h
  cases e
  refine ⟨a, cap, by simp [Nat.min_eq_left hn], by simp; omega, hm, ?_⟩
  rcases hc with h0 | ⟨b, off, e, hcell⟩
  · exact .inl h0
  · refine .inr ⟨b, off, e, fun i hi => ?_⟩
    have hi2 : i < n := by simp at hi; omega
    rw [hcell i (by omega), List.getElem?_take, if_pos hi2]
end Go.Proofs.YtmjigpnpcacefaaDoor
