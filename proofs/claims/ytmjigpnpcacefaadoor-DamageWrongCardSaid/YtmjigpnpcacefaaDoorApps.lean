/- append(append([]int{}, ls...), ys..) with a literal ys, in whatever order the two new slices are made. -/
import Derived.Test.YtmjigpnpcacefaaDoorOwnV
namespace Go.Proofs.YtmjigpnpcacefaaDoor
open Go Go.RowKit Go.Shelf

/-- What an append runs to, shut: so a law that does not fit is refused at once. -/
@[irreducible] def RunsApp (P : Program) (t1 t2 ty : TypeId) (v1 v2 : Value) (w : World) (v : Value) (w' : World) : Prop := (Builtin.append_ #[t1, t2] ty #[v1, v2]).run P w = .ok v w'
theorem runs_app {P : Program} {t1 t2 ty : TypeId} {v1 v2 : Value} {w : World} {v : Value} {w' : World} (h : (Builtin.append_ #[t1, t2] ty #[v1, v2]).run P w = .ok v w') : RunsApp P t1 t2 ty v1 v2 w v w' := by unfold RunsApp; exact h
theorem step_appR {P : Program} {ops : Array Oper} {o : Oper} {a : Act} {w : World} {K : Act → World → Prop} {Q : Exit → Act → World → Prop} {E : Prop}
    (hg : o.guard = none) (s x : Operand) (t1 t2 : TypeId) (hop : o.op = Op.call { callee := Callee.builtin Builtin.append, args := #[s, x], argTypes := #[t1, t2] }) (v : Value) (w' : World)
    (hrun : RunsApp P t1 t2 o.type (a.eval s) (a.eval x) w v w') (hK : K (a.put o.dst v) w') :
    if Region.wanted o (yielded ops a.tmps) = true then Oper.wp P o a w K Q else E := by
  unfold RunsApp at hrun
  exact step_app hg s x t1 t2 hop v w' hrun hK
theorem step_appD {P : Program} {ops : Array Oper} {o : Oper} {a : Act} {w : World} {K : Act → World → Prop} {Q : Exit → Act → World → Prop} {E : Prop}
    (hg : o.guard = none) (d : Tmp) (hd : o.dst = some d) (s x : Operand) (t1 t2 : TypeId) (hop : o.op = Op.call { callee := Callee.builtin Builtin.append, args := #[s, x], argTypes := #[t1, t2] }) (v : Value) (w' : World)
    (hrun : RunsApp P t1 t2 o.type (a.eval s) (a.eval x) w v w') (hK : K (a.put (some d) v) w') :
    if Region.wanted o (yielded ops a.tmps) = true then Oper.wp P o a w K Q else E := step_appR hg s x t1 t2 hop v w' hrun (by rw [hd]; exact hK)
/-- The first slice, the first append, then the literal. -/
theorem app2X (w0 : World) (v1 : Value) (l1 ms : List Int) (cs : Array Value) (n : Nat) (hc : cs = (valsI .i64 ms).toArray) (hn : n = ms.length) (h1 : ReadsI .i64 w0 v1 l1) (hlen : l1.length + ms.length < 17592186044415) :
    ∃ vA wA vB wB, (Builtin.append_ #[25, 25] 25 #[.slice (some ⟨w0.heap.size, 0, none⟩) 0 0, v1]).run Tryd.prog ((w0.alloc (.cells #[] 3)).drew) = .ok vA wA ∧
      (Builtin.append_ #[25, 25] 25 #[vA, .slice (some ⟨wA.heap.size, 0, none⟩) n n]).run Tryd.prog (wA.alloc (.cells cs 3)) = .ok vB wB ∧
      OwnsI .i64 3 wB w0.heap.size vB (l1 ++ ms) ∧ Below w0.heap.size w0 wB ∧ Below w0.heap.size w0 wA := by
  obtain ⟨vA, wA, hr1, ho1, hb1, hg1⟩ := run_appI (ty := 25) (t := 25) (k := .i64) (base := w0.heap.size) Tryd.underlying25 info_int (by decide) ((ownsI_empty .i64 3 w0 w0.heap.size (Nat.le_refl _)).drew) (h1.keep ((bel_alloc w0 (.cells #[] 3)).drew) (Nat.le_refl _)) (by simp; omega) (by simp)
  rw [List.nil_append] at ho1
  have hbA : Below w0.heap.size w0 wA := ((bel_alloc w0 (.cells #[] 3)).drew).trans hb1
  obtain ⟨vB, wB, hr2, ho2, hb2, _⟩ := run_appI (ty := 25) (t := 25) (k := .i64) (base := w0.heap.size) Tryd.underlying25 info_int (by decide) (ho1.alloc (.cells cs 3)) (reads_litI .i64 wA ms 3 cs n hc hn (by omega)) (by omega) (by have := hbA.size; simp; omega)
  exact ⟨vA, wA, vB, wB, hr1, hr2, ho2, (hbA.alloc hbA.size _).trans hb2, hbA⟩
/-- Both slices, then the appends. -/
theorem app2Y (w0 : World) (v1 : Value) (l1 ms : List Int) (cs : Array Value) (n : Nat) (hc : cs = (valsI .i64 ms).toArray) (hn : n = ms.length) (h1 : ReadsI .i64 w0 v1 l1) (hlen : l1.length + ms.length < 17592186044415) :
    ∃ vA wA vB wB, (Builtin.append_ #[25, 25] 25 #[.slice (some ⟨w0.heap.size, 0, none⟩) 0 0, v1]).run Tryd.prog (((w0.alloc (.cells #[] 3)).alloc (.cells cs 3)).drew) = .ok vA wA ∧
      (Builtin.append_ #[25, 25] 25 #[vA, .slice (some ⟨w0.heap.size + 1, 0, none⟩) n n]).run Tryd.prog wA = .ok vB wB ∧
      OwnsI .i64 3 wB w0.heap.size vB (l1 ++ ms) ∧ Below w0.heap.size w0 wB ∧ Below w0.heap.size w0 wA := by
  have hbW : Below w0.heap.size w0 (((w0.alloc (.cells #[] 3)).alloc (.cells cs 3)).drew) := (((bel_alloc w0 (.cells #[] 3)).alloc (by simp) _).drew)
  obtain ⟨vA, wA, hr1, ho1, hb1, hg1⟩ := run_appI (ty := 25) (t := 25) (k := .i64) (base := w0.heap.size) Tryd.underlying25 info_int (by decide) (((ownsI_empty .i64 3 w0 w0.heap.size (Nat.le_refl _)).alloc (.cells cs 3)).drew) (h1.keep hbW (Nat.le_refl _)) (by simp; omega) (by simp; omega)
  rw [List.nil_append] at ho1
  have hbA : Below w0.heap.size w0 wA := hbW.trans hb1
  have hms : ReadsI .i64 (((w0.alloc (.cells #[] 3)).alloc (.cells cs 3)).drew) (.slice (some ⟨w0.heap.size + 1, 0, none⟩) n n) ms := by
    have h := reads_litI .i64 (w0.alloc (.cells #[] 3)) ms 3 cs n hc hn (by omega)
    rw [World.size_alloc] at h
    exact h.keep ((Below.refl _ _).drew) (Nat.le_refl _)
  have hms2 : ReadsI .i64 wA (.slice (some ⟨w0.heap.size + 1, 0, none⟩) n n) ms := by
    obtain ⟨a', c', e, g1, g2, g3⟩ := hms
    cases e
    refine ⟨_, _, rfl, g1, g2, ?_⟩
    rcases g3 with g3 | ⟨b, off, e, hcell⟩
    · exact .inl g3
    · refine .inr ⟨b, off, e, fun i hi => ?_⟩
      cases e
      have hk := hg1.block (w0.heap.size + 1) (by simp) (fun h => by simp [Value.ownBlock] at h)
      unfold World.cell?
      rw [hk]
      exact hcell i hi
  obtain ⟨vB, wB, hr2, ho2, hb2, _⟩ := run_appI (ty := 25) (t := 25) (k := .i64) (base := w0.heap.size) Tryd.underlying25 info_int (by decide) ho1 hms2 (by omega) hbA.size
  exact ⟨vA, wA, vB, wB, hr1, hr2, ho2, hbA.trans hb2, hbA⟩
/-- The literal before the first slice. -/
theorem app2Z (w0 : World) (v1 : Value) (l1 ms : List Int) (cs : Array Value) (n : Nat) (hc : cs = (valsI .i64 ms).toArray) (hn : n = ms.length) (h1 : ReadsI .i64 w0 v1 l1) (hlen : l1.length + ms.length < 17592186044415) :
    ∃ vA wA vB wB, (Builtin.append_ #[25, 25] 25 #[.slice (some ⟨w0.heap.size + 1, 0, none⟩) 0 0, v1]).run Tryd.prog (((w0.alloc (.cells cs 3)).alloc (.cells #[] 3)).drew) = .ok vA wA ∧
      (Builtin.append_ #[25, 25] 25 #[vA, .slice (some ⟨w0.heap.size, 0, none⟩) n n]).run Tryd.prog wA = .ok vB wB ∧
      OwnsI .i64 3 wB w0.heap.size vB (l1 ++ ms) ∧ Below w0.heap.size w0 wB ∧ Below w0.heap.size w0 wA := by
  have hbW : Below w0.heap.size w0 (((w0.alloc (.cells cs 3)).alloc (.cells #[] 3)).drew) := (((bel_alloc w0 (.cells cs 3)).alloc (by simp) _).drew)
  have hms := (reads_litI .i64 w0 ms 3 cs n hc hn (by omega)).keep ((bel_alloc (w0.alloc (.cells cs 3)) (.cells #[] 3)).drew) (Nat.le_refl _)
  have ho0 := (ownsI_empty .i64 3 (w0.alloc (.cells cs 3)) (w0.alloc (.cells cs 3)).heap.size (Nat.le_refl _)).drew
  have hsz : (w0.alloc (.cells cs 3)).heap.size = w0.heap.size + 1 := by simp
  rw [hsz] at ho0
  obtain ⟨vA, wA, hr1, ho1, hb1, _⟩ := run_appI (ty := 25) (t := 25) (k := .i64) (base := w0.heap.size + 1) Tryd.underlying25 info_int (by decide) ho0 (h1.keep hbW (Nat.le_refl _)) (by simp; omega) (by simp)
  rw [List.nil_append] at ho1
  have hms2 : ReadsI .i64 wA (.slice (some ⟨w0.heap.size, 0, none⟩) n n) ms := by
    obtain ⟨a', c', e, g1, g2, g3⟩ := hms
    cases e
    refine ⟨_, _, rfl, g1, g2, ?_⟩
    rcases g3 with g3 | ⟨b, off, e, hcell⟩
    · exact .inl g3
    · refine .inr ⟨b, off, e, fun i hi => ?_⟩
      cases e
      exact (hb1.cell (p := ⟨w0.heap.size, 0 + i, none⟩) (by show w0.heap.size < _; omega)).trans (hcell i hi)
  obtain ⟨vB, wB, hr2, ho2, hb2, _⟩ := run_appI (ty := 25) (t := 25) (k := .i64) (base := w0.heap.size + 1) Tryd.underlying25 info_int (by decide) ho1 hms2 (by omega) (by have := hb1.size; simp at this; omega)
  exact ⟨vA, wA, vB, wB, hr1, hr2, ho2.mono (by omega), (hbW.trans (hb1.mono (by omega))).trans (hb2.mono (by omega)), hbW.trans (hb1.mono (by omega))⟩
/-- A third append. -/
theorem app3 (w0 w : World) (v v3 : Value) (l1 l3 : List Int) (ho : OwnsI .i64 3 w w0.heap.size v l1) (hb : Below w0.heap.size w0 w) (h3 : ReadsI .i64 w0 v3 l3) (hlen : l1.length + l3.length < 17592186044415) :
    ∃ vC wC, (Builtin.append_ #[25, 25] 25 #[v, v3]).run Tryd.prog w = .ok vC wC ∧ OwnsI .i64 3 wC w0.heap.size vC (l1 ++ l3) ∧ Below w0.heap.size w0 wC := by
  obtain ⟨vC, wC, hr, ho2, hb2, _⟩ := run_appI (ty := 25) (t := 25) (k := .i64) (base := w0.heap.size) Tryd.underlying25 info_int (by decide) ho (h3.keep hb (Nat.le_refl _)) hlen hb.size
  exact ⟨vC, wC, hr, ho2, hb.trans hb2⟩
end Go.Proofs.YtmjigpnpcacefaaDoor
