/- Slices of signed numbers of the call's own, inside a fence: what is kept, append of one. A range over a function whose iterator writes cells of its own between two rounds: what the caller owes. Collecting what an iterator of numbers gives: the walks of slices.AppendSeq (onto nil) and slices.Collect. -/
import Derived.Test.YtmjigpnpcacefaaDoorOwnV
import Derived.Test.YtmjigpnpcacefaaDoorReads
import Derived.RangeFuncNested
import Derived.RangeFuncFrom
namespace Go.Proofs.YtmjigpnpcacefaaDoor
open Go Go.RowKit Go.Shelf
attribute [local go_sem] Oper.semAt_some
attribute [local go_sem] wide_fn

theorem ownsRow_ne {w : World} {base : Nat} {e : TypeId} {size : Nat} {v : Value} {n : Nat} {xs : List Value} {row : Option Nat} (h : w.ownsRow base e size v n xs) (hr : ∀ r, row = some r → ∃ o : Obj, w.heap[r]? = some o ∧ o.isCells = false) : v.ownBlock = none ∨ v.ownBlock ≠ row := by
  obtain ⟨_, h⟩ := h
  rcases h with ⟨rfl, _⟩ | ⟨g, cap, cur, rfl, _, hg, _⟩
  · exact .inl rfl
  · right
    intro e
    obtain ⟨o, ho, hc⟩ := hr g e.symm
    rw [hg] at ho
    cases ho
    cases hc
theorem ownsRow_cells {w : World} {base : Nat} {e : TypeId} {size : Nat} {v : Value} {n : Nat} {xs : List Value} {j : Nat} {o : Obj} (h : w.ownsRow base e size v n xs) (hj : v.ownBlock = some j) (ho : w.heap[j]? = some o) : o.isCells = true := by
  obtain ⟨_, h⟩ := h
  rcases h with ⟨rfl, _⟩ | ⟨g, cap, cur, rfl, _, hg, _⟩
  · cases hj
  · cases hj
    rw [hg] at ho
    cases ho
    rfl
theorem ownsI_other {k : IntKind} {e : TypeId} {w : World} {base g : Nat} {v u : Value} {xs : List Int} (h : OwnsI k e w base v xs) (hne : ∀ j, v.ownBlock = some j → j ≠ g) : OwnsI k e (w.setCell ⟨g, 0, none⟩ u) base v xs := by
  refine World.ownsRow.kept h (row := some g) ⟨rfl, rfl, rfl, by simp, fun k _ hk => heap_setCell_other w ⟨g, 0, none⟩ k u (fun e => hk (by simp [e]))⟩ ?_
  cases hv : v.ownBlock with
  | none => exact .inl rfl
  | some j => right; intro e2; cases e2; exact hne g hv rfl
theorem ownsRow_slice {w : World} {base : Nat} {e : TypeId} {size : Nat} {v : Value} {n : Nat} {xs : List Value} (h : w.ownsRow base e size v n xs) : ∃ a n c, v = .slice a n c := by
  obtain ⟨_, h⟩ := h
  rcases h with ⟨rfl, _⟩ | ⟨g, cap, cur, rfl, _⟩
  · exact ⟨_, _, _, rfl⟩
  · exact ⟨_, _, _, rfl⟩
/-- append(out, y), inside a fence; what else is touched is told too. -/
theorem wpListIn_app1I {F : Fence} {n : Nat} {ops : Array Oper} {rest : List Oper} {o : Oper} {a : Act} {Q : Exit → Act → World → Prop} (hgd : o.guard = none) (s x : Operand) (t : TypeId)
    (ho : o.op = .call { callee := .builtin .append, args := #[s, x], argTypes := #[t, t] }) (k : IntKind) (e : TypeId) (bytes : Nat) (ht : Tryd.prog.underlying t = some (.slice e))
    (hi : (Tryd.prog.info? e).map (fun i => (i.zero, i.size, i.bytes)) = some (some (.int k 0), 1, bytes)) (hb8 : bytes ≤ 8)
    (base : Nat) (v : Value) (xs : List Int) (wr : World) (hown : OwnsI k e wr base v xs) (hs : a.eval s = v) (c : Int) (hx : a.eval x = .slice (some ⟨wr.heap.size, 0, none⟩) 1 1)
    (hlen : xs.length < 17592186044414) (hbase : base ≤ wr.heap.size)
    (h : ∀ v' w', OwnsI k e w' base v' (xs ++ [c]) → Below base wr w' → KeepsOthers wr w' → wpListIn F n Tryd.prog ops Q rest (a.put o.dst v') w') :
    wpListIn F n Tryd.prog ops Q (o :: rest) a (wr.alloc (.cells #[.int k c] e)) := by
  obtain ⟨i0, hi0, hz0, hz1, hz2⟩ := info_parts hi
  refine wpListIn_append_own _ hgd s x t ho base e i0 (.int k 0) 1 bytes ht hi0 hz0 hz1 hz2 rfl (by decide) v xs.length (valsI k xs) hs (World.ownsRow.alloc hown _) ⟨wr.heap.size, 0, none⟩ 1 1 [.int k c] hx rfl
    (fun j u hu => (cell_one_new wr (.int k c) e) j u hu) (by simp [Value.oneCell']) (by unfold maxLen; omega) ?_ (by simp; omega) ?_
  · calc (xs.length + 1) * bytes ≤ (xs.length + 1) * 8 := Nat.mul_le_mul_left _ hb8
      _ ≤ 140737488355328 := by omega
  · intro v' w' hown' hg _
    refine h v' w' ?_ (((Below.refl base wr).alloc hbase _).trans ((Below.refl base (wr.alloc (.cells #[.int k c] e))).grown hg (by simp; omega) (ownI_base (OwnsI.alloc hown (.cells #[.int k c] e))))) ((KeepsOthers.alloc wr _).trans (KeepsOthers.of_grownBy hg (fun j o hj ho => ownsRow_cells (World.ownsRow.alloc hown (.cells #[.int k c] e)) hj ho)))
    unfold OwnsI
    simpa [valsI] using hown'

def StopHere (P : Prop) : Prop := P
theorem stop_here {P : Prop} (h : StopHere P) : P := h
end Go.Proofs.YtmjigpnpcacefaaDoor
namespace Go.Proofs.YtmjigpnpcacefaaDoor
open Go Go.RowKit

/-- An iterator that hands on values one by one; between two rounds it does to the world what Cl says, so the caller's invariant must abide that. -/
def SeqStopsC {α : Type} (F : Fence) (n : Nat) (P : Program) (g : Nat) (lb : Array Value) (encs : α → Array Value) (Kp Cl : World → World → Prop) (S Sp : List α → Prop) (N : Nat) (w : World) : Prop :=
  ∀ (l : Nat) (J Jx : List α → World → Prop) (W : World), Below w.heap.size w W → (∀ s A B, J s A → Cl A B → J s B) →
    (∀ pre x W1, J pre W1 → pre.length < N → YieldAt F (n - 1) P l (encs x) W1 fun e W' =>
      (e = .returned (.bool true) ∧ J (pre ++ [x]) W' ∧ Kp W1 W') ∨ (e = .returned (.bool false) ∧ Jx (pre ++ [x]) W')) →
    J [] W →
    CallsIn F n P g (#[.func (.yield l) #[] #[]] ++ lb) W fun e W' => (∃ v, e = .returned v) ∧ ((∃ xs, S xs ∧ J xs W') ∨ (∃ pre, Sp pre ∧ Jx pre W'))

variable {F : Fence} {n : Nat} {P : Program}

/-- The two blocks that the loop keeps its books in. -/
structure Books (l D : Nat) (r : Loop) (W : World) : Prop where
  loop : W.heap[l]? = some (.loop r)
  late : W.heap[D]? = some (.deferred (some []))
theorem Books.from {l D B : Nat} {r : Loop} {W W' : World} (h : Books l D r W) (hk : KeepsFrom B W W') (hl : B ≤ l) (hD : B ≤ D) : Books l D r W' :=
  ⟨hk.same _ _ hl h.loop rfl, hk.same _ _ hD h.late rfl⟩
theorem Books.put {l D : Nat} {r r' : Loop} {W : World} (h : Books l D r W) (hne : l ≠ D) : Books l D r' (W.putObj l (.loop r')) :=
  ⟨World.putObj_heap_same (Array.getElem?_eq_some_iff.1 h.loop).1, (World.putObj_heap_other (fun e => hne e.symm)).trans h.late⟩

theorem wpIn_rangeFunc_cl {α : Type} {g : Operand} {ps : Array Tmp} {assign body : Code} {Q : Exit → Act → World → Prop} {a : Act} {w : World}
    (hro : F.round = none) (h1 : 1 ≤ n) {gf : Nat} {lb : Array Value} (hg : a.eval g = .func (.func gf) #[] lb) (hFg : F.fn gf) (eg : ∀ args w, (callFunc gf args).run P w = .ok (.enter gf args) w)
    {encs : α → Array Value} {Kp Cl : World → World → Prop} {S Sp : List α → Prop} {N : Nat} {w0 : World} (hseq : SeqStopsC F (n - 1) P gf lb encs Kp Cl S Sp N w0)
    (hCl : ∀ (A B : World) (r : Nat) (o : Obj), Cl A B → A.heap[r]? = some o → o.isCells = false → B.heap[r]? = some o)
    (hKt : ∀ {A B C : World}, Kp A B → Kp B C → Kp A C) (hKb : ∀ (W : World) (l : Nat) (o o' : Obj), w.heap.size ≤ l → W.heap[l]? = some o → o.isCells = false → o.isWalk = false → Kp W (W.putObj l o')) (hb0 : Below w0.heap.size w0 w) (hps : ∀ x, (encs x).size = ps.size)
    (I : List α → World → Prop) (Ix : Code → List α → World → Prop) (hI : OwnFrom w.heap.size I) (hIx : ∀ c, OwnFrom w.heap.size (Ix c)) (hIc : ∀ s A B, I s A → Cl A B → I s B) (h0 : I [] w) (a₁ : α → Act)
    (hassign : ∀ (l : Nat) (x : α) (W : World) (K : Act → World → Prop), K (a₁ x) W →
      assign.wpIn (F.inRound l) (n - 1 - 1) P (Exit.then K (fun _ _ _ => False)) { tmps := (ps.zip (encs x)).foldl (fun t (p, v) => t.setIfInBounds p v) a.tmps, defers := [] } W)
    (hbody : ∀ (l : Nat) (pre : List α) (x : α) (W : World), I pre W → pre.length < N → body.wpIn (F.inRound l) (n - 1 - 1) P (ownPostG w.heap.size Kp I Ix (pre ++ [x]) W) (a₁ x) W)
    (hdone : ∀ (D : Nat) (xs : List α) (W : World), w.heap.size ≤ D → S xs → I xs W → W.heap[D]? = some (.deferred (some [])) → Q .normal { a with defers := { target := .collected D, args := #[] } :: a.defers } W)
    (hstop : ∀ (D : Nat) (c : Code) (pre : List α) (W : World), w.heap.size ≤ D → Sp pre → Ix c pre W → W.heap[D]? = some (.deferred (some [])) → c.wpIn F n P Q { a with defers := { target := .collected D, args := #[] } :: a.defers } W) :
    (Code.rangeFunc g ps assign body).wpIn F n P Q a w := by
  refine wpIn_rangeFunc fun fn hfn => ?_
  rw [hro]
  obtain ⟨d, hd⟩ : ∃ d, w.heap.size = d := ⟨_, rfl⟩
  obtain ⟨rec, hrec⟩ : ∃ rec : LoopState → Option Code → Loop, rec = fun st pe => { state := st, pending := pe, fn, tmps := a.tmps, params := ps, assign, body, defers := d } := ⟨_, rfl⟩
  obtain ⟨V, hV⟩ : ∃ V, (w.alloc (.deferred (some []))).alloc (.loop (rec .ready none)) = V := ⟨_, rfl⟩
  have bV : Books (d + 1) d (rec .ready none) V := by
    rw [← hV, ← hd]
    refine ⟨?_, (Below.heap_alloc _ _ _ (by simp)).trans (World.alloc_heap_new w _)⟩
    have := World.alloc_heap_new (w.alloc (.deferred (some []))) (.loop (rec .ready none))
    rwa [World.size_alloc] at this
  have iV : I [] V := by rw [← hV]; exact hI.alloc _ (hI.alloc _ h0)
  have blV : Below w0.heap.size w0 V := by
    rw [← hV]
    exact hb0.trans ((((Below.refl _ w).alloc (Nat.le_refl _) _).alloc (by simp) _).mono hb0.size)
  rw [hd] at hI hIx hKb hbody hdone hstop
  refine ⟨d + 1, [{ target := .collected d, args := #[] }], V, { target := .fn (.func gf) lb, args := #[.func (.yield (d + 1)) #[] #[]] }, V, gf, #[.func (.yield (d + 1)) #[] #[]] ++ lb, V, ?_, ?_, ?_, ?_, fun _ => h1, ?_⟩
  · rw [← hV, hrec, ← hd]; exact run_enterLoop_outer _ _ _ _ _
  · simp only [resolve, hg]
    simp [go_sem]
  · intro f' hf'; simp [Target.leads] at hf'; subst hf'; exact hFg
  · simp [invoke, go_sem, eg]
  · refine (hseq (d + 1) (fun pre W => I pre W ∧ Books (d + 1) d (rec .ready none) W) (fun pre W => ∃ c, Ix c pre W ∧ Books (d + 1) d (rec .done (some c)) W) V blV
      (fun s A B hs hc => ⟨hIc s A B hs.1 hc, ⟨hCl _ _ _ _ hc hs.2.loop rfl, hCl _ _ _ _ hc hs.2.late rfl⟩⟩) ?_ ⟨iV, bV⟩).mono ?_
    · rintro pre x W ⟨hi, hb⟩ hlen
      have hy := run_yield (P := P) (args := encs x) hb.loop (by rw [hrec]; exact hps x)
      rw [hrec] at hy
      refine ⟨fn, _, assign, body, hy, roundIn_of_wpIn hfn (hassign _ x W _ ⟨_, run_beginRound hb.loop (by rw [hrec]), ?_⟩)⟩
      have hb2 : Books (d + 1) d { rec .ready none with state := .busy } (W.putObj (d + 1) (.loop { rec .ready none with state := .busy })) := hb.put (by omega)
      have hw2 : Kp W (W.putObj (d + 1) (.loop { rec .ready none with state := .busy })) := hKb _ _ _ _ (by omega) hb.loop rfl rfl
      refine wpIn_mono (hbody _ pre x _ (hI.putObj _ hi (by omega) hb.loop rfl) hlen) ?_
      have fin : ∀ (jump : Option Code) (W3 : World), KeepsFrom d (W.putObj (d + 1) (.loop { rec .ready none with state := .busy })) W3 →
          (Instr.endRound (d + 1) jump).run P W3 = .ok (.bool jump.isNone) (W3.putObj (d + 1) (.loop (rec (if jump.isNone then .ready else .done) jump))) ∧
          W3.heap[d + 1]? = some (.loop { rec .ready none with state := .busy }) ∧
          Books (d + 1) d (rec (if jump.isNone then .ready else .done) jump) (W3.putObj (d + 1) (.loop (rec (if jump.isNone then .ready else .done) jump))) := fun jump W3 hk3 => by
        have hb3 := hb2.from hk3 (by omega) (by omega)
        have hr := run_endRound (P := P) jump hb3.loop
        have hb4 := hb3.put (r' := rec (if jump.isNone then .ready else .done) jump) (by omega)
        have hl := hb3.loop
        rw [hrec] at hr hl hb4 ⊢
        exact ⟨hr, hl, hb4⟩
      rintro e a3 W3 hp
      cases e with
      | normal =>
        obtain ⟨hk3, hkp3, hi3⟩ := hp
        obtain ⟨hr, hl3, hb4⟩ := fin none W3 hk3
        exact ⟨_, _, hr, .inl ⟨rfl, ⟨hI.putObj _ hi3 (by omega) hl3 rfl, hb4⟩, hKt (hKt hw2 hkp3) (hKb _ _ _ _ (by omega) hl3 rfl rfl)⟩⟩
      | ret =>
        obtain ⟨hr, hl3, hb4⟩ := fin (some .ret) W3 hp.1
        exact ⟨_, _, hr, .inr ⟨rfl, .ret, (hIx _).putObj _ hp.2 (by omega) hl3 rfl, hb4⟩⟩
      | exit id =>
        obtain ⟨hr, hl3, hb4⟩ := fin (some (.exit id)) W3 hp.1
        exact ⟨_, _, hr, .inr ⟨rfl, .exit id, (hIx _).putObj _ hp.2 (by omega) hl3 rfl, hb4⟩⟩
      | goto t =>
        obtain ⟨hr, hl3, hb4⟩ := fin (some (.goto t)) W3 hp.1
        exact ⟨_, _, hr, .inr ⟨rfl, .goto t, (hIx _).putObj _ hp.2 (by omega) hl3 rfl, hb4⟩⟩
      | panic ch => exact hp.elim
      | outgrown => exact hp.elim
    · rintro e W2 ⟨⟨v, rfl⟩, (⟨xs, hS, hi, hb⟩ | ⟨pre, hSp, c, hi, hb⟩)⟩
      · have hr := run_endLoop (P := P) hb.loop (by rw [hrec]; simp)
        rw [hrec] at hr
        exact ⟨none, _, hr, hdone _ xs _ (Nat.le_refl _) hS (hI.putObj _ hi (by omega) hb.loop rfl) ((World.putObj_heap_other (by omega)).trans hb.late)⟩
      · have hr := run_endLoop (P := P) hb.loop (by rw [hrec]; simp)
        rw [hrec] at hr
        exact ⟨some c, _, hr, hstop _ c pre _ (Nat.le_refl _) hSp ((hIx c).putObj _ hi (by omega) hb.loop rfl) ((World.putObj_heap_other (by omega)).trans hb.late)⟩
/-- A store into one cell turns nothing that is no cells. -/
theorem cl_setCell (B : Nat) : ∀ (A C : World) (r : Nat) (o : Obj), (∃ v, C = A.setCell ⟨B, 0, none⟩ v) → A.heap[r]? = some o → o.isCells = false → C.heap[r]? = some o := by
  rintro A C r o ⟨v, rfl⟩ hr ho
  exact (KeepsOthers.setCell A ⟨B, 0, none⟩ v).same r o hr ho
end Go.Proofs.YtmjigpnpcacefaaDoor
namespace Go.Proofs.YtmjigpnpcacefaaDoor
open Go Go.RowKit Go.Shelf
attribute [local go_sem] Oper.semAt_some
attribute [local go_sem] wide_fn

theorem cell_of_heap {A C : World} {b i : Nat} (h : C.heap[b]? = A.heap[b]?) : C.cell? ⟨b, i, none⟩ = A.cell? ⟨b, i, none⟩ := by
  unfold World.cell?
  simp only [h]
theorem frozen_of_heap {A C : World} {b i : Nat} (h : C.heap[b]? = A.heap[b]?) : C.frozen? ⟨b, i, none⟩ = A.frozen? ⟨b, i, none⟩ := by
  unfold World.frozen?
  simp only [h]
theorem ownsI_of_heap {k : IntKind} {e : TypeId} {A C : World} {base : Nat} {v : Value} {xs : List Int} (h : OwnsI k e A base v xs) (hc : ∀ b, base ≤ b → C.heap[b]? = A.heap[b]?) : OwnsI k e C base v xs := by
  obtain ⟨h1, h⟩ := h
  refine ⟨h1, ?_⟩
  rcases h with h | ⟨g, cap, cur, rfl, hb, hg, rest⟩
  · exact .inl h
  · exact .inr ⟨g, cap, cur, rfl, hb, (hc g hb).trans hg, rest⟩
/-- What an iterator does to its own cells: nothing that is no cells turns, nor a block from `base` on. -/
def ClOk (n₀ base : Nat) (A C : World) : Prop := (∀ (r : Nat) (o : Obj), A.heap[r]? = some o → o.isCells = false → C.heap[r]? = some o) ∧ (∀ b, base ≤ b → C.heap[b]? = A.heap[b]?) ∧ Below n₀ A C
/-- A store into a cell of the iterator's own, and a draw. -/
theorem clOk_setCell {n₀ base B : Nat} (h1 : n₀ ≤ B) (h2 : B < base) (A : World) (v : Value) : ClOk n₀ base A (A.setCell ⟨B, 0, none⟩ v).drew := by
  refine ⟨fun r o hr ho => ?_, fun b hb => ?_, ((Below.refl n₀ A).setCell (p := ⟨B, 0, none⟩) h1 v).drew⟩
  · exact (KeepsOthers.setCell A ⟨B, 0, none⟩ v).same r o hr ho
  · exact heap_setCell_other A ⟨B, 0, none⟩ b v (by simp; omega)

set_option maxRecDepth 100000 in
set_option maxHeartbeats 4000000 in
theorem appendSeq_any (g : Nat) (lb : Array Value) (eg : ∀ args w, (callFunc g args).run Tryd.prog w = .ok (.enter g args) w) (Kp Cl : World → World → Prop) (S Sp : List Int → Prop) (N : Nat) (hN : N < 17592186044414) (n₀ : Nat) (w w0 : World) (hw0 : Below w0.heap.size w0 w) (hn₀ : n₀ ≤ w.heap.size)
    (hseq : SeqStopsC Fence.wide 5 Tryd.prog g lb (fun x : Int => #[Value.int .i64 x]) Kp Cl S Sp N w0) (hKt : ∀ {A B C : World}, Kp A B → Kp B C → Kp A C) (hKp : ∀ A B, Below w.heap.size A B → Kp A B)
    (hCl : ∀ A C, Cl A C → ClOk n₀ w.heap.size A C) :
    Calls Tryd.prog 73 #[.slice none 0 0, .func (.func g) #[] lb] w fun e w' => ∃ v xs, e = .returned v ∧ S xs ∧ OwnsI .i64 3 w' w.heap.size v xs ∧ Below n₀ w w' := by
  refine (callsIn_wide (n := 6)).1 ?_
  have h6 : 1 ≤ 6 := by omega
  refine callsIn_of_wp_marks Tryd.func73 rfl trivial ?_ rfl
  simp only [Tryd.ntmps73, List.size_toArray, List.length_cons, List.length_nil, Nat.reduceAdd, Nat.reduceSub, Array.replicate_succ, Array.replicate_zero, List.push_toArray, List.append_toArray, List.nil_append, List.cons_append]
  have HN := Lib.hid hN
  have HSEQ := Lib.hid hseq
  have HKT : Hid (∀ A B C : World, Kp A B → Kp B C → Kp A C) := Lib.hid fun _ _ _ => hKt
  have HKP := Lib.hid hKp
  have HCL := Lib.hid hCl
  have HEG := Lib.hid eg
  clear hN hseq hKt hKp hCl eg
  refine wpIn_wide.2 ?_
  go_wp2_with fail
  have hs := cell_new_l w (.slice none 0 0) 25
  have hB1 : Below w.heap.size w (w.alloc (.cells #[.slice none 0 0] 25)) := (Below.refl _ w).alloc (Nat.le_refl _) _
  have hB1n : Below n₀ w (w.alloc (.cells #[.slice none 0 0] 25)) := hB1.mono hn₀
  refine (wpIn_wide (n := 6)).1 ?_
  refine wpIn_rangeFunc_cl rfl h6 (gf := g) (lb := lb) rfl trivial HEG.out
    HSEQ.out (fun A C r o hc ho hk => (HCL.out A C hc).1 r o ho hk) (fun h k => HKT.out _ _ _ h k) (fun W l o o' hl ho hc hw => HKP.out _ _ (belowK_b (Nat.le_refl _) W l o o' (by simp at hl; omega) ho hc hw)) (hw0.trans (hB1.mono hw0.size)) (fun _ => rfl)
    (fun (pre : List Int) W => (∃ v, W.cell? ⟨w.heap.size, 0, none⟩ = some v ∧ W.frozen? ⟨w.heap.size, 0, none⟩ = false ∧ OwnsI .i64 3 W (w.heap.size + 1) v pre ∧ w.heap.size + 1 ≤ W.heap.size) ∧ Below n₀ w W)
    (fun _ _ _ => False)
    (OwnFrom.and (Own.from (fun s A B row hs hg hr => by
      obtain ⟨v, h1, h2, h3, h4⟩ := hs
      refine ⟨v, cell_kept h1 hg hr, (frozen_kept h1 hg hr).trans h2, World.ownsRow.kept h3 hg ?_, Nat.le_trans h4 hg.size⟩
      exact ownsRow_ne h3 hr) _) (ownFrom_below hn₀ (by simp; omega)))
    (fun c => fun s A B row hs hg hr => hs)
    (by
      rintro s A C ⟨⟨v, h1, h2, h3, h4⟩, h5⟩ hc
      obtain ⟨hc1, hc2, hc3⟩ := HCL.out A C hc
      exact ⟨⟨v, (cell_of_heap (hc2 _ (Nat.le_refl _))).trans h1, (frozen_of_heap (hc2 _ (Nat.le_refl _))).trans h2, ownsI_of_heap h3 (fun b hb => hc2 b (by omega)), Nat.le_trans h4 hc3.size⟩, h5.trans hc3⟩)
    ⟨⟨.slice none 0 0, hs.1, hs.2, World.ownsRow_nil _ _ _ _, by simp⟩, hB1n⟩
    (fun x => { tmps := #[.slice none 0 0, .func (.func g) #[] lb, .pointer (some ⟨w.heap.size, 0, none⟩), undef, .slice none 0 0, .int .i64 x, .func (.func g) #[] lb, .int .i64 x, undef, undef, undef, undef, undef], defers := [] }) ?assign ?body ?done ?stop
  case assign =>
    intro l x W K hK
    gi_wp2
    exact hK
  case body =>
    rintro l pre x W ⟨⟨v, hcv, hfv, hown, hsz⟩, hB⟩ hlen
    clear hs hB1 hB1n
    obtain ⟨a1, n1, k1, rfl⟩ := ownsRow_slice hown
    have hpl : pre.length < 17592186044414 := by have := HN.out; omega
    gi_wp2_with (gi_at_builtin; apply stop_here)
    unfold StopHere
    refine wpListIn_app1I rfl (.tmp 8) (.tmp 10) 25 rfl .i64 3 8 Tryd.underlying25 info_int (by decide) (w.heap.size + 1) _ _ W hown rfl x rfl hpl hsz ?_
    intro v2 W2 ho2 hbw hk2
    obtain ⟨a2, n2, k2, rfl⟩ := ownsRow_slice ho2
    have c2 := cell_keep hbw hcv (by show w.heap.size < _; omega)
    have f2 : W2.frozen? ⟨w.heap.size, 0, none⟩ = false := (hbw.frozen (p := ⟨w.heap.size, 0, none⟩) (by show w.heap.size < _; omega)).trans hfv
    have hsz2 := hbw.size
    have fin : KeepsFrom (w.heap.size + 1) W (W2.setCell ⟨w.heap.size, 0, none⟩ (.slice a2 n2 k2)) ∧ Kp W (W2.setCell ⟨w.heap.size, 0, none⟩ (.slice a2 n2 k2)) ∧
        (∃ v, (W2.setCell ⟨w.heap.size, 0, none⟩ (.slice a2 n2 k2)).cell? ⟨w.heap.size, 0, none⟩ = some v ∧ (W2.setCell ⟨w.heap.size, 0, none⟩ (.slice a2 n2 k2)).frozen? ⟨w.heap.size, 0, none⟩ = false ∧ OwnsI .i64 3 (W2.setCell ⟨w.heap.size, 0, none⟩ (.slice a2 n2 k2)) (w.heap.size + 1) v (pre ++ [x]) ∧ w.heap.size + 1 ≤ (W2.setCell ⟨w.heap.size, 0, none⟩ (.slice a2 n2 k2)).heap.size) ∧ Below n₀ w (W2.setCell ⟨w.heap.size, 0, none⟩ (.slice a2 n2 k2)) := by
      refine ⟨(hk2.trans (KeepsOthers.setCell _ _ _)).from _, HKP.out _ _ ((hbw.mono (show w.heap.size ≤ w.heap.size + 1 by omega)).setCell (p := ⟨w.heap.size, 0, none⟩) (Nat.le_refl _) _),
        ⟨_, World.cell?_setCell_same' _ _ _ (by rw [c2]; rfl), (World.frozen?_setCell _ _ _ _).trans f2, ?_, by simp; omega⟩, (hB.trans (hbw.mono (show n₀ ≤ w.heap.size + 1 by omega))).setCell (p := ⟨w.heap.size, 0, none⟩) hn₀ _⟩
      exact ownsI_other ho2 (fun j hj => by have := (World.ownsRow.lt ho2 j hj).1; omega)
    clear ho2 hown hk2 hbw
    gi_wp2_with fail
    exact ⟨by rw [World.size_alloc]; exact fin.1, fin.2⟩
  case done =>
    rintro D zs W hD hS ⟨⟨v, hcv, hfv, hown, hsz⟩, hB⟩ hK
    clear hs hB1 hB1n
    obtain ⟨a1, n1, k1, rfl⟩ := ownsRow_slice hown
    have ho4 : OwnsI .i64 3 (W.putObj D (.deferred none)) w.heap.size (.slice a1 n1 k1) zs :=
      OwnsI.mono (World.ownsRow.kept hown (grownBy_putObj' W D (.deferred none)) (ownsRow_ne hown (fun r e => by cases e; exact ⟨_, hK, rfl⟩))) (by omega)
    have HO := Lib.hid ho4
    have HS := Lib.hid hS
    clear hown ho4 hS
    go_wp2_with fail
    refine ⟨by simp, .inl ⟨_, _, rfl, run_takeDeferred hK, ?_⟩⟩
    refine ⟨.slice a1 n1 k1, ?_, ⟨_, zs, rfl, HS.out, HO.out, hB.trans (belowK_b hn₀ W D _ _ (by simp at hD; omega) hK rfl rfl)⟩⟩
    simp [results, Tryd.f73, go_sem]
  case stop =>
    rintro D c pre W hD hpre hF hK
    exact hF.elim

theorem collect_any (g : Nat) (lb : Array Value) (eg : ∀ args w, (callFunc g args).run Tryd.prog w = .ok (.enter g args) w) (Kp Cl : World → World → Prop) (S Sp : List Int → Prop) (N : Nat) (hN : N < 17592186044414) (n₀ : Nat) (w w0 : World) (hw0 : Below w0.heap.size w0 w) (hn₀ : n₀ ≤ w.heap.size)
    (hseq : SeqStopsC Fence.wide 5 Tryd.prog g lb (fun x : Int => #[Value.int .i64 x]) Kp Cl S Sp N w0) (hKt : ∀ {A B C : World}, Kp A B → Kp B C → Kp A C) (hKp : ∀ A B, Below w.heap.size A B → Kp A B)
    (hCl : ∀ A C, Cl A C → ClOk n₀ w.heap.size A C) :
    Calls Tryd.prog 60 #[.func (.func g) #[] lb] w fun e w' => ∃ v xs, e = .returned v ∧ S xs ∧ OwnsI .i64 3 w' w.heap.size v xs ∧ Below n₀ w w' := by
  have H := Lib.hid (appendSeq_any g lb eg Kp Cl S Sp N hN n₀ w w0 hw0 hn₀ hseq hKt hKp hCl)
  clear eg hN hw0 hn₀ hseq hKt hKp hCl
  go_enter Tryd.func60, Tryd.ntmps60
  go_wp2_with fail
  refine H.out.mono ?_
  rintro e w1 ⟨v, xs, rfl, h1, h2, h3⟩
  go_wp2_with fail
  go_ret
  exact ⟨v, xs, rfl, h1, h2, h3⟩
end Go.Proofs.YtmjigpnpcacefaaDoor
