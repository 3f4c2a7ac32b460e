/- Collecting what an iterator of numbers gives: the walks of slices.AppendSeq (onto nil) and slices.Collect. -/
import Derived.Test.YtmjigpnpcacefaaDoorOwnK
import Derived.Test.YtmjigpnpcacefaaDoorSeqC
namespace Go.Proofs.YtmjigpnpcacefaaDoor
open Go Go.RowKit Go.Shelf
attribute [local go_sem] Oper.semAt_some
attribute [local go_sem] wide_fn

theorem cell_of_heap {A C : World} {b i : Nat} (h : C.heap[b]? = A.heap[b]?) : C.cell? ⟨b, i, none⟩ = A.cell? ⟨b, i, none⟩ := by
  unfold World.cell?
  simp only [h]
theorem frozen_of_heap {A C : World} {b i : Nat} (h : C.heap[b]? = A.heap[b]?) : C.frozen? ⟨b, i, none⟩ = A.frozen? ⟨b, i, none⟩ := by
  unfold World.frozen?
  simp only [h]
theorem ownsI_of_heap {k : IntKind} {e : TypeId} {A C : World} {base : Nat} {v : Value} {xs : List Int} (h : OwnsI k e A base v xs) (hc : ∀ b, base ≤ b → C.heap[b]? = A.heap[b]?) : OwnsI k e C base v xs := by
  obtain ⟨h1, h⟩ := h
  refine ⟨h1, ?_⟩
  rcases h with h | ⟨g, cap, cur, rfl, hb, hg, rest⟩
  · exact .inl h
  · exact .inr ⟨g, cap, cur, rfl, hb, (hc g hb).trans hg, rest⟩
/-- What an iterator does to its own cells: nothing that is no cells turns, nor a block from `base` on. -/
def ClOk (n₀ base : Nat) (A C : World) : Prop := (∀ (r : Nat) (o : Obj), A.heap[r]? = some o → o.isCells = false → C.heap[r]? = some o) ∧ (∀ b, base ≤ b → C.heap[b]? = A.heap[b]?) ∧ Below n₀ A C
/-- A store into a cell of the iterator's own, and a draw. -/
theorem clOk_setCell {n₀ base B : Nat} (h1 : n₀ ≤ B) (h2 : B < base) (A : World) (v : Value) : ClOk n₀ base A (A.setCell ⟨B, 0, none⟩ v).drew := by
  refine ⟨fun r o hr ho => ?_, fun b hb => ?_, ((Below.refl n₀ A).setCell (p := ⟨B, 0, none⟩) h1 v).drew⟩
  · exact (KeepsOthers.setCell A ⟨B, 0, none⟩ v).same r o hr ho
  · exact heap_setCell_other A ⟨B, 0, none⟩ b v (by simp; omega)

set_option maxRecDepth 100000 in
set_option maxHeartbeats 4000000 in
theorem appendSeq_any (g : Nat) (lb : Array Value) (eg : ∀ args w, (callFunc g args).run Tryd.prog w = .ok (.enter g args) w) (Kp Cl : World → World → Prop) (S Sp : List Int → Prop) (N : Nat) (hN : N < 17592186044414) (n₀ : Nat) (w w0 : World) (hw0 : Below w0.heap.size w0 w) (hn₀ : n₀ ≤ w.heap.size)
    (hseq : SeqStopsC Fence.wide 5 Tryd.prog g lb (fun x : Int => #[Value.int .i64 x]) Kp Cl S Sp N w0) (hKt : ∀ {A B C : World}, Kp A B → Kp B C → Kp A C) (hKp : ∀ A B, Below w.heap.size A B → Kp A B)
    (hCl : ∀ A C, Cl A C → ClOk n₀ w.heap.size A C) :
    Calls Tryd.prog 73 #[.slice none 0 0, .func (.func g) #[] lb] w fun e w' => ∃ v xs, e = .returned v ∧ S xs ∧ OwnsI .i64 3 w' w.heap.size v xs ∧ Below n₀ w w' := by
  refine (callsIn_wide (n := 6)).1 ?_
  have h6 : 1 ≤ 6 := by omega
  refine callsIn_of_wp_marks Tryd.func73 rfl trivial ?_ rfl
  simp only [Tryd.ntmps73, List.size_toArray, List.length_cons, List.length_nil, Nat.reduceAdd, Nat.reduceSub, Array.replicate_succ, Array.replicate_zero, List.push_toArray, List.append_toArray, List.nil_append, List.cons_append]
  have HN := Lib.hid hN
  have HSEQ := Lib.hid hseq
  have HKT : Hid (∀ A B C : World, Kp A B → Kp B C → Kp A C) := Lib.hid fun _ _ _ => hKt
  have HKP := Lib.hid hKp
  have HCL := Lib.hid hCl
  have HEG := Lib.hid eg
  clear hN hseq hKt hKp hCl eg
  refine wpIn_wide.2 ?_
  go_wp2_with fail
  have hs := cell_new_l w (.slice none 0 0) 25
  have hB1 : Below w.heap.size w (w.alloc (.cells #[.slice none 0 0] 25)) := (Below.refl _ w).alloc (Nat.le_refl _) _
  have hB1n : Below n₀ w (w.alloc (.cells #[.slice none 0 0] 25)) := hB1.mono hn₀
  refine (wpIn_wide (n := 6)).1 ?_
  refine wpIn_rangeFunc_cl rfl h6 (gf := g) (lb := lb) rfl trivial HEG.out
    HSEQ.out (fun A C r o hc ho hk => (HCL.out A C hc).1 r o ho hk) (fun h k => HKT.out _ _ _ h k) (fun W l o o' hl ho hc hw => HKP.out _ _ (belowK_b (Nat.le_refl _) W l o o' (by simp at hl; omega) ho hc hw)) (hw0.trans (hB1.mono hw0.size)) (fun _ => rfl)
    (fun (pre : List Int) W => (∃ v, W.cell? ⟨w.heap.size, 0, none⟩ = some v ∧ W.frozen? ⟨w.heap.size, 0, none⟩ = false ∧ OwnsI .i64 3 W (w.heap.size + 1) v pre ∧ w.heap.size + 1 ≤ W.heap.size) ∧ Below n₀ w W)
    (fun _ _ _ => False)
    (OwnFrom.and (Own.from (fun s A B row hs hg hr => by
      obtain ⟨v, h1, h2, h3, h4⟩ := hs
      refine ⟨v, cell_kept h1 hg hr, (frozen_kept h1 hg hr).trans h2, World.ownsRow.kept h3 hg ?_, Nat.le_trans h4 hg.size⟩
      exact ownsRow_ne h3 hr) _) (ownFrom_below hn₀ (by simp; omega)))
    (fun c => fun s A B row hs hg hr => hs)
    (by
      rintro s A C ⟨⟨v, h1, h2, h3, h4⟩, h5⟩ hc
      obtain ⟨hc1, hc2, hc3⟩ := HCL.out A C hc
      exact ⟨⟨v, (cell_of_heap (hc2 _ (Nat.le_refl _))).trans h1, (frozen_of_heap (hc2 _ (Nat.le_refl _))).trans h2, ownsI_of_heap h3 (fun b hb => hc2 b (by omega)), Nat.le_trans h4 hc3.size⟩, h5.trans hc3⟩)
    ⟨⟨.slice none 0 0, hs.1, hs.2, World.ownsRow_nil _ _ _ _, by simp⟩, hB1n⟩
    (fun x => { tmps := #[.slice none 0 0, .func (.func g) #[] lb, .pointer (some ⟨w.heap.size, 0, none⟩), undef, .slice none 0 0, .int .i64 x, .func (.func g) #[] lb, .int .i64 x, undef, undef, undef, undef, undef], defers := [] }) ?assign ?body ?done ?stop
  case assign =>
    intro l x W K hK
    gi_wp2
    exact hK
  case body =>
    rintro l pre x W ⟨⟨v, hcv, hfv, hown, hsz⟩, hB⟩ hlen
    clear hs hB1 hB1n
    obtain ⟨a1, n1, k1, rfl⟩ := ownsRow_slice hown
    have hpl : pre.length < 17592186044414 := by have := HN.out; omega
    gi_wp2_with (gi_at_builtin; apply stop_here)
    unfold StopHere
    refine wpListIn_app1I rfl (.tmp 8) (.tmp 10) 25 rfl .i64 3 8 Tryd.underlying25 info_int (by decide) (w.heap.size + 1) _ _ W hown rfl x rfl hpl hsz ?_
    intro v2 W2 ho2 hbw hk2
    obtain ⟨a2, n2, k2, rfl⟩ := ownsRow_slice ho2
    have c2 := cell_keep hbw hcv (by show w.heap.size < _; omega)
    have f2 : W2.frozen? ⟨w.heap.size, 0, none⟩ = false := (hbw.frozen (p := ⟨w.heap.size, 0, none⟩) (by show w.heap.size < _; omega)).trans hfv
    have hsz2 := hbw.size
    have fin : KeepsFrom (w.heap.size + 1) W (W2.setCell ⟨w.heap.size, 0, none⟩ (.slice a2 n2 k2)) ∧ Kp W (W2.setCell ⟨w.heap.size, 0, none⟩ (.slice a2 n2 k2)) ∧
        (∃ v, (W2.setCell ⟨w.heap.size, 0, none⟩ (.slice a2 n2 k2)).cell? ⟨w.heap.size, 0, none⟩ = some v ∧ (W2.setCell ⟨w.heap.size, 0, none⟩ (.slice a2 n2 k2)).frozen? ⟨w.heap.size, 0, none⟩ = false ∧ OwnsI .i64 3 (W2.setCell ⟨w.heap.size, 0, none⟩ (.slice a2 n2 k2)) (w.heap.size + 1) v (pre ++ [x]) ∧ w.heap.size + 1 ≤ (W2.setCell ⟨w.heap.size, 0, none⟩ (.slice a2 n2 k2)).heap.size) ∧ Below n₀ w (W2.setCell ⟨w.heap.size, 0, none⟩ (.slice a2 n2 k2)) := by
      refine ⟨(hk2.trans (KeepsOthers.setCell _ _ _)).from _, HKP.out _ _ ((hbw.mono (show w.heap.size ≤ w.heap.size + 1 by omega)).setCell (p := ⟨w.heap.size, 0, none⟩) (Nat.le_refl _) _),
        ⟨_, World.cell?_setCell_same' _ _ _ (by rw [c2]; rfl), (World.frozen?_setCell _ _ _ _).trans f2, ?_, by simp; omega⟩, (hB.trans (hbw.mono (show n₀ ≤ w.heap.size + 1 by omega))).setCell (p := ⟨w.heap.size, 0, none⟩) hn₀ _⟩
      exact ownsI_other ho2 (fun j hj => by have := (World.ownsRow.lt ho2 j hj).1; omega)
    clear ho2 hown hk2 hbw
    gi_wp2_with fail
    exact ⟨by rw [World.size_alloc]; exact fin.1, fin.2⟩
  case done =>
    rintro D zs W hD hS ⟨⟨v, hcv, hfv, hown, hsz⟩, hB⟩ hK
    clear hs hB1 hB1n
    obtain ⟨a1, n1, k1, rfl⟩ := ownsRow_slice hown
    have ho4 : OwnsI .i64 3 (W.putObj D (.deferred none)) w.heap.size (.slice a1 n1 k1) zs :=
      OwnsI.mono (World.ownsRow.kept hown (grownBy_putObj' W D (.deferred none)) (ownsRow_ne hown (fun r e => by cases e; exact ⟨_, hK, rfl⟩))) (by omega)
    have HO := Lib.hid ho4
    have HS := Lib.hid hS
    clear hown ho4 hS
    go_wp2_with fail
    refine ⟨by simp, .inl ⟨_, _, rfl, run_takeDeferred hK, ?_⟩⟩
    refine ⟨.slice a1 n1 k1, ?_, ⟨_, zs, rfl, HS.out, HO.out, hB.trans (belowK_b hn₀ W D _ _ (by simp at hD; omega) hK rfl rfl)⟩⟩
    simp [results, Tryd.f73, go_sem]
  case stop =>
    rintro D c pre W hD hpre hF hK
    exact hF.elim

theorem collect_any (g : Nat) (lb : Array Value) (eg : ∀ args w, (callFunc g args).run Tryd.prog w = .ok (.enter g args) w) (Kp Cl : World → World → Prop) (S Sp : List Int → Prop) (N : Nat) (hN : N < 17592186044414) (n₀ : Nat) (w w0 : World) (hw0 : Below w0.heap.size w0 w) (hn₀ : n₀ ≤ w.heap.size)
    (hseq : SeqStopsC Fence.wide 5 Tryd.prog g lb (fun x : Int => #[Value.int .i64 x]) Kp Cl S Sp N w0) (hKt : ∀ {A B C : World}, Kp A B → Kp B C → Kp A C) (hKp : ∀ A B, Below w.heap.size A B → Kp A B)
    (hCl : ∀ A C, Cl A C → ClOk n₀ w.heap.size A C) :
    Calls Tryd.prog 60 #[.func (.func g) #[] lb] w fun e w' => ∃ v xs, e = .returned v ∧ S xs ∧ OwnsI .i64 3 w' w.heap.size v xs ∧ Below n₀ w w' := by
  have H := Lib.hid (appendSeq_any g lb eg Kp Cl S Sp N hN n₀ w w0 hw0 hn₀ hseq hKt hKp hCl)
  clear eg hN hw0 hn₀ hseq hKt hKp hCl
  go_enter Tryd.func60, Tryd.ntmps60
  go_wp2_with fail
  refine H.out.mono ?_
  rintro e w1 ⟨v, xs, rfl, h1, h2, h3⟩
  go_wp2_with fail
  go_ret
  exact ⟨v, xs, rfl, h1, h2, h3⟩
end Go.Proofs.YtmjigpnpcacefaaDoor
