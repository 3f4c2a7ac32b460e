/- Masks of CPUs: the walks of mask.Next and Around. -/
import Derived.Test.YtjpkldndeakkkaaDoorMskB
namespace Go.Proofs.YtjpkldndeakkkaaDoor
open Go Go.RowKit Go.Shelf
attribute [local go_sem] Oper.semAt_some
attribute [local go_sem] wide_fn

def nextO (m : Nat) (c : Int) : Option Int := (ints (members m)).find? fun i => decide (c ≤ i)
def nextI (m : Nat) (c : Int) : Int := (nextO m c).getD 0
def nextB (m : Nat) (c : Int) : Bool := (nextO m c).isSome
theorem find_pre {l p : List Int} {x : Int} {P : Int → Bool} (h : p ++ [x] <+: l) (hp : ∀ y ∈ p, P y = false) (hx : P x = true) : l.find? P = some x := by
  obtain ⟨t, rfl⟩ := h
  rw [List.append_assoc, List.find?_append]
  have : p.find? P = none := List.find?_eq_none.2 (fun y hy => by rw [hp y hy]; simp)
  rw [this]
  simp [hx]
theorem next_none {m : Nat} {c : Int} (h : ∀ y ∈ ints (members m), y < c) : nextI m c = 0 ∧ nextB m c = false := by
  have : nextO m c = none := List.find?_eq_none.2 (fun y hy => by have := h y hy; simp; omega)
  unfold nextI nextB
  rw [this]; exact ⟨rfl, rfl⟩
theorem next_some {m : Nat} {c : Int} {p : List Int} {x : Int} (h : p ++ [x] <+: ints (members m)) (hp : ∀ y ∈ p, y < c) (hx : c ≤ x) : nextI m c = x ∧ nextB m c = true := by
  have : nextO m c = some x := find_pre h (fun y hy => decide_eq_false (by have := hp y hy; omega)) (decide_eq_true hx)
  unfold nextI nextB
  rw [this]; exact ⟨rfl, rfl⟩

/-- Between two rounds. -/
structure NxI (n : Nat) (c : Int) (pre : List Int) (W : World) : Prop where
  c0 : W.cell? ⟨n, 0, none⟩ = some (.int .i64 c)
  c1 : W.cell? ⟨n + 1, 0, none⟩ = some (.int .i64 0)
  c2 : W.cell? ⟨n + 1 + 1, 0, none⟩ = some (.bool false)
  f1 : W.frozen? ⟨n + 1, 0, none⟩ = false
  f2 : W.frozen? ⟨n + 1 + 1, 0, none⟩ = false
  lt : ∀ y ∈ pre, y < c
/-- A round has found it. -/
structure NxX (n : Nat) (c : Int) (pre : List Int) (W : World) : Prop where
  c1 : ∃ p x, pre = p ++ [x] ∧ (∀ y ∈ p, y < c) ∧ c ≤ x ∧ W.cell? ⟨n + 1, 0, none⟩ = some (.int .i64 x)
  c2 : W.cell? ⟨n + 1 + 1, 0, none⟩ = some (.bool true)
theorem NxI.own (n : Nat) (c : Int) : Own (NxI n c) := fun _ _ _ _ h hg hr => ⟨cell_kept h.c0 hg hr, cell_kept h.c1 hg hr, cell_kept h.c2 hg hr, (frozen_kept h.c1 hg hr).trans h.f1, (frozen_kept h.c2 hg hr).trans h.f2, h.lt⟩
theorem NxX.own (n : Nat) (c : Int) : Own (NxX n c) := fun _ _ _ _ h hg hr => by
  obtain ⟨p, x, h1, h2, h3, h4⟩ := h.c1
  exact ⟨⟨p, x, h1, h2, h3, cell_kept h4 hg hr⟩, cell_kept h.c2 hg hr⟩

set_option maxRecDepth 100000 in
set_option maxHeartbeats 4000000 in
theorem next_any (m : Nat) (hm : m < 18446744073709551616) (c : Int) (w : World) :
    Calls Tryd.prog 19 #[.int .u64 m, .int .i64 c] w fun e w' => e = .returned (.tuple #[.int .i64 (nextI m c), .bool (nextB m c)]) ∧ Below w.heap.size w w' := by
  refine (callsIn_wide (n := 6)).1 ?_
  have h6 : 1 ≤ 6 := by omega
  refine callsIn_of_wp_marks Tryd.func19 rfl trivial ?_ rfl
  simp only [Tryd.ntmps19, List.size_toArray, List.length_cons, List.length_nil, Nat.reduceAdd, Nat.reduceSub, Array.replicate_succ, Array.replicate_zero, List.push_toArray, List.append_toArray, List.nil_append, List.cons_append]
  have HNO := Lib.hid (fun h => next_none (m := m) (c := c) h)
  have HSO := Lib.hid (fun p x h1 h2 h3 => next_some (m := m) (c := c) (p := p) (x := x) h1 h2 h3)
  obtain ⟨V, HV⟩ := nm (nextI m c)
  obtain ⟨Bo, HB⟩ := nm (nextB m c)
  simp only [HV.out, HB.out] at HNO HSO
  rw [HV.out, HB.out]
  refine wpIn_wide.2 ?_
  go_wp2_with fail
  refine (members_fn m _).mono ?_
  rintro e w1 ⟨rfl, rfl⟩
  go_wp2_with fail
  have g0 := cell_new_l w (.int .i64 c) 3
  obtain ⟨W1, HW1⟩ : ∃ W1, w.alloc (.cells #[.int .i64 c] 3) = W1 := ⟨_, rfl⟩
  have s1 : W1.heap.size = w.heap.size + 1 := by rw [← HW1, World.size_alloc]
  have g1 := cell_new_l W1 (.int .i64 0) 3
  have g1a := cell_alloc_l (.cells #[.int .i64 0] 3) (show W1.cell? ⟨w.heap.size, 0, none⟩ = some (.int .i64 c) by rw [← HW1]; exact g0.1)
  have b1 : Below w.heap.size w W1 := by rw [← HW1]; exact bel_alloc w _
  rw [HW1]
  obtain ⟨W2, HW2⟩ : ∃ W2, W1.alloc (.cells #[.int .i64 0] 3) = W2 := ⟨_, rfl⟩
  have s2 : W2.heap.size = w.heap.size + 1 + 1 := by rw [← HW2, World.size_alloc, s1]
  have b2 : Below w.heap.size w W2 := by rw [← HW2]; exact b1.alloc (by omega) _
  rw [HW2] at g1 g1a ⊢
  rw [s1] at g1
  have g2 := cell_new_l W2 (.bool false) 4
  have g2a := cell_alloc_l (.cells #[.bool false] 4) g1a
  have g2b := cell_alloc_l (.cells #[.bool false] 4) g1.1
  have g2c := frozen_alloc_l (.cells #[.bool false] 4) g1.1 g1.2
  obtain ⟨W3, HW3⟩ : ∃ W3, W2.alloc (.cells #[.bool false] 4) = W3 := ⟨_, rfl⟩
  have s3 : W3.heap.size = w.heap.size + 1 + 1 + 1 := by rw [← HW3, World.size_alloc, s2]
  have b3 : Below w.heap.size w W3 := by rw [← HW3]; exact b2.alloc (by omega) _
  rw [HW3] at g2 g2a g2b g2c ⊢
  rw [s2] at g2
  have g3 := cell_new_l W3 (.int .u64 (m : Int)) 26
  have g3a := cell_alloc_l (.cells #[.int .u64 (m : Int)] 26) g2a
  have g3b := cell_alloc_l (.cells #[.int .u64 (m : Int)] 26) g2b
  have g3c := frozen_alloc_l (.cells #[.int .u64 (m : Int)] 26) g2b g2c
  have g3d := cell_alloc_l (.cells #[.int .u64 (m : Int)] 26) g2.1
  have g3e := frozen_alloc_l (.cells #[.int .u64 (m : Int)] 26) g2.1 g2.2
  have b4 : Below w.heap.size w (W3.alloc (.cells #[.int .u64 (m : Int)] 26)) := b3.alloc (by omega) _
  have s4 : (W3.alloc (.cells #[.int .u64 (m : Int)] 26)).heap.size = w.heap.size + 1 + 1 + 1 + 1 := by rw [World.size_alloc, s3]
  obtain ⟨W4, HW4⟩ : ∃ W4, W3.alloc (.cells #[.int .u64 (m : Int)] 26) = W4 := ⟨_, rfl⟩
  rw [HW4] at g3 g3a g3b g3c g3d g3e b4 s4 ⊢
  rw [s3] at g3
  have hI0 : NxI w.heap.size c [] W4 := ⟨g3a, g3b, g3d, g3c, g3e, fun y h => by cases h⟩
  clear g0 g1 g1a g2 g2a g2b g2c g3a g3b g3c g3d g3e b1 b2 b3 HW1 HW2 HW3 HW4
  refine (wpIn_wide (n := 6)).1 ?_
  refine wpIn_rangeFunc_cl rfl h6 (gf := 61) (lb := #[.pointer (some ⟨w.heap.size + 1 + 1 + 1, 0, none⟩)]) rfl trivial (enters_of Tryd.func61 (by kernel_rfl) rfl)
    (members_stops 5 (by omega) (w.heap.size + 1 + 1 + 1) m hm W4 g3.1 g3.2) (fun A C r o hc ho hk => by obtain ⟨v, rfl⟩ := hc; exact (clOk_setCell (n₀ := 0) (base := w.heap.size + 1 + 1 + 1 + 1) (Nat.zero_le _) (by omega) A v).1 r o ho hk) (fun h k => h.trans k)
    (fun W l o o' hl ho hc hw => ⟨(belowK_b (Nat.le_refl _) W l o o' hl ho hc hw).cell (p := ⟨w.heap.size + 1 + 1 + 1, 0, none⟩) (by show w.heap.size + 1 + 1 + 1 < _; omega), (belowK_b (Nat.le_refl _) W l o o' hl ho hc hw).frozen (p := ⟨w.heap.size + 1 + 1 + 1, 0, none⟩) (by show w.heap.size + 1 + 1 + 1 < _; omega)⟩) (Below.refl _ _) (fun _ => rfl)
    (fun pre W => NxI w.heap.size c pre W ∧ Below w.heap.size w W)
    (fun cd pre W => (cd = .ret ∧ NxX w.heap.size c pre W) ∧ Below w.heap.size w W)
    (OwnFrom.and (Own.from (NxI.own _ _) _) (ownFrom_below (Nat.le_refl _) (by omega)))
    (fun cd => OwnFrom.and (Own.from (fun t A C row hs hg hr => ⟨hs.1, NxX.own _ _ t A C row hs.2 hg hr⟩) _) (ownFrom_below (Nat.le_refl _) (by omega)))
    (by
      rintro t A C ⟨h1, h2⟩ ⟨v, rfl⟩
      have hk := clOk_setCell (n₀ := w.heap.size) (B := w.heap.size + 1 + 1 + 1) (base := w.heap.size + 1 + 1 + 1 + 1) (by omega) (by omega) A v
      have ho : ∀ b, b < w.heap.size + 1 + 1 + 1 → ((A.setCell ⟨w.heap.size + 1 + 1 + 1, 0, none⟩ v).drew).heap[b]? = A.heap[b]? := fun b hb => heap_setCell_other A ⟨w.heap.size + 1 + 1 + 1, 0, none⟩ b v (by simp; omega)
      exact ⟨⟨(cell_of_heap (ho _ (by omega))).trans h1.c0, (cell_of_heap (ho _ (by omega))).trans h1.c1, (cell_of_heap (ho _ (by omega))).trans h1.c2, (frozen_of_heap (ho _ (by omega))).trans h1.f1, (frozen_of_heap (ho _ (by omega))).trans h1.f2, h1.lt⟩, h2.trans hk.2.2⟩)
    ⟨hI0, b4⟩
    (fun x => { tmps := #[.int .u64 m, .int .i64 c, undef, .pointer (some ⟨w.heap.size, 0, none⟩), .pointer (some ⟨w.heap.size + 1, 0, none⟩), .pointer (some ⟨w.heap.size + 1 + 1, 0, none⟩), .int .i64 x, .int .u64 m, .func (.func 61) #[] #[.pointer (some ⟨w.heap.size + 1 + 1 + 1, 0, none⟩)], .int .i64 x, undef, undef, undef, undef], defers := [] }) ?assign ?body ?done ?stop
  case assign =>
    intro l x W K hK
    gi_wp2
    exact hK
  case body =>
    rintro l pre x W ⟨⟨c0, c1, c2, f1, f2, hlt⟩, hB⟩ _
    clear g3 hI0 b4 HNO HSO
    have HLT := Lib.hid hlt
    clear hlt
    by_cases hx : c ≤ x
    · have hd : decide (c ≤ x) = true := decide_eq_true hx
      have hd2 : decide (x ≥ c) = true := decide_eq_true hx
      have k1 : (W.setCell ⟨w.heap.size + 1, 0, none⟩ (.int .i64 x)).cell? ⟨w.heap.size + 1, 0, none⟩ = some (.int .i64 x) := World.cell?_setCell_same' _ _ _ (by rw [c1]; rfl)
      have k2 := (World.cell?_setCell_other (W.setCell ⟨w.heap.size + 1, 0, none⟩ (.int .i64 x)) ⟨w.heap.size + 1 + 1, 0, none⟩ ⟨w.heap.size + 1, 0, none⟩ (.bool true) (by simp)).trans k1
      have k3 := (World.cell?_setCell_other W ⟨w.heap.size + 1, 0, none⟩ ⟨w.heap.size + 1 + 1, 0, none⟩ (.int .i64 x) (by simp)).trans c2
      have k4 : ((W.setCell ⟨w.heap.size + 1, 0, none⟩ (.int .i64 x)).setCell ⟨w.heap.size + 1 + 1, 0, none⟩ (.bool true)).cell? ⟨w.heap.size + 1 + 1, 0, none⟩ = some (.bool true) := World.cell?_setCell_same' _ _ _ (by rw [k3]; rfl)
      have K2 := Lib.hid k2
      have K4 := Lib.hid k4
      clear k1 k2 k3 k4
      gi_wp2
      exact ⟨((KeepsOthers.setCell _ _ _).trans (KeepsOthers.setCell _ _ _)).from _, ⟨rfl, ⟨⟨pre, x, rfl, HLT.out, hx, K2.out⟩, K4.out⟩⟩, (hB.setCell (p := ⟨w.heap.size + 1, 0, none⟩) (by show w.heap.size ≤ w.heap.size + 1; omega) _).setCell (p := ⟨w.heap.size + 1 + 1, 0, none⟩) (by show w.heap.size ≤ w.heap.size + 1 + 1; omega) _⟩
    · have hd : decide (c ≤ x) = false := decide_eq_false hx
      gi_wp2
      refine ⟨(KeepsOthers.refl _).from _, ⟨rfl, rfl⟩, ⟨c0, c1, c2, f1, f2, fun y hy => ?_⟩, hB⟩
      rcases List.mem_append.1 hy with hy | hy
      · exact HLT.out y hy
      · rw [List.mem_singleton] at hy; omega
  case done =>
    rintro D zs W hD rfl ⟨⟨c0, c1, c2, f1, f2, hlt⟩, hB⟩ hK
    have HR := Lib.hid (HNO.out hlt)
    have k1 : (W.setCell ⟨w.heap.size + 1, 0, none⟩ (.int .i64 0)).cell? ⟨w.heap.size + 1, 0, none⟩ = some (.int .i64 0) := World.cell?_setCell_same' _ _ _ (by rw [c1]; rfl)
    have k2 := (World.cell?_setCell_other (W.setCell ⟨w.heap.size + 1, 0, none⟩ (.int .i64 0)) ⟨w.heap.size + 1 + 1, 0, none⟩ ⟨w.heap.size + 1, 0, none⟩ (.bool false) (by simp)).trans k1
    have k3 := (World.cell?_setCell_other W ⟨w.heap.size + 1, 0, none⟩ ⟨w.heap.size + 1 + 1, 0, none⟩ (.int .i64 0) (by simp)).trans c2
    have k4 : ((W.setCell ⟨w.heap.size + 1, 0, none⟩ (.int .i64 0)).setCell ⟨w.heap.size + 1 + 1, 0, none⟩ (.bool false)).cell? ⟨w.heap.size + 1 + 1, 0, none⟩ = some (.bool false) := World.cell?_setCell_same' _ _ _ (by rw [k3]; rfl)
    have hK2 : ((W.setCell ⟨w.heap.size + 1, 0, none⟩ (.int .i64 0)).setCell ⟨w.heap.size + 1 + 1, 0, none⟩ (.bool false)).heap[D]? = some (.deferred (some [])) := ((KeepsOthers.setCell _ _ _).trans (KeepsOthers.setCell _ _ _)).same D _ hK rfl
    have r1 := cell_kept k2 (grownBy_putObj' _ D (.deferred none)) (fun r e => by cases e; exact ⟨_, hK2, rfl⟩)
    have r2 := cell_kept k4 (grownBy_putObj' _ D (.deferred none)) (fun r e => by cases e; exact ⟨_, hK2, rfl⟩)
    have hB2 := (hB.setCell (p := ⟨w.heap.size + 1, 0, none⟩) (by show w.heap.size ≤ w.heap.size + 1; omega) (.int .i64 0)).setCell (p := ⟨w.heap.size + 1 + 1, 0, none⟩) (by show w.heap.size ≤ w.heap.size + 1 + 1; omega) (.bool false)
    have R1 := Lib.hid r1
    have R2 := Lib.hid r2
    clear k1 k2 k3 k4 r1 r2 hlt hK HNO HSO g3 hI0 b4 c0
    go_wp2_with fail
    refine ⟨by simp, .inl ⟨_, _, rfl, run_takeDeferred hK2, ?_⟩⟩
    refine ⟨.tuple #[.int .i64 0, .bool false], ?_, by rw [HR.out.1, HR.out.2], hB2.trans (belowK_b (w := w) (Nat.le_refl _) _ D _ _ (by omega) hK2 rfl rfl)⟩
    simp [results, Tryd.f19, go_sem, R1.out, R2.out]
  case stop =>
    rintro D cd pre W hD hpre ⟨⟨rfl, ⟨p, x, rfl, hp, hx, c1⟩, c2⟩, hB⟩ hK
    have HR := Lib.hid (HSO.out p x hpre hp hx)
    have r1 := cell_kept c1 (grownBy_putObj' _ D (.deferred none)) (fun r e => by cases e; exact ⟨_, hK, rfl⟩)
    have r2 := cell_kept c2 (grownBy_putObj' _ D (.deferred none)) (fun r e => by cases e; exact ⟨_, hK, rfl⟩)
    have R1 := Lib.hid r1
    have R2 := Lib.hid r2
    clear r1 r2 HNO HSO g3 hI0 b4 hpre hp
    gi_wp2
    refine ⟨by simp, .inl ⟨_, _, rfl, run_takeDeferred hK, ?_⟩⟩
    refine ⟨.tuple #[.int .i64 x, .bool true], ?_, by rw [HR.out.1, HR.out.2], hB.trans (belowK_b (w := w) (Nat.le_refl _) _ D _ _ (by omega) hK rfl rfl)⟩
    simp [results, Tryd.f19, go_sem, R1.out, R2.out]

def aroundI (m : Nat) (c : Int) : Int := if nextB m c then nextI m c else nextI m 0
def aroundB (m : Nat) (c : Int) : Bool := nextB m c || nextB m 0
theorem around_any (m : Nat) (hm : m < 18446744073709551616) (c : Int) (w : World) :
    Calls Tryd.prog 18 #[.int .u64 m, .int .i64 c] w fun e w' => e = .returned (.tuple #[.int .i64 (aroundI m c), .bool (aroundB m c)]) ∧ Below w.heap.size w w' := by
  have H1 := Lib.hid (fun W => next_any m hm c W)
  have H2 := Lib.hid (fun W => next_any m hm 0 W)
  unfold aroundI aroundB
  obtain ⟨V, HV⟩ := nm (nextI m c)
  obtain ⟨U, HU⟩ := nm (nextI m 0)
  obtain ⟨D, HD⟩ := nm (nextB m 0)
  rw [HV.out] at H1 ⊢
  rw [HU.out, HD.out] at H2 ⊢
  cases hb : nextB m c with
  | true =>
    rw [hb] at H1
    clear hb
    go_enter Tryd.func18, Tryd.ntmps18
    go_wp2_with fail
    refine (H1.out _).mono ?_
    rintro e w1 ⟨rfl, hb1⟩
    go_wp2_with fail
    go_ret2
    exact ⟨rfl, hb1⟩
  | false =>
    rw [hb] at H1
    clear hb
    go_enter Tryd.func18, Tryd.ntmps18
    go_wp2_with fail
    refine (H1.out _).mono ?_
    rintro e w1 ⟨rfl, hb1⟩
    go_wp2_with fail
    refine (H2.out _).mono ?_
    rintro e w2 ⟨rfl, hb2⟩
    go_wp2_with fail
    go_ret2
    exact ⟨by simp, bel_trans hb1 hb2 hb1.size⟩
end Go.Proofs.YtjpkldndeakkkaaDoor
