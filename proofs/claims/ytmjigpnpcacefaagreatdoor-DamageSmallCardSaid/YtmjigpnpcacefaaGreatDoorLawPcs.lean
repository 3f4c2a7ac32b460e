/- The walk of the law DamagePieces. -/
import Derived.Test.YtmjigpnpcacefaaGreatDoorPcs
import Derived.Deep.DeepCutAuto
namespace Go.Proofs.YtmjigpnpcacefaaGreatDoor
open Go Go.RowKit Go.Shelf

theorem lentB_reads {W : World} {g n c : Nat} {l : List Nat} (hn : l.length = n) (hc : n + 12 ≤ c) (hcm : c ≤ 9223372036854775807) (h : ∀ i, i < n + 12 → W.cell? ⟨g, i, none⟩ = some (.int .u8 (((l ++ marksB 12)[i]?.getD 0 : Nat) : Int))) : Reads .u8 W (.slice (some ⟨g, 0, none⟩) n c) l := by
  refine ⟨some ⟨g, 0, none⟩, c, by rw [hn], by rw [hn]; omega, by omega, .inr ⟨g, 0, rfl, fun i hi => ?_⟩⟩
  rw [hn] at hi
  rw [Nat.zero_add, h i (by omega), lentB_at l (by omega)]
theorem arr_cell {w : World} {A : Nat} {cs : Array Value} {ty : TypeId} (h : w.heap[A]? = some (.cells cs ty (0, 0))) {i : Nat} {u : Value} (hi : cs[i]? = some u) : w.cell? ⟨A, i, none⟩ = some u ∧ w.frozen? ⟨A, i, none⟩ = false :=
  ⟨by rw [cell_of_row _ _ _ _ _ _ h]; exact hi, by simp [World.frozen?, h]⟩
/-- A store into each of two arrays that lie one behind the other. -/
theorem arr_step {w : World} {A k : Nat} {ca ce : Array Value} {ta te : TypeId} (u e : Value) (hA : w.heap[A]? = some (.cells ca ta (0, 0))) (hE : w.heap[A + 1]? = some (.cells ce te (0, 0))) :
    ((w.setCell ⟨A, k, none⟩ u).setCell ⟨A + 1, k, none⟩ e).heap[A]? = some (.cells (ca.setIfInBounds k u) ta (0, 0)) ∧
    ((w.setCell ⟨A, k, none⟩ u).setCell ⟨A + 1, k, none⟩ e).heap[A + 1]? = some (.cells (ce.setIfInBounds k e) te (0, 0)) ∧
    ((w.setCell ⟨A, k, none⟩ u).setCell ⟨A + 1, k, none⟩ e).heap.size = w.heap.size ∧ Below A w ((w.setCell ⟨A, k, none⟩ u).setCell ⟨A + 1, k, none⟩ e) ∧
    (∀ b, A + 2 ≤ b → ((w.setCell ⟨A, k, none⟩ u).setCell ⟨A + 1, k, none⟩ e).heap[b]? = w.heap[b]?) := by
  have h1 := heap_setCell_same w A k ca ta u hA
  have h2 : (w.setCell ⟨A, k, none⟩ u).heap[A + 1]? = some (.cells ce te (0, 0)) := (Below.heap_setCell w ⟨A, k, none⟩ u (A + 1) (by show A + 1 ≠ A; omega)).trans hE
  refine ⟨(Below.heap_setCell _ ⟨A + 1, k, none⟩ e A (by show A ≠ A + 1; omega)).trans h1, heap_setCell_same _ _ _ _ _ _ h2, by rw [World.size_setCell, World.size_setCell], ((Below.refl A w).setCell (p := ⟨A, k, none⟩) (Nat.le_refl _) u).setCell (p := ⟨A + 1, k, none⟩) (Nat.le_succ _) e, fun b hb => ?_⟩
  exact (Below.heap_setCell _ ⟨A + 1, k, none⟩ e b (by show b ≠ A + 1; omega)).trans (Below.heap_setCell w ⟨A, k, none⟩ u b (by show b ≠ A; omega))
theorem Owns.same {k : IntKind} {e : TypeId} {w w' : World} {base : Nat} {v : Value} {xs : List Nat} (h : Owns k e w base v xs) (hs : ∀ b, base ≤ b → w'.heap[b]? = w.heap[b]?) : Owns k e w' base v xs := by
  obtain ⟨h1, h⟩ := h
  refine ⟨h1, ?_⟩
  rcases h with h | ⟨g, cap, cur, rfl, hb, hg, rest⟩
  · exact .inl h
  · exact .inr ⟨g, cap, cur, rfl, hb, (hs g hb).trans hg, rest⟩
set_option maxRecDepth 100000 in
set_option maxHeartbeats 16000000 in
theorem pieces_any (v : Value) (xs : List Nat) (vo : Value) (ys : List Nat) (f m t : Int) (w : World) (hv : Reads .u8 w v xs) (hvo : Reads .u8 w vo ys) :
    Calls Tryz.prog 9 #[v, vo, .int .i64 f, .int .i64 m, .int .i64 t] w fun e w' => e = .returned (.bool true) ∧ Below w.heap.size w w' := by
  have HV := Lib.hid hv
  have HVO := Lib.hid hvo
  obtain ⟨av, cv, rfl, hlc, hcm, -⟩ := hv
  obtain ⟨ao, co, rfl, hlco, hcmo, -⟩ := hvo
  obtain ⟨n, HN⟩ := nm xs.length
  obtain ⟨no, HNO⟩ := nm ys.length
  rw [HN.out] at hlc HV ⊢
  rw [HNO.out] at hlco HVO ⊢
  by_cases hbig : 300 < n
  · have hd : decide (300 < (n : Int)) = true := decide_eq_true (by omega)
    go_enter Tryz.func9, Tryz.ntmps9
    go_wp2_with fail
    go_ret
    exact ⟨rfl, bel_refl _⟩
  have hd : decide (300 < (n : Int)) = false := decide_eq_false (by omega)
  by_cases hbig2 : 300 < no
  · have hd2 : decide (300 < (no : Int)) = true := decide_eq_true (by omega)
    go_enter Tryz.func9, Tryz.ntmps9
    go_wp2_with fail
    go_ret
    exact ⟨rfl, bel_refl _⟩
  have hd2 : decide (300 < (no : Int)) = false := decide_eq_false (by omega)
  have HBIG := Lib.hid hbig
  have HBIG2 := Lib.hid hbig2
  obtain ⟨V0, E0, l0, d0, r0⟩ := both0 xs f m t (by have := HN.out; omega)
  obtain ⟨V1, E1, l1, d1, r1⟩ := both1 xs f m t (by have := HN.out; omega)
  obtain ⟨V2, E2, l2, d2, r2⟩ := both2 xs f m t (by have := HN.out; omega)
  obtain ⟨V3, E3, l3, d3, r3⟩ := both3 xs f m t (by have := HN.out; omega)
  have D0 := Lib.hid d0
  have D1 := Lib.hid d1
  have D2 := Lib.hid d2
  have D3 := Lib.hid d3
  have R0 := Lib.hid r0
  have R1 := Lib.hid r1
  have R2 := Lib.hid r2
  have R3 := Lib.hid r3
  have HLL := Lib.hid (And.intro l0 (And.intro l1 (And.intro l2 l3)))
  clear d0 d1 d2 d3 r0 r1 r2 r3 l0 l1 l2 l3 hbig hbig2
  have hlen := lentBytes_any _ xs w HV.out (by have := HN.out; have := HBIG.out; omega)
  rw [HN.out] at hlen
  go_enter Tryz.func9, Tryz.ntmps9
  go_wp2_with fail
  refine hlen.mono ?_
  rintro e w1 ⟨g, c, rfl, hc1, hc2, hg1, hg2, ho1, hb1⟩
  have HO1 := Lib.hid ho1
  have HB1 := Lib.hid hb1
  have HC := Lib.hid (And.intro hc1 hc2)
  clear hlen ho1 hb1 hc1 hc2
  go_wp2_with fail
  have hA0 := heap_alloc_old (w1.alloc (.cells #[.slice none 0 0, .slice none 0 0, .slice none 0 0, .slice none 0 0] 70)) (.cells #[.int .i64 0, .int .i64 0, .int .i64 0, .int .i64 0] 71) w1.heap.size (by simp)
  rw [heap_alloc_new w1] at hA0
  have hE0 := heap_alloc_new (w1.alloc (.cells #[.slice none 0 0, .slice none 0 0, .slice none 0 0, .slice none 0 0] 70)) (.cells #[.int .i64 0, .int .i64 0, .int .i64 0, .int .i64 0] 71)
  rw [World.size_alloc] at hE0
  have hb2 := (bel_alloc w1 (.cells #[.slice none 0 0, .slice none 0 0, .slice none 0 0, .slice none 0 0] 70)).alloc (by simp) (.cells #[.int .i64 0, .int .i64 0, .int .i64 0, .int .i64 0] 71)
  have hs2 : ((w1.alloc (.cells #[.slice none 0 0, .slice none 0 0, .slice none 0 0, .slice none 0 0] 70)).alloc (.cells #[.int .i64 0, .int .i64 0, .int .i64 0, .int .i64 0] 71)).heap.size = w1.heap.size + 2 := by simp
  obtain ⟨q0, HQ0⟩ := nm ((w1.alloc (.cells #[.slice none 0 0, .slice none 0 0, .slice none 0 0, .slice none 0 0] 70)).alloc (.cells #[.int .i64 0, .int .i64 0, .int .i64 0, .int .i64 0] 71))
  rw [HQ0.out] at hA0 hE0 hb2 hs2 ⊢
  have hco : ∀ i, i < n + 12 → w1.cell? ⟨g, i, none⟩ = some (.int .u8 (((xs ++ marksB 12)[i]?.getD 0 : Nat) : Int)) := fun i hi => HO1.out.cellAt (by rw [List.length_append, marksB_length, HN.out]) i hi
  obtain ⟨A, HA⟩ := nm w1.heap.size
  rw [HA.out] at hA0 hE0 hb2 hs2 hg2 ⊢
  have HCO := Lib.hid (fun (W : World) (hW : Below A w1 W) i hi => (show W.cell? ⟨g, i, none⟩ = some (.int .u8 (((xs ++ marksB 12)[i]?.getD 0 : Nat) : Int)) from cell_keep hW (hco i hi) hg2))
  have HOW := Lib.hid (fun (W : World) (hW : Below A w1 W) => lentB_reads HN.out HC.out.1 HC.out.2 (HCO.out W hW))
  have HAX := Lib.hid (show w.heap.size ≤ A by rw [← HA.out]; exact HB1.out.size)
  have HV1 := Lib.hid (fun (W : World) (hW : Below A w1 W) => HV.out.keep (HB1.out.trans (hW.mono HAX.out)) (Nat.le_refl _))
  have HVO1 := Lib.hid (fun (W : World) (hW : Below A w1 W) => HVO.out.keep (HB1.out.trans (hW.mono HAX.out)) (Nat.le_refl _))
  have HXA0 := Lib.hid hA0
  have HXE0 := Lib.hid hE0
  have HXB0 := Lib.hid hb2
  have HXS0 := Lib.hid (Nat.le_of_eq hs2.symm)
  clear hA0 hE0 hb2 hs2 hco HQ0
  have hgv := D0.out _ q0 (HOW.out q0 HXB0.out)
  refine Calls.mono hgv ?_
  clear hgv
  rintro e p0 ⟨v0, rfl, ho, hb⟩
  obtain ⟨a0, m0, c0, rfl, -⟩ := ho.slice
  have hA := (hb.block A (by have := HXS0.out; omega)).trans HXA0.out
  have hE := (hb.block (A + 1) (by have := HXS0.out; omega)).trans HXE0.out
  obtain ⟨s1, s2, s3, s4, s5⟩ := arr_step (k := 0) (.slice a0 m0 c0) (.int .i64 E0) hA hE
  obtain ⟨x1, x2⟩ := arr_cell hA (i := 0) rfl
  obtain ⟨x3, x4⟩ := arr_cell hE (i := 0) rfl
  have y0 := Lib.hid (ho.same (fun b hbb => s5 b (Nat.le_trans HXS0.out hbb)))
  have z0 := Lib.hid (show ∀ b, (Value.slice a0 m0 c0).ownBlock = some b → q0.heap.size ≤ b ∧ b < p0.heap.size from fun b hb' => owns_block ho b hb')
  have HXB1 := Lib.hid ((HXB0.out.trans (hb.mono (Nat.le_trans (by omega) HXS0.out))).trans s4)
  have hs : q0.heap.size ≤ p0.heap.size := hb.size
  have HXA1 := Lib.hid (show _ = some (Obj.cells #[.slice a0 m0 c0, .slice none 0 0, .slice none 0 0, .slice none 0 0] 70 (0, 0)) from s1)
  have HXE1 := Lib.hid (show _ = some (Obj.cells #[.int .i64 E0, .int .i64 0, .int .i64 0, .int .i64 0] 71 (0, 0)) from s2)
  have HZ0 := Lib.hid s3
  have HXS1 := Lib.hid (show A + 2 ≤ _ from Nat.le_trans (Nat.le_trans HXS0.out hs) (Nat.le_of_eq s3.symm))
  have HS0 := Lib.hid hs
  clear ho hb hA hE s1 s2 s3 s4 s5 hs HXA0 HXE0
  go_wp2_with fail
  clear x1 x2 x3 x4
  obtain ⟨q1, HQ⟩ := nm ((p0.setCell ⟨A, 0, none⟩ (.slice a0 m0 c0)).setCell ⟨A + 1, 0, none⟩ (.int .i64 E0))
  rw [HQ.out] at HXA1 HXE1 HXB1 HXS1 HZ0 y0 ⊢
  clear HQ
  have hgv := D1.out _ q1 (HOW.out q1 HXB1.out)
  refine Calls.mono hgv ?_
  clear hgv
  rintro e p1 ⟨v1, rfl, ho, hb⟩
  obtain ⟨a1, m1, c1, rfl, -⟩ := ho.slice
  have hA := (hb.block A (by have := HXS1.out; omega)).trans HXA1.out
  have hE := (hb.block (A + 1) (by have := HXS1.out; omega)).trans HXE1.out
  obtain ⟨s1, s2, s3, s4, s5⟩ := arr_step (k := 1) (.slice a1 m1 c1) (.int .i64 E1) hA hE
  obtain ⟨x1, x2⟩ := arr_cell hA (i := 1) rfl
  obtain ⟨x3, x4⟩ := arr_cell hE (i := 1) rfl
  have y1 := Lib.hid (ho.same (fun b hbb => s5 b (Nat.le_trans HXS1.out hbb)))
  have z1 := Lib.hid (show ∀ b, (Value.slice a1 m1 c1).ownBlock = some b → q1.heap.size ≤ b ∧ b < p1.heap.size from fun b hb' => owns_block ho b hb')
  have HXB2 := Lib.hid ((HXB1.out.trans (hb.mono (Nat.le_trans (by omega) HXS1.out))).trans s4)
  have hs : q1.heap.size ≤ p1.heap.size := hb.size
  have y0' := Lib.hid ((y0.out.keep hb (Nat.le_refl _)).same (fun b hbb => s5 b (Nat.le_trans HXS0.out hbb)))
  clear y0
  have y0 := Lib.hid y0'.out
  clear y0'
  have HXA2 := Lib.hid (show _ = some (Obj.cells #[.slice a0 m0 c0, .slice a1 m1 c1, .slice none 0 0, .slice none 0 0] 70 (0, 0)) from s1)
  have HXE2 := Lib.hid (show _ = some (Obj.cells #[.int .i64 E0, .int .i64 E1, .int .i64 0, .int .i64 0] 71 (0, 0)) from s2)
  have HZ1 := Lib.hid s3
  have HXS2 := Lib.hid (show A + 2 ≤ _ from Nat.le_trans (Nat.le_trans HXS1.out hs) (Nat.le_of_eq s3.symm))
  have HS1 := Lib.hid hs
  clear ho hb hA hE s1 s2 s3 s4 s5 hs HXA1 HXE1
  go_wp2_with fail
  clear x1 x2 x3 x4
  obtain ⟨q2, HQ⟩ := nm ((p1.setCell ⟨A, 1, none⟩ (.slice a1 m1 c1)).setCell ⟨A + 1, 1, none⟩ (.int .i64 E1))
  rw [HQ.out] at HXA2 HXE2 HXB2 HXS2 HZ1 y0 y1 ⊢
  clear HQ
  have hgv := D2.out _ q2 (HOW.out q2 HXB2.out)
  refine Calls.mono hgv ?_
  clear hgv
  rintro e p2 ⟨v2, rfl, ho, hb⟩
  obtain ⟨a2, m2, c2, rfl, -⟩ := ho.slice
  have hA := (hb.block A (by have := HXS2.out; omega)).trans HXA2.out
  have hE := (hb.block (A + 1) (by have := HXS2.out; omega)).trans HXE2.out
  obtain ⟨s1, s2, s3, s4, s5⟩ := arr_step (k := 2) (.slice a2 m2 c2) (.int .i64 E2) hA hE
  obtain ⟨x1, x2⟩ := arr_cell hA (i := 2) rfl
  obtain ⟨x3, x4⟩ := arr_cell hE (i := 2) rfl
  have y2 := Lib.hid (ho.same (fun b hbb => s5 b (Nat.le_trans HXS2.out hbb)))
  have z2 := Lib.hid (show ∀ b, (Value.slice a2 m2 c2).ownBlock = some b → q2.heap.size ≤ b ∧ b < p2.heap.size from fun b hb' => owns_block ho b hb')
  have HXB3 := Lib.hid ((HXB2.out.trans (hb.mono (Nat.le_trans (by omega) HXS2.out))).trans s4)
  have hs : q2.heap.size ≤ p2.heap.size := hb.size
  have y0' := Lib.hid ((y0.out.keep hb (Nat.le_refl _)).same (fun b hbb => s5 b (Nat.le_trans HXS0.out hbb)))
  clear y0
  have y0 := Lib.hid y0'.out
  clear y0'
  have y1' := Lib.hid ((y1.out.keep hb (Nat.le_refl _)).same (fun b hbb => s5 b (Nat.le_trans HXS1.out hbb)))
  clear y1
  have y1 := Lib.hid y1'.out
  clear y1'
  have HXA3 := Lib.hid (show _ = some (Obj.cells #[.slice a0 m0 c0, .slice a1 m1 c1, .slice a2 m2 c2, .slice none 0 0] 70 (0, 0)) from s1)
  have HXE3 := Lib.hid (show _ = some (Obj.cells #[.int .i64 E0, .int .i64 E1, .int .i64 E2, .int .i64 0] 71 (0, 0)) from s2)
  have HZ2 := Lib.hid s3
  have HXS3 := Lib.hid (show A + 2 ≤ _ from Nat.le_trans (Nat.le_trans HXS2.out hs) (Nat.le_of_eq s3.symm))
  have HS2 := Lib.hid hs
  clear ho hb hA hE s1 s2 s3 s4 s5 hs HXA2 HXE2
  go_wp2_with fail
  clear x1 x2 x3 x4
  obtain ⟨q3, HQ⟩ := nm ((p2.setCell ⟨A, 2, none⟩ (.slice a2 m2 c2)).setCell ⟨A + 1, 2, none⟩ (.int .i64 E2))
  rw [HQ.out] at HXA3 HXE3 HXB3 HXS3 HZ2 y0 y1 y2 ⊢
  clear HQ
  have hgv := D3.out _ q3 (HOW.out q3 HXB3.out)
  refine Calls.mono hgv ?_
  clear hgv
  rintro e p3 ⟨v3, rfl, ho, hb⟩
  obtain ⟨a3, m3, c3, rfl, -⟩ := ho.slice
  have hA := (hb.block A (by have := HXS3.out; omega)).trans HXA3.out
  have hE := (hb.block (A + 1) (by have := HXS3.out; omega)).trans HXE3.out
  obtain ⟨s1, s2, s3, s4, s5⟩ := arr_step (k := 3) (.slice a3 m3 c3) (.int .i64 E3) hA hE
  obtain ⟨x1, x2⟩ := arr_cell hA (i := 3) rfl
  obtain ⟨x3, x4⟩ := arr_cell hE (i := 3) rfl
  have y3 := Lib.hid (ho.same (fun b hbb => s5 b (Nat.le_trans HXS3.out hbb)))
  have z3 := Lib.hid (show ∀ b, (Value.slice a3 m3 c3).ownBlock = some b → q3.heap.size ≤ b ∧ b < p3.heap.size from fun b hb' => owns_block ho b hb')
  have HXB4 := Lib.hid ((HXB3.out.trans (hb.mono (Nat.le_trans (by omega) HXS3.out))).trans s4)
  have hs : q3.heap.size ≤ p3.heap.size := hb.size
  have y0' := Lib.hid ((y0.out.keep hb (Nat.le_refl _)).same (fun b hbb => s5 b (Nat.le_trans HXS0.out hbb)))
  clear y0
  have y0 := Lib.hid y0'.out
  clear y0'
  have y1' := Lib.hid ((y1.out.keep hb (Nat.le_refl _)).same (fun b hbb => s5 b (Nat.le_trans HXS1.out hbb)))
  clear y1
  have y1 := Lib.hid y1'.out
  clear y1'
  have y2' := Lib.hid ((y2.out.keep hb (Nat.le_refl _)).same (fun b hbb => s5 b (Nat.le_trans HXS2.out hbb)))
  clear y2
  have y2 := Lib.hid y2'.out
  clear y2'
  have HXA4 := Lib.hid (show _ = some (Obj.cells #[.slice a0 m0 c0, .slice a1 m1 c1, .slice a2 m2 c2, .slice a3 m3 c3] 70 (0, 0)) from s1)
  have HXE4 := Lib.hid (show _ = some (Obj.cells #[.int .i64 E0, .int .i64 E1, .int .i64 E2, .int .i64 E3] 71 (0, 0)) from s2)
  have HZ3 := Lib.hid s3
  have HXS4 := Lib.hid (show A + 2 ≤ _ from Nat.le_trans (Nat.le_trans HXS3.out hs) (Nat.le_of_eq s3.symm))
  have HS3 := Lib.hid hs
  clear ho hb hA hE s1 s2 s3 s4 s5 hs HXA3 HXE3
  go_wp2_with fail
  clear x1 x2 x3 x4
  obtain ⟨q4, HQ⟩ := nm ((p3.setCell ⟨A, 3, none⟩ (.slice a3 m3 c3)).setCell ⟨A + 1, 3, none⟩ (.int .i64 E3))
  rw [HQ.out] at HXA4 HXE4 HXB4 HXS4 HZ3 y0 y1 y2 y3 ⊢
  clear HQ
  have HALL := Lib.hid (show ∀ j, j < 4 → ∃ a mm cc V E, q4.cell? ⟨A, j, none⟩ = some (.slice a mm cc) ∧ q4.cell? ⟨A + 1, j, none⟩ = some (.int .i64 E) ∧ Reads .u8 q4 (.slice a mm cc) V ∧ V.length < 700000 ∧
      (∀ v w, Reads .u8 w v xs → Gives 39 #[.int .i64 (j : Int), v, .int .i64 f, .int .i64 m, .int .i64 t] w V E) from fun j hj => by
    match j, hj with
    | 0, _ => exact ⟨_, _, _, V0, E0, (arr_cell HXA4.out (i := 0) rfl).1, (arr_cell HXE4.out (i := 0) rfl).1, y0.out.reads, HLL.out.1, R0.out⟩
    | 1, _ => exact ⟨_, _, _, V1, E1, (arr_cell HXA4.out (i := 1) rfl).1, (arr_cell HXE4.out (i := 1) rfl).1, y1.out.reads, HLL.out.2.1, R1.out⟩
    | 2, _ => exact ⟨_, _, _, V2, E2, (arr_cell HXA4.out (i := 2) rfl).1, (arr_cell HXE4.out (i := 2) rfl).1, y2.out.reads, HLL.out.2.2.1, R2.out⟩
    | 3, _ => exact ⟨_, _, _, V3, E3, (arr_cell HXA4.out (i := 3) rfl).1, (arr_cell HXE4.out (i := 3) rfl).1, y3.out.reads, HLL.out.2.2.2, R3.out⟩)
  have HOUT := Lib.hid (And.intro (arr_cell HXA4.out (i := 0) rfl).1 (And.intro (arr_cell HXA4.out (i := 1) rfl).1 (And.intro (arr_cell HXA4.out (i := 2) rfl).1 (arr_cell HXA4.out (i := 3) rfl).1)))
  clear R0 R1 R2 R3 D0 D1 D2 D3 HXA4 HXE4
  go_loopw [68] (fun vj wr => ∃ j : Nat, j ≤ 4 ∧ vj = .int .i64 (j : Int) ∧ Below q4.heap.size q4 wr) (fun vj _ => 4 - (intOf vj).toNat)
  case atStart => exact ⟨0, Nat.zero_le _, rfl, bel_refl _⟩
  case round =>
    obtain ⟨j, hj, rfl, hB⟩ := hrel
    by_cases hlt : j < 4
    · obtain ⟨a, mm, cc, V, E, cA, cE, hrd, hVl, hg⟩ := HALL.out j hlt
      have cA2 := cell_keep hB cA (cell_lt cA)
      have cE2 := cell_keep hB cE (cell_lt cE)
      have hj1 : (j : Int) < 4 := by omega
      have HG := Lib.hid (hg _ wr (HV1.out wr (HXB4.out.trans (hB.mono (Nat.le_trans (by omega) HXS4.out)))))
      have HRD := Lib.hid (hrd.keep hB (Nat.le_refl _))
      have HVL := Lib.hid hVl
      have HBJ := Lib.hid hB
      clear hB hrd hVl hg cA cE
      go_wp2_with fail
      refine Calls.mono HG.out ?_
      rintro e w5 ⟨v5, rfl, ho5, hb5⟩
      have cA := cell_keep hb5 cA2 (cell_lt cA2)
      have hsm := sameBytes_any _ v5 _ _ w5 (HRD.out.keep hb5 (Nat.le_refl _)) ho5.reads (by have := HVL.out; omega)
      rw [decide_eq_true rfl] at hsm
      have HSM := Lib.hid hsm
      have HB5 := Lib.hid hb5
      clear hsm ho5 cA2
      go_wp2_with fail
      refine HSM.out.mono ?_
      rintro e w6 ⟨rfl, hb6⟩
      have HB6 := Lib.hid (HB5.out.trans (hb6.mono HB5.out.size))
      have cE := cell_keep HB6.out cE2 (cell_lt cE2)
      clear hb6 cE2 hb5
      go_wp2_with fail
      go_roundw
      case rel => exact ⟨j + 1, by omega, by go_num, gr_trans HBJ.out HB6.out⟩
      case measure => simp [intOf]; omega
    · obtain rfl : j = 4 := by omega
      rw [show ((4 : Nat) : Int) = 4 from rfl]
      have HBJ := Lib.hid (HXB4.out.trans (hB.mono (Nat.le_trans (by omega) HXS4.out)))
      have HBq := Lib.hid hB
      clear hB
      go_wp2_with fail
      refine (ends_any _ _ xs ys _ (HOW.out _ HBJ.out) (HVO1.out _ HBJ.out) (by have := HN.out; have := HBIG.out; omega) (by have := HNO.out; have := HBIG2.out; omega)).mono ?_
      rintro e w5 ⟨rfl, hb5⟩
      have HB5q := Lib.hid (gr_trans HBq.out hb5)
      have HB5 := Lib.hid (HXB4.out.trans (HB5q.out.mono (Nat.le_trans (by omega) HXS4.out)))
      clear hb5
      go_wp2_with fail
      refine (rends_any _ _ xs ys _ (HV1.out _ HB5.out) (HVO1.out _ HB5.out) (by have := HN.out; have := HBIG.out; omega) (by have := HNO.out; have := HBIG2.out; omega)).mono ?_
      rintro e w6 ⟨rfl, hb6⟩
      have HB6q := Lib.hid (gr_trans HB5q.out hb6)
      have HB6 := Lib.hid (HXB4.out.trans (HB6q.out.mono (Nat.le_trans (by omega) HXS4.out)))
      clear hb6
      go_wp2_with fail
      refine (keptBytes_any g n c _ xs w6 HN.out HC.out.1 HC.out.2 (HCO.out w6 HB6.out) (HV1.out w6 HB6.out) (by have := HBIG.out; omega)).mono ?_
      rintro e w7 ⟨rfl, hb7⟩
      have HB7q := Lib.hid (gr_trans HB6q.out hb7)
      obtain ⟨o0, o1, o2, o3⟩ := HOUT.out
      have u0 := cell_keep HB7q.out o0 (cell_lt o0)
      have u1 := cell_keep HB7q.out o1 (cell_lt o1)
      have u2 := cell_keep HB7q.out o2 (cell_lt o2)
      have u3 := cell_keep HB7q.out o3 (cell_lt o3)
      have HB7 := Lib.hid (HXB4.out.trans (HB7q.out.mono (Nat.le_trans (by omega) HXS4.out)))
      clear hb7 o0 o1 o2 o3
      go_wp2_with fail
      clear u0 u1 u2 u3
      obtain ⟨S, hSd⟩ : ∃ S : Nat → Value, S = fun j => match j with
        | 0 => .slice (some ⟨g, 0, none⟩) n c
        | 1 => .slice a0 m0 c0
        | 2 => .slice a1 m1 c1
        | 3 => .slice a2 m2 c2
        | 4 => .slice a3 m3 c3
        | _ => .slice none 0 0 := ⟨_, rfl⟩
      obtain ⟨L, hLd⟩ : ∃ L : Nat → List Nat, L = fun j => match j with
        | 0 => xs
        | 1 => V0
        | 2 => V1
        | 3 => V2
        | 4 => V3
        | _ => [] := ⟨_, rfl⟩
      obtain ⟨lo, hlo⟩ : ∃ lo : Nat → Nat, lo = fun j => match j with
        | 0 => w.heap.size
        | 1 => q0.heap.size
        | 2 => q1.heap.size
        | 3 => q2.heap.size
        | 4 => q3.heap.size
        | _ => p3.heap.size := ⟨_, rfl⟩
      have hdis : Dis 5 S := by
        refine dis_of lo (fun j hj b hb => ?_) (fun j => ?_)
        · subst hSd hlo
          match j, hj with
          | 0, _ =>
            obtain rfl : g = b := by simpa [Value.ownBlock] using hb
            exact ⟨hg1, show g < q0.heap.size by have := HXS0.out; omega⟩
          | 1, _ => exact ⟨(z0.out b hb).1, show b < q1.heap.size by have := (z0.out b hb).2; have := HZ0.out; omega⟩
          | 2, _ => exact ⟨(z1.out b hb).1, show b < q2.heap.size by have := (z1.out b hb).2; have := HZ1.out; omega⟩
          | 3, _ => exact ⟨(z2.out b hb).1, show b < q3.heap.size by have := (z2.out b hb).2; have := HZ2.out; omega⟩
          | 4, _ => exact ⟨(z3.out b hb).1, (z3.out b hb).2⟩
        · subst hlo
          match j with
          | 0 => show w.heap.size ≤ q0.heap.size; have := HXS0.out; have := HAX.out; omega
          | 1 => show q0.heap.size ≤ q1.heap.size; have := HZ0.out; have := HS0.out; omega
          | 2 => show q1.heap.size ≤ q2.heap.size; have := HZ1.out; have := HS1.out; omega
          | 3 => show q2.heap.size ≤ q3.heap.size; have := HZ2.out; have := HS2.out; omega
          | 4 => exact HS3.out
          | (_ + 5) => exact Nat.le_refl _
      have hcel : ∀ j, j < 5 → (w7.alloc (.cells #[.slice (some ⟨g, 0, none⟩) n c, .slice a0 m0 c0, .slice a1 m1 c1, .slice a2 m2 c2, .slice a3 m3 c3] 22)).cell? ⟨w7.heap.size, j, none⟩ = some (S j) := fun j hj => by
        subst hSd
        match j, hj with
        | 0, _ => exact (arr_cell (heap_alloc_new w7 _) rfl).1
        | 1, _ => exact (arr_cell (heap_alloc_new w7 _) rfl).1
        | 2, _ => exact (arr_cell (heap_alloc_new w7 _) rfl).1
        | 3, _ => exact (arr_cell (heap_alloc_new w7 _) rfl).1
        | 4, _ => exact (arr_cell (heap_alloc_new w7 _) rfl).1
      have hx : ∀ (o : Obj) {base : Nat} {v : Value} {X : List Nat}, Owns .u8 5 q4 base v X → w.heap.size ≤ base → Owns .u8 5 (w7.alloc o) w.heap.size v X := fun o _ _ _ h hb => Owns.mono (World.ownsRow.alloc (h.keep HB7q.out (Nat.le_refl _)) o) hb
      have hxs := HXS0.out
      have hax := HAX.out
      have hs0 := HS0.out
      have hs1 := HS1.out
      have hs2 := HS2.out
      have hz0 := HZ0.out
      have hz1 := HZ1.out
      have hz2 := HZ2.out
      have hown : ∀ j, j < 5 → Owns .u8 5 (w7.alloc (.cells #[.slice (some ⟨g, 0, none⟩) n c, .slice a0 m0 c0, .slice a1 m1 c1, .slice a2 m2 c2, .slice a3 m3 c3] 22)) w.heap.size (S j) (L j) := fun j hj => by
        subst hSd hLd
        match j, hj with
        | 0, _ =>
          have h1 := HO1.out.keep HB7.out (by rw [HA.out]; exact Nat.le_refl _)
          exact World.ownsRow.alloc (owns_pre h1 HN.out (marksB_length 12)) _
        | 1, _ => exact hx _ y0.out (by omega)
        | 2, _ => exact hx _ y1.out (by omega)
        | 3, _ => exact hx _ y2.out (by omega)
        | 4, _ => exact hx _ y3.out (by omega)
      have hM2 : ∀ j, (L j).length < 800000 := fun j => by
        subst hLd
        have h1 := HLL.out
        match j with
        | 0 => show xs.length < 800000; have := HN.out; have := HBIG.out; omega
        | 1 => show V0.length < 800000; omega
        | 2 => show V1.length < 800000; omega
        | 3 => show V2.length < 800000; omega
        | 4 => show V3.length < 800000; omega
        | (_ + 5) => show ([] : List Nat).length < 800000; decide
      have hsz : w.heap.size ≤ w7.heap.size := Nat.le_trans HB1.out.size HB7.out.size
      have HAP := Lib.hid (apartBytes_any w7.heap.size 5 5 S L (fun j => (L j).length) (w7.alloc (.cells #[.slice (some ⟨g, 0, none⟩) n c, .slice a0 m0 c0, .slice a1 m1 c1, .slice a2 m2 c2, .slice a3 m3 c3] 22)) w.heap.size (by decide) (by decide) (by decide) (by decide) (fun _ => rfl) hM2 hcel hown hdis (by simp; omega))
      have HBF := Lib.hid ((HB1.out.trans (HB7.out.mono HAX.out)).alloc hsz (.cells #[.slice (some ⟨g, 0, none⟩) n c, .slice a0 m0 c0, .slice a1 m1 c1, .slice a2 m2 c2, .slice a3 m3 c3] 22))
      clear hcel hown hdis hM2 hx hSd hLd hlo hxs hax hs0 hs1 hs2 hz0 hz1 hz2 hsz
      refine HAP.out.mono ?_
      rintro e w9 ⟨rfl, hb9⟩
      have HB9 := Lib.hid (HBF.out.trans hb9)
      clear hb9
      go_wp2_with fail
      go_ret
      exact ⟨rfl, HB9.out⟩
end Go.Proofs.YtmjigpnpcacefaaGreatDoor

