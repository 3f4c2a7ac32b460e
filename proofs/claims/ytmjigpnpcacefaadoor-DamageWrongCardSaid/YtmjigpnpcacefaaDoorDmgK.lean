/- The walk of damage.Between. -/
import Derived.Test.YtmjigpnpcacefaaDoorDmgI
import Derived.Test.YtmjigpnpcacefaaDoorColl
namespace Go.Proofs.YtmjigpnpcacefaaDoor
open Go Go.RowKit Go.Shelf
attribute [local go_sem] Oper.semAt_some
attribute [local go_sem] wide_fn

theorem boxK_trans {n B1 B2 : Nat} {W W' W'' : World} (h : boxK n B1 B2 W W') (k : boxK n B1 B2 W' W'') : boxK n B1 B2 W W'' := ⟨k.1.trans h.1, k.2.1.trans h.2.1, h.2.2.trans k.2.2⟩
theorem boxK_b {n B1 B2 : Nat} {w : World} (hn : n ≤ w.heap.size) (h1 : B1 < w.heap.size) (h2 : B2 < w.heap.size) (W : World) (l : Nat) (o o' : Obj) (hl : w.heap.size ≤ l) (h : W.heap[l]? = some o) (hc : o.isCells = false) (hw : o.isWalk = false) : boxK n B1 B2 W (W.putObj l o') := by
  have hb := belowK_b (Nat.le_refl w.heap.size) W l o o' hl h hc hw
  exact ⟨hb.cell (p := ⟨B1, 0, none⟩) h1, hb.cell (p := ⟨B2, 0, none⟩) h2, hb.mono hn⟩
def betweenV (xs ys : List Nat) : List Int := if xs.length = ys.length then (diffTo xs ys (8 * xs.length)).map fun (x : Nat) => (x : Int) else []
def betweenE (xs ys : List Nat) : Int := if xs.length = ys.length then 0 else 2

set_option maxRecDepth 100000 in
set_option maxHeartbeats 4000000 in
theorem between_any (va vb : Value) (xs ys : List Nat) (w : World) (ha : Reads .u8 w va xs) (hb : Reads .u8 w vb ys) (hxl : xs.length < 400000) (_hyl : ys.length < 400000) (hxs : ∀ i : Nat, xs[i]?.getD 0 < 256) (hys : ∀ i : Nat, ys[i]?.getD 0 < 256) :
    Calls Tryd.prog 14 #[va, vb] w fun e w' => (∃ v, e = .returned (.tuple #[v, .int .i64 (betweenE xs ys)]) ∧ OwnsI .i64 3 w' w.heap.size v (betweenV xs ys)) ∧ Below w.heap.size w w' := by
  have ha0 := ha
  have hb0 := hb
  obtain ⟨aa, ca, rfl, hlca, hcma, hcsa⟩ := ha
  obtain ⟨ab, cb, rfl, hlcb, hcmb, hcsb⟩ := hb
  clear hcsa hcsb
  by_cases hne : xs.length = ys.length
  · have hbV : betweenV xs ys = (diffTo xs ys (8 * xs.length)).map fun (x : Nat) => (x : Int) := if_pos hne
    have hbE : betweenE xs ys = 0 := if_pos hne
    have HV := Lib.hid hbV
    have HE := Lib.hid hbE
    have hst := fun w1 (h1 : Below w.heap.size w w1) h2 h3 => differing_stops 5 (by omega) (w.heap.size + 1) (w.heap.size + 2) xs ys _ _ hxl hne.symm hxs hys w w1 h1 ha0 hb0 h2 h3
    have HST := Lib.hid hst
    have hdl : ∀ m, (diffTo xs ys m).length ≤ m := diffTo_le xs ys
    rw [← hne] at hlcb
    obtain ⟨n, HN⟩ := nm xs.length
    have HNE := Lib.hid (hne.symm.trans HN.out)
    rw [HN.out] at hlca hlcb hxl
    clear hbV hbE hst hne ha0 hb0 _hyl
    refine (callsIn_wide (n := 6)).1 ?_
    have h6 : 1 ≤ 6 := by omega
    rw [HN.out, HNE.out]
    refine callsIn_of_wp_marks Tryd.func14 rfl trivial ?_ rfl
    simp only [Tryd.ntmps14, List.size_toArray, List.length_cons, List.length_nil, Nat.reduceAdd, Nat.reduceSub, Array.replicate_succ, Array.replicate_zero, List.push_toArray, List.append_toArray, List.nil_append, List.cons_append]
    refine wpIn_wide.2 ?_
    go_wp2_with fail
    refine (differing_any aa ab n ca n cb _).mono ?_
    rintro e w1 ⟨rfl, rfl⟩
    go_wp2_with fail
    have hs := cell_new_l w (.slice none 0 0) 25
    have hb1 := cell_new_l (w.alloc (.cells #[.slice none 0 0] 25)) (.slice aa n ca) 28
    rw [World.size_alloc] at hb1
    have hb1' := cell_alloc_l (.cells #[.slice ab n cb] 28) hb1.1
    have hb2 := cell_new_l ((w.alloc (.cells #[.slice none 0 0] 25)).alloc (.cells #[.slice aa n ca] 28)) (.slice ab n cb) 28
    rw [World.size_alloc, World.size_alloc] at hb2
    have hB3 : Below w.heap.size w (((w.alloc (.cells #[.slice none 0 0] 25)).alloc (.cells #[.slice aa n ca] 28)).alloc (.cells #[.slice ab n cb] 28)) := (((Below.refl _ w).alloc (Nat.le_refl _) _).alloc (by simp) _).alloc (by simp; omega) _
    have cO := cell_alloc_l (.cells #[.slice ab n cb] 28) (cell_alloc_l (.cells #[.slice aa n ca] 28) hs.1)
    have fO := frozen_alloc_l (.cells #[.slice ab n cb] 28) (cell_alloc_l (.cells #[.slice aa n ca] 28) hs.1) (frozen_alloc_l (.cells #[.slice aa n ca] 28) hs.1 hs.2)
    refine (wpIn_wide (n := 6)).1 ?_
    have hst := HST.out _ hB3 (by rw [HN.out]; exact hb1') (by rw [HNE.out]; exact hb2.1)
    refine wpIn_rangeFunc_ownF rfl h6 (gf := 59) (lb := #[.pointer (some ⟨w.heap.size + 1, 0, none⟩), .pointer (some ⟨w.heap.size + 2, 0, none⟩)]) rfl trivial (enters_of Tryd.func59 (by kernel_rfl) rfl)
      hst (fun h k => boxK_trans h k) (fun W l o o' hl ho _ _ => boxK_b (by simp; omega) (by simp) (by simp) W l o o' hl ho ‹_› ‹_›) (Below.refl _ _) (fun _ => rfl)
      (fun (pre : List Nat) W => (∃ v, W.cell? ⟨w.heap.size, 0, none⟩ = some v ∧ W.frozen? ⟨w.heap.size, 0, none⟩ = false ∧ OwnsI .i64 3 W (w.heap.size + 3) v (pre.map fun (x : Nat) => (x : Int)) ∧ w.heap.size + 3 ≤ W.heap.size) ∧ Below w.heap.size w W)
      (fun _ _ _ => False)
      (OwnFrom.and (Own.from (fun s A B row hs hg hr => by
        obtain ⟨v, h1, h2, h3, h4⟩ := hs
        refine ⟨v, cell_kept h1 hg hr, (frozen_kept h1 hg hr).trans h2, World.ownsRow.kept h3 hg ?_, Nat.le_trans h4 hg.size⟩
        exact ownsRow_ne h3 hr) _) (ownFrom_below (Nat.le_refl _) (by simp; omega)))
      (fun c => fun s A B row hs hg hr => hs)
      ⟨⟨.slice none 0 0, cO, fO, World.ownsRow_nil _ _ _ _, by simp⟩, hB3⟩
      (fun x => { tmps := #[.slice aa n ca, .slice ab n cb, undef, undef, .slice none 0 0, .int .i64 0, .pointer (some ⟨w.heap.size, 0, none⟩), .int .i64 (x : Int), .slice aa n ca, .int .i64 n, .slice ab n cb, .int .i64 n, .bool false, .slice aa n ca, .slice ab n cb, .func (.func 59) #[] #[.pointer (some ⟨w.heap.size + 1, 0, none⟩), .pointer (some ⟨w.heap.size + 2, 0, none⟩)], .int .i64 (x : Int), undef, undef, undef, undef, undef], defers := [] }) ?assign ?body ?done ?stop
    case assign =>
      intro l x W K hK
      gi_wp2
      exact hK
    case body =>
      rintro l pre x W ⟨⟨v, hcv, hfv, hown, hsz⟩, hB⟩ hlen
      clear hs hb1 hb1' hb2 hB3 cO fO hst
      obtain ⟨a1, n1, k1, rfl⟩ := ownsRow_slice hown
      have hpl : pre.length < 17592186044414 := by have := HN.out; omega
      gi_wp2_with (gi_at_builtin; apply stop_here)
      unfold StopHere
      refine wpListIn_app1I rfl (.tmp 17) (.tmp 19) 25 rfl .i64 3 8 Tryd.underlying25 info_int (by decide) (w.heap.size + 3) _ _ W hown rfl (x : Int) rfl (by rw [List.length_map]; exact hpl) hsz ?_
      intro v2 W2 ho2 hbw hk2
      obtain ⟨a2, n2, k2, rfl⟩ := ownsRow_slice ho2
      have c2 := cell_keep hbw hcv (by show w.heap.size < _; omega)
      have f2 : W2.frozen? ⟨w.heap.size, 0, none⟩ = false := (hbw.frozen (p := ⟨w.heap.size, 0, none⟩) (by show w.heap.size < _; omega)).trans hfv
      have hsz2 := hbw.size
      have ho3 : OwnsI .i64 3 W2 (w.heap.size + 3) (.slice a2 n2 k2) ((pre ++ [x]).map fun (x : Nat) => (x : Int)) := by simpa using ho2
      have fin : KeepsOthers W (W2.setCell ⟨w.heap.size, 0, none⟩ (.slice a2 n2 k2)) ∧ boxK w.heap.size (w.heap.size + 1) (w.heap.size + 2) W (W2.setCell ⟨w.heap.size, 0, none⟩ (.slice a2 n2 k2)) ∧
          (∃ v, (W2.setCell ⟨w.heap.size, 0, none⟩ (.slice a2 n2 k2)).cell? ⟨w.heap.size, 0, none⟩ = some v ∧ (W2.setCell ⟨w.heap.size, 0, none⟩ (.slice a2 n2 k2)).frozen? ⟨w.heap.size, 0, none⟩ = false ∧ OwnsI .i64 3 (W2.setCell ⟨w.heap.size, 0, none⟩ (.slice a2 n2 k2)) (w.heap.size + 3) v ((pre ++ [x]).map fun (x : Nat) => (x : Int)) ∧ w.heap.size + 3 ≤ (W2.setCell ⟨w.heap.size, 0, none⟩ (.slice a2 n2 k2)).heap.size) ∧ Below w.heap.size w (W2.setCell ⟨w.heap.size, 0, none⟩ (.slice a2 n2 k2)) := by
        refine ⟨hk2.trans (KeepsOthers.setCell _ _ _), ⟨(World.cell?_setCell_other _ _ _ _ (by simp)).trans (hbw.cell (p := ⟨w.heap.size + 1, 0, none⟩) (by show w.heap.size + 1 < _; omega)), (World.cell?_setCell_other _ _ _ _ (by simp)).trans (hbw.cell (p := ⟨w.heap.size + 2, 0, none⟩) (by show w.heap.size + 2 < _; omega)), (hbw.mono (show w.heap.size ≤ w.heap.size + 3 by omega)).setCell (p := ⟨w.heap.size, 0, none⟩) (Nat.le_refl _) _⟩,
          ⟨_, World.cell?_setCell_same' _ _ _ (by rw [c2]; rfl), (World.frozen?_setCell _ _ _ _).trans f2, ?_, by simp; omega⟩, (hB.trans (hbw.mono (show w.heap.size ≤ w.heap.size + 3 by omega))).setCell (p := ⟨w.heap.size, 0, none⟩) (Nat.le_refl _) _⟩
        exact ownsI_other ho3 (fun j hj => by have := (World.ownsRow.lt ho3 j hj).1; omega)
      clear ho2 ho3 hown hk2 hbw
      gi_wp2_with fail
      exact fin
    case done =>
      rintro D zs W hD rfl ⟨⟨v, hcv, hfv, hown, hsz⟩, hB⟩ hK
      clear hs hb1 hb1' hb2 hB3 cO fO hst
      obtain ⟨a1, n1, k1, rfl⟩ := ownsRow_slice hown
      have ho4 : OwnsI .i64 3 (W.putObj D (.deferred none)) w.heap.size (.slice a1 n1 k1) ((diffTo xs ys (8 * xs.length)).map fun (x : Nat) => (x : Int)) :=
        OwnsI.mono (World.ownsRow.kept hown (grownBy_putObj' W D (.deferred none)) (ownsRow_ne hown (fun r e => by cases e; exact ⟨_, hK, rfl⟩))) (by omega)
      have HO := Lib.hid ho4
      clear hown ho4
      go_wp2_with fail
      refine ⟨by simp, .inl ⟨_, _, rfl, run_takeDeferred hK, ?_⟩⟩
      refine ⟨.tuple #[.slice a1 n1 k1, .int .i64 0], ?_, ⟨⟨_, by rw [HE.out], by rw [HV.out]; exact HO.out⟩, hB.trans (belowK_b (w := w) (Nat.le_refl _) W D _ _ (by simp at hD; omega) hK rfl rfl)⟩⟩
      simp [results, Tryd.f14, go_sem]
    case stop =>
      rintro D c pre W hD hpre hF hK
      exact hF.elim
  · have hbV : betweenV xs ys = [] := if_neg hne
    have hbE : betweenE xs ys = 2 := if_neg hne
    rw [hbV, hbE]
    have hb' : ((xs.length : Int) == (ys.length : Int)) = false := beq_false_of_ne (by omega)
    obtain ⟨n, HN⟩ := nm xs.length
    obtain ⟨m, HM⟩ := nm ys.length
    rw [HN.out] at hlca hxl hne hb'
    rw [HM.out] at hlcb _hyl hne hb'
    rw [HN.out, HM.out]
    clear ha0 hb0 hbV hbE
    go_enter Tryd.func14, Tryd.ntmps14
    go_wp2_with fail
    go_ret2
    exact ⟨⟨_, rfl, OwnsI.nil _ _ _ _⟩, bel_refl _⟩
end Go.Proofs.YtmjigpnpcacefaaDoor
