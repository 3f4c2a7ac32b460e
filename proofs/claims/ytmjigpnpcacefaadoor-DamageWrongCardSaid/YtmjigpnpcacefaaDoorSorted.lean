/- Sorting numbers: the walks of slices.Values, slices.Sorted over it; slices.Sort and slices.Compact on a slice of the call's own. -/
import Derived.Test.YtmjigpnpcacefaaDoorColl
import Derived.Test.YtmjigpnpcacefaaDoorDmgE
import Derived.Test.YtmjigpnpcacefaaDoorShelfD
import Derived.Sort.OwnSortedInts
namespace Go.Proofs.YtmjigpnpcacefaaDoor
open Go Go.RowKit Go.Shelf
attribute [local go_sem] Oper.semAt_some
attribute [local go_sem] wide_fn

/-- The numbers in their order. -/
def srt (zs : List Int) : List Int := zs.mergeSort fun x y => decide (x ≤ y)
theorem srt_perm (zs : List Int) : (srt zs).Perm zs := List.mergeSort_perm _ _
theorem srt_length (zs : List Int) : (srt zs).length = zs.length := (srt_perm zs).length_eq
theorem srt_sorted (zs : List Int) : (srt zs).Pairwise (· ≤ ·) := by
  refine (List.pairwise_mergeSort (le := fun (x y : Int) => decide (x ≤ y)) ?_ ?_ zs).imp (fun h => of_decide_eq_true h)
  · intro a b c h1 h2
    have h1 := of_decide_eq_true h1
    have h2 := of_decide_eq_true h2
    exact decide_eq_true (by omega)
  · intro a b
    by_cases h : a ≤ b
    · simp [h]
    · simp [h]; omega

theorem sort_own {base : Nat} {v : Value} (zs : List Int) (hl : zs.length < 4611686018427387904) (w : World) (ho : OwnsI .i64 3 w base v zs) (hbw : base ≤ w.heap.size) :
    Calls Tryd.prog 61 #[v] w fun e w' => e = .returned (.tuple #[]) ∧ OwnsI .i64 3 w' base v (srt zs) ∧ Below base w w' := by
  rcases ho.2 with ⟨rfl, hz⟩ | ⟨gb, cap, cur, rfl, hbase, hgb, r1, r2, r3, r4⟩
  · refine (Tryd.slices_Sort_int_none none 0 w).mono ?_
    rintro e w' ⟨rfl, rfl⟩
    have : zs = [] := List.length_eq_zero_iff.1 hz
    subst this
    exact ⟨rfl, by rw [show srt [] = [] by simp [srt]]; exact ho, Below.refl _ _⟩
  · have hH : Go.Sort.Holds (Value.int .i64) w gb 0 zs.toArray := holds_of_blockI hgb (by simpa [valsI] using r4)
    refine (Tryd.slices_Sort_int gb 0 cap zs w hH (Array.getElem?_eq_some_iff.1 hgb).1 hl).mono ?_
    rintro e w' ⟨rfl, n, os, rfl⟩
    refine ⟨rfl, ?_, (Below.refl _ _).grown (grownBy_sortedI _) hbw (fun j hj => by cases hj; exact hbase)⟩
    have h := ownsRow_sortedI (w := w) (n := n) (os := os) (ss := zs) (ts := srt zs) (srt_length zs) hbase hgb r1 r2 (by simpa using r3)
    unfold OwnsI valsI
    rw [srt_length]
    exact h
theorem grow_empty (w : World) : Go.Sort.grow w #[] = w := by
  unfold Go.Sort.grow
  simp
theorem compact_own {base : Nat} {v : Value} (zs : List Int) (hl : zs.length < 4611686018427387904) (w : World) (ho : OwnsI .i64 3 w base v zs) (h0 : 0 < zs.length) (hbw : base ≤ w.heap.size) :
    Calls Tryd.prog 46 #[v] w fun e w' => ∃ a c, e = .returned (.slice a (Lib.compact zs).length c) ∧ Below base w w' := by
  rcases ho.2 with ⟨rfl, hz⟩ | ⟨gb, cap, cur, rfl, hbase, hgb, r1, r2, r3, r4⟩
  · omega
  · have hH : Go.Sort.Holds (Value.int .i64) w gb 0 zs.toArray := holds_of_blockI hgb (by simpa [valsI] using r4)
    refine (Tryd.slices_Compact_int gb 0 cap zs w hH (by omega) r1).mono ?_
    rintro e w' ⟨rfl, q, rfl⟩
    refine ⟨_, _, rfl, ?_⟩
    have h := grownBy_sortedI (w := w) (g := gb) (n := q) (os := #[]) (Lib.compact zs ++ List.replicate (zs.length - (Lib.compact zs).length) 0).toArray
    rw [grow_empty] at h
    exact (Below.refl _ _).grown h hbw (fun j hj => by cases hj; exact hbase)

theorem values_any (a : Option Addr) (n c : Nat) (w : World) :
    Calls Tryd.prog 45 #[.slice a n c] w fun e w' => e = .returned (.func (.func 62) #[] #[.pointer (some ⟨w.heap.size, 0, none⟩)]) ∧ w.alloc (.cells #[.slice a n c] 25) = w' := by
  go_enter Tryd.func45, Tryd.ntmps45
  go_wp2
  go_ret
  exact ⟨rfl, rfl⟩

set_option maxRecDepth 100000 in
set_option maxHeartbeats 2000000 in
theorem values_in (n : Nat) (hn : 1 ≤ n) (l Bs : Nat) (a : Option Addr) (c : Nat) (zs : List Int) (hl : zs.length < 1000000000) (W0 W : World) (J Jx : List Int → World → Prop) (hz : ReadsI .i64 W0 (.slice a zs.length c) zs)
    (hY : ∀ pre x W, J pre W → pre.length < zs.length → YieldAt Fence.wide (n - 1) Tryd.prog l #[.int .i64 x] W fun e W' =>
      (e = .returned (.bool true) ∧ J (pre ++ [x]) W' ∧ Below W0.heap.size W W') ∨ (e = .returned (.bool false) ∧ Jx (pre ++ [x]) W'))
    (hB : Below W0.heap.size W0 W) (hBs : W.cell? ⟨Bs, 0, none⟩ = some (.slice a zs.length c)) (h0 : J [] W) :
    CallsIn Fence.wide n Tryd.prog 62 #[.func (.yield l) #[] #[], .pointer (some ⟨Bs, 0, none⟩)] W fun e W' => (∃ v, e = .returned v) ∧
      ((∃ ys, ys = zs ∧ J ys W') ∨ (∃ pre, pre <+: zs ∧ Jx pre W')) := by
  obtain ⟨a', c', e, hcl, hcm, hcs⟩ := hz
  cases e
  obtain ⟨m, HM⟩ := nm zs.length
  rw [HM.out] at hl hcl hcs hBs hY
  refine callsIn_of_wp Tryd.func62 rfl trivial ?_ rfl
  simp only [Tryd.ntmps62, List.size_toArray, List.length_cons, List.length_nil, Nat.reduceAdd, Nat.reduceSub, Array.replicate_succ, Array.replicate_zero, List.push_toArray, List.append_toArray, List.nil_append, List.cons_append]
  have HY := Lib.hid hY
  clear hY
  gi_wp2
  gi_loopw [7] (fun i wr => ∃ k : Nat, k ≤ m ∧ i = .int .i64 k ∧ J (zs.take k) wr ∧ Below W0.heap.size W0 wr) (fun i _ => m - (intOf i).toNat)
  case atStart => exact ⟨0, Nat.zero_le _, rfl, by simpa using h0, hB⟩
  case round =>
    obtain ⟨k, hk, rfl, hJs, hnx⟩ := hrel
    by_cases hlt : k < m
    · obtain ⟨b, off, rfl, hcell⟩ := hcs.resolve_left (fun h => by omega)
      have hcx : wr.cell? ⟨b, off + k, none⟩ = some (.int .i64 (zs[k]?.getD 0)) := cell_keep hnx (hcell k hlt) (cell_lt (hcell k hlt))
      obtain ⟨fn, tmps, assign, body, hy, hR⟩ := HY.out _ (zs[k]?.getD 0) wr hJs (by rw [List.length_take]; omega)
      have htk := Lib.hid (take_get zs k (by rw [HM.out]; exact hlt))
      have HK := Lib.hid hcell
      clear hcell hcs
      gi_wp2
      refine hR.mono ?_
      rintro e W3 (⟨rfl, hJ3, hk3⟩ | ⟨rfl, hJx3⟩)
      · gi_wp2
        go_roundw
        case rel => exact ⟨k + 1, by omega, by simp, by rw [htk.out]; exact hJ3, hnx.trans hk3⟩
        case measure => simp [intOf]; omega
      · gi_wp2
        refine bodyPost_ret (results_none rfl _ _ _) rfl ?_
        exact ⟨⟨_, rfl⟩, .inr ⟨_, by rw [← htk.out]; exact List.take_prefix _ _, hJx3⟩⟩
    · obtain rfl : k = m := by omega
      have hall : zs.take k = zs := List.take_of_length_le (by rw [HM.out]; exact Nat.le_refl _)
      rw [hall] at hJs
      clear hall hcs
      gi_wp2
      go_end0
      exact ⟨⟨_, rfl⟩, .inl ⟨_, rfl, hJs⟩⟩

theorem values_stops (B n₁ : Nat) (a : Option Addr) (c : Nat) (zs : List Int) (hl : zs.length < 1000000000) (W0 w : World) (hz : ReadsI .i64 W0 (.slice a zs.length c) zs) (hB : Below W0.heap.size W0 w) (hn : W0.heap.size ≤ n₁) (hBs : w.cell? ⟨B, 0, none⟩ = some (.slice a zs.length c)) :
    SeqStopsC Fence.wide 5 Tryd.prog 62 #[.pointer (some ⟨B, 0, none⟩)] (fun x : Int => #[Value.int .i64 x]) (Below n₁) (fun _ _ => False) (fun ys => ys = zs) (fun pre => pre <+: zs) zs.length w := by
  intro l J Jx W hW _ hY h0
  refine values_in 5 (by omega) l B a c zs hl W0 W J Jx hz ?_ (hB.trans (hW.mono hB.size)) ((hW.cell (p := ⟨B, 0, none⟩) (cell_lt hBs)).trans hBs) h0
  intro pre x W1 hJ hlen
  refine YieldAt.mono (hY pre x W1 hJ hlen) ?_
  rintro e W' (⟨he, hj, hb⟩ | h)
  · exact .inl ⟨he, hj, hb.mono hn⟩
  · exact .inr h

theorem sorted_values (B : Nat) (a : Option Addr) (c : Nat) (zs : List Int) (hl : zs.length < 1000000000) (W0 w : World) (hz : ReadsI .i64 W0 (.slice a zs.length c) zs) (hB : Below W0.heap.size W0 w) (hBs : w.cell? ⟨B, 0, none⟩ = some (.slice a zs.length c)) :
    Calls Tryd.prog 44 #[.func (.func 62) #[] #[.pointer (some ⟨B, 0, none⟩)]] w fun e w' => ∃ v, e = .returned v ∧ OwnsI .i64 3 w' w.heap.size v (srt zs) ∧ Below w.heap.size w w' := by
  have H := Lib.hid (collect_any 62 #[.pointer (some ⟨B, 0, none⟩)] (enters_of Tryd.func62 (by kernel_rfl) rfl) (Below w.heap.size) (fun _ _ => False) (fun ys => ys = zs) (fun pre => pre <+: zs) zs.length (by omega) w.heap.size w w (Below.refl _ _) (Nat.le_refl _)
    (values_stops B w.heap.size a c zs hl W0 w hz hB hB.size hBs) (fun h k => h.trans k) (fun _ _ h => h) (fun _ _ h => h.elim))
  have hl' : zs.length < 4611686018427387904 := by omega
  have HL := Lib.hid hl'
  clear hz hB hBs hl hl'
  go_enter Tryd.func44, Tryd.ntmps44
  go_wp2_with fail
  refine H.out.mono ?_
  rintro e w1 ⟨v, xs, rfl, rfl, ho, hb⟩
  have hsz := hb.size
  go_wp2_with fail
  refine (sort_own xs HL.out w1 ho hsz).mono ?_
  rintro e w2 ⟨rfl, ho2, hb2⟩
  go_wp2_with fail
  go_ret
  exact ⟨v, rfl, ho2, hb.trans hb2⟩
end Go.Proofs.YtmjigpnpcacefaaDoor
