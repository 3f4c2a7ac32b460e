/- slices.Sort at uint32 on a slice of the call's own. -/
import Derived.Sort.AssemblyPlain
import Derived.Test.YthplekkigkalhaaDoorSrtJ
import Derived.Test.YthplekkigkalhaaDoorSrtM
import Derived.Test.YthplekkigkalhaaDoorOwnV
namespace Go.Proofs
open Go.RowKit Go.Sort
theorem callees13U : Callees13U where
  ins := SoU.insertionSort_int
  brk := SoU.breakPatterns_int
  piv := SoU.choosePivot_int
  par := SoU.partialInsertionSort_int
  peq := SoU.partitionEqualOrdered_int
  prt := SoU.partitionOrdered_int
theorem plain13U : Plain13 where
  swo := swo_ltInt
  ins := insertionSort_holds
  par := partialInsertionSort_holds
  prt := partition_holds _
  peq := partitionEqual_holds _
  pdq := pdq_sorts _
theorem pdqWalkU : pdqWalk_intU := fun blk off cap a b limit d w hH hb hab hbd hsz _ hB =>
  SoU.pdqsort_int callees13U plain13U (b - a + 1) blk off cap a b limit d w (by omega) hH hb hab hbd hsz (by assumption) hB
namespace YthplekkigkalhaaDoor
def srtU (zs : List Int) : List Int := zs.mergeSort fun x y => decide (x ≤ y)
theorem srtU_perm (zs : List Int) : (srtU zs).Perm zs := List.mergeSort_perm _ _
theorem srtU_length (zs : List Int) : (srtU zs).length = zs.length := (srtU_perm zs).length_eq
theorem srtU_sorted (zs : List Int) : (srtU zs).Pairwise (· ≤ ·) := by
  refine (List.pairwise_mergeSort (le := fun (x y : Int) => decide (x ≤ y)) ?_ ?_ zs).imp (fun h => of_decide_eq_true h)
  · intro a b c h1 h2
    have h1 := of_decide_eq_true h1
    have h2 := of_decide_eq_true h2
    exact decide_eq_true (by omega)
  · intro a b
    by_cases h : a ≤ b
    · simp [h]
    · simp [h]; omega
theorem sortU_eq (zs : List Int) : Sort.sort ltInt zs.toArray = (srtU zs).toArray := by
  unfold srtU
  rw [← sortInt zs]
theorem sort_ownU {base : Nat} {v : Value} (zs : List Int) (h0 : 0 < zs.length) (hl : zs.length < 4611686018427387904) (w : World) (ho : OwnsI .u32 23 w base v zs) (hbw : base ≤ w.heap.size) :
    Calls Tryd.prog 5 #[v] w fun e w' => e = .returned (.tuple #[]) ∧ OwnsI .u32 23 w' base v (srtU zs) ∧ Below base w w' := by
  rcases ho.2 with ⟨rfl, hz⟩ | ⟨gb, cap, cur, rfl, hbase, hgb, r1, r2, r3, r4⟩
  · omega
  · have hH : Go.Sort.Holds (Value.int .u32) w gb 0 zs.toArray := holds_of_blockU hgb (by simpa [valsI] using r4)
    have h := SoU.Sort_int pdqWalkU gb 0 cap zs.toArray w hH (Array.getElem?_eq_some_iff.1 hgb).1 (by simpa using hl)
    rw [sortU_eq] at h
    simp only [List.size_toArray] at h
    refine h.mono ?_
    rintro e w' ⟨rfl, n, os, rfl⟩
    refine ⟨rfl, ?_, (Below.refl _ _).grown (grownBy_sortedU _) hbw (fun j hj => by cases hj; exact hbase)⟩
    have h := ownsRow_sortedU (w := w) (n := n) (os := os) (ss := zs) (ts := srtU zs) (srtU_length zs) hbase hgb r1 r2 (by simpa using r3)
    unfold OwnsI valsI
    rw [srtU_length]
    exact h
end YthplekkigkalhaaDoor
end Go.Proofs
