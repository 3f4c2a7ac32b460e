/- The reference of checksums: the walks of Seal and Sealed. -/
import Derived.Test.YtmjigpnpcacefaaDoorRefD
import Derived.Test.YtmjigpnpcacefaaDoorSeal
import Derived.Test.YtmjigpnpcacefaaDoorStr
import Derived.Test.YtmjigpnpcacefaaDoorOwnB
import Derived.Deep.RegionWith
namespace Go.Proofs.YtmjigpnpcacefaaDoor
open Go Go.RowKit Go.Shelf


theorem take_four (xs : List Nat) (n : Nat) (h : xs.length = n + 4) : xs = xs.take n ++ [xs[n]?.getD 0, xs[n + 1]?.getD 0, xs[n + 2]?.getD 0, xs[n + 3]?.getD 0] := by
  apply List.ext_getElem
  · simp; omega
  · intro i h1 h2
    by_cases hi : i < n
    · rw [List.getElem_append_left (by simp; omega)]; simp
    · rw [List.getElem_append_right (by simp; omega)]
      have hl : (xs.take n).length = n := by simp; omega
      simp only [hl]
      have h3 : i - n < 4 := by omega
      obtain ⟨j, rfl⟩ : ∃ j, i = n + j := ⟨i - n, by omega⟩
      simp only [Nat.add_sub_cancel_left] at h3 ⊢
      match j, h3 with
      | 0, _ => simp [show n < xs.length by omega]
      | 1, _ => simp [show n + 1 < xs.length by omega]
      | 2, _ => simp [show n + 2 < xs.length by omega]
      | 3, _ => simp [show n + 3 < xs.length by omega]
theorem four_eq (s x0 x1 x2 x3 : Nat) (hs : s < 4294967296) (h0 : x0 < 256) (h1 : x1 < 256) (h2 : x2 < 256) (h3 : x3 < 256) :
    Gf.four s = [x0, x1, x2, x3] ↔ s = x0 + 256 * x1 + 65536 * x2 + 16777216 * x3 := by
  unfold Gf.four
  simp only [List.cons.injEq, and_true]
  omega
theorem sealedB_eq (xs : List Nat) (hx : Bytes xs) (hl : 4 ≤ xs.length) : decide (Gf.sealB (xs.take (xs.length - 4)) = xs) = sealedB xs := by
  obtain ⟨n, hn⟩ : ∃ n, xs.length = n + 4 := ⟨xs.length - 4, by omega⟩
  unfold sealedB
  rw [show xs.length - 4 = n by omega]
  simp only [hl, decide_true, Bool.true_and]
  rw [decide_eq_decide]
  have h4 := take_four xs n hn
  have hi := four_eq (Gf.sum (xs.take n)) _ _ _ _ (Gf.update_lt _ _) (hx.get n) (hx.get (n + 1)) (hx.get (n + 2)) (hx.get (n + 3))
  unfold Gf.sealB le4
  rw [← hi]
  constructor
  · intro h
    have h5 : xs.take n ++ Gf.four (Gf.sum (xs.take n)) = xs.take n ++ [xs[n]?.getD 0, xs[n + 1]?.getD 0, xs[n + 2]?.getD 0, xs[n + 3]?.getD 0] := h.trans h4
    exact List.append_cancel_left h5
  · intro h
    rw [h]; exact h4.symm

end Go.Proofs.YtmjigpnpcacefaaDoor
