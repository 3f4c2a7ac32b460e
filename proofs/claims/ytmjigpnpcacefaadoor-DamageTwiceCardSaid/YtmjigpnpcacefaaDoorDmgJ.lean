/- damage.differing's iterator as a law for ranges over it. -/
import Derived.Test.YtmjigpnpcacefaaDoorDmgI
namespace Go.Proofs.YtmjigpnpcacefaaDoor
open Go Go.RowKit Go.Shelf
theorem differing_stops (n : Nat) (hn : 1 ≤ n) (B1 B2 : Nat) (xs ys : List Nat) (va vb : Value) (hxl : xs.length < 400000) (hxy : ys.length = xs.length) (hxs : ∀ i : Nat, xs[i]?.getD 0 < 256) (hys : ∀ i : Nat, ys[i]?.getD 0 < 256)
    (w0 w : World) (hB0 : Below w0.heap.size w0 w) (ha : Reads .u8 w0 va xs) (hb : Reads .u8 w0 vb ys) (hc1 : w.cell? ⟨B1, 0, none⟩ = some va) (hc2 : w.cell? ⟨B2, 0, none⟩ = some vb) :
    SeqStopsK Fence.wide n Tryd.prog 59 #[.pointer (some ⟨B1, 0, none⟩), .pointer (some ⟨B2, 0, none⟩)] (fun x : Nat => #[Value.int .i64 (x : Int)]) (boxK w0.heap.size B1 B2)
      (fun zs => zs = diffTo xs ys (8 * xs.length)) (fun pre => pre <+: diffTo xs ys (8 * xs.length)) (8 * xs.length) w := by
  intro l J Jx W hW hJ hJx hY h0
  exact differing_in n hn l B1 B2 w0.heap.size xs ys va vb hxl hxy hxs hys J Jx hY w0 W (Nat.le_refl _) (hB0.trans (hW.mono hB0.size)) ha hb
    ((hW.cell (p := ⟨B1, 0, none⟩) (by have := cell_lt hc1; exact this)).trans hc1) ((hW.cell (p := ⟨B2, 0, none⟩) (by have := cell_lt hc2; exact this)).trans hc2) hJ h0
theorem differing_any (aa ab : Option Addr) (na ca nb cb : Nat) (w : World) :
    Calls Tryd.prog 43 #[.slice aa na ca, .slice ab nb cb] w fun e w' => e = .returned (.func (.func 59) #[] #[.pointer (some ⟨w.heap.size, 0, none⟩), .pointer (some ⟨w.heap.size + 1, 0, none⟩)]) ∧ (w.alloc (.cells #[.slice aa na ca] 28)).alloc (.cells #[.slice ab nb cb] 28) = w' := by
  go_enter Tryd.func43, Tryd.ntmps43
  go_wp2
  go_ret
  exact ⟨by simp, rfl⟩
end Go.Proofs.YtmjigpnpcacefaaDoor
