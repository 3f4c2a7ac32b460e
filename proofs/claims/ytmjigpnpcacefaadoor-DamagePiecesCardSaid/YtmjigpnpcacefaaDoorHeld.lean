/- Regions that draw their order and hold calls that make memory; owned slices at their places. -/
import Derived.Test.YtmjigpnpcacefaaDoorOwn
import Derived.Deep.RegionHeld3
namespace Go.Proofs.YtmjigpnpcacefaaDoor
open Go Go.RowKit Go.Shelf

/-- More may be asked of the world from here on. -/
theorem wpAnyH_strong {P : Program} {md : Region.Mode} {ops : Array Oper} {Q : Exit → Act → World → Prop} {S S' : World → Prop} (hS : ∀ w, S' w → S w) :
    ∀ (fuel : Nat) (listed : Array Bool) (a : Act) (w : World), wpAnyH P md ops Q S' fuel listed a w → wpAnyH P md ops Q S fuel listed a w
  | 0, _, _, _, h => h
  | fuel + 1, _, _, _, h => ⟨h.1, fun i hi => wpOp_mono (fun a' w' h' => ⟨hS _ h'.1, wpAnyH_strong hS fuel _ a' w' h'.2⟩) (h.2 i hi)⟩

/-- The kit's law at an operation taken first, with the slot that it writes written out. -/
theorem wpAnyH_takeD {P : Program} {md : Region.Mode} {ops : Array Oper} {Q : Exit → Act → World → Prop} {S : World → Prop} {i : Nat} {oi : Oper} {d : Option Tmp} {v : Value} {fuel : Nat} {listed : Array Bool} {a : Act} {w : World} (hi : ops[i]? = some oi) (hd : oi.dst = d)
    (hs : Region.noSelect ops = true) (hf : Region.free md ops listed i = true) (hr : (Region.ready md ops listed).contains i = true)
    (hQ : ∀ c a w, Q (.panic c) (a.put d v) w → Q (.panic c) a w) (hy : YieldsIf P ops S oi v a) (hS : S w)
    (h : wpAnyH P md ops Q S fuel (listed.setIfInBounds i true) (a.put d v) w) : wpAnyH P md ops Q S (fuel + 1) listed a w := by
  subst hd
  exact wpAnyH_take hi hs hf hr hQ hy hS h

theorem Owns.other {k : IntKind} {e : TypeId} {w : World} {base g i : Nat} {v u : Value} {xs : List Nat} (h : Owns k e w base v xs) (hne : ∀ j, v.ownBlock = some j → j ≠ g) : Owns k e (w.setCell ⟨g, i, none⟩ u) base v xs := by
  refine World.ownsRow.kept h (row := some g) ⟨rfl, rfl, rfl, by simp, fun k _ hk => heap_setCell_other w ⟨g, i, none⟩ k u (fun e => hk (by simp [e]))⟩ ?_
  cases hv : v.ownBlock with
  | none => exact .inl rfl
  | some j => right; intro e2; cases e2; exact hne g hv rfl

/-- A slice of the call's own, at one of its places. -/
theorem Owns.at {k : IntKind} {e : TypeId} {w : World} {base m c i : Nat} {ao : Option Addr} {ys : List Nat} (h : Owns k e w base (.slice ao m c) ys) (hi : i < m) :
    ∃ g, ao = some ⟨g, 0, none⟩ ∧ base ≤ g ∧ g < w.heap.size ∧ m = ys.length ∧ m ≤ c ∧ c ≤ 9223372036854775807 ∧ w.cell? ⟨g, i, none⟩ = some (.int k ((ys[i]?.getD 0 : Nat) : Int)) ∧ w.frozen? ⟨g, i, none⟩ = false ∧
      ∀ c' : Int, 0 ≤ c' → Owns k e (w.setCell ⟨g, i, none⟩ (.int k c')) base (.slice (some ⟨g, 0, none⟩) m c) (ys.set i c'.toNat) := by
  rcases h.form with ⟨e1, hn⟩ | ⟨g, cap, e1, hb, hg, hn, hc⟩
  · cases e1; omega
  · cases e1
    refine ⟨g, rfl, hb, hg, rfl, hn, hc, h.cellAt rfl i hi, h.frozenAt rfl i, fun c' h0 => h.set rfl i c'.toNat c' (by omega) hi⟩
theorem Owns.len {k : IntKind} {e : TypeId} {w : World} {base m c : Nat} {ao : Option Addr} {ys : List Nat} (h : Owns k e w base (.slice ao m c) ys) : m = ys.length ∧ m ≤ c ∧ c ≤ 9223372036854775807 := by
  rcases h.form with ⟨e1, hn⟩ | ⟨g, cap, e1, hb, hg, hn, hc⟩
  · cases e1; simp [hn]
  · cases e1; exact ⟨rfl, hn, hc⟩
theorem Owns.slice {k : IntKind} {e : TypeId} {w : World} {base : Nat} {v : Value} {ys : List Nat} (h : Owns k e w base v ys) : ∃ ao m c, v = .slice ao m c ∧ m = ys.length ∧ ∀ j, (Value.slice ao m c).ownBlock = some j → base ≤ j ∧ j < w.heap.size := by
  rcases h.form with ⟨rfl, rfl⟩ | ⟨g, cap, rfl, hb, hg, _, _⟩
  · exact ⟨none, 0, 0, rfl, rfl, fun j hj => by cases hj⟩
  · exact ⟨_, _, cap, rfl, rfl, fun j hj => by cases hj; exact ⟨hb, hg⟩⟩
end Go.Proofs.YtmjigpnpcacefaaDoor
