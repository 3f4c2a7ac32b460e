/- The walk of crc.Open. -/
import Derived.Test.YtomddpplhllgcaaDoorRefE
import Derived.Deep.RegionHeld3
namespace Go.Proofs.YtomddpplhllgcaaDoor
open Go Go.RowKit Go.Shelf

/-- More may be asked of the world from here on. -/
theorem wpAnyH_strong {P : Program} {md : Region.Mode} {ops : Array Oper} {Q : Exit → Act → World → Prop} {S S' : World → Prop} (hS : ∀ w, S' w → S w) :
    ∀ (fuel : Nat) (listed : Array Bool) (a : Act) (w : World), wpAnyH P md ops Q S' fuel listed a w → wpAnyH P md ops Q S fuel listed a w
  | 0, _, _, _, h => h
  | fuel + 1, _, _, _, h => ⟨h.1, fun i hi => wpOp_mono (fun a' w' h' => ⟨hS _ h'.1, wpAnyH_strong hS fuel _ a' w' h'.2⟩) (h.2 i hi)⟩

/-- The kit's law at an operation taken first, with the slot that it writes written out. -/
theorem wpAnyH_takeD {P : Program} {md : Region.Mode} {ops : Array Oper} {Q : Exit → Act → World → Prop} {S : World → Prop} {i : Nat} {oi : Oper} {d : Option Tmp} {v : Value} {fuel : Nat} {listed : Array Bool} {a : Act} {w : World} (hi : ops[i]? = some oi) (hd : oi.dst = d)
    (hs : Region.noSelect ops = true) (hf : Region.free md ops listed i = true) (hr : (Region.ready md ops listed).contains i = true)
    (hQ : ∀ c a w, Q (.panic c) (a.put d v) w → Q (.panic c) a w) (hy : YieldsIf P ops S oi v a) (hS : S w)
    (h : wpAnyH P md ops Q S fuel (listed.setIfInBounds i true) (a.put d v) w) : wpAnyH P md ops Q S (fuel + 1) listed a w := by
  subst hd
  exact wpAnyH_take hi hs hf hr hQ hy hS h

theorem Owns.other {k : IntKind} {e : TypeId} {w : World} {base g i : Nat} {v u : Value} {xs : List Nat} (h : Owns k e w base v xs) (hne : ∀ j, v.ownBlock = some j → j ≠ g) : Owns k e (w.setCell ⟨g, i, none⟩ u) base v xs := by
  refine World.ownsRow.kept h (row := some g) ⟨rfl, rfl, rfl, by simp, fun k _ hk => heap_setCell_other w ⟨g, i, none⟩ k u (fun e => hk (by simp [e]))⟩ ?_
  cases hv : v.ownBlock with
  | none => exact .inl rfl
  | some j => right; intro e2; cases e2; exact hne g hv rfl

/-- A slice of the call's own, at one of its places. -/
theorem Owns.at {k : IntKind} {e : TypeId} {w : World} {base m c i : Nat} {ao : Option Addr} {ys : List Nat} (h : Owns k e w base (.slice ao m c) ys) (hi : i < m) :
    ∃ g, ao = some ⟨g, 0, none⟩ ∧ base ≤ g ∧ g < w.heap.size ∧ m = ys.length ∧ m ≤ c ∧ c ≤ 9223372036854775807 ∧ w.cell? ⟨g, i, none⟩ = some (.int k ((ys[i]?.getD 0 : Nat) : Int)) ∧ w.frozen? ⟨g, i, none⟩ = false ∧
      ∀ c' : Int, 0 ≤ c' → Owns k e (w.setCell ⟨g, i, none⟩ (.int k c')) base (.slice (some ⟨g, 0, none⟩) m c) (ys.set i c'.toNat) := by
  rcases h.form with ⟨e1, hn⟩ | ⟨g, cap, e1, hb, hg, hn, hc⟩
  · cases e1; omega
  · cases e1
    refine ⟨g, rfl, hb, hg, rfl, hn, hc, h.cellAt rfl i hi, h.frozenAt rfl i, fun c' h0 => h.set rfl i c'.toNat c' (by omega) hi⟩
theorem Owns.len {k : IntKind} {e : TypeId} {w : World} {base m c : Nat} {ao : Option Addr} {ys : List Nat} (h : Owns k e w base (.slice ao m c) ys) : m = ys.length ∧ m ≤ c ∧ c ≤ 9223372036854775807 := by
  rcases h.form with ⟨e1, hn⟩ | ⟨g, cap, e1, hb, hg, hn, hc⟩
  · cases e1; simp [hn]
  · cases e1; exact ⟨rfl, hn, hc⟩
theorem Owns.slice {k : IntKind} {e : TypeId} {w : World} {base : Nat} {v : Value} {ys : List Nat} (h : Owns k e w base v ys) : ∃ ao m c, v = .slice ao m c ∧ m = ys.length ∧ ∀ j, (Value.slice ao m c).ownBlock = some j → base ≤ j ∧ j < w.heap.size := by
  rcases h.form with ⟨rfl, rfl⟩ | ⟨g, cap, rfl, hb, hg, _, _⟩
  · exact ⟨none, 0, 0, rfl, rfl, fun j hj => by cases hj⟩
  · exact ⟨_, _, cap, rfl, rfl, fun j hj => by cases hj; exact ⟨hb, hg⟩⟩
theorem open_not (v : Value) (xs : List Nat) (w : World) (hv : Reads .u8 w v xs) (hx : Bytes xs) (hT : Tab w) (hs : sealedB xs = false) :
    Calls Tryd.prog 30 #[v] w fun e w' => e = .returned (.tuple #[.slice none 0 0, .int .i64 2]) ∧ Below w.heap.size w w' := by
  have H := Lib.hid hs
  clear hs
  go_enter Tryd.func30, Tryd.ntmps30
  go_wp2_with fail
  refine (sealed_any v xs _ hv hx hT).mono ?_
  rintro e w1 ⟨rfl, hb1⟩
  rw [H.out]
  go_wp2_with fail
  go_ret2
  exact ⟨rfl, hb1⟩
set_option maxRecDepth 100000 in
set_option maxHeartbeats 1000000 in
theorem open_yes (v : Value) (xs : List Nat) (w : World) (hv : Reads .u8 w v xs) (hx : Bytes xs) (hT : Tab w) (hs : sealedB xs = true) (hl : xs.length < 1099511627776) :
    Calls Tryd.prog 30 #[v] w fun e w' => ∃ v', e = .returned (.tuple #[v', .int .i64 0]) ∧ Owns .u8 5 w' w.heap.size v' (xs.take (xs.length - 4)) ∧ Below w.heap.size w w' := by
  have h4 : 4 ≤ xs.length := by
    unfold sealedB at hs
    simp at hs
    exact hs.1
  obtain ⟨n, hn⟩ : ∃ n, xs.length = n + 4 := ⟨xs.length - 4, by omega⟩
  rw [show xs.length - 4 = n by omega]
  have hv0 := hv
  obtain ⟨a, cap, rfl, hlc, hcm, hcs⟩ := hv
  have hp := reads_pre hv0 (show n ≤ xs.length by omega)
  have hni : (xs.length : Int) - 4 = (n : Int) := by omega
  have H := Lib.hid hs
  have HV := Lib.hid hv0
  have HP := Lib.hid hp
  have HN := Lib.hid hn
  have HNI := Lib.hid hni
  clear hs hv0 hp hn hcs
  have hnc : (n : Int) ≤ (cap : Int) := by have := HN.out; omega
  go_enter Tryd.func30, Tryd.ntmps30
  go_wp2_with fail
  refine (sealed_any _ xs _ HV.out hx hT).mono ?_
  rintro e w1 ⟨rfl, hb1⟩
  rw [H.out]
  go_wp2_with (at_builtin; refine wpl_app rfl (.tmp 7) (.tmp 12) 25 rfl .u8 5 1 Tryd.underlying25 info_u8 (by decide) w.heap.size _ [] _ (owns_empty .u8 5 w1 w.heap.size hb1.size) rfl _ (xs.take n) rfl ?_ ?_ ?_ ?_; (exact (HP.out.keep (hb1.trans ((bel_alloc w1 _).mono hb1.size)) (Nat.le_refl _))); (simp; omega); (have := hb1.size; simp; omega); intro v2 w2 ho2 hb2)
  go_ret2
  exact ⟨v2, rfl, ho2, (hb1.trans ((bel_alloc w1 _).mono hb1.size)).trans hb2⟩
/-- Either way. -/
theorem open_any (v : Value) (xs : List Nat) (w : World) (hv : Reads .u8 w v xs) (hx : Bytes xs) (hT : Tab w) (hl : xs.length < 1099511627776) :
    Calls Tryd.prog 30 #[v] w fun e w' => ∃ (ao : Option Addr) (m c : Nat) (n : Int), e = .returned (.tuple #[.slice ao m c, .int .i64 n]) ∧
      (sealedB xs = true → n = 0 ∧ Owns .u8 5 w' w.heap.size (.slice ao m c) (xs.take (xs.length - 4)) ∧ m = xs.length - 4) ∧
      (sealedB xs = false → n = 2 ∧ Owns .u8 5 w' w.heap.size (.slice ao m c) [] ∧ m = 0) ∧ Below w.heap.size w w' := by
  cases hs : sealedB xs
  · refine (open_not v xs w hv hx hT hs).mono ?_
    rintro e w' ⟨rfl, hb⟩
    exact ⟨none, 0, 0, 2, rfl, (fun h => by cases h), fun _ => ⟨rfl, Owns.nil _ _ _ _, rfl⟩, hb⟩
  · refine (open_yes v xs w hv hx hT hs hl).mono ?_
    rintro e w' ⟨v', rfl, ho, hb⟩
    have hlt : (xs.take (xs.length - 4)).length = xs.length - 4 := by simp
    rcases ho.form with ⟨rfl, hn⟩ | ⟨g, cap, rfl, _⟩
    · exact ⟨none, 0, 0, 0, rfl, fun _ => ⟨rfl, ho, by rw [← hlt, hn]; rfl⟩, (fun h => by cases h), hb⟩
    · exact ⟨_, _, cap, 0, rfl, fun _ => ⟨rfl, ho, hlt⟩, (fun h => by cases h), hb⟩
end Go.Proofs.YtomddpplhllgcaaDoor
