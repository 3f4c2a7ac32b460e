/- The walks of slices.Clone at bytes and at numbers. -/
import Derived.Test.YtmjigpnpcacefaaDoorOwnJ
import Derived.Test.YtmjigpnpcacefaaDoorConcat
namespace Go.Proofs.YtmjigpnpcacefaaDoor
open Go Go.RowKit Go.Shelf

set_option maxRecDepth 100000 in
set_option maxHeartbeats 1000000 in
theorem clone_bytes (v : Value) (xs : List Nat) (w : World) (hv : Reads .u8 w v xs) (hl : xs.length < 1000000000) :
    Calls Tryd.prog 41 #[v] w fun e w' => ∃ v', e = .returned v' ∧ Owns .u8 5 w' w.heap.size v' xs ∧ Below w.heap.size w w' := by
  have hv0 := hv
  obtain ⟨ao, cap, rfl, hlc, hcm, hcs⟩ := hv
  have q : ∀ (w : World) (a : Option Addr) (n c n' c' : Nat), (binOp .eql 28 (.slice a n c) (.slice none n' c')).run Tryd.prog w = .ok (.bool a.isNone) w := fun w a n c n' c' => Lib.run_eql_slice_nil w _ _ a n c n' c' Tryd.underlying28
  cases ao with
  | none =>
    have hx : xs = [] := by
      rcases hcs with h | ⟨b, off, h, _⟩
      · exact List.length_eq_zero_iff.1 (by omega)
      · cases h
    subst hx
    clear hcs hv0
    go_enter Tryd.func41, Tryd.ntmps41
    go_wp2_with fail
    go_ret
    exact ⟨_, rfl, Owns.nil _ _ _ _, bel_refl _⟩
  | some ad =>
    have HV := Lib.hid (hv0.keep (bel_alloc w (.cells #[] 5)) (Nat.le_refl _))
    have HO := Lib.hid (owns_empty .u8 5 w w.heap.size (Nat.le_refl _))
    have hA := bel_alloc w (.cells #[] 5)
    obtain ⟨n, HN⟩ := nm xs.length
    rw [HN.out] at HV hl ⊢
    clear hcs hv0 hlc
    go_enter Tryd.func41, Tryd.ntmps41
    go_wp2_with (at_builtin; refine wpl_app rfl (.tmp 5) (.tmp 6) 28 rfl .u8 5 1 Tryd.underlying28 info_u8 (by decide) w.heap.size _ [] _ HO.out rfl _ xs rfl HV.out (by rw [HN.out]; simp; omega) (by simp) ?_; intro v' w1 hown' hB'; rw [List.nil_append] at hown'; have HW := Lib.hid hown'; clear hown')
    go_ret
    exact ⟨_, rfl, HW.out, hA.trans hB'⟩
set_option maxRecDepth 100000 in
set_option maxHeartbeats 1000000 in
theorem clone_ints (v : Value) (xs : List Int) (w : World) (hv : ReadsI .i64 w v xs) (hl : xs.length < 1000000000) :
    Calls Tryd.prog 47 #[v] w fun e w' => ∃ v', e = .returned v' ∧ OwnsI .i64 3 w' w.heap.size v' xs ∧ Below w.heap.size w w' := by
  have hv0 := hv
  obtain ⟨ao, cap, rfl, hlc, hcm, hcs⟩ := hv
  have q : ∀ (w : World) (a : Option Addr) (n c n' c' : Nat), (binOp .eql 25 (.slice a n c) (.slice none n' c')).run Tryd.prog w = .ok (.bool a.isNone) w := fun w a n c n' c' => Lib.run_eql_slice_nil w _ _ a n c n' c' Tryd.underlying25
  cases ao with
  | none =>
    have hx : xs = [] := by
      rcases hcs with h | ⟨b, off, h, _⟩
      · exact List.length_eq_zero_iff.1 (by omega)
      · cases h
    subst hx
    clear hcs hv0
    go_enter Tryd.func47, Tryd.ntmps47
    go_wp2_with fail
    go_ret
    exact ⟨_, rfl, OwnsI.nil _ _ _ _, bel_refl _⟩
  | some ad =>
    have HV := Lib.hid (hv0.keep (bel_alloc w (.cells #[] 3)) (Nat.le_refl _))
    have HO := Lib.hid (ownsI_empty .i64 3 w w.heap.size (Nat.le_refl _))
    have hA := bel_alloc w (.cells #[] 3)
    obtain ⟨n, HN⟩ := nm xs.length
    rw [HN.out] at HV hl ⊢
    clear hcs hv0 hlc
    go_enter Tryd.func47, Tryd.ntmps47
    go_wp2_with (at_builtin; refine wpl_appI rfl (.tmp 5) (.tmp 6) 25 rfl .i64 3 8 Tryd.underlying25 info_int (by decide) w.heap.size _ [] _ HO.out rfl _ xs rfl HV.out (by rw [HN.out]; simp; omega) (by simp) ?_; intro v' w1 hown' hB'; rw [List.nil_append] at hown'; have HW := Lib.hid hown'; clear hown')
    go_ret
    exact ⟨_, rfl, HW.out, hA.trans hB'⟩
end Go.Proofs.YtmjigpnpcacefaaDoor
