/- The walk of poly.Gcd. -/
import Derived.Test.YtidkjcflppbpdaaDoorMul
namespace Go.Proofs.YtidkjcflppbpdaaDoor
open Go Go.RowKit Go.Shelf

theorem pmod_lt64 (a b : Nat) (hb : b < 18446744073709551616) (h0 : b ≠ 0) : Gf.pmod a b < 18446744073709551616 := lt64_of_plen (by have := Gf.plen_pmod a h0; have := plen_le64 hb; omega)
set_option maxHeartbeats 1000000 in
theorem gcd_any (a b : Nat) (ha : a < 18446744073709551616) (hb : b < 18446744073709551616) (w : World) :
    Calls Tryd.prog 18 #[.int .u64 a, .int .u64 b] w fun e w' => e = .returned (.int .u64 (Gf.pgcd a b)) ∧ Below w.heap.size w w' := by
  go_enter Tryd.func18, Tryd.ntmps18
  go_wp2_with fail
  go_loopw [0, 1] (fun va vb wr => ∃ x y : Nat, va = .int .u64 (x : Int) ∧ vb = .int .u64 (y : Int) ∧ x < 18446744073709551616 ∧ y < 18446744073709551616 ∧ Hid (Gf.pgcd a b = Gf.pgcd x y) ∧ Below w.heap.size w wr)
    (fun _ vb _ => Gf.plen (intOf vb).toNat)
  case atStart => exact ⟨a, b, rfl, rfl, ha, hb, Lib.hid rfl, Below.refl _ _⟩
  case round =>
    obtain ⟨x, y, rfl, rfl, hx, hy, HG, hBr⟩ := hrel
    by_cases hy0 : y = 0
    · subst hy0
      go_wp2_with fail
      go_ret
      exact ⟨by rw [HG.out, Gf.pgcd_zero]; rfl, hBr⟩
    · have hyn : ((y : Int) == 0) = false := beq_false_of_ne (by omega)
      have hst := Gf.pgcd_step x hy0
      have hlt := pmod_lt64 x y hy hy0
      have hpl := Gf.plen_pmod x hy0
      have hdv := div_any x y hx hy hy0
      obtain ⟨q, HQ⟩ := nm (Gf.pdiv x y)
      obtain ⟨r, HR⟩ := nm (Gf.pmod x y)
      rw [HR.out] at hst hlt hpl hdv
      rw [HQ.out] at hdv
      have HST := Lib.hid hst
      have HDV := Lib.hid hdv
      clear hst hdv
      go_wp2_with fail
      refine (HDV.out _).mono ?_
      rintro e w2 ⟨rfl, hb2⟩
      have hB2 := hBr.trans (hb2.mono hBr.size)
      clear hb2 hBr
      go_wp2_with fail
      go_roundw
      case rel => exact ⟨y, r, rfl, rfl, hy, hlt, Lib.hid (HG.out.trans HST.out), hB2⟩
      case measure => simp [intOf]; exact hpl
end Go.Proofs.YtidkjcflppbpdaaDoor
