/- The walk of chapter 3's awake. -/
import Derived.Test.YtidkjcflppbpdaaDoorText
namespace Go.Proofs.YtidkjcflppbpdaaDoor
open Go Go.RowKit Go.Shelf

theorem ac_m : mulV 3 3 = 5 ∧ mulE 3 3 = 0 := by decide +kernel
theorem ac_d : Gf.pdiv 19 5 = 5 ∧ Gf.pmod 19 5 = 2 := by decide +kernel
theorem ac_o1 : ordV 19 = 15 ∧ ordE 19 = 0 := by decide +kernel
theorem ac_o2 : ordV 5 = 2 ∧ ordE 5 = 0 := by decide +kernel
theorem ac_o3 : ordV 3 = 1 ∧ ordE 3 = 0 := by decide +kernel
theorem ac_r1 : Gf.rev 6 4 = 6 := by decide +kernel
theorem ac_r2 : Gf.rev 1 4 = 8 := by decide +kernel
theorem ac_g : Gf.pgcd 5 9 = 3 := by decide +kernel
theorem ac_i1 : irrB 19 = true := by decide +kernel
theorem ac_i2 : irrB 5 = false := by decide +kernel
theorem ac_t : textB 19 = [120, 94, 52, 43, 120, 43, 49] := by decide +kernel
theorem ac_s : bstr (textB 19) = ⟨#[120, 94, 52, 43, 120, 43, 49]⟩ := by rw [ac_t]; rfl
set_option maxRecDepth 100000 in
set_option maxHeartbeats 1000000 in
theorem awake_any (w : World) :
    Calls Tryd.prog 14 #[] w fun e w' => e = .returned (.bool true) ∧ Below w.heap.size w w' := by
  go_enter Tryd.func14, Tryd.ntmps14
  go_wp2_with fail
  refine (mul_any 3 3 (by decide) (by decide) _).mono ?_
  rintro e w1 ⟨rfl, hb1⟩
  rw [ac_m.1, ac_m.2]
  go_wp2_with fail
  refine (div_any 19 5 (by decide) (by decide) (by decide) _).mono ?_
  rintro e w2 ⟨rfl, hb2⟩
  rw [ac_d.1, ac_d.2]
  have hB2 := hb1.trans (hb2.mono hb1.size)
  clear hb1 hb2
  go_wp2_with fail
  refine (order_any 19 (by decide) _).mono ?_
  rintro e w3 ⟨rfl, hb3⟩
  rw [ac_o1.1, ac_o1.2]
  have hB3 := hB2.trans (hb3.mono hB2.size)
  clear hB2 hb3
  go_wp2_with fail
  refine (order_any 5 (by decide) _).mono ?_
  rintro e w4 ⟨rfl, hb4⟩
  rw [ac_o2.1, ac_o2.2]
  have hB4 := hB3.trans (hb4.mono hB3.size)
  clear hB3 hb4
  go_wp2_with fail
  refine (order_any 3 (by decide) _).mono ?_
  rintro e w5 ⟨rfl, hb5⟩
  rw [ac_o3.1, ac_o3.2]
  have hB5 := hB4.trans (hb5.mono hB4.size)
  clear hB4 hb5
  go_wp2_with fail
  refine (reverse_any 6 4 (by decide) (by decide) _).mono ?_
  rintro e w6 ⟨rfl, rfl⟩
  rw [ac_r1]
  go_wp2_with fail
  refine (reverse_any 1 4 (by decide) (by decide) _).mono ?_
  rintro e w7 ⟨rfl, rfl⟩
  rw [ac_r2]
  go_wp2_with fail
  refine (gcd_any 5 9 (by decide) (by decide) _).mono ?_
  rintro e w8 ⟨rfl, hb8⟩
  rw [ac_g]
  have hB8 := hB5.trans (hb8.mono hB5.size)
  clear hB5 hb8
  go_wp2_with fail
  refine (irreducible_any 19 (by decide) _).mono ?_
  rintro e w9 ⟨rfl, hb9⟩
  rw [ac_i1]
  have hB9 := hB8.trans (hb9.mono hB8.size)
  clear hB8 hb9
  go_wp2_with fail
  refine (irreducible_any 5 (by decide) _).mono ?_
  rintro e w10 ⟨rfl, hb10⟩
  rw [ac_i2]
  have hB10 := hB9.trans (hb10.mono hB9.size)
  clear hB9 hb10
  go_wp2_with fail
  refine (text_any 19 (by decide) _).mono ?_
  rintro e w11 ⟨rfl, hb11⟩
  rw [ac_s]
  have hB11 := hB10.trans (hb11.mono hB10.size)
  clear hB10 hb11
  go_wp2_with fail
  go_ret
  exact ⟨rfl, hB11⟩
end Go.Proofs.YtidkjcflppbpdaaDoor
