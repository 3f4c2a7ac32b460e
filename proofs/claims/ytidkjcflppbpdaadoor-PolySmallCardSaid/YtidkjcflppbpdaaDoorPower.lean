/- The walk of poly.Power and of the function in it that calls itself. -/
import Derived.Laws.EntriesVeiled
import Derived.Test.YtidkjcflppbpdaaDoorPoly
namespace Go.Proofs.YtidkjcflppbpdaaDoor
open Go Go.RowKit Go.Shelf

theorem cell_lt {w : World} {b o : Nat} {v : Value} (h : w.cell? ⟨b, o, none⟩ = some v) : b < w.heap.size := by
  obtain ⟨ob, hb, _⟩ := cells_of_cell h
  exact (Array.getElem?_eq_some_iff.1 hb).1
theorem cell_keep {w w' : World} {n b o : Nat} {v : Value} (hB : Below n w w') (h : w.cell? ⟨b, o, none⟩ = some v) (hn : b < n) : w'.cell? ⟨b, o, none⟩ = some v :=
  (hB.cell (p := ⟨b, o, none⟩) hn).trans h

set_option maxHeartbeats 2000000 in
theorem power1_any (m b1 bp bm bx : Nat) (hm : m < 18446744073709551616) (hm0 : m ≠ 0) (f : Nat) : ∀ (n : Int) (w : World), 0 ≤ n → n ≤ f → n ≤ 9223372036854775807 →
    w.cell? ⟨b1, 0, none⟩ = some (.int .u64 (Gf.pmod 1 m)) → w.cell? ⟨bm, 0, none⟩ = some (.int .u64 m) → w.cell? ⟨bx, 0, none⟩ = some (.int .u64 (Gf.pmod 2 m)) →
    w.cell? ⟨bp, 0, none⟩ = some (.func (.func 40) #[] #[.pointer (some ⟨b1, 0, none⟩), .pointer (some ⟨bp, 0, none⟩), .pointer (some ⟨bm, 0, none⟩), .pointer (some ⟨bx, 0, none⟩)]) →
    Calls Tryd.prog 40 #[.int .i64 n, .pointer (some ⟨b1, 0, none⟩), .pointer (some ⟨bp, 0, none⟩), .pointer (some ⟨bm, 0, none⟩), .pointer (some ⟨bx, 0, none⟩)] w
      fun e w' => e = .returned (.int .u64 (Gf.pmod (1 <<< n.toNat) m)) ∧ Below w.heap.size w w' := by
  have hm64 := plen_le64 hm
  have l1 := fun a => Gf.plen_pmod a hm0
  have u64 := fun a => lt64_of_plen (a := Gf.pmod a m) (by have := l1 a; omega)
  induction f with
  | zero =>
    intro n w h0 hf hmx c1 cm cx cp
    obtain rfl : n = 0 := by omega
    go_enter Tryd.func40, Tryd.ntmps40
    go_wp2_with fail
    go_ret
    exact ⟨rfl, bel_refl _⟩
  | succ f ih =>
    intro n w h0 hf hmx c1 cm cx cp
    by_cases hn : n = 0
    · subst hn
      go_enter Tryd.func40, Tryd.ntmps40
      go_wp2_with fail
      go_ret
      exact ⟨rfl, bel_refl _⟩
    · have hnb : (n == 0) = false := by simpa using hn
      have IH := Lib.hid (ih (n / 2) w (by omega) (by omega) (by omega) c1 cm cx cp)
      clear ih hn
      have hbm := cell_lt cm
      have hbx := cell_lt cx
      have hsq : Gf.pmod (Gf.pmul (Gf.pmod (1 <<< (n / 2).toNat) m) (Gf.pmod (1 <<< (n / 2).toNat) m)) m = Gf.pmod (1 <<< (2 * (n / 2).toNat)) m := by
        rw [Gf.pmod_mul_left _ _ hm0, Gf.pmod_mul_right _ _ hm0, Gf.pmul_shl_eq, ← Nat.shiftLeft_add, show (n / 2).toNat + (n / 2).toNat = 2 * (n / 2).toNat by omega]
      have HSQ := Lib.hid hsq
      clear hsq
      rcases Int.emod_two_eq n with ho | ho
      · have hodd : (n % 2 == 1) = false := by rw [ho]; rfl
        have HO := Lib.hid ho
        clear ho
        go_enter Tryd.func40, Tryd.ntmps40
        go_wp2_with fail
        refine IH.out.mono ?_
        rintro e w1 ⟨rfl, hb1⟩
        have cm1 := cell_keep hb1 cm hbm
        go_wp2_with fail
        refine (times_any _ _ m hm hm0 (l1 _) (u64 _) _).mono ?_
        rintro e w2 ⟨rfl, hb2⟩
        rw [HSQ.out]
        go_wp2_with fail
        go_ret
        exact ⟨by rw [show n.toNat = 2 * (n / 2).toNat by have := HO.out; omega]; rfl, hb1.trans (hb2.mono hb1.size)⟩
      · have hodd : (n % 2 == 1) = true := by rw [ho]; rfl
        have HO := Lib.hid ho
        clear ho
        have hx : Gf.pmod (Gf.pmul (Gf.pmod (1 <<< (2 * (n / 2).toNat)) m) (Gf.pmod 2 m)) m = Gf.pmod (1 <<< n.toNat) m := by
          rw [Gf.pmod_mul_left _ _ hm0, Gf.pmod_mul_right _ _ hm0, show ∀ a, Gf.pmul a 2 = Gf.pmul a (1 <<< 1) from fun _ => rfl, Gf.pmul_shl_eq, ← Nat.shiftLeft_add]
          rw [show 2 * (n / 2).toNat + 1 = n.toNat by have := HO.out; omega]
        have HX := Lib.hid hx
        clear hx
        go_enter Tryd.func40, Tryd.ntmps40
        go_wp2_with fail
        refine IH.out.mono ?_
        rintro e w1 ⟨rfl, hb1⟩
        have cm1 := cell_keep hb1 cm hbm
        go_wp2_with fail
        refine (times_any _ _ m hm hm0 (l1 _) (u64 _) _).mono ?_
        rintro e w2 ⟨rfl, hb2⟩
        rw [HSQ.out]
        have hb12 := hb1.trans (hb2.mono hb1.size)
        have cm2 := cell_keep hb12 cm hbm
        have cx2 := cell_keep hb12 cx hbx
        go_wp2_with fail
        refine (times_any _ _ m hm hm0 (l1 _) (u64 _) _).mono ?_
        rintro e w3 ⟨rfl, hb3⟩
        rw [HX.out]
        go_wp2_with fail
        go_ret
        exact ⟨rfl, hb12.trans (hb3.mono hb12.size)⟩

theorem power_zero (n : Int) (w : World) :
    Calls Tryd.prog 22 #[.int .i64 n, .int .u64 0] w fun e w' => e = .returned (.tuple #[.int .u64 0, .int .i64 2]) ∧ Below w.heap.size w w' := by
  go_enter Tryd.func22, Tryd.ntmps22
  go_wp2_with fail
  go_ret2
  exact ⟨rfl, (bel_refl _).alloc (Nat.le_refl _) _⟩
theorem power_neg (n : Int) (m : Nat) (hn : n < 0) (hm0 : m ≠ 0) (w : World) :
    Calls Tryd.prog 22 #[.int .i64 n, .int .u64 m] w fun e w' => e = .returned (.tuple #[.int .u64 0, .int .i64 2]) ∧ Below w.heap.size w w' := by
  have hbz : ((m : Int) == 0) = false := by simpa using hm0
  go_enter Tryd.func22, Tryd.ntmps22
  go_wp2_with fail
  go_ret2
  exact ⟨rfl, (bel_refl _).alloc (Nat.le_refl _) _⟩

set_option maxHeartbeats 2000000 in
theorem power_any (n : Int) (m : Nat) (h0 : 0 ≤ n) (hmx : n ≤ 9223372036854775807) (hm : m < 18446744073709551616) (hm0 : m ≠ 0) (w : World) :
    Calls Tryd.prog 22 #[.int .i64 n, .int .u64 m] w fun e w' => e = .returned (.tuple #[.int .u64 (Gf.pmod (1 <<< n.toNat) m), .int .i64 0]) ∧ Below w.heap.size w w' := by
  have hbz : ((m : Int) == 0) = false := by simpa using hm0
  have hlt : ¬ n < 0 := by omega
  go_enter Tryd.func22, Tryd.ntmps22
  go_wp2_with fail
  refine (div_any 1 m (by decide) hm hm0 _).mono ?_
  rintro e w1 ⟨rfl, hb1⟩
  have hA : Below w.heap.size w (w.alloc (.cells #[.int .u64 m] 22)) := (bel_refl _).alloc (Nat.le_refl _) _
  have cm1 : w1.cell? ⟨w.heap.size, 0, none⟩ = some (.int .u64 m) := cell_keep hb1 (cell_new_l w _ _).1 (by simp)
  have hsz1 := hb1.size
  simp only [World.size_alloc] at hsz1
  have hB1 := bel_trans hA hb1 (by simp)
  have hz1 : w.heap.size < w1.heap.size := by omega
  have cm1a := cell_alloc_l (.cells #[.int .u64 (Gf.pmod 1 m)] 22) cm1
  go_wp2_with fail
  refine (div_any 2 m (by decide) hm hm0 _).mono ?_
  rintro e w2 ⟨rfl, hb2⟩
  have hsz2 := hb2.size
  simp only [World.size_alloc] at hsz2
  have hA2 := hB1.alloc hB1.size (.cells #[.int .u64 (Gf.pmod 1 m)] 22)
  have hB2 := bel_trans hA2 hb2 (by simp; omega)
  have c12 : w2.cell? ⟨w1.heap.size, 0, none⟩ = some (.int .u64 (Gf.pmod 1 m)) := cell_keep hb2 (cell_new_l w1 _ _).1 (by simp)
  have cm2 : w2.cell? ⟨w.heap.size, 0, none⟩ = some (.int .u64 m) := cell_keep hb2 cm1a (by simp; omega)
  have hz2 : w1.heap.size < w2.heap.size := by omega
  have hz2' : w.heap.size < w2.heap.size := by omega
  go_wp2_with fail
  have hA3 : Below w.heap.size w ((w2.alloc (.cells #[.int .u64 (Gf.pmod 2 m)] 22)).alloc (.cells #[.func (.func 40) #[] #[.pointer (some ⟨w1.heap.size, 0, none⟩), .pointer (some ⟨w2.heap.size + 1, 0, none⟩), .pointer (some ⟨w.heap.size, 0, none⟩), .pointer (some ⟨w2.heap.size, 0, none⟩)]] 68)) :=
    (hB2.alloc hB2.size _).alloc (by simp; omega) _
  have cx := (cell_new_l w2 (.int .u64 (Gf.pmod 2 m)) 22).1
  have cp := (cell_new_l (w2.alloc (.cells #[.int .u64 (Gf.pmod 2 m)] 22)) (.func (.func 40) #[] #[.pointer (some ⟨w1.heap.size, 0, none⟩), .pointer (some ⟨w2.heap.size + 1, 0, none⟩), .pointer (some ⟨w.heap.size, 0, none⟩), .pointer (some ⟨w2.heap.size, 0, none⟩)]) 68).1
  rw [World.size_alloc] at cp
  refine (power1_any m w1.heap.size (w2.heap.size + 1) w.heap.size w2.heap.size hm hm0 n.toNat n _ h0 (by omega) hmx
    (cell_alloc_l _ (cell_alloc_l _ c12)) (cell_alloc_l _ (cell_alloc_l _ cm2)) (cell_alloc_l _ cx) cp).mono ?_
  rintro e w3 ⟨rfl, hb3⟩
  go_wp2_with fail
  go_ret2
  exact ⟨rfl, bel_trans hA3 hb3 (by simp; omega)⟩
end Go.Proofs.YtidkjcflppbpdaaDoor
