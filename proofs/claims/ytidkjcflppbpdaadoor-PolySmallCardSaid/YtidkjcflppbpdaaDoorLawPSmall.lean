/- The walk of the law PolySmall. -/
import Derived.Test.YtidkjcflppbpdaaDoorLawPTells
import Derived.Test.YtidkjcflppbpdaaDoorRead
import Derived.Test.YtidkjcflppbpdaaDoorReadR
namespace Go.Proofs.YtidkjcflppbpdaaDoor
open Go Go.RowKit Go.Shelf

/-- The comparison of the two ways, at numbers given as integers. -/
theorem tells_int (x y z n : Int) (hx : 0 ≤ x ∧ x < 18446744073709551616) (hy : 0 ≤ y ∧ y < 18446744073709551616) (hz : 0 ≤ z ∧ z < 18446744073709551616) (hn : n ≤ 9223372036854775807) (w : World) :
    Calls Tryd.prog 21 #[.int .u64 x, .int .u64 y, .int .u64 z, .int .i64 n] w fun e w' => e = .returned (.bool true) ∧ Below w.heap.size w w' := by
  obtain ⟨a, rfl⟩ := Int.eq_ofNat_of_zero_le hx.1
  obtain ⟨b, rfl⟩ := Int.eq_ofNat_of_zero_le hy.1
  obtain ⟨c, rfl⟩ := Int.eq_ofNat_of_zero_le hz.1
  exact tells_any a (by omega) b (by omega) c (by omega) n hn w
theorem orders_int (x : Int) (hx : 0 ≤ x ∧ x < 18446744073709551616) (w : World) :
    Calls Tryd.prog 13 #[.int .u64 x] w fun e w' => e = .returned (.bool true) ∧ Below w.heap.size w w' := by
  obtain ⟨a, rfl⟩ := Int.eq_ofNat_of_zero_le hx.1
  exact orders_any a (by omega) w
/-- The two ways of reading give the same. -/
theorem pair_read (s : ByteArray) : ∃ (x : Nat) (E : Int),
    (∀ w : World, Calls Tryd.prog 25 #[.string s] w fun e w' => e = .returned (.tuple #[.int .u64 x, .int .i64 E]) ∧ Below w.heap.size w w') ∧
    (∀ w : World, Calls Tryd.prog 26 #[.string s] w fun e w' => e = .returned (.tuple #[.int .u64 x, .int .i64 E]) ∧ Below w.heap.size w w') := ⟨_, _, read_any s, rread_any s⟩
theorem shr_top (a : Nat) : 0 ≤ (9223372036854775808 : Int) / 2 ^ a ∧ (9223372036854775808 : Int) / 2 ^ a < 18446744073709551616 := by
  have h : ((9223372036854775808 : Int) / 2 ^ a) = ((9223372036854775808 / 2 ^ a : Nat) : Int) := by simp
  rw [h]
  have h1 := Nat.div_le_self 9223372036854775808 (2 ^ a)
  obtain ⟨q, hq⟩ := nm (9223372036854775808 / 2 ^ a)
  rw [hq.out] at h1 ⊢
  omega
theorem or_top (b : Nat) (hb : b < 32) : ∃ P : Nat, bits BinOp.or IntKind.u64 9223372036854775808 (b : Int) = (P : Int) ∧ P < 18446744073709551616 := by
  refine ⟨9223372036854775808 ||| b, ?_, Nat.or_lt_two_pow (n := 64) (by decide) (by omega)⟩
  have := u64_or_nat 9223372036854775808 b (by decide) (by omega)
  exact this

theorem lit_cells (w : World) (cs : Array Value) (t : TypeId) (k : Nat) : (w.alloc (.cells cs t)).cell? ⟨w.heap.size, k, none⟩ = cs[k]? :=
  cell_of_row _ w.heap.size k cs t (0, 0) (World.alloc_heap_new w _)
def four : Array Value := #[.int .u64 2097152, .int .u64 2097151, .int .u64 9223372036854775808, .int .u64 18446744073709551615]
theorem four_get : ∀ k, k < 4 → ∃ x : Int, (0 ≤ x ∧ x < 18446744073709551616) ∧ four[k]? = some (.int .u64 x)
  | 0, _ => ⟨_, by decide, rfl⟩
  | 1, _ => ⟨_, by decide, rfl⟩
  | 2, _ => ⟨_, by decide, rfl⟩
  | 3, _ => ⟨_, by decide, rfl⟩
  | k + 4, h => absurd h (by omega)
def eight : Array Value := #[.int .i64 (-9223372036854775808), .int .i64 (-1), .int .i64 0, .int .i64 1, .int .i64 63, .int .i64 64, .int .i64 65, .int .i64 9223372036854775807]
theorem eight_get : ∀ k, k < 8 → ∃ x : Int, x ≤ 9223372036854775807 ∧ eight[k]? = some (.int .i64 x)
  | 0, _ => ⟨_, by decide, rfl⟩
  | 1, _ => ⟨_, by decide, rfl⟩
  | 2, _ => ⟨_, by decide, rfl⟩
  | 3, _ => ⟨_, by decide, rfl⟩
  | 4, _ => ⟨_, by decide, rfl⟩
  | 5, _ => ⟨_, by decide, rfl⟩
  | 6, _ => ⟨_, by decide, rfl⟩
  | 7, _ => ⟨_, by decide, rfl⟩
  | k + 8, h => absurd h (by omega)

def fourteen : Array Value := #[.string ⟨#[48]⟩, .string ⟨#[]⟩, .string ⟨#[49]⟩, .string ⟨#[120]⟩, .string ⟨#[120, 94, 49]⟩, .string ⟨#[120, 94, 48]⟩, .string ⟨#[120, 94, 48, 50]⟩, .string ⟨#[120, 94, 54, 52]⟩, .string ⟨#[48, 43, 49]⟩, .string ⟨#[49, 43, 120]⟩, .string ⟨#[120, 43, 120]⟩, .string ⟨#[120, 94, 50, 43, 120, 94, 51]⟩, .string ⟨#[32, 120]⟩, .string ⟨#[88]⟩]
theorem fourteen_get : ∀ k, k < 14 → ∃ x : ByteArray, fourteen[k]? = some (.string x)
  | 0, _ => ⟨_, rfl⟩
  | 1, _ => ⟨_, rfl⟩
  | 2, _ => ⟨_, rfl⟩
  | 3, _ => ⟨_, rfl⟩
  | 4, _ => ⟨_, rfl⟩
  | 5, _ => ⟨_, rfl⟩
  | 6, _ => ⟨_, rfl⟩
  | 7, _ => ⟨_, rfl⟩
  | 8, _ => ⟨_, rfl⟩
  | 9, _ => ⟨_, rfl⟩
  | 10, _ => ⟨_, rfl⟩
  | 11, _ => ⟨_, rfl⟩
  | 12, _ => ⟨_, rfl⟩
  | 13, _ => ⟨_, rfl⟩
  | k + 14, h => absurd h (by omega)
theorem seven_get (w : World) (n : Nat) (c0 c1 c2 c3 c4 c5 c6 : ByteArray) (hn : n = w.heap.size) : ∀ k, k < 7 → ∃ s : ByteArray, (w.alloc (.cells #[.string c0, .string c1, .string c2, .string c3, .string c4, .string c5, .string c6] 9)).cell? ⟨n, k, none⟩ = some (.string s) := by
  subst hn
  intro k hk
  rw [lit_cells]
  match k, hk with
  | 0, _ => exact ⟨_, rfl⟩
  | 1, _ => exact ⟨_, rfl⟩
  | 2, _ => exact ⟨_, rfl⟩
  | 3, _ => exact ⟨_, rfl⟩
  | 4, _ => exact ⟨_, rfl⟩
  | 5, _ => exact ⟨_, rfl⟩
  | 6, _ => exact ⟨_, rfl⟩
  | k + 7, h => exact absurd h (by omega)

set_option maxRecDepth 1000000 in
set_option maxHeartbeats 16000000 in
theorem polySmall_all (w : World) :
    Calls Tryd.prog 12 #[] w fun e w' => e = .returned (.bool true) ∧ Below w.heap.size w w' := by
  go_enter Tryd.func12, Tryd.ntmps12
  go_wp2_with fail
  go_loopw [22] (fun vi wr => ∃ a : Nat, a ≤ 32 ∧ vi = .int .u64 (a : Int) ∧ Below w.heap.size w wr) (fun vi _ => 32 - (intOf vi).toNat)
  case atStart => exact ⟨0, by omega, rfl, bel_refl _⟩
  case round =>
    obtain ⟨a, ha, rfl, hBr⟩ := hrel
    by_cases hlt : a < 32
    · obtain ⟨wo, rfl⟩ : ∃ wo : World, wo = wr := ⟨_, rfl⟩
      go_wp2_with fail
      rw [show decide ((a : Int) < 32) = true from decide_eq_true (by omega)]
      go_loopw [25] (fun vi wr => ∃ b : Nat, b ≤ 32 ∧ vi = .int .u64 (b : Int) ∧ Below w.heap.size w wr) (fun vi _ => 32 - (intOf vi).toNat)
      case atStart => exact ⟨0, by omega, rfl, hBr⟩
      case round =>
        obtain ⟨b, hb, rfl, hBi⟩ := hrel
        by_cases hltb : b < 32
        · obtain ⟨P, hP, hPl⟩ := or_top b hltb
          have hsh := wrap_shl_one (m := b) (by omega)
          have hol := one_shl_lt (m := b) (by omega)
          have hop : 1 ≤ 1 <<< b := by rw [Nat.one_shiftLeft]; exact Nat.two_pow_pos b
          have htop := shr_top a
          obtain ⟨X, HX⟩ := nm (1 <<< b)
          rw [HX.out] at hsh hol hop
          have HTOP := Lib.hid htop
          clear htop
          go_wp2_with fail
          refine (tells_int _ _ _ _ (by omega) (by omega) (by omega) (by omega) _).mono ?_
          rintro e w1 ⟨rfl, hb1⟩
          have hB1 := hBi.trans (hb1.mono hBi.size)
          clear hb1 hBi
          go_wp2_with fail
          refine (tells_int _ _ _ _ HTOP.out (by omega) (by omega) (by omega) _).mono ?_
          rintro e w2 ⟨rfl, hb2⟩
          have hB2 := hB1.trans (hb2.mono hB1.size)
          clear hb2 hB1
          go_wp2_with fail
          go_roundw
          case rel => exact ⟨b + 1, by omega, by go_num, hB2⟩
          case measure => simp [intOf]; omega
        · go_wp2_with fail
          go_roundw
          case rel => exact ⟨a + 1, by omega, by go_num, hBi⟩
          case measure => simp [intOf]; omega
    · go_wp2_with fail
      go_loopw [55] (fun vi wr => ∃ m : Nat, m ≤ 1024 ∧ vi = .int .u64 (m : Int) ∧ Below w.heap.size w wr) (fun vi _ => 1024 - (intOf vi).toNat)
      case atStart => exact ⟨0, by omega, rfl, hBr⟩
      case round =>
        obtain ⟨m, hm, rfl, hBm⟩ := hrel
        by_cases hltm : m < 1024
        · go_wp2_with fail
          refine (orders_int _ (by omega) _).mono ?_
          rintro e w1 ⟨rfl, hb1⟩
          have hB1 := hBm.trans (hb1.mono hBm.size)
          clear hb1 hBm
          go_wp2_with fail
          go_roundw
          case rel => exact ⟨m + 1, by omega, by go_num, hB1⟩
          case measure => simp [intOf]; omega
        · go_wp2_with fail
          have hA4 := hBm.alloc hBm.size (.cells four 22)
          have hc4 := lit_cells wr four 22
          obtain ⟨b4, HB4⟩ := nm wr.heap.size
          obtain ⟨W4, HW4⟩ := nm (wr.alloc (.cells four 22))
          change Code.wp _ _ _ _ (wr.alloc (.cells four 22))
          simp only [HB4.out] at hc4
          rw [HB4.out, HW4.out]
          rw [HW4.out] at hA4
          simp only [HW4.out] at hc4
          have HC4 := Lib.hid hc4
          clear hc4 hBm
          go_loopw [64] (fun vi wr => ∃ k : Nat, k ≤ 4 ∧ vi = .int .i64 (k : Int) ∧ Below W4.heap.size W4 wr) (fun vi _ => 4 - (intOf vi).toNat)
          case atStart => exact ⟨0, by omega, rfl, bel_refl _⟩
          case round =>
            obtain ⟨k, hk, rfl, hBk⟩ := hrel
            by_cases hltk : k < 4
            · obtain ⟨x, hx, hg⟩ := four_get k hltk
              have hc := (HC4.out k).trans hg
              have hc' := cell_keep hBk hc (cell_lt hc)
              have o1 := orders_int x hx
              have O1 := Lib.hid o1
              have h0k : 0 + k = k := Nat.zero_add k
              clear hg hc o1 hx
              cases hd : decide ((2097152 : Int) ≤ x) with
              | true =>
                go_wp2_with fail
                refine (O1.out _).mono ?_
                rintro e w1 ⟨rfl, hb1⟩
                have hB1 := hBk.trans (hb1.mono hBk.size)
                clear hb1 hBk
                go_wp2_with fail
                go_roundw
                case rel => exact ⟨k + 1, by omega, by go_num, hB1⟩
                case measure => simp [intOf]; omega
              | false =>
                go_wp2_with fail
                go_roundw
                case rel => exact ⟨k + 1, by omega, by go_num, hBk⟩
                case measure => simp [intOf]; omega
            · have hB4 := bel_trans hA4 hBk hA4.size
              clear hA4 hBk HC4
              go_wp2_with fail
              have hA5 := hB4.alloc hB4.size (.cells eight 3)
              have hc5 := lit_cells wr eight 3
              obtain ⟨b5, HB5⟩ := nm wr.heap.size
              obtain ⟨W5, HW5⟩ := nm (wr.alloc (.cells eight 3))
              change Code.wp _ _ _ _ (wr.alloc (.cells eight 3))
              simp only [HB5.out] at hc5
              rw [HB5.out, HW5.out]
              rw [HW5.out] at hA5
              simp only [HW5.out] at hc5
              have HC5 := Lib.hid hc5
              clear hc5 hB4
              go_loopw [78] (fun vi wr => ∃ k : Nat, k ≤ 8 ∧ vi = .int .i64 (k : Int) ∧ Below W5.heap.size W5 wr) (fun vi _ => 8 - (intOf vi).toNat)
              case atStart => exact ⟨0, by omega, rfl, bel_refl _⟩
              case round =>
                obtain ⟨k, hk, rfl, hBk⟩ := hrel
                by_cases hltk : k < 8
                · obtain ⟨x, hx, hg⟩ := eight_get k hltk
                  have hc := (HC5.out k).trans hg
                  have hc' := cell_keep hBk hc (cell_lt hc)
                  have t1 := tells_int 18446744073709551615 3 9223372036854775835 x (by decide) (by decide) (by decide) hx
                  have t2 := tells_int 5 0 0 x (by decide) (by decide) (by decide) hx
                  have t3 := tells_int 7 1 1 x (by decide) (by decide) (by decide) hx
                  have T1 := Lib.hid t1
                  have T2 := Lib.hid t2
                  have T3 := Lib.hid t3
                  clear hg hc t1 t2 t3 hx
                  go_wp2_with fail
                  refine (T1.out _).mono ?_
                  rintro e w1 ⟨rfl, hb1⟩
                  have hB1 := hBk.trans (hb1.mono hBk.size)
                  clear hb1 hBk
                  go_wp2_with fail
                  refine (T2.out _).mono ?_
                  rintro e w2 ⟨rfl, hb2⟩
                  have hB2 := hB1.trans (hb2.mono hB1.size)
                  clear hb2 hB1
                  go_wp2_with fail
                  refine (T3.out _).mono ?_
                  rintro e w3 ⟨rfl, hb3⟩
                  have hB3 := hB2.trans (hb3.mono hB2.size)
                  clear hb3 hB2
                  go_wp2_with fail
                  go_roundw
                  case rel => exact ⟨k + 1, by omega, by go_num, hB3⟩
                  case measure => simp [intOf]; omega
                · have hB5 := bel_trans hA5 hBk hA5.size
                  clear hA5 hBk HC5
                  go_wp2_with fail
                  obtain ⟨T, HT⟩ := nm (⟨#[120, 94, 54, 51, 43, 120, 94, 51, 50, 43, 120, 94, 50, 43, 120, 43, 49]⟩ : ByteArray)
                  have hTs : T.size = 17 := by rw [← HT.out]; rfl
                  rw [HT.out]
                  go_loopw [99] (fun vi wr => ∃ i : Nat, i ≤ 18 ∧ vi = .int .i64 (i : Int) ∧ Below w.heap.size w wr) (fun vi _ => 18 - (intOf vi).toNat)
                  case atStart => exact ⟨0, by omega, rfl, hB5⟩
                  case round =>
                    obtain ⟨i, hi, rfl, hB6⟩ := hrel
                    by_cases hlti : i < 18
                    · obtain ⟨wo, rfl⟩ : ∃ wo : World, wo = wr := ⟨_, rfl⟩
                      go_wp2_with fail
                      have hi17 : (i : Int) ≤ 17 := by omega
                      have hmx : max ((i : Int) - 1) 0 ≤ 17 := by omega
                      have he1 : (T.extract 0 i).size ≤ 17 := by rw [ByteArray.size_extract]; omega
                      have he2 : (T.extract i 17).size ≤ 17 := by rw [ByteArray.size_extract]; omega
                      have he3 : (T.extract 0 (max ((i : Int) - 1) 0).toNat).size ≤ 17 := by rw [ByteArray.size_extract]; omega
                      have hmx0 : 0 ≤ max ((i : Int) - 1) 0 := by omega
                      have hwr : IntKind.i64.wrap ((i : Int) - 1) = (i : Int) - 1 := IntWalk.i64_in _ (by omega)
                      have hD : Below wo.heap.size wo wo.drew := (bel_refl wo).drew
                      refine wp_region_held_drew (S := fun W => Below wo.heap.size wo W ∧ (W.heap.size = wo.heap.size ∨ ∀ k, k < 7 → ∃ s : ByteArray, W.cell? ⟨wo.heap.size, k, none⟩ = some (.string s))) (by kernel_rfl) ⟨hD, .inl rfl⟩ (fun hS => ?_)
                      refine wpAnyH_takeD (i := 0) (d := some 102) (v := ?_) rfl rfl (by kernel_rfl) (by kernel_rfl) (by kernel_rfl) (fun _ _ _ h => h) (Or.inl ⟨by rfl, fun w hSw => ?_⟩) (by assumption) ?_
                      rotate_left
                      · first | (go_simp; done) | (go_simp; with_reducible rfl) | (go_simp; rw [if_neg (by omega)])
                      simp only [Act.put, List.setIfInBounds_toArray, List.set_cons_zero, List.set_cons_succ]
                      refine wpAnyH_takeD (i := 1) (d := some 103) (v := ?_) rfl rfl (by kernel_rfl) (by kernel_rfl) (by kernel_rfl) (fun _ _ _ h => h) (Or.inl ⟨by rfl, fun w hSw => ?_⟩) (by assumption) ?_
                      rotate_left
                      · first | (go_simp; done) | (go_simp; with_reducible rfl) | (go_simp; rw [if_neg (by omega)])
                      simp only [Act.put, List.setIfInBounds_toArray, List.set_cons_zero, List.set_cons_succ]
                      refine wpAnyH_takeD (i := 2) (d := some 104) (v := ?_) rfl rfl (by kernel_rfl) (by kernel_rfl) (by kernel_rfl) (fun _ _ _ h => h) (Or.inl ⟨by rfl, fun w hSw => ?_⟩) (by assumption) ?_
                      rotate_left
                      · first | (go_simp; done) | (go_simp; with_reducible rfl) | (go_simp; rw [if_neg (by omega)])
                      simp only [Act.put, List.setIfInBounds_toArray, List.set_cons_zero, List.set_cons_succ]
                      refine wpAnyH_takeD (i := 3) (d := some 105) (v := ?_) rfl rfl (by kernel_rfl) (by kernel_rfl) (by kernel_rfl) (fun _ _ _ h => h) (Or.inl ⟨by rfl, fun w hSw => ?_⟩) (by assumption) ?_
                      rotate_left
                      · first | (go_simp; done) | (go_simp; with_reducible rfl) | (go_simp; rw [if_neg (by omega)])
                      simp only [Act.put, List.setIfInBounds_toArray, List.set_cons_zero, List.set_cons_succ]
                      refine wpAnyH_takeD (i := 4) (d := some 106) (v := ?_) rfl rfl (by kernel_rfl) (by kernel_rfl) (by kernel_rfl) (fun _ _ _ h => h) (Or.inl ⟨by rfl, fun w hSw => ?_⟩) (by assumption) ?_
                      rotate_left
                      · first | (go_simp; done) | (go_simp; with_reducible rfl) | (go_simp; rw [if_neg (by omega)])
                      simp only [Act.put, List.setIfInBounds_toArray, List.set_cons_zero, List.set_cons_succ]
                      refine wpAnyH_takeD (i := 5) (d := some 107) (v := ?_) rfl rfl (by kernel_rfl) (by kernel_rfl) (by kernel_rfl) (fun _ _ _ h => h) (Or.inl ⟨by rfl, fun w hSw => ?_⟩) (by assumption) ?_
                      rotate_left
                      · first | (go_simp; done) | (go_simp; with_reducible rfl) | (go_simp; rw [if_neg (by omega)])
                      simp only [Act.put, List.setIfInBounds_toArray, List.set_cons_zero, List.set_cons_succ]
                      refine wpAnyH_takeD (i := 6) (d := some 108) (v := ?_) rfl rfl (by kernel_rfl) (by kernel_rfl) (by kernel_rfl) (fun _ _ _ h => h) (Or.inl ⟨by rfl, fun w hSw => ?_⟩) (by assumption) ?_
                      rotate_left
                      · first | (go_simp; done) | (go_simp; with_reducible rfl) | (go_simp; rw [if_neg (by omega)])
                      simp only [Act.put, List.setIfInBounds_toArray, List.set_cons_zero, List.set_cons_succ]
                      refine wpAnyH_takeD (i := 7) (d := some 109) (v := ?_) rfl rfl (by kernel_rfl) (by kernel_rfl) (by kernel_rfl) (fun _ _ _ h => h) (Or.inl ⟨by rfl, fun w hSw => ?_⟩) (by assumption) ?_
                      rotate_left
                      · first | (go_simp; done) | (go_simp; with_reducible rfl) | (go_simp; rw [if_neg (by omega)])
                      simp only [Act.put, List.setIfInBounds_toArray, List.set_cons_zero, List.set_cons_succ]
                      refine wpAnyH_takeD (i := 8) (d := some 110) (v := ?_) rfl rfl (by kernel_rfl) (by kernel_rfl) (by kernel_rfl) (fun _ _ _ h => h) (Or.inl ⟨by rfl, fun w hSw => ?_⟩) (by assumption) ?_
                      rotate_left
                      · first | (go_simp; done) | (go_simp; with_reducible rfl) | (go_simp; rw [if_neg (by omega)])
                      simp only [Act.put, List.setIfInBounds_toArray, List.set_cons_zero, List.set_cons_succ]
                      refine wpAnyH_takeD (i := 9) (d := some 111) (v := ?_) rfl rfl (by kernel_rfl) (by kernel_rfl) (by kernel_rfl) (fun _ _ _ h => h) (Or.inl ⟨by rfl, fun w hSw => ?_⟩) (by assumption) ?_
                      rotate_left
                      · first | (go_simp; done) | (go_simp; with_reducible rfl) | (go_simp; rw [if_neg (by omega)])
                      simp only [Act.put, List.setIfInBounds_toArray, List.set_cons_zero, List.set_cons_succ]
                      refine wpAnyH_takeD (i := 10) (d := some 112) (v := ?_) rfl rfl (by kernel_rfl) (by kernel_rfl) (by kernel_rfl) (fun _ _ _ h => h) (Or.inl ⟨by rfl, fun w hSw => ?_⟩) (by assumption) ?_
                      rotate_left
                      · first | (go_simp; done) | (go_simp; with_reducible rfl) | (go_simp; rw [if_neg (by omega)])
                      simp only [Act.put, List.setIfInBounds_toArray, List.set_cons_zero, List.set_cons_succ]
                      refine wpAnyH_takeD (i := 11) (d := some 113) (v := ?_) rfl rfl (by kernel_rfl) (by kernel_rfl) (by kernel_rfl) (fun _ _ _ h => h) (Or.inl ⟨by rfl, fun w hSw => ?_⟩) (by assumption) ?_
                      rotate_left
                      · first | (go_simp; done) | (go_simp; with_reducible rfl) | (go_simp; rw [if_neg (by omega)])
                      simp only [Act.put, List.setIfInBounds_toArray, List.set_cons_zero, List.set_cons_succ]
                      refine wpAnyH_takeD (i := 12) (d := some 114) (v := ?_) rfl rfl (by kernel_rfl) (by kernel_rfl) (by kernel_rfl) (fun _ _ _ h => h) (Or.inl ⟨by rfl, fun w hSw => ?_⟩) (by assumption) ?_
                      rotate_left
                      · first | (go_simp; done) | (go_simp; with_reducible rfl) | (go_simp; rw [if_neg (by omega)])
                      simp only [Act.put, List.setIfInBounds_toArray, List.set_cons_zero, List.set_cons_succ]
                      refine wpAnyH_takeD (i := 13) (d := some 115) (v := ?_) rfl rfl (by kernel_rfl) (by kernel_rfl) (by kernel_rfl) (fun _ _ _ h => h) (Or.inl ⟨by rfl, fun w hSw => ?_⟩) (by assumption) ?_
                      rotate_left
                      · first | (go_simp; done) | (go_simp; with_reducible rfl) | (go_simp; rw [if_neg (by omega)])
                      simp only [Act.put, List.setIfInBounds_toArray, List.set_cons_zero, List.set_cons_succ]
                      refine wpAnyH_takeD (i := 14) (d := some 116) (v := ?_) rfl rfl (by kernel_rfl) (by kernel_rfl) (by kernel_rfl) (fun _ _ _ h => h) (Or.inl ⟨by rfl, fun w hSw => ?_⟩) (by assumption) ?_
                      rotate_left
                      · first | (go_simp; done) | (go_simp; with_reducible rfl) | (go_simp; rw [if_neg (by omega)])
                      simp only [Act.put, List.setIfInBounds_toArray, List.set_cons_zero, List.set_cons_succ]
                      refine wpAnyH_takeD (i := 15) (d := some 117) (v := ?_) rfl rfl (by kernel_rfl) (by kernel_rfl) (by kernel_rfl) (fun _ _ _ h => h) (Or.inl ⟨by rfl, fun w hSw => ?_⟩) (by assumption) ?_
                      rotate_left
                      · first | (go_simp; done) | (go_simp; with_reducible rfl) | (go_simp; rw [if_neg (by omega)])
                      simp only [Act.put, List.setIfInBounds_toArray, List.set_cons_zero, List.set_cons_succ]
                      refine wpAnyH_takeD (i := 16) (d := some 118) (v := ?_) rfl rfl (by kernel_rfl) (by kernel_rfl) (by kernel_rfl) (fun _ _ _ h => h) (Or.inl ⟨by rfl, fun w hSw => ?_⟩) (by assumption) ?_
                      rotate_left
                      · first | (go_simp; done) | (go_simp; with_reducible rfl) | (go_simp; rw [if_neg (by omega)])
                      simp only [Act.put, List.setIfInBounds_toArray, List.set_cons_zero, List.set_cons_succ]
                      refine wpAnyH_takeD (i := 17) (d := some 119) (v := ?_) rfl rfl (by kernel_rfl) (by kernel_rfl) (by kernel_rfl) (fun _ _ _ h => h) (Or.inl ⟨by rfl, fun w hSw => ?_⟩) (by assumption) ?_
                      rotate_left
                      · first | (go_simp; done) | (go_simp; with_reducible rfl) | (go_simp; rw [if_neg (by omega)])
                      simp only [Act.put, List.setIfInBounds_toArray, List.set_cons_zero, List.set_cons_succ]
                      refine wpAnyH_takeD (i := 18) (d := some 120) (v := ?_) rfl rfl (by kernel_rfl) (by kernel_rfl) (by kernel_rfl) (fun _ _ _ h => h) (Or.inl ⟨by rfl, fun w hSw => ?_⟩) (by assumption) ?_
                      rotate_left
                      · first | (go_simp; done) | (go_simp; with_reducible rfl) | (go_simp; rw [if_neg (by omega)])
                      simp only [Act.put, List.setIfInBounds_toArray, List.set_cons_zero, List.set_cons_succ]
                      refine wpAnyH_takeD (i := 19) (d := some 121) (v := ?_) rfl rfl (by kernel_rfl) (by kernel_rfl) (by kernel_rfl) (fun _ _ _ h => h) (Or.inl ⟨by rfl, fun w hSw => ?_⟩) (by assumption) ?_
                      rotate_left
                      · first | (go_simp; done) | (go_simp; with_reducible rfl) | (go_simp; rw [if_neg (by omega)])
                      simp only [Act.put, List.setIfInBounds_toArray, List.set_cons_zero, List.set_cons_succ]
                      refine wpAnyH_takeD (i := 20) (d := some 122) (v := ?_) rfl rfl (by kernel_rfl) (by kernel_rfl) (by kernel_rfl) (fun _ _ _ h => h) (Or.inl ⟨by rfl, fun w hSw => ?_⟩) (by assumption) ?_
                      rotate_left
                      · first | (go_simp; done) | (go_simp; with_reducible rfl) | (go_simp; rw [if_neg (by omega)])
                      simp only [Act.put, List.setIfInBounds_toArray, List.set_cons_zero, List.set_cons_succ]
                      refine wpAnyH_takeD (i := 21) (d := some 123) (v := ?_) rfl rfl (by kernel_rfl) (by kernel_rfl) (by kernel_rfl) (fun _ _ _ h => h) (Or.inl ⟨by rfl, fun w hSw => ?_⟩) (by assumption) ?_
                      rotate_left
                      · first | (go_simp; done) | (go_simp; with_reducible rfl) | (go_simp; rw [if_neg (by omega)])
                      simp only [Act.put, List.setIfInBounds_toArray, List.set_cons_zero, List.set_cons_succ]
                      refine wpAnyH_takeD (i := 22) (d := some 124) (v := ?_) rfl rfl (by kernel_rfl) (by kernel_rfl) (by kernel_rfl) (fun _ _ _ h => h) (Or.inl ⟨by rfl, fun w hSw => ?_⟩) (by assumption) ?_
                      rotate_left
                      · first | (go_simp; done) | (go_simp; with_reducible rfl) | (go_simp; rw [if_neg (by omega)])
                      simp only [Act.put, List.setIfInBounds_toArray, List.set_cons_zero, List.set_cons_succ]
                      refine wpAnyH_takeD (i := 23) (d := some 125) (v := ?_) rfl rfl (by kernel_rfl) (by kernel_rfl) (by kernel_rfl) (fun _ _ _ h => h) (Or.inl ⟨by rfl, fun w hSw => ?_⟩) (by assumption) ?_
                      rotate_left
                      · first | (go_simp; done) | (go_simp; with_reducible rfl) | (go_simp; rw [if_neg (by omega)])
                      simp only [Act.put, List.setIfInBounds_toArray, List.set_cons_zero, List.set_cons_succ]
                      refine wpAnyH_takeD (i := 24) (d := some 126) (v := ?_) rfl rfl (by kernel_rfl) (by kernel_rfl) (by kernel_rfl) (fun _ _ _ h => h) (Or.inl ⟨by rfl, fun w hSw => ?_⟩) (by assumption) ?_
                      rotate_left
                      · first | (go_simp; done) | (go_simp; with_reducible rfl) | (go_simp; rw [if_neg (by omega)])
                      simp only [Act.put, List.setIfInBounds_toArray, List.set_cons_zero, List.set_cons_succ]
                      refine wpAnyH_takeD (i := 25) (d := some 127) (v := ?_) rfl rfl (by kernel_rfl) (by kernel_rfl) (by kernel_rfl) (fun _ _ _ h => h) (Or.inl ⟨by rfl, fun w hSw => ?_⟩) (by assumption) ?_
                      rotate_left
                      · first | (go_simp; done) | (go_simp; with_reducible rfl) | (go_simp; rw [if_neg (by omega)])
                      simp only [Act.put, List.setIfInBounds_toArray, List.set_cons_zero, List.set_cons_succ]
                      refine wpAnyH_takeD (i := 26) (d := some 128) (v := ?_) rfl rfl (by kernel_rfl) (by kernel_rfl) (by kernel_rfl) (fun _ _ _ h => h) (Or.inl ⟨by rfl, fun w hSw => ?_⟩) (by assumption) ?_
                      rotate_left
                      · first | (go_simp; done) | (go_simp; with_reducible rfl) | (go_simp; rw [if_neg (by omega)])
                      simp only [Act.put, List.setIfInBounds_toArray, List.set_cons_zero, List.set_cons_succ]
                      refine wpAnyH_takeD (i := 27) (d := some 129) (v := ?_) rfl rfl (by kernel_rfl) (by kernel_rfl) (by kernel_rfl) (fun _ _ _ h => h) (Or.inl ⟨by rfl, fun w hSw => ?_⟩) (by assumption) ?_
                      rotate_left
                      · first | (go_simp; done) | (go_simp; with_reducible rfl) | (go_simp; rw [if_neg (by omega)])
                      simp only [Act.put, List.setIfInBounds_toArray, List.set_cons_zero, List.set_cons_succ]
                      refine wpAnyH_takeD (i := 28) (d := some 130) (v := ?_) rfl rfl (by kernel_rfl) (by kernel_rfl) (by kernel_rfl) (fun _ _ _ h => h) (Or.inl ⟨by rfl, fun w hSw => ?_⟩) (by assumption) ?_
                      rotate_left
                      · first | (go_simp; done) | (go_simp; with_reducible rfl) | (go_simp; rw [if_neg (by omega)])
                      simp only [Act.put, List.setIfInBounds_toArray, List.set_cons_zero, List.set_cons_succ]
                      refine wpAnyH_takeD (i := 29) (d := some 131) (v := ?_) rfl rfl (by kernel_rfl) (by kernel_rfl) (by kernel_rfl) (fun _ _ _ h => h) (Or.inl ⟨by rfl, fun w hSw => ?_⟩) (by assumption) ?_
                      rotate_left
                      · first | (go_simp; done) | (go_simp; with_reducible rfl) | (go_simp; rw [if_neg (by omega)])
                      simp only [Act.put, List.setIfInBounds_toArray, List.set_cons_zero, List.set_cons_succ]
                      refine wpAnyH_takeD (i := 30) (d := some 132) (v := ?_) rfl rfl (by kernel_rfl) (by kernel_rfl) (by kernel_rfl) (fun _ _ _ h => h) (Or.inl ⟨by rfl, fun w hSw => ?_⟩) (by assumption) ?_
                      rotate_left
                      · first | (go_simp; done) | (go_simp; with_reducible rfl) | (go_simp; rw [if_neg (by omega)])
                      simp only [Act.put, List.setIfInBounds_toArray, List.set_cons_zero, List.set_cons_succ]
                      refine wpAnyH_takeD (i := 31) (d := some 133) (v := ?_) rfl rfl (by kernel_rfl) (by kernel_rfl) (by kernel_rfl) (fun _ _ _ h => h) (Or.inl ⟨by rfl, fun w hSw => ?_⟩) (by assumption) ?_
                      rotate_left
                      · first | (go_simp; done) | (go_simp; with_reducible rfl) | (go_simp; rw [if_neg (by omega)])
                      simp only [Act.put, List.setIfInBounds_toArray, List.set_cons_zero, List.set_cons_succ]
                      refine wpAnyH_takeD (i := 32) (d := some 134) (v := ?_) rfl rfl (by kernel_rfl) (by kernel_rfl) (by kernel_rfl) (fun _ _ _ h => h) (Or.inl ⟨by rfl, fun w hSw => ?_⟩) (by assumption) ?_
                      rotate_left
                      · first | (go_simp; done) | (go_simp; with_reducible rfl) | (go_simp; rw [if_neg (by omega)])
                      simp only [Act.put, List.setIfInBounds_toArray, List.set_cons_zero, List.set_cons_succ]
                      refine wpAnyH_takeD (i := 33) (d := some 135) (v := ?_) rfl rfl (by kernel_rfl) (by kernel_rfl) (by kernel_rfl) (fun _ _ _ h => h) (Or.inl ⟨by rfl, fun w hSw => ?_⟩) (by assumption) ?_
                      rotate_left
                      · first | (go_simp; done) | (go_simp; with_reducible rfl) | (go_simp; rw [if_neg (by omega)])
                      simp only [Act.put, List.setIfInBounds_toArray, List.set_cons_zero, List.set_cons_succ]
                      refine wpAnyH_takeD (i := 34) (d := some 136) (v := ?_) rfl rfl (by kernel_rfl) (by kernel_rfl) (by kernel_rfl) (fun _ _ _ h => h) (Or.inl ⟨by rfl, fun w hSw => ?_⟩) (by assumption) ?_
                      rotate_left
                      · first | (go_simp; done) | (go_simp; with_reducible rfl) | (go_simp; rw [if_neg (by omega)])
                      simp only [Act.put, List.setIfInBounds_toArray, List.set_cons_zero, List.set_cons_succ]
                      refine wpAnyH_takeD (i := 35) (d := some 137) (v := ?_) rfl rfl (by kernel_rfl) (by kernel_rfl) (by kernel_rfl) (fun _ _ _ h => h) (Or.inl ⟨by rfl, fun w hSw => ?_⟩) (by assumption) ?_
                      rotate_left
                      · first | (go_simp; done) | (go_simp; with_reducible rfl) | (go_simp; rw [if_neg (by omega)])
                      simp only [Act.put, List.setIfInBounds_toArray, List.set_cons_zero, List.set_cons_succ]
                      refine wpAnyH_takeD (i := 36) (d := some 138) (v := ?_) rfl rfl (by kernel_rfl) (by kernel_rfl) (by kernel_rfl) (fun _ _ _ h => h) (Or.inl ⟨by rfl, fun w hSw => ?_⟩) (by assumption) ?_
                      rotate_left
                      · first | (go_simp; done) | (go_simp; with_reducible rfl) | (go_simp; rw [if_neg (by omega)])
                      simp only [Act.put, List.setIfInBounds_toArray, List.set_cons_zero, List.set_cons_succ]
                      refine wpAnyH_takeD (i := 37) (d := some 139) (v := ?_) rfl rfl (by kernel_rfl) (by kernel_rfl) (by kernel_rfl) (fun _ _ _ h => h) (Or.inl ⟨by rfl, fun w hSw => ?_⟩) (by assumption) ?_
                      rotate_left
                      · first | (go_simp; done) | (go_simp; with_reducible rfl) | (go_simp; rw [if_neg (by omega)])
                      simp only [Act.put, List.setIfInBounds_toArray, List.set_cons_zero, List.set_cons_succ]
                      refine wpAnyH_takeD (i := 38) (d := some 140) (v := ?_) rfl rfl (by kernel_rfl) (by kernel_rfl) (by kernel_rfl) (fun _ _ _ h => h) (Or.inl ⟨by rfl, fun w hSw => ?_⟩) (by assumption) ?_
                      rotate_left
                      · first | (go_simp; done) | (go_simp; with_reducible rfl) | (go_simp; rw [if_neg (by omega)])
                      simp only [Act.put, List.setIfInBounds_toArray, List.set_cons_zero, List.set_cons_succ]
                      refine wpAnyH_takeD (i := 39) (d := some 141) (v := ?_) rfl rfl (by kernel_rfl) (by kernel_rfl) (by kernel_rfl) (fun _ _ _ h => h) (Or.inl ⟨by rfl, fun w hSw => ?_⟩) (by assumption) ?_
                      rotate_left
                      · first | (go_simp; done) | (go_simp; with_reducible rfl) | (go_simp; rw [if_neg (by omega)])
                      simp only [Act.put, List.setIfInBounds_toArray, List.set_cons_zero, List.set_cons_succ]
                      refine wpAnyH_takeD (i := 40) (d := some 142) (v := ?_) rfl rfl (by kernel_rfl) (by kernel_rfl) (by kernel_rfl) (fun _ _ _ h => h) (Or.inl ⟨by rfl, fun w hSw => ?_⟩) (by assumption) ?_
                      rotate_left
                      · first | (go_simp; done) | (go_simp; with_reducible rfl) | (go_simp; rw [if_neg (by omega)])
                      simp only [Act.put, List.setIfInBounds_toArray, List.set_cons_zero, List.set_cons_succ]
                      refine wpAnyH_takeD (i := 41) (d := some 143) (v := ?_) rfl rfl (by kernel_rfl) (by kernel_rfl) (by kernel_rfl) (fun _ _ _ h => h) (Or.inl ⟨by rfl, fun w hSw => ?_⟩) (by assumption) ?_
                      rotate_left
                      · first | (go_simp; done) | (go_simp; with_reducible rfl) | (go_simp; rw [if_neg (by omega)])
                      simp only [Act.put, List.setIfInBounds_toArray, List.set_cons_zero, List.set_cons_succ]
                      refine wpAnyH_takeD (i := 42) (d := some 144) (v := ?_) rfl rfl (by kernel_rfl) (by kernel_rfl) (by kernel_rfl) (fun _ _ _ h => h) (Or.inl ⟨by rfl, fun w hSw => ?_⟩) (by assumption) ?_
                      rotate_left
                      · first | (go_simp; done) | (go_simp; with_reducible rfl) | (go_simp; rw [if_neg (by omega)])
                      simp only [Act.put, List.setIfInBounds_toArray, List.set_cons_zero, List.set_cons_succ]
                      refine wpAnyH_takeD (i := 43) (d := some 145) (v := ?_) rfl rfl (by kernel_rfl) (by kernel_rfl) (by kernel_rfl) (fun _ _ _ h => h) (Or.inl ⟨by rfl, fun w hSw => ?_⟩) (by assumption) ?_
                      rotate_left
                      · first | (go_simp; done) | (go_simp; with_reducible rfl) | (go_simp; rw [if_neg (by omega)])
                      simp only [Act.put, List.setIfInBounds_toArray, List.set_cons_zero, List.set_cons_succ]
                      refine wpAnyH_takeD (i := 44) (d := some 146) (v := ?_) rfl rfl (by kernel_rfl) (by kernel_rfl) (by kernel_rfl) (fun _ _ _ h => h) (Or.inl ⟨by rfl, fun w hSw => ?_⟩) (by assumption) ?_
                      rotate_left
                      · first | (go_simp; done) | (go_simp; with_reducible rfl) | (go_simp; rw [if_neg (by omega)])
                      simp only [Act.put, List.setIfInBounds_toArray, List.set_cons_zero, List.set_cons_succ]
                      refine wpAnyH_takeD (i := 45) (d := some 147) (v := ?_) rfl rfl (by kernel_rfl) (by kernel_rfl) (by kernel_rfl) (fun _ _ _ h => h) (Or.inl ⟨by rfl, fun w hSw => ?_⟩) (by assumption) ?_
                      rotate_left
                      · first | (go_simp; done) | (go_simp; with_reducible rfl) | (go_simp; rw [if_neg (by omega)])
                      simp only [Act.put, List.setIfInBounds_toArray, List.set_cons_zero, List.set_cons_succ]
                      refine wpAnyH_takeD (i := 46) (d := some 148) (v := ?_) rfl rfl (by kernel_rfl) (by kernel_rfl) (by kernel_rfl) (fun _ _ _ h => h) (Or.inl ⟨by rfl, fun w hSw => ?_⟩) (by assumption) ?_
                      rotate_left
                      · first | (go_simp; done) | (go_simp; with_reducible rfl) | (go_simp; rw [if_neg (by omega)])
                      simp only [Act.put, List.setIfInBounds_toArray, List.set_cons_zero, List.set_cons_succ]
                      refine wpAnyH_takeD (i := 49) (d := some 151) (v := ?_) rfl rfl (by kernel_rfl) (by kernel_rfl) (by kernel_rfl) (fun _ _ _ h => h) (Or.inl ⟨by rfl, fun w hSw => ?_⟩) (by assumption) ?_
                      rotate_left
                      · first | (go_simp; done) | (go_simp; with_reducible rfl) | (go_simp; rw [if_neg (by omega)])
                      simp only [Act.put, List.setIfInBounds_toArray, List.set_cons_zero, List.set_cons_succ]
                      refine wpAnyH_ready (rs := [47]) (by kernel_rfl) (by simp) ?_
                      refine AllReadyH.cons rfl (fun K hK => ?_) AllReadyH.nil
                      go_simp
                      refine hK _ _ ⟨hD.alloc (by simp) _, .inr (seven_get _ _ _ _ _ _ _ _ _ rfl)⟩ (fun hS' => ?_)
                      clear hK K hS
                      have hS := hS'
                      clear hS'
                      try simp only [Act.put, List.setIfInBounds_toArray, List.set_cons_zero, List.set_cons_succ]
                      refine wpAnyH_takeD (i := 48) (d := some 150) (v := ?_) rfl rfl (by kernel_rfl) (by kernel_rfl) (by kernel_rfl) (fun _ _ _ h => h) (Or.inl ⟨by rfl, fun w hSw => ?_⟩) (by assumption) ?_
                      rotate_left
                      · first | (go_simp; done) | (go_simp; with_reducible rfl) | (go_simp; rw [if_neg (by omega)])
                      simp only [Act.put, List.setIfInBounds_toArray, List.set_cons_zero, List.set_cons_succ]
                      refine wpAnyH_done (by kernel_rfl) ?_ _
                      go_wp2_with fail
                      obtain ⟨S1, hcs⟩ := hS
                      have hcl := hcs.resolve_left (fun h => by simp at h)
                      have HCL := Lib.hid hcl
                      have hB7 := hB6.trans (S1.mono hB6.size)
                      clear hcs hcl hwr hmx0 hmx he1 he2 he3 hi17 hD S1
                      try rw [show decide ((i : Int) < 18) = true from decide_eq_true (by omega)]
                      try rw [show decide (i < 18) = true from decide_eq_true (by omega)]
                      go_loopw [151] (fun vi wr => ∃ k : Nat, k ≤ 7 ∧ vi = .int .i64 (k : Int) ∧ Hid (∀ k, k < 7 → ∃ s : ByteArray, wr.cell? ⟨wo.heap.size, k, none⟩ = some (.string s)) ∧ Below w.heap.size w wr) (fun vi _ => 7 - (intOf vi).toNat)
                      case atStart => exact ⟨0, by omega, rfl, HCL, hB7⟩
                      case round =>
                        obtain ⟨k, hk, rfl, HC, hBk⟩ := hrel
                        by_cases hltk : k < 7
                        · obtain ⟨c, hc⟩ := HC.out k hltk
                          obtain ⟨x, E, r1, r2⟩ := pair_read c
                          have R1 := Lib.hid r1
                          have R2 := Lib.hid r2
                          clear r1 r2
                          go_wp2_with fail
                          refine (R1.out _).mono ?_
                          rintro e w1 ⟨rfl, hb1⟩
                          have hB1 := hBk.trans (hb1.mono hBk.size)
                          go_wp2_with fail
                          refine (R2.out _).mono ?_
                          rintro e w2 ⟨rfl, hb2⟩
                          have hB2 := hB1.trans (hb2.mono hB1.size)
                          have HC2 := Lib.hid (show ∀ k, k < 7 → ∃ s : ByteArray, w2.cell? ⟨wo.heap.size, k, none⟩ = some (.string s) from fun k h => by
                            obtain ⟨s, hs⟩ := HC.out k h
                            have h1 := cell_keep hb1 hs (cell_lt hs)
                            exact ⟨s, cell_keep hb2 h1 (cell_lt h1)⟩)
                          clear hb1 hB1 hb2 hBk HC hc
                          go_wp2_with fail
                          go_roundw
                          case rel => exact ⟨k + 1, by omega, by go_num, HC2, hB2⟩
                          case measure => simp [intOf]; omega
                        · clear HC HCL
                          go_wp2_with fail
                          go_roundw
                          case rel => exact ⟨i + 1, by omega, by go_num, hBk⟩
                          case measure => simp [intOf]; omega
                    · go_wp2_with fail
                      have hA8 := hB6.alloc hB6.size (.cells fourteen 9)
                      have hc8 := lit_cells wr fourteen 9
                      obtain ⟨b8, HB8⟩ := nm wr.heap.size
                      obtain ⟨W8, HW8⟩ := nm (wr.alloc (.cells fourteen 9))
                      change Code.wp _ _ _ _ (wr.alloc (.cells fourteen 9))
                      simp only [HB8.out] at hc8
                      rw [HB8.out, HW8.out]
                      rw [HW8.out] at hA8
                      simp only [HW8.out] at hc8
                      have HC8 := Lib.hid hc8
                      clear hc8 hB6
                      go_loopw [177] (fun vi wr => ∃ k : Nat, k ≤ 14 ∧ vi = .int .i64 (k : Int) ∧ Below W8.heap.size W8 wr) (fun vi _ => 14 - (intOf vi).toNat)
                      case atStart => exact ⟨0, by omega, rfl, bel_refl _⟩
                      case round =>
                        obtain ⟨k, hk, rfl, hBk⟩ := hrel
                        by_cases hltk : k < 14
                        · obtain ⟨c, hg⟩ := fourteen_get k hltk
                          have hc := (HC8.out k).trans hg
                          have hc' := cell_keep hBk hc (cell_lt hc)
                          obtain ⟨x, E, r1, r2⟩ := pair_read c
                          have R1 := Lib.hid r1
                          have R2 := Lib.hid r2
                          clear r1 r2 hg hc
                          go_wp2_with fail
                          refine (R1.out _).mono ?_
                          rintro e w1 ⟨rfl, hb1⟩
                          have hB1 := hBk.trans (hb1.mono hBk.size)
                          clear hb1 hBk
                          go_wp2_with fail
                          refine (R2.out _).mono ?_
                          rintro e w2 ⟨rfl, hb2⟩
                          have hB2 := hB1.trans (hb2.mono hB1.size)
                          clear hb2 hB1
                          go_wp2_with fail
                          go_roundw
                          case rel => exact ⟨k + 1, by omega, by go_num, hB2⟩
                          case measure => simp [intOf]; omega
                        · have hB8 := bel_trans hA8 hBk hA8.size
                          clear hA8 hBk HC8
                          go_wp2_with fail
                          refine (awake_any _).mono ?_
                          rintro e w1 ⟨rfl, hb1⟩
                          have hB9 := hB8.trans (hb1.mono hB8.size)
                          clear hb1 hB8
                          go_wp2_with fail
                          go_ret
                          exact ⟨rfl, hB9⟩
end Go.Proofs.YtidkjcflppbpdaaDoor
