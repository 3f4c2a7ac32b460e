/- The walk of the law DamageSmall. -/
import Derived.Test.YtmjigpnpcacefaaGreatDoorLawFlips
import Derived.Deep.DeepCutAuto
namespace Go.Proofs.YtmjigpnpcacefaaGreatDoor
open Go Go.RowKit Go.Shelf

theorem bursts_lit (x : Int) (b : Nat) (hb : b < 4294967296) (hx : -9223372036854775808 ≤ x ∧ x ≤ 9223372036854775807) (xs : List Int) (w : World) (N : Nat) (hN : w.heap.size = N) (t : TypeId) (cs : Array Value) (n : Nat) (hc : cs = (valsI .i64 xs).toArray) (hn : n = xs.length) (hl : n < 1000)
    (hxs : ∀ k ∈ xs, -9223372036854775808 ≤ k ∧ k ≤ 9223372036854775807) :
    Calls Tryz.prog 7 #[.agg #[.int .i64 x, .int .u32 b], .slice (some ⟨N, 0, none⟩) n n] (w.alloc (.cells cs t)) fun e w' => e = .returned (.bool true) ∧ Below w.heap.size w w' := by
  subst hN
  refine (bursts_any x b hb hx _ xs _ (reads_litI .i64 w xs t cs n hc hn (by omega)) hxs).mono ?_
  rintro e w' ⟨rfl, hb'⟩
  exact ⟨rfl, gr_trans (bel_alloc w _) hb'⟩
theorem flips_A (x a : Int) (b : Nat) (hb : b < 4294967296) (hx : -9223372036854775808 ≤ x ∧ x ≤ 9223372036854775807) (ha : -9223372036854775808 ≤ a ∧ a ≤ 9223372036854775807) (w : World) (N : Nat) (hN : w.heap.size = N) (hT : Tab w) :
    Calls Tryz.prog 5 #[.slice (some ⟨N, 0, none⟩) 3 3, .slice none 0 0, .slice (some ⟨N + 1, 0, none⟩) 1 1, .agg #[.int .i64 x, .int .u32 b]] ((w.alloc (.cells #[.int .u8 1, .int .u8 2, .int .u8 3] 5)).alloc (.cells #[.int .i64 a] 3)) fun e w' => e = .returned (.bool true) ∧ Below w.heap.size w w' := by
  subst hN
  have hb1 := bel_alloc w (.cells #[.int .u8 1, .int .u8 2, .int .u8 3] 5)
  have hb2 := bel_alloc (w.alloc (.cells #[.int .u8 1, .int .u8 2, .int .u8 3] 5)) (.cells #[.int .i64 a] 3)
  have h1 := (owns_lit .u8 5 w w.heap.size (Nat.le_refl _) [1, 2, 3] #[.int .u8 1, .int .u8 2, .int .u8 3] 3 rfl rfl (by decide)).reads.keep hb2 (Nat.le_refl _)
  have h2 := reads_litI .i64 (w.alloc (.cells #[.int .u8 1, .int .u8 2, .int .u8 3] 5)) [a] 3 #[.int .i64 a] 1 rfl rfl (by decide)
  rw [World.size_alloc] at h2
  refine (flips_any _ [1, 2, 3] _ [] _ [a] x b _ h1 (bytes_lit rfl) (Owns.nil .u8 5 _ 0).reads (bytes_lit rfl) h2 (by intro k hk; rw [List.mem_singleton.1 hk]; exact ha) hx hb (hT.keep (gr_trans hb1 hb2) (Nat.le_refl _))).mono ?_
  rintro e w' ⟨rfl, hb'⟩
  exact ⟨rfl, gr_trans (gr_trans hb1 hb2) hb'⟩
theorem flips_B (x a1 a2 a3 : Int) (b q1 q2 q3 : Nat) (hb : b < 4294967296) (hq1 : q1 < 256) (hq2 : q2 < 256) (hq3 : q3 < 256) (hx : -9223372036854775808 ≤ x ∧ x ≤ 9223372036854775807) (ha1 : -9223372036854775808 ≤ a1 ∧ a1 ≤ 9223372036854775807) (ha2 : -9223372036854775808 ≤ a2 ∧ a2 ≤ 9223372036854775807) (ha3 : -9223372036854775808 ≤ a3 ∧ a3 ≤ 9223372036854775807) (w : World) (N : Nat) (hN : w.heap.size = N) (hT : Tab w) :
    Calls Tryz.prog 5 #[.slice (some ⟨N, 0, none⟩) 5 5, .slice (some ⟨N + 1, 0, none⟩) 5 5, .slice (some ⟨N + 1 + 1, 0, none⟩) 3 3, .agg #[.int .i64 x, .int .u32 b]] (((w.alloc (.cells #[.int .u8 0, .int .u8 255, .int .u8 5, .int .u8 0, .int .u8 0] 5)).alloc (.cells #[.int .u8 q1, .int .u8 255, .int .u8 q2, .int .u8 0, .int .u8 q3] 5)).alloc (.cells #[.int .i64 a1, .int .i64 a2, .int .i64 a3] 3)) fun e w' => e = .returned (.bool true) ∧ Below w.heap.size w w' := by
  subst hN
  have hb1 := bel_alloc w (.cells #[.int .u8 0, .int .u8 255, .int .u8 5, .int .u8 0, .int .u8 0] 5)
  have h1 := (owns_lit .u8 5 w w.heap.size (Nat.le_refl _) [0, 255, 5, 0, 0] #[.int .u8 0, .int .u8 255, .int .u8 5, .int .u8 0, .int .u8 0] 5 rfl rfl (by decide)).reads
  have hs1 : (w.alloc (.cells #[.int .u8 0, .int .u8 255, .int .u8 5, .int .u8 0, .int .u8 0] 5)).heap.size = w.heap.size + 1 := World.size_alloc _ _
  obtain ⟨w1, HW1⟩ := nm (w.alloc (.cells #[.int .u8 0, .int .u8 255, .int .u8 5, .int .u8 0, .int .u8 0] 5))
  rw [HW1.out] at hb1 h1 hs1 ⊢
  have hb2 := bel_alloc w1 (.cells #[.int .u8 q1, .int .u8 255, .int .u8 q2, .int .u8 0, .int .u8 q3] 5)
  have h2 := (owns_lit .u8 5 w1 w1.heap.size (Nat.le_refl _) [q1, 255, q2, 0, q3] #[.int .u8 q1, .int .u8 255, .int .u8 q2, .int .u8 0, .int .u8 q3] 5 rfl rfl (by decide)).reads
  have hs2 : (w1.alloc (.cells #[.int .u8 q1, .int .u8 255, .int .u8 q2, .int .u8 0, .int .u8 q3] 5)).heap.size = w1.heap.size + 1 := World.size_alloc _ _
  obtain ⟨w2, HW2⟩ := nm (w1.alloc (.cells #[.int .u8 q1, .int .u8 255, .int .u8 q2, .int .u8 0, .int .u8 q3] 5))
  rw [HW2.out] at hb2 h2 hs2 ⊢
  have hb3 := bel_alloc w2 (.cells #[.int .i64 a1, .int .i64 a2, .int .i64 a3] 3)
  have h3 := reads_litI .i64 w2 [a1, a2, a3] 3 #[.int .i64 a1, .int .i64 a2, .int .i64 a3] 3 rfl rfl (by decide)
  rw [← hs1] at ⊢
  rw [← hs2] at ⊢
  have hbb := gr_trans hb1 (gr_trans hb2 hb3)
  refine (flips_any _ [0, 255, 5, 0, 0] _ [q1, 255, q2, 0, q3] _ [a1, a2, a3] x b _ (h1.keep (gr_trans hb2 hb3) (Nat.le_refl _)) (bytes_lit rfl) (h2.keep hb3 (Nat.le_refl _)) (fun y hy => ?_) h3 (fun k hk => ?_) hx hb (hT.keep hbb (Nat.le_refl _))).mono ?_
  · simp at hy; omega
  · simp at hk; omega
  · rintro e w' ⟨rfl, hb'⟩
    exact ⟨rfl, gr_trans hbb hb'⟩
theorem flips_C (vs : Value) (xs : List Nat) (vb : Value) (ys : List Nat) (ls : List Int) (x : Int) (b : Nat) (hb : b < 4294967296) (hx : -9223372036854775808 ≤ x ∧ x ≤ 9223372036854775807) (w : World) (N : Nat) (hN : w.heap.size = N) (cs : Array Value) (n : Nat) (hc : cs = (valsI .i64 ls).toArray) (hn : n = ls.length) (hl : n < 1000)
    (hls : ∀ k ∈ ls, -9223372036854775808 ≤ k ∧ k ≤ 9223372036854775807) (hT : Tab w) (hs : Reads .u8 w vs xs) (hsb : Bytes xs) (hv : Reads .u8 w vb ys) (hvb : Bytes ys) :
    Calls Tryz.prog 5 #[vs, vb, .slice (some ⟨N, 0, none⟩) n n, .agg #[.int .i64 x, .int .u32 b]] (w.alloc (.cells cs 3)) fun e w' => e = .returned (.bool true) ∧ Below w.heap.size w w' := by
  subst hN
  have hb1 := bel_alloc w (.cells cs 3)
  refine (flips_any _ xs _ ys _ ls x b _ (hs.keep hb1 (Nat.le_refl _)) hsb (hv.keep hb1 (Nat.le_refl _)) hvb (reads_litI .i64 w ls 3 cs n hc hn (by omega)) hls hx hb (hT.keep hb1 (Nat.le_refl _))).mono ?_
  rintro e w' ⟨rfl, hb'⟩
  exact ⟨rfl, gr_trans hb1 hb'⟩
theorem pieces_D (f m t : Int) (q k : Nat) (hk : k ≤ 4) (w : World) (N : Nat) (hN : w.heap.size = N) :
    Calls Tryz.prog 9 #[.slice (some ⟨N, 0, none⟩) 4 4, .slice (some ⟨N + 1, 0, none⟩) k 4, .int .i64 f, .int .i64 m, .int .i64 t] ((w.alloc (.cells #[.int .u8 1, .int .u8 2, .int .u8 2, .int .u8 1] 5)).alloc (.cells #[.int .u8 1, .int .u8 2, .int .u8 q, .int .u8 1] 5)) fun e w' => e = .returned (.bool true) ∧ Below w.heap.size w w' := by
  subst hN
  have hb1 := bel_alloc w (.cells #[.int .u8 1, .int .u8 2, .int .u8 2, .int .u8 1] 5)
  have h1 := (owns_lit .u8 5 w w.heap.size (Nat.le_refl _) [1, 2, 2, 1] #[.int .u8 1, .int .u8 2, .int .u8 2, .int .u8 1] 4 rfl rfl (by decide)).reads
  have hs1 : (w.alloc (.cells #[.int .u8 1, .int .u8 2, .int .u8 2, .int .u8 1] 5)).heap.size = w.heap.size + 1 := World.size_alloc _ _
  obtain ⟨w1, HW1⟩ := nm (w.alloc (.cells #[.int .u8 1, .int .u8 2, .int .u8 2, .int .u8 1] 5))
  rw [HW1.out] at hb1 h1 hs1 ⊢
  have hb2 := bel_alloc w1 (.cells #[.int .u8 1, .int .u8 2, .int .u8 q, .int .u8 1] 5)
  have h2 := reads_pre (owns_lit .u8 5 w1 w1.heap.size (Nat.le_refl _) [1, 2, q, 1] #[.int .u8 1, .int .u8 2, .int .u8 q, .int .u8 1] 4 rfl rfl (by decide)).reads hk
  rw [← hs1] at ⊢
  refine (pieces_any _ [1, 2, 2, 1] _ ([1, 2, q, 1].take k) f m t _ (h1.keep hb2 (Nat.le_refl _)) h2).mono ?_
  rintro e w' ⟨rfl, hb'⟩
  exact ⟨rfl, gr_trans (gr_trans hb1 hb2) hb'⟩
theorem bytes_seal {xs : List Nat} (hx : Bytes xs) : Bytes (Gf.sealB xs) := Bytes.append hx (fun y hy => by simp [Gf.four] at hy; omega)
theorem seal_len (xs : List Nat) : (Gf.sealB xs).length = xs.length + 4 := by simp [Gf.sealB, Gf.four]
set_option maxRecDepth 100000 in
set_option maxHeartbeats 16000000 in
theorem damageSmall_all (w : World) (hT : Tab w) : Calls Tryz.prog 4 #[] w fun e w' => e = .returned (.bool true) ∧ Below w.heap.size w w' := by
  have HT := Lib.hid hT
  clear hT
  have hr := reads_litI .i64 w [-9223372036854775808, -1, 0, 1, 7, 8, 9223372036854775807, 9223372036854775806, 9223372036854775776, 9223372036854775775] 3 #[.int .i64 (-9223372036854775808), .int .i64 (-1), .int .i64 0, .int .i64 1, .int .i64 7, .int .i64 8, .int .i64 9223372036854775807, .int .i64 9223372036854775806, .int .i64 9223372036854775776, .int .i64 9223372036854775775] 10 rfl rfl (by decide)
  have hb1 := bel_alloc w (.cells #[.int .i64 (-9223372036854775808), .int .i64 (-1), .int .i64 0, .int .i64 1, .int .i64 7, .int .i64 8, .int .i64 9223372036854775807, .int .i64 9223372036854775806, .int .i64 9223372036854775776, .int .i64 9223372036854775775] 3)
  go_enter Tryz.func4, Tryz.ntmps4
  go_wp2_with fail
  obtain ⟨w1, HW1⟩ := nm (w.alloc (.cells #[.int .i64 (-9223372036854775808), .int .i64 (-1), .int .i64 0, .int .i64 1, .int .i64 7, .int .i64 8, .int .i64 9223372036854775807, .int .i64 9223372036854775806, .int .i64 9223372036854775776, .int .i64 9223372036854775775] 3))
  rw [HW1.out] at hr hb1 ⊢
  obtain ⟨B0, HB0⟩ := nm w.heap.size
  rw [HB0.out] at hr ⊢
  have HCA := Lib.hid (show ∀ i, i < 10 → ∃ a, w1.cell? ⟨B0, i, none⟩ = some (.int .i64 a) ∧ -9223372036854775808 ≤ a ∧ a ≤ 9223372036854775807 from fun i hi => by
    obtain ⟨a', c', he, h1, h2, h3⟩ := hr
    cases he
    obtain ⟨b', o', he, hcell⟩ := h3.resolve_left (by decide)
    cases he
    refine ⟨_, by have := hcell i hi; rwa [Nat.zero_add] at this, ?_⟩
    have hm : ∀ k ∈ ([-9223372036854775808, -1, 0, 1, 7, 8, 9223372036854775807, 9223372036854775806, 9223372036854775776, 9223372036854775775] : List Int), -9223372036854775808 ≤ k ∧ k ≤ 9223372036854775807 := by decide
    refine hm _ ?_
    rw [List.getElem?_eq_getElem hi, Option.getD_some]
    exact List.getElem_mem _)
  have HB1 := Lib.hid hb1
  have HT1 := Lib.hid (HT.out.keep hb1 (Nat.le_refl _))
  clear hr hb1 HW1 HT
  go_loopw [23] (fun vi wr => ∃ i : Nat, i ≤ 10 ∧ vi = .int .i64 (i : Int) ∧ Below w1.heap.size w1 wr) (fun vi _ => 10 - (intOf vi).toNat)
  case atStart => exact ⟨0, Nat.zero_le _, rfl, bel_refl _⟩
  case round =>
    obtain ⟨i, hi, rfl, hB⟩ := hrel
    by_cases hlt : i < 10
    · obtain ⟨a, hca, ha⟩ := HCA.out i hlt
      have ca := cell_keep hB hca (cell_lt hca)
      have hi1 : (i : Int) < 10 := by omega
      have HBI := Lib.hid hB
      have HA := Lib.hid ha
      clear hca hB ha
      obtain ⟨wo, rfl⟩ : ∃ wo : World, wo = wr := ⟨_, rfl⟩
      go_wp2_with fail
      go_loopw [27] (fun vj wr => ∃ j : Nat, j ≤ 70 ∧ vj = .int .u32 (j : Int) ∧ Below wo.heap.size wo wr) (fun vj _ => 70 - (intOf vj).toNat)
      case atStart => exact ⟨0, Nat.zero_le _, rfl, bel_refl _⟩
      case round =>
        obtain ⟨j, hj, rfl, hBj⟩ := hrel
        by_cases hltj : j < 70
        · have hj1 : (j : Int) < 70 := by omega
          have HBJ := Lib.hid hBj
          clear hBj
          have hxr : bits .xor .u32 IntKind.u32.max (j : Int) = ((4294967295 ^^^ j : Nat) : Int) := u32_xor_nat 4294967295 j (by decide) (by omega)
          have hc1 : 4294967295 ^^^ j < 4294967296 := Nat.xor_lt_two_pow (n := 32) (by decide) (by omega)
          have hshl : IntKind.u32.wrap ((j : Int) * 67108864) = ((j * 67108864 % 4294967296 : Nat) : Int) := by rw [IntKind.wrap_u32]; omega
          have hs : j * 67108864 % 4294967296 < 4294967296 := Nat.mod_lt _ (by decide)
          obtain ⟨s, HS⟩ := nm (j * 67108864 % 4294967296)
          rw [HS.out] at hshl hs
          have hor : bits .or .u32 (s : Int) 1 = ((s ||| 1 : Nat) : Int) := u32_or_nat s 1 hs (by decide)
          have hc2 : s ||| 1 < 4294967296 := Nat.or_lt_two_pow (n := 32) hs (by decide)
          obtain ⟨c1, HC1⟩ := nm (4294967295 ^^^ j)
          obtain ⟨c2, HC2⟩ := nm (s ||| 1)
          rw [HC1.out] at hxr hc1
          rw [HC2.out] at hor hc2
          have hcj : IntKind.i64.wrap (j : Int) = (j : Int) := IntWalk.i64_in _ (by omega)
          go_wp2_with fail
          have hb2 := bel_alloc wr (.cells #[.int .u32 (j : Int), .int .u32 (c1 : Int), .int .u32 (c2 : Int)] 24)
          have HCB := Lib.hid (show ∀ q, q < 3 → ∃ c : Nat, (wr.alloc (.cells #[.int .u32 (j : Int), .int .u32 (c1 : Int), .int .u32 (c2 : Int)] 24)).cell? ⟨wr.heap.size, q, none⟩ = some (.int .u32 (c : Int)) ∧ c < 4294967296 from fun q hq => by
            match q, hq with
            | 0, _ => exact ⟨j, (arr_cell (heap_alloc_new wr _) rfl).1, by omega⟩
            | 1, _ => exact ⟨c1, (arr_cell (heap_alloc_new wr _) rfl).1, hc1⟩
            | 2, _ => exact ⟨c2, (arr_cell (heap_alloc_new wr _) rfl).1, hc2⟩)
          obtain ⟨w2, HW2⟩ := nm (wr.alloc (.cells #[.int .u32 (j : Int), .int .u32 (c1 : Int), .int .u32 (c2 : Int)] 24))
          rw [HW2.out] at hb2 HCB ⊢
          obtain ⟨B2, HB2⟩ := nm wr.heap.size
          rw [HB2.out] at HCB ⊢
          have HBT := Lib.hid (gr_trans HBI.out (gr_trans HBJ.out hb2))
          have HBT2 := Lib.hid (gr_trans HBJ.out hb2)
          clear hb2 HW2 HB2 hxr hc1 hshl hs hor hc2
          go_loopw [38] (fun vq wr => ∃ q : Nat, q ≤ 3 ∧ vq = .int .i64 (q : Int) ∧ Below w2.heap.size w2 wr) (fun vq _ => 3 - (intOf vq).toNat)
          case atStart => exact ⟨0, Nat.zero_le _, rfl, bel_refl _⟩
          case round =>
            obtain ⟨q, hq, rfl, hBq⟩ := hrel
            by_cases hltq : q < 3
            · obtain ⟨cc, hcc, hcl⟩ := HCB.out q hltq
              have cb := cell_keep hBq hcc (cell_lt hcc)
              have hq1 : (q : Int) < 3 := by omega
              have HBQ := Lib.hid (gr_trans HBT.out hBq)
              have HBQ2 := Lib.hid hBq
              clear hcc hBq
              go_wp2_with fail
              refine (bursts_lit a cc hcl HA.out [a, (j : Int)] _ _ rfl _ _ 2 rfl rfl (by decide) (by intro k hk; have := HA.out; simp at hk; omega)).mono ?_
              rintro e w4 ⟨rfl, hb4⟩
              have HB4 := Lib.hid (gr_trans HBQ2.out hb4)
              have hT4 := HT1.out.keep (gr_trans HBQ.out hb4) (Nat.le_refl _)
              clear hb4
              go_wp2_with fail
              refine (flips_A a a cc hcl HA.out HA.out w4 _ rfl hT4).mono ?_
              rintro e w5 ⟨rfl, hb5⟩
              have HB5 := Lib.hid (gr_trans HB4.out hb5)
              clear hb5 hT4
              go_wp2_with fail
              go_roundw
              case rel => exact ⟨q + 1, by omega, by go_num, HB5.out⟩
              case measure => simp [intOf]; omega
            · obtain rfl : q = 3 := by omega
              rw [show ((3 : Nat) : Int) = 3 from rfl]
              have HBQ := Lib.hid (gr_trans HBT2.out hBq)
              clear hBq
              go_wp2_with fail
              go_roundw
              case rel => exact ⟨j + 1, by omega, by go_num, HBQ.out⟩
              case measure => simp [intOf]; omega
        · obtain rfl : j = 70 := by omega
          rw [show ((70 : Nat) : Int) = 70 from rfl]
          have HBJ := Lib.hid (gr_trans HBI.out hBj)
          clear hBj
          go_wp2_with fail
          go_roundw
          case rel => exact ⟨i + 1, by omega, by go_num, HBJ.out⟩
          case measure => simp [intOf]; omega
    · obtain rfl : i = 10 := by omega
      rw [show ((10 : Nat) : Int) = 10 from rfl]
      have HB2 := Lib.hid hB
      clear hB HCA
      have hr2 := reads_litI .i64 wr [-1, 0, 1, 7, 8, 31, 32, 33, 9223372036854775807] 3 #[.int .i64 (-1), .int .i64 0, .int .i64 1, .int .i64 7, .int .i64 8, .int .i64 31, .int .i64 32, .int .i64 33, .int .i64 9223372036854775807] 9 rfl rfl (by decide)
      have hb3 := bel_alloc wr (.cells #[.int .i64 (-1), .int .i64 0, .int .i64 1, .int .i64 7, .int .i64 8, .int .i64 31, .int .i64 32, .int .i64 33, .int .i64 9223372036854775807] 3)
      go_wp2_with fail
      obtain ⟨w3, HW3⟩ := nm (wr.alloc (.cells #[.int .i64 (-1), .int .i64 0, .int .i64 1, .int .i64 7, .int .i64 8, .int .i64 31, .int .i64 32, .int .i64 33, .int .i64 9223372036854775807] 3))
      rw [HW3.out] at hr2 hb3 ⊢
      obtain ⟨B1, HB1'⟩ := nm wr.heap.size
      rw [HB1'.out] at hr2 ⊢
      have HCA := Lib.hid (show ∀ i, i < 9 → ∃ a, w3.cell? ⟨B1, i, none⟩ = some (.int .i64 a) ∧ -9223372036854775808 ≤ a ∧ a ≤ 9223372036854775807 from fun i hi => by
        obtain ⟨a', c', he, h1, h2, h3⟩ := hr2
        cases he
        obtain ⟨b', o', he, hcell⟩ := h3.resolve_left (by decide)
        cases he
        refine ⟨_, by have := hcell i hi; rwa [Nat.zero_add] at this, ?_⟩
        have hm : ∀ k ∈ ([-1, 0, 1, 7, 8, 31, 32, 33, 9223372036854775807] : List Int), -9223372036854775808 ≤ k ∧ k ≤ 9223372036854775807 := by decide
        refine hm _ ?_
        rw [List.getElem?_eq_getElem hi, Option.getD_some]
        exact List.getElem_mem _)
      have HB3 := Lib.hid (gr_trans HB2.out hb3)
      clear hr2 hb3 HW3 HB1' HB2
      have HB1w := Lib.hid (gr_trans HB1.out HB3.out)
      have HT3 := Lib.hid (HT1.out.keep HB3.out (Nat.le_refl _))
      go_loopw [67] (fun vi wr => ∃ i : Nat, i ≤ 9 ∧ vi = .int .i64 (i : Int) ∧ Below w3.heap.size w3 wr) (fun vi _ => 9 - (intOf vi).toNat)
      case atStart => exact ⟨0, Nat.zero_le _, rfl, bel_refl _⟩
      case round =>
        obtain ⟨i1, hi1, rfl, hBa⟩ := hrel
        by_cases hlt1 : i1 < 9
        · obtain ⟨a1, hca1, ha1⟩ := HCA.out i1 hlt1
          have ca1 := cell_keep hBa hca1 (cell_lt hca1)
          have hi1' : (i1 : Int) < 9 := by omega
          have HBa := Lib.hid hBa
          have HA1 := Lib.hid ha1
          clear hca1 hBa ha1
          obtain ⟨wa, rfl⟩ : ∃ wa : World, wa = wr := ⟨_, rfl⟩
          go_wp2_with fail
          go_loopw [73] (fun vi wr => ∃ i : Nat, i ≤ 9 ∧ vi = .int .i64 (i : Int) ∧ Below wa.heap.size wa wr) (fun vi _ => 9 - (intOf vi).toNat)
          case atStart => exact ⟨0, Nat.zero_le _, rfl, bel_refl _⟩
          case round =>
            obtain ⟨i2, hi2, rfl, hBb⟩ := hrel
            by_cases hlt2 : i2 < 9
            · obtain ⟨a2, hca2, ha2⟩ := HCA.out i2 hlt2
              have ca2 := cell_keep (gr_trans HBa.out hBb) hca2 (cell_lt hca2)
              have hi2' : (i2 : Int) < 9 := by omega
              have HBb := Lib.hid hBb
              have HA2 := Lib.hid ha2
              clear hca2 hBb ha2 ca1
              obtain ⟨wb, rfl⟩ : ∃ wb : World, wb = wr := ⟨_, rfl⟩
              go_wp2_with fail
              go_loopw [79] (fun vi wr => ∃ i : Nat, i ≤ 9 ∧ vi = .int .i64 (i : Int) ∧ Below wb.heap.size wb wr) (fun vi _ => 9 - (intOf vi).toNat)
              case atStart => exact ⟨0, Nat.zero_le _, rfl, bel_refl _⟩
              case round =>
                obtain ⟨i3, hi3, rfl, hBc⟩ := hrel
                by_cases hlt3 : i3 < 9
                · obtain ⟨a3, hca3, ha3⟩ := HCA.out i3 hlt3
                  have hbc3 := gr_trans (gr_trans HBa.out HBb.out) hBc
                  have ca3 := cell_keep hbc3 hca3 (cell_lt hca3)
                  have hi3' : (i3 : Int) < 9 := by omega
                  have hTc := HT3.out.keep hbc3 (Nat.le_refl _)
                  have HTc := Lib.hid hTc
                  have HBc := Lib.hid hBc
                  have HA3 := Lib.hid ha3
                  have hq1 : IntKind.u8.wrap a1 = (((a1 % 256).toNat : Nat) : Int) := by rw [IntKind.wrap_u8]; omega
                  have hq2 : IntKind.u8.wrap a2 = (((a2 % 256).toNat : Nat) : Int) := by rw [IntKind.wrap_u8]; omega
                  have hq3 : IntKind.u8.wrap a3 = (((a3 % 256).toNat : Nat) : Int) := by rw [IntKind.wrap_u8]; omega
                  have hu2 : IntKind.u32.wrap a2 = (((a2 % 4294967296).toNat : Nat) : Int) := by rw [IntKind.wrap_u32]; omega
                  have hl1 : (a1 % 256).toNat < 256 := by omega
                  have hl2 : (a2 % 256).toNat < 256 := by omega
                  have hl3 : (a3 % 256).toNat < 256 := by omega
                  have hlu : (a2 % 4294967296).toNat < 4294967296 := by omega
                  obtain ⟨q1, HQ1⟩ := nm (a1 % 256).toNat
                  obtain ⟨q2, HQ2⟩ := nm (a2 % 256).toNat
                  obtain ⟨q3, HQ3⟩ := nm (a3 % 256).toNat
                  obtain ⟨u2, HU2⟩ := nm (a2 % 4294967296).toNat
                  rw [HQ1.out] at hq1 hl1
                  rw [HQ2.out] at hq2 hl2
                  rw [HQ3.out] at hq3 hl3
                  rw [HU2.out] at hu2 hlu
                  clear hca3 hBc ha3 hTc hbc3 ca2
                  go_wp2_with fail
                  refine (bursts_lit 0 0 (by decide) (by decide) [a1, a2, a3] _ _ rfl _ _ 3 rfl rfl (by decide) (by intro k hk; have := HA1.out; have := HA2.out; have := HA3.out; simp at hk; omega)).mono ?_
                  rintro e w4 ⟨rfl, hb4⟩
                  have HB4 := Lib.hid (gr_trans HBc.out hb4)
                  have hT4 := HTc.out.keep hb4 (Nat.le_refl _)
                  clear hb4
                  go_wp2_with fail
                  refine (flips_B a1 a1 a2 a3 u2 q1 q2 q3 hlu hl1 hl2 hl3 HA1.out HA1.out HA2.out HA3.out w4 _ rfl hT4).mono ?_
                  rintro e w5 ⟨rfl, hb5⟩
                  have HB5 := Lib.hid (gr_trans HB4.out hb5)
                  clear hb5 hT4
                  go_wp2_with fail
                  go_roundw
                  case rel => exact ⟨i3 + 1, by omega, by go_num, HB5.out⟩
                  case measure => simp [intOf]; omega
                · obtain rfl : i3 = 9 := by omega
                  rw [show ((9 : Nat) : Int) = 9 from rfl]
                  have HBc := Lib.hid (gr_trans HBb.out hBc)
                  clear hBc
                  go_wp2_with fail
                  go_roundw
                  case rel => exact ⟨i2 + 1, by omega, by go_num, HBc.out⟩
                  case measure => simp [intOf]; omega
            · obtain rfl : i2 = 9 := by omega
              rw [show ((9 : Nat) : Int) = 9 from rfl]
              have HBb := Lib.hid (gr_trans HBa.out hBb)
              clear hBb
              go_wp2_with fail
              go_roundw
              case rel => exact ⟨i1 + 1, by omega, by go_num, HBb.out⟩
              case measure => simp [intOf]; omega
        · obtain rfl : i1 = 9 := by omega
          rw [show ((9 : Nat) : Int) = 9 from rfl]
          have HBa := Lib.hid (gr_trans HB1w.out hBa)
          have HTa := Lib.hid (HT3.out.keep hBa (Nat.le_refl _))
          clear hBa HCA HT3 HT1 HB1 HB3 HB1w
          obtain ⟨ws, rfl⟩ : ∃ ws : World, ws = wr := ⟨_, rfl⟩
          go_wp2_with fail
          go_loopw [113] (fun vi wr => ∃ n : Nat, n ≤ 9 ∧ vi = .int .i64 (n : Int) ∧ Below ws.heap.size ws wr) (fun vi _ => 9 - (intOf vi).toNat)
          case atStart => exact ⟨0, Nat.zero_le _, rfl, bel_refl _⟩
          case round =>
            obtain ⟨n, hn, rfl, hBn⟩ := hrel
            by_cases hltn : n < 9
            · have hn1 : (n : Int) < 9 := by omega
              have HBn := Lib.hid hBn
              clear hBn
              obtain ⟨wn, rfl⟩ : ∃ wn : World, wn = wr := ⟨_, rfl⟩
              go_wp2_with fail
              go_loopw [14, 117] (fun vb vi wr => ∃ i : Nat, i ≤ n ∧ vi = .int .i64 (i : Int) ∧ Below wn.heap.size wn wr ∧ ∃ xs : List Nat, xs.length = i ∧ Bytes xs ∧ Owns .u8 5 wr wn.heap.size vb xs) (fun _ vi _ => n - (intOf vi).toNat)
              case atStart => exact ⟨0, Nat.zero_le _, rfl, bel_refl _, [], rfl, bytes_lit rfl, Owns.nil _ _ _ _⟩
              case round =>
                obtain ⟨i, hi, rfl, hBi, xs, hxl, hxb, ho⟩ := hrel
                by_cases hlti : i < n
                · have hi1 : (i : Int) < (n : Int) := by omega
                  have hm1 : IntKind.i64.wrap (37 * (i : Int)) = ((37 * i : Nat) : Int) := by rw [IntWalk.i64_in _ (by omega)]; omega
                  have hm2 : 37 * (i : Int) = ((37 * i : Nat) : Int) := by omega
                  have hm3 : IntKind.i64.wrap (((37 * i : Nat) : Int) + (n : Int)) = ((37 * i + n : Nat) : Int) := by rw [IntWalk.i64_in _ (by omega)]; omega
                  have hm4 : ((37 * i : Nat) : Int) + (n : Int) = ((37 * i + n : Nat) : Int) := by omega
                  have hm5 : IntKind.u8.wrap ((37 * i + n : Nat) : Int) = (((37 * i + n) % 256 : Nat) : Int) := by rw [IntKind.wrap_u8]; omega
                  have hy : (37 * i + n) % 256 < 256 := Nat.mod_lt _ (by decide)
                  obtain ⟨y, HY⟩ := nm ((37 * i + n) % 256)
                  rw [HY.out] at hm5 hy
                  obtain ⟨r, HR⟩ := nm (37 * i + n)
                  rw [HR.out] at hm3 hm4 hm5
                  obtain ⟨p, HP⟩ := nm (37 * i)
                  rw [HP.out] at hm1 hm2 hm3 hm4
                  have HO := Lib.hid ho
                  have HBi := Lib.hid hBi
                  have HXL := Lib.hid hxl
                  have HXB := Lib.hid hxb
                  have HYL := Lib.hid hy
                  clear ho hBi hxl hxb hy
                  go_wp2_with (at_builtin; refine wpl_app1 rfl (.tmp 120) (.tmp 126) 22 rfl .u8 5 1 Tryz.underlying22 info_u8 (by decide) wn.heap.size _ xs _ HO.out rfl _ y rfl rfl (by have := HXL.out; omega) HBi.out.size ?_; intro v5 w5 ho5 hb5)
                  go_roundw
                  case rel => exact ⟨i + 1, by omega, by go_num, HBi.out.trans hb5, xs ++ [y], by rw [List.length_append, HXL.out]; rfl, Bytes.append HXB.out (fun z hz => by rw [List.mem_singleton.1 hz]; exact HYL.out), ho5⟩
                  case measure => simp [intOf]; omega
                · obtain rfl : n = i := by omega
                  have HXB := Lib.hid hxb
                  have hsl := seal_len xs
                  rw [hxl] at hsl
                  have HSL := Lib.hid hsl
                  have HSB := Lib.hid (bytes_seal hxb)
                  have HRD := Lib.hid ho.reads
                  have HBi := Lib.hid (gr_trans HBn.out hBi)
                  have HXL := Lib.hid hxl
                  obtain ⟨ab, mb, cb, rfl, -⟩ := ho.slice
                  clear hxb hsl ho hBi hxl
                  go_wp2_with fail
                  refine (rseal_any _ xs _ HRD.out HXB.out (by have := HXL.out; omega)).mono ?_
                  rintro e w5 ⟨v5, rfl, ho5, hb5⟩
                  obtain ⟨asl, ms, csl, rfl, hms, -⟩ := ho5.slice
                  rw [HSL.out] at hms
                  have HRS := Lib.hid ho5.reads
                  have HRD5 := Lib.hid (HRD.out.keep hb5 (Nat.le_refl _))
                  have HB5 := Lib.hid (gr_trans HBi.out hb5)
                  have HT5 := Lib.hid (HTa.out.keep HB5.out (Nat.le_refl _))
                  have hk1 : IntKind.i64.wrap (8 * (ms : Int)) = ((8 * ms : Nat) : Int) := by rw [IntWalk.i64_in _ (by omega)]; omega
                  have hk2 : 8 * (ms : Int) = ((8 * ms : Nat) : Int) := by omega
                  have hk3 : IntKind.i64.wrap (((8 * ms : Nat) : Int) + 1) = ((8 * ms + 1 : Nat) : Int) := by rw [IntWalk.i64_in _ (by omega)]; omega
                  have hk4 : ((8 * ms : Nat) : Int) + 1 = ((8 * ms + 1 : Nat) : Int) := by omega
                  have hN : 8 * ms + 1 < 200 := by omega
                  obtain ⟨N, HN⟩ := nm (8 * ms + 1)
                  rw [HN.out] at hk3 hk4 hN
                  obtain ⟨M8, HM8⟩ := nm (8 * ms)
                  rw [HM8.out] at hk1 hk2 hk3 hk4
                  have hn8 : IntKind.i64.wrap (8 * (n : Int)) = ((8 * n : Nat) : Int) := by rw [IntWalk.i64_in _ (by omega)]; omega
                  have hn9 : 8 * (n : Int) = ((8 * n : Nat) : Int) := by omega
                  have hn8l : 8 * n < 100 := by omega
                  obtain ⟨n8, HN8⟩ := nm (8 * n)
                  rw [HN8.out] at hn8 hn9 hn8l
                  clear ho5 hb5 hms HRD
                  go_wp2_with fail
                  go_loopw [135] (fun vk wr => ∃ k : Nat, k ≤ N ∧ vk = .int .i64 (k : Int) ∧ Below w5.heap.size w5 wr) (fun vk _ => N - (intOf vk).toNat)
                  case atStart => exact ⟨0, Nat.zero_le _, rfl, bel_refl _⟩
                  case round =>
                    obtain ⟨k, hk, rfl, hBk⟩ := hrel
                    by_cases hltk : k < N
                    · have hk1' : (k : Int) < (N : Int) := by omega
                      have hku : IntKind.u32.wrap (k : Int) = (k : Int) := by rw [IntKind.wrap_u32]; omega
                      have HBk := Lib.hid hBk
                      have hcall := flips_C _ (Gf.sealB xs) _ xs [(k : Int)] (k : Int) 2147483649 (by decide) (by omega) wr _ rfl #[.int .i64 (k : Int)] 1 rfl rfl (by decide) (by intro z hz; rw [List.mem_singleton.1 hz]; omega) (HT5.out.keep hBk (Nat.le_refl _)) (HRS.out.keep hBk (Nat.le_refl _)) HSB.out (HRD5.out.keep hBk (Nat.le_refl _)) HXB.out
                      rw [show ((2147483649 : Nat) : Int) = 2147483649 from rfl] at hcall
                      have HCALL := Lib.hid hcall
                      clear hBk hcall
                      go_wp2_with fail
                      with_reducible refine HCALL.out.mono ?_
                      rintro e w6 ⟨rfl, hb6⟩
                      have HB6 := Lib.hid (gr_trans HBk.out hb6)
                      clear hb6 HCALL
                      go_wp2_with fail
                      refine (flips_C _ (Gf.sealB xs) _ (Gf.sealB xs) [(k : Int), (n8 : Int)] (k : Int) k (by omega) (by omega) w6 _ rfl _ 2 rfl rfl (by decide) (by intro z hz; simp at hz; omega) (HT5.out.keep HB6.out (Nat.le_refl _)) (HRS.out.keep HB6.out (Nat.le_refl _)) HSB.out (HRS.out.keep HB6.out (Nat.le_refl _)) HSB.out).mono ?_
                      rintro e w7 ⟨rfl, hb7⟩
                      have HB7 := Lib.hid (gr_trans HB6.out hb7)
                      clear hb7
                      go_wp2_with fail
                      go_roundw
                      case rel => exact ⟨k + 1, by omega, by go_num, HB7.out⟩
                      case measure => simp [intOf]; omega
                    · obtain rfl : N = k := by omega
                      have HBk := Lib.hid (gr_trans HB5.out hBk)
                      clear hBk
                      go_wp2_with fail
                      go_roundw
                      case rel => exact ⟨n + 1, by omega, by go_num, HBk.out⟩
                      case measure => simp [intOf]; omega
            · obtain rfl : n = 9 := by omega
              rw [show ((9 : Nat) : Int) = 9 from rfl]
              have HBs := Lib.hid (gr_trans HBa.out hBn)
              have HTs := Lib.hid (HTa.out.keep hBn (Nat.le_refl _))
              clear hBn HTa HBa
              obtain ⟨wt, rfl⟩ : ∃ wt : World, wt = wr := ⟨_, rfl⟩
              go_wp2_with fail
              go_loopw [18] (fun vi wr => ∃ z : Int, -1 ≤ z ∧ z ≤ 6 ∧ vi = .int .i64 z ∧ Below wt.heap.size wt wr) (fun vi _ => (6 - intOf vi).toNat)
              case atStart => exact ⟨-1, by omega, by omega, rfl, bel_refl _⟩
              case round =>
                obtain ⟨z1, hz1a, hz1b, rfl, hB1⟩ := hrel
                by_cases hltz1 : z1 < 6
                · have HBz1 := Lib.hid hB1
                  clear hB1
                  have hw1 : IntKind.i64.wrap (z1 + 1) = z1 + 1 := IntWalk.i64_in _ (by omega)
                  obtain ⟨wu, rfl⟩ : ∃ wu : World, wu = wr := ⟨_, rfl⟩
                  go_wp2_with fail
                  go_loopw [19] (fun vi wr => ∃ z : Int, -1 ≤ z ∧ z ≤ 6 ∧ vi = .int .i64 z ∧ Below wu.heap.size wu wr) (fun vi _ => (6 - intOf vi).toNat)
                  case atStart => exact ⟨-1, by omega, by omega, rfl, bel_refl _⟩
                  case round =>
                    obtain ⟨z2, hz2a, hz2b, rfl, hB2⟩ := hrel
                    by_cases hltz2 : z2 < 6
                    · have HBz2 := Lib.hid hB2
                      clear hB2
                      have hw2 : IntKind.i64.wrap (z2 + 1) = z2 + 1 := IntWalk.i64_in _ (by omega)
                      have hq : IntKind.u8.wrap z2 = (((z2 % 256).toNat : Nat) : Int) := by rw [IntKind.wrap_u8]; omega
                      obtain ⟨q, HQ⟩ := nm (z2 % 256).toNat
                      rw [HQ.out] at hq
                      obtain ⟨wv, rfl⟩ : ∃ wv : World, wv = wr := ⟨_, rfl⟩
                      go_wp2_with fail
                      go_loopw [20] (fun vi wr => ∃ z : Int, -1 ≤ z ∧ z ≤ 6 ∧ vi = .int .i64 z ∧ Below wv.heap.size wv wr) (fun vi _ => (6 - intOf vi).toNat)
                      case atStart => exact ⟨-1, by omega, by omega, rfl, bel_refl _⟩
                      case round =>
                        obtain ⟨z3, hz3a, hz3b, rfl, hB3⟩ := hrel
                        by_cases hltz3 : z3 < 6
                        · have HBz3 := Lib.hid hB3
                          clear hB3
                          have hw3 : IntKind.i64.wrap (z3 + 1) = z3 + 1 := IntWalk.i64_in _ (by omega)
                          obtain ⟨mx, HMX⟩ := nm (max z3 0).toNat
                          have hmx : max z3 0 = (mx : Int) := by have := HMX.out; omega
                          have hmm : (mx : Int) % 5 = ((mx % 5 : Nat) : Int) := by omega
                          have hk4 : mx % 5 ≤ 4 := by omega
                          obtain ⟨k, HK⟩ := nm (mx % 5)
                          rw [HK.out] at hmm hk4
                          have hk4' : (k : Int) ≤ 4 := by omega
                          go_wp2_with fail
                          refine (pieces_D z1 z2 z3 q k hk4 wr _ rfl).mono ?_
                          rintro e w4 ⟨rfl, hb4⟩
                          have HB4 := Lib.hid (gr_trans HBz3.out hb4)
                          clear hb4
                          go_wp2_with fail
                          go_roundw
                          case rel => exact ⟨z3 + 1, by omega, by omega, by rfl, HB4.out⟩
                          case measure => simp [intOf]; omega
                        · obtain rfl : z3 = 6 := by omega
                          have HBz3 := Lib.hid (gr_trans HBz2.out hB3)
                          clear hB3
                          go_wp2_with fail
                          go_roundw
                          case rel => exact ⟨z2 + 1, by omega, by omega, by rfl, HBz3.out⟩
                          case measure => simp [intOf]; omega
                    · obtain rfl : z2 = 6 := by omega
                      have HBz2 := Lib.hid (gr_trans HBz1.out hB2)
                      clear hB2
                      go_wp2_with fail
                      go_roundw
                      case rel => exact ⟨z1 + 1, by omega, by omega, by rfl, HBz2.out⟩
                      case measure => simp [intOf]; omega
                · obtain rfl : z1 = 6 := by omega
                  have HBz := Lib.hid (gr_trans HBs.out hB1)
                  have HTz := Lib.hid (HTs.out.keep hB1 (Nat.le_refl _))
                  clear hB1
                  go_wp2_with fail
                  have hnil := fun (W : World) => (Owns.nil .u8 5 W 0).reads
                  refine (pieces_any _ [] _ [] 0 0 0 wr (hnil _) (hnil _)).mono ?_
                  rintro e w4 ⟨rfl, hb4⟩
                  have HB4 := Lib.hid (gr_trans HBz.out hb4)
                  have HT4 := Lib.hid (HTz.out.keep hb4 (Nat.le_refl _))
                  have h1 := (owns_lit .u8 5 w4 w4.heap.size (Nat.le_refl _) [1] #[.int .u8 1] 1 rfl rfl (by decide)).reads
                  have hb5 := bel_alloc w4 (.cells #[.int .u8 1] 5)
                  have HR1 := Lib.hid h1
                  have HB5 := Lib.hid (gr_trans HB4.out hb5)
                  have HT5 := Lib.hid (HT4.out.keep hb5 (Nat.le_refl _))
                  have HNIL := Lib.hid hnil
                  clear hb4 h1 hb5 HT4 HB4 hnil
                  go_wp2_with fail
                  refine (pieces_any _ [1] _ [] 0 9223372036854775807 (-9223372036854775808) _ HR1.out (HNIL.out _)).mono ?_
                  rintro e w6 ⟨rfl, hb6⟩
                  have HB6 := Lib.hid (gr_trans HB5.out hb6)
                  have HT6 := Lib.hid (HT5.out.keep hb6 (Nat.le_refl _))
                  have hnl : ReadsI .i64 w6 (.slice none 0 0) [] := (OwnsI.nil .i64 3 w6 0).reads
                  have hcall := flips_any _ [] _ [] _ [] 0 1 w6 (HNIL.out _) (bytes_lit rfl) (HNIL.out _) (bytes_lit rfl) hnl (by intro k hk; cases hk) (by decide) (by decide) HT6.out
                  rw [show ((1 : Nat) : Int) = 1 from rfl] at hcall
                  have HCALL := Lib.hid hcall
                  clear hb6 HR1 HT5 HB5 hnl hcall
                  go_wp2_with fail
                  with_reducible refine HCALL.out.mono ?_
                  rintro e w7 ⟨rfl, hb7⟩
                  have HB7 := Lib.hid (gr_trans HB6.out hb7)
                  have HT7 := Lib.hid (HT6.out.keep hb7 (Nat.le_refl _))
                  clear hb7 HCALL
                  go_wp2_with fail
                  refine (awakeD_any w7 HT7.out).mono ?_
                  rintro e w8 ⟨rfl, hb8⟩
                  have HB8 := Lib.hid (gr_trans HB7.out hb8)
                  clear hb8
                  go_wp2_with fail
                  go_ret
                  exact ⟨rfl, HB8.out⟩
end Go.Proofs.YtmjigpnpcacefaaGreatDoor

