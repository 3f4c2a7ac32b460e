/- The walk of chapter 13's awake: the examples of the chapter. -/
import Derived.Test.YtmjigpnpcacefaaDoorDmgL
import Derived.Test.YtmjigpnpcacefaaDoorSame
namespace Go.Proofs.YtmjigpnpcacefaaDoor
open Go Go.RowKit Go.Shelf

theorem srt_eq {l s : List Int} (hs : s.Pairwise (· ≤ ·)) (hp : s.Perm l) : srt l = s :=
  List.Perm.eq_of_pairwise (le := (· ≤ ·)) (fun _ _ _ _ => Int.le_antisymm) (srt_sorted l) hs ((srt_perm l).trans hp.symm)
theorem ad_b : bitsV 5 11 = [5, 6, 8] ∧ bitsE 5 11 = 0 := by decide +kernel
theorem ad_s1 : srt [8, 5, 6] = [5, 6, 8] := srt_eq (by decide) (by decide)
theorem ad_s2 : srt [0, 32] = [0, 32] := srt_eq (by decide) (by decide)
theorem ad_s3 : srt [0, 31] = [0, 31] := srt_eq (by decide) (by decide)
theorem ad_o1 : ofA [8, 5, 6] = 5 ∧ ofB [8, 5, 6] = 11 ∧ ofE [8, 5, 6] = 0 := by unfold ofA ofB ofE; rw [ad_s1]; decide +kernel
theorem ad_o2 : ofA [0, 32] = 0 ∧ ofB [0, 32] = 0 ∧ ofE [0, 32] = 3 := by unfold ofA ofB ofE; rw [ad_s2]; decide +kernel
theorem ad_o3 : ofA [0, 31] = 0 ∧ ofB [0, 31] = 2147483649 ∧ ofE [0, 31] = 0 := by unfold ofA ofB ofE; rw [ad_s3]; decide +kernel
theorem ad_f : flipV [0, 0] [0, 15] = [1, 128] ∧ flipE [0, 0] [0, 15] = 0 := by decide +kernel
theorem ad_k : strikeV [0, 0] 5 11 = [96, 1] ∧ strikeE [0, 0] 5 11 = 0 := by decide +kernel
theorem ad_w : betweenV [0, 0] [96, 1] = [5, 6, 8] ∧ betweenE [0, 0] [96, 1] = 0 := by decide +kernel
theorem ad_d : foundV [0, 0, 0, 0] [0] = true ∧ foundE [0, 0, 0, 0] [0] = 0 := by decide +kernel
theorem ad_l : lenB 5 11 = 4 := by decide +kernel
theorem ad_t : turnV [1, 2, 3, 4, 5] 1 4 = [1, 4, 3, 2, 5] := by decide +kernel
theorem ad_e1 : endsN [1, 2, 3] [1, 9, 3] = 1 ∧ endsM [1, 2, 3] [1, 9, 3] = 1 := by decide +kernel
theorem ad_e2 : endsN [1, 1] [1] = 1 ∧ endsM [1, 1] [1] = 0 := by decide +kernel

theorem gr_trans {A B C : World} (h : Below A.heap.size A B) (k : Below B.heap.size B C) : Below A.heap.size A C := h.trans (k.mono h.size)
theorem of_lit (xs : List Int) (N : Nat) (w : World) (hN : w.heap.size = N) (t : TypeId) (cs : Array Value) (n : Nat) (hc : cs = (valsI .i64 xs).toArray) (hn : n = xs.length) (hl : n < 1000000000) (hb : ∀ k ∈ xs, -9223372036854775808 ≤ k ∧ k ≤ 9223372036854775807) :
    Calls Tryd.prog 20 #[.slice (some ⟨N, 0, none⟩) n n] (w.alloc (.cells cs t)) fun e w' => e = .returned (.tuple #[.agg #[.int .i64 (ofA xs), .int .u32 (ofB xs : Nat)], .int .i64 (ofE xs)]) ∧ Below w.heap.size w w' := by
  subst hN
  exact (of13_any _ xs _ (reads_litI .i64 w xs t cs n hc hn (by omega)) (by omega) hb).mono fun _ _ h => ⟨h.1, gr_trans (bel_alloc w _) h.2⟩
theorem sameInts_lit (v : Value) (xs ys : List Int) (N : Nat) (w : World) (hN : w.heap.size = N) (hv : ReadsI .i64 w v xs) (hxl : xs.length < 100000000) (t : TypeId) (cs : Array Value) (n : Nat) (hc : cs = (valsI .i64 ys).toArray) (hn : n = ys.length) (hl : n < 100000000) :
    Calls Tryd.prog 16 #[v, .slice (some ⟨N, 0, none⟩) n n] (w.alloc (.cells cs t)) fun e w' => e = .returned (.bool (decide (xs = ys))) ∧ Below w.heap.size w w' := by
  subst hN
  exact (sameInts_any v _ xs ys _ (hv.keep (bel_alloc w _) (Nat.le_refl _)) (reads_litI .i64 w ys t cs n hc hn (by omega)) hxl).mono fun _ _ h => ⟨h.1, gr_trans (bel_alloc w _) h.2⟩
theorem sameBytes_lit (v : Value) (xs ys : List Nat) (N : Nat) (w : World) (hN : w.heap.size = N) (hv : Reads .u8 w v xs) (hxl : xs.length < 100000000) (t : TypeId) (fz : Nat × Nat) (cs : Array Value) (n : Nat) (hc : cs = (vals .u8 ys).toArray) (hn : n = ys.length) (hl : n < 100000000) :
    Calls Tryd.prog 15 #[v, .slice (some ⟨N, 0, none⟩) n n] (w.alloc (.cells cs t fz)) fun e w' => e = .returned (.bool (decide (xs = ys))) ∧ Below w.heap.size w w' := by
  subst hN
  exact (sameBytes_any v _ xs ys _ (hv.keep (bel_alloc w _) (Nat.le_refl _)) (reads_lit .u8 w ys t fz cs n hc hn (by omega)) hxl).mono fun _ _ h => ⟨h.1, gr_trans (bel_alloc w _) h.2⟩
theorem flip_lit (xs : List Nat) (l : List Int) (N : Nat) (w : World) (hN : w.heap.size = N) (t t2 : TypeId) (fz : Nat × Nat) (cs cs2 : Array Value) (n m : Nat) (hc : cs = (vals .u8 xs).toArray) (hn : n = xs.length) (hl : n < 100000000) (hc2 : cs2 = (valsI .i64 l).toArray) (hm : m = l.length) (hml : m < 100000000) (hx : Bytes xs) (hb : ∀ k ∈ l, -9223372036854775808 ≤ k ∧ k ≤ 9223372036854775807) :
    Calls Tryd.prog 13 #[.slice (some ⟨N, 0, none⟩) n n, .slice (some ⟨N + 1, 0, none⟩) m m] ((w.alloc (.cells cs t fz)).alloc (.cells cs2 t2)) fun e w' => ∃ v', e = .returned (.tuple #[v', .int .i64 (flipE xs l)]) ∧ Owns .u8 5 w' w.heap.size v' (flipV xs l) ∧ Below w.heap.size w w' := by
  subst hN
  have h1 := (reads_lit .u8 w xs t fz cs n hc hn (by omega)).keep (bel_alloc (w.alloc (.cells cs t fz)) (.cells cs2 t2)) (Nat.le_refl _)
  have h2 := reads_litI .i64 (w.alloc (.cells cs t fz)) l t2 cs2 m hc2 hm (by omega)
  rw [World.size_alloc] at h2
  refine (flip_any _ xs _ l _ h1 hx (by omega) h2 hb).mono ?_
  rintro e w' ⟨v', rfl, ho, hbb⟩
  exact ⟨v', rfl, ho.mono (by simp; omega), gr_trans (gr_trans (bel_alloc w _) (bel_alloc _ _)) hbb⟩
theorem found_lit (xs : List Nat) (l : List Int) (N : Nat) (w : World) (hN : w.heap.size = N) (t t2 : TypeId) (fz : Nat × Nat) (cs cs2 : Array Value) (n m : Nat) (hc : cs = (vals .u8 xs).toArray) (hn : n = xs.length) (hl : n < 100000000) (hc2 : cs2 = (valsI .i64 l).toArray) (hm : m = l.length) (hml : m < 100000000) (hx : Bytes xs) (hb : ∀ k ∈ l, -9223372036854775808 ≤ k ∧ k ≤ 9223372036854775807) (hT : Tab w) :
    Calls Tryd.prog 27 #[.slice (some ⟨N, 0, none⟩) n n, .slice (some ⟨N + 1, 0, none⟩) m m] ((w.alloc (.cells cs t fz)).alloc (.cells cs2 t2)) fun e w' => e = .returned (.tuple #[.bool (foundV xs l), .int .i64 (foundE xs l)]) ∧ Below w.heap.size w w' := by
  subst hN
  have hB := gr_trans (bel_alloc w (.cells cs t fz)) (bel_alloc (w.alloc (.cells cs t fz)) (.cells cs2 t2))
  have h1 := (reads_lit .u8 w xs t fz cs n hc hn (by omega)).keep (bel_alloc (w.alloc (.cells cs t fz)) (.cells cs2 t2)) (Nat.le_refl _)
  have h2 := reads_litI .i64 (w.alloc (.cells cs t fz)) l t2 cs2 m hc2 hm (by omega)
  rw [World.size_alloc] at h2
  refine (found_any _ xs _ l _ h1 hx (by omega) h2 hb (hT.keep hB (Nat.le_refl _))).mono ?_
  rintro e w' ⟨rfl, hbb⟩
  exact ⟨rfl, gr_trans hB hbb⟩
theorem strike_lit (xs : List Nat) (x : Int) (b : Nat) (N : Nat) (w : World) (hN : w.heap.size = N) (t : TypeId) (fz : Nat × Nat) (cs : Array Value) (n : Nat) (hc : cs = (vals .u8 xs).toArray) (hn : n = xs.length) (hl : n < 100000000) (hx : Bytes xs) (hb : b < 4294967296) (hxb : -9223372036854775808 ≤ x ∧ x ≤ 9223372036854775807) :
    Calls Tryd.prog 18 #[.slice (some ⟨N, 0, none⟩) n n, .agg #[.int .i64 x, .int .u32 b]] (w.alloc (.cells cs t fz)) fun e w' => ∃ v', e = .returned (.tuple #[v', .int .i64 (strikeE xs x b)]) ∧ Owns .u8 5 w' w.heap.size v' (strikeV xs x b) ∧ Below w.heap.size w w' := by
  subst hN
  refine (strike_any _ xs x b _ (reads_lit .u8 w xs t fz cs n hc hn (by omega)) hx (by omega) hb hxb).mono ?_
  rintro e w' ⟨v', rfl, ho, hbb⟩
  exact ⟨v', rfl, ho.mono (by simp), gr_trans (bel_alloc w _) hbb⟩
theorem between_lit (v : Value) (xs ys : List Nat) (N : Nat) (w : World) (hN : w.heap.size = N) (hv : Reads .u8 w v ys) (hyl : ys.length < 400000) (hy : Bytes ys) (t : TypeId) (fz : Nat × Nat) (cs : Array Value) (n : Nat) (hc : cs = (vals .u8 xs).toArray) (hn : n = xs.length) (hl : n < 400000) (hx : Bytes xs) :
    Calls Tryd.prog 14 #[.slice (some ⟨N, 0, none⟩) n n, v] (w.alloc (.cells cs t fz)) fun e w' => (∃ v, e = .returned (.tuple #[v, .int .i64 (betweenE xs ys)]) ∧ OwnsI .i64 3 w' w.heap.size v (betweenV xs ys)) ∧ Below w.heap.size w w' := by
  subst hN
  refine (between_any _ v xs ys _ (reads_lit .u8 w xs t fz cs n hc hn (by omega)) (hv.keep (bel_alloc w _) (Nat.le_refl _)) (by omega) hyl (fun i => hx.get i) (fun i => hy.get i)).mono ?_
  rintro e w' ⟨⟨v', rfl, ho⟩, hbb⟩
  exact ⟨⟨v', rfl, ho.mono (by simp)⟩, gr_trans (bel_alloc w _) hbb⟩
theorem ends_lit (xs ys : List Nat) (N : Nat) (w : World) (hN : w.heap.size = N) (t t2 : TypeId) (fz fz2 : Nat × Nat) (cs cs2 : Array Value) (n m : Nat) (hc : cs = (vals .u8 xs).toArray) (hn : n = xs.length) (hl : n < 400000) (hc2 : cs2 = (vals .u8 ys).toArray) (hm : m = ys.length) (hml : m < 400000) :
    Calls Tryd.prog 26 #[.slice (some ⟨N, 0, none⟩) n n, .slice (some ⟨N + 1, 0, none⟩) m m] ((w.alloc (.cells cs t fz)).alloc (.cells cs2 t2 fz2)) fun e w' => e = .returned (.tuple #[.int .i64 (endsN xs ys : Nat), .int .i64 (endsM xs ys : Nat)]) ∧ Below w.heap.size w w' := by
  subst hN
  have h1 := (reads_lit .u8 w xs t fz cs n hc hn (by omega)).keep (bel_alloc (w.alloc (.cells cs t fz)) (.cells cs2 t2 fz2)) (Nat.le_refl _)
  have h2 := reads_lit .u8 (w.alloc (.cells cs t fz)) ys t2 fz2 cs2 m hc2 hm (by omega)
  rw [World.size_alloc] at h2
  refine (ends_any _ _ xs ys _ h1 h2 (by omega) (by omega)).mono ?_
  rintro e w' ⟨rfl, hbb⟩
  exact ⟨rfl, gr_trans (gr_trans (bel_alloc w _) (bel_alloc _ _)) hbb⟩

set_option maxRecDepth 100000 in
set_option maxHeartbeats 4000000 in
theorem awakeD_any (w : World) (hT : Tab w) :
    Calls Tryd.prog 11 #[] w fun e w' => e = .returned (.bool true) ∧ Below w.heap.size w w' := by
  obtain ⟨n1, n2, n3, n4⟩ := cell_two w (.int .i64 0) (.int .u32 0) 24
  have HX := Lib.hid (cell_two w (.int .i64 5) (.int .u32 11) 24)
  have HT := Lib.hid hT
  clear hT
  go_enter Tryd.func11, Tryd.ntmps11
  go_wp2_with fail
  go_outline
  clear n1 n2 n3 n4
  refine (bits_any 5 11 (by decide) (by decide) _).mono ?_
  rintro e w1 ⟨v1, rfl, ho1, hb1⟩
  rw [ad_b.1] at ho1
  rw [ad_b.2]
  have g1 := gr_trans (bel_alloc w _) hb1
  have HG1 := Lib.hid g1
  have x1 := cell_keep hb1 HX.out.1 (cell_lt HX.out.1)
  have x2 := cell_keep hb1 HX.out.2.1 (cell_lt HX.out.2.1)
  have HO1 := Lib.hid ho1.reads
  have HX1 := Lib.hid x1
  have HX2 := Lib.hid x2
  clear ho1 x1 x2 hb1
  go_wp2_with fail
  refine (of_lit [8, 5, 6] _ w1 rfl _ _ 3 rfl rfl (by decide) (by decide)).mono ?_
  rintro e w2 ⟨rfl, hb2⟩
  rw [ad_o1.1, ad_o1.2.1, ad_o1.2.2]
  have HG2 := Lib.hid hb2
  clear hb2
  obtain ⟨n1, n2, n3, n4⟩ := cell_two w2 (.int .i64 0) (.int .u32 0) 24
  have HY := Lib.hid (cell_two w2 (.int .i64 5) (.int .u32 11) 24)
  go_wp2_with fail
  clear n1 n2 n3 n4
  refine (of_lit [0, 32] _ _ (by simp) _ _ 2 rfl rfl (by decide) (by decide)).mono ?_
  rintro e w3 ⟨rfl, hb3⟩
  rw [ad_o2.1, ad_o2.2.1, ad_o2.2.2]
  have HY1 := Lib.hid (cell_keep hb3 HY.out.1 (cell_lt HY.out.1))
  have HY2 := Lib.hid (cell_keep hb3 HY.out.2.1 (cell_lt HY.out.2.1))
  have HG3 := Lib.hid (gr_trans HG2.out (gr_trans (bel_alloc w2 _) hb3))
  clear hb3 HG2 HY
  obtain ⟨n1, n2, n3, n4⟩ := cell_two w3 (.int .i64 0) (.int .u32 0) 24
  go_wp2_with fail
  clear n1 n2 n3 n4
  refine (of_lit [0, 31] _ _ (by simp) _ _ 2 rfl rfl (by decide) (by decide)).mono ?_
  rintro e w4 ⟨rfl, hb4⟩
  rw [ad_o3.1, ad_o3.2.1, ad_o3.2.2]
  have HG34 := Lib.hid (gr_trans (bel_alloc w3 _) hb4)
  have HG34b := Lib.hid hb4
  clear hb4
  obtain ⟨n1, n2, n3, n4⟩ := cell_two w4 (.int .i64 0) (.int .u32 0) 24
  have HZ := Lib.hid (cell_two w4 (.int .i64 0) (.int .u32 2147483649) 24)
  have HG4 := Lib.hid (gr_trans HG3.out HG34.out)
  clear HG34
  go_wp2_with fail
  clear n1 n2 n3 n4
  refine (flip_lit [0, 0] [0, 15] _ _ (by simp) _ _ _ _ _ 2 2 rfl rfl (by decide) rfl rfl (by decide) (bytes_lit rfl) (by decide)).mono ?_
  rintro e w5 ⟨v5, rfl, ho5, hb5⟩
  rw [ad_f.1] at ho5
  rw [ad_f.2]
  have HZ2 := Lib.hid (cell_keep hb5 HZ.out.2.1 (cell_lt HZ.out.2.1))
  have HG45 := Lib.hid (gr_trans (bel_alloc w4 (.cells #[.int .i64 0, .int .u32 2147483649] 24)) hb5)
  have HG5 := Lib.hid (gr_trans HG4.out HG45.out)
  have HG35 := Lib.hid (gr_trans (gr_trans (bel_alloc w3 (.cells #[.int .i64 0, .int .u32 0] 24)) HG34b.out) HG45.out)
  have HO5 := Lib.hid ho5.reads
  clear ho5 hb5 HG4 HG45 HZ
  have x1 := cell_keep HG5.out HX1.out (cell_lt HX1.out)
  have x2 := cell_keep HG5.out HX2.out (cell_lt HX2.out)
  have xa1 := fun o => cell_alloc_l o x1
  have xa2 := fun o => cell_alloc_l o x2
  clear x1 x2
  go_wp2_with fail
  clear xa1 xa2
  refine (strike_lit [0, 0] 5 11 _ _ rfl _ _ _ 2 rfl rfl (by decide) (bytes_lit rfl) (by decide) (by decide)).mono ?_
  rintro e w6 ⟨v6, rfl, ho6, hb6⟩
  rw [ad_k.1] at ho6
  rw [ad_k.2]
  have HG56 := Lib.hid hb6
  have HO6 := Lib.hid ho6.reads
  clear ho6 hb6
  go_wp2_with fail
  refine (between_lit v6 [0, 0] [96, 1] _ _ rfl HO6.out (by decide) (bytes_lit rfl) _ _ _ 2 rfl rfl (by decide) (bytes_lit rfl)).mono ?_
  rintro e w7 ⟨⟨v7, rfl, ho7⟩, hb7⟩
  rw [ad_w.1] at ho7
  rw [ad_w.2]
  have HG57 := Lib.hid (gr_trans HG56.out hb7)
  have HG67 := Lib.hid hb7
  have HO7 := Lib.hid ho7.reads
  clear ho7 hb7 HG56
  have hT7 := HT.out.keep (gr_trans HG1.out (gr_trans HG5.out HG57.out)) (Nat.le_refl _)
  go_wp2_with fail
  refine (found_lit [0, 0, 0, 0] [0] _ _ rfl _ _ _ _ _ 4 1 rfl rfl (by decide) rfl rfl (by decide) (bytes_lit rfl) (by decide) hT7).mono ?_
  rintro e w8 ⟨rfl, hb8⟩
  rw [ad_d.1, ad_d.2]
  have HG78 := Lib.hid hb8
  have HG58 := Lib.hid (gr_trans HG57.out hb8)
  have HG18 := Lib.hid (gr_trans HG5.out HG58.out)
  have HG38 := Lib.hid (gr_trans HG35.out HG58.out)
  clear hb8 hT7 HG5 HG57 HG35
  go_wp2_with fail
  refine (sameInts_lit v1 [5, 6, 8] [5, 6, 8] _ _ rfl (HO1.out.keep HG18.out (Nat.le_refl _)) (by decide) _ _ 3 rfl rfl (by decide)).mono ?_
  rintro e w9 ⟨rfl, hb9⟩
  rw [decide_eq_true rfl]
  have HG89 := Lib.hid hb9
  have x1 := cell_keep (gr_trans HG18.out HG89.out) HX1.out (cell_lt HX1.out)
  have x2 := cell_keep (gr_trans HG18.out HG89.out) HX2.out (cell_lt HX2.out)
  clear hb9
  go_wp2_with fail
  clear x1 x2
  refine (length_any 5 11 (by decide) _).mono ?_
  rintro e w10 ⟨rfl, hb10⟩
  rw [ad_l]
  have HG8A := Lib.hid (gr_trans HG89.out hb10)
  have x1 := cell_keep (gr_trans HG18.out HG8A.out) HX1.out (cell_lt HX1.out)
  have x2 := cell_keep (gr_trans HG18.out HG8A.out) HX2.out (cell_lt HX2.out)
  have y1 := cell_keep (gr_trans HG38.out HG8A.out) HY1.out (cell_lt HY1.out)
  have y2 := cell_keep (gr_trans HG38.out HG8A.out) HY2.out (cell_lt HY2.out)
  have z2 := cell_keep (gr_trans HG58.out HG8A.out) HZ2.out (cell_lt HZ2.out)
  clear hb10
  go_wp2_with fail
  clear x1 x2 y1 y2 z2
  refine (sameBytes_lit v5 [1, 128] [1, 128] _ _ rfl (HO5.out.keep (gr_trans HG58.out HG8A.out) (Nat.le_refl _)) (by decide) _ _ _ 2 rfl rfl (by decide)).mono ?_
  rintro e w11 ⟨rfl, hb11⟩
  rw [decide_eq_true rfl]
  have HG8B := Lib.hid (gr_trans HG8A.out hb11)
  have HG68 := Lib.hid (gr_trans HG67.out HG78.out)
  clear hb11
  go_wp2_with fail
  refine (sameBytes_lit v6 [96, 1] [96, 1] _ _ rfl (HO6.out.keep (gr_trans HG68.out HG8B.out) (Nat.le_refl _)) (by decide) _ _ _ 2 rfl rfl (by decide)).mono ?_
  rintro e w12 ⟨rfl, hb12⟩
  rw [decide_eq_true rfl]
  have HG8C := Lib.hid (gr_trans HG8B.out hb12)
  clear hb12
  go_wp2_with fail
  refine (sameInts_any v7 v1 [5, 6, 8] [5, 6, 8] _ (HO7.out.keep (gr_trans HG78.out HG8C.out) (Nat.le_refl _)) (HO1.out.keep (gr_trans HG18.out HG8C.out) (Nat.le_refl _)) (by decide)).mono ?_
  rintro e w13 ⟨rfl, hb13⟩
  rw [decide_eq_true rfl]
  have HG := Lib.hid (gr_trans HG1.out (gr_trans HG18.out (gr_trans HG8C.out hb13)))
  have HF := Lib.hid (reads_lit .u8 w13 [1, 2, 3, 4, 5] 5 (0, 0) #[.int .u8 1, .int .u8 2, .int .u8 3, .int .u8 4, .int .u8 5] 5 rfl rfl (by decide))
  clear hb13 HG8A HG8B HG8C HG18 HG38 HG58 HG68 HG67 HG78 HG89 HO1 HO5 HO6 HO7 HX HX1 HX2 HY1 HY2 HZ2 HG3 HG34b
  go_wp2_with fail
  refine (drop_any _ [1, 2, 3, 4, 5] 1 3 (by decide) (by decide) _ HF.out (by decide)).mono ?_
  rintro e w14 ⟨v14, rfl, ho14, hb14⟩
  have HO14 : Hid (Reads .u8 w14 v14 [1, 4, 5]) := Lib.hid ho14.reads
  have HF14 := Lib.hid (HF.out.keep hb14 (Nat.le_refl _))
  have HG14 := Lib.hid (gr_trans HG.out (gr_trans (bel_alloc w13 _) hb14))
  clear ho14 hb14 HG HF
  go_wp2_with fail
  refine (double_any _ [1, 2, 3, 4, 5] 1 3 (by decide) (by decide) _ HF14.out (by decide)).mono ?_
  rintro e w15 ⟨v15, rfl, ho15, hb15⟩
  have HO15 : Hid (Reads .u8 w15 v15 [1, 2, 3, 2, 3, 4, 5]) := Lib.hid ho15.reads
  have HF15 := Lib.hid (HF14.out.keep hb15 (Nat.le_refl _))
  have HG45 := Lib.hid hb15
  clear ho15 hb15 HF14
  go_wp2_with fail
  refine (turn_any _ [1, 2, 3, 4, 5] 1 4 (by decide) (by decide) _ HF15.out (by decide)).mono ?_
  rintro e w16 ⟨v16, rfl, ho16, hb16⟩
  rw [ad_t] at ho16
  have HO16 := Lib.hid ho16.reads
  have HF16 := Lib.hid (HF15.out.keep hb16 (Nat.le_refl _))
  have HG56 := Lib.hid hb16
  clear ho16 hb16 HF15
  go_wp2_with fail
  refine (swap_any _ [1, 2, 3, 4, 5] 0 2 5 (by decide) (by decide) (by decide) _ HF16.out (by decide)).mono ?_
  rintro e w17 ⟨v17, rfl, ho17, hb17⟩
  have HO17 : Hid (Reads .u8 w17 v17 [3, 4, 5, 1, 2]) := Lib.hid ho17.reads
  have HG67 := Lib.hid hb17
  clear ho17 hb17 HF16
  go_wp2_with fail
  refine (ends_lit [1, 2, 3] [1, 9, 3] _ _ rfl _ _ _ _ _ _ 3 3 rfl rfl (by decide) rfl rfl (by decide)).mono ?_
  rintro e w18 ⟨rfl, hb18⟩
  rw [ad_e1.1, ad_e1.2]
  have HG78 := Lib.hid hb18
  clear hb18
  go_wp2_with fail
  refine (ends_lit [1, 1] [1] _ _ rfl _ _ _ _ _ _ 2 1 rfl rfl (by decide) rfl rfl (by decide)).mono ?_
  rintro e w19 ⟨rfl, hb19⟩
  rw [ad_e2.1, ad_e2.2]
  have HG79 := Lib.hid (gr_trans HG78.out hb19)
  clear hb19 HG78
  go_wp2_with fail
  refine (sameBytes_lit v14 [1, 4, 5] [1, 4, 5] _ _ rfl (HO14.out.keep (gr_trans HG45.out (gr_trans HG56.out (gr_trans HG67.out HG79.out))) (Nat.le_refl _)) (by decide) _ _ _ 3 rfl rfl (by decide)).mono ?_
  rintro e w20 ⟨rfl, hb20⟩
  rw [decide_eq_true rfl]
  have HG7A := Lib.hid (gr_trans HG79.out hb20)
  clear hb20 HG79
  go_wp2_with fail
  refine (sameBytes_lit v15 [1, 2, 3, 2, 3, 4, 5] [1, 2, 3, 2, 3, 4, 5] _ _ rfl (HO15.out.keep (gr_trans HG56.out (gr_trans HG67.out HG7A.out)) (Nat.le_refl _)) (by decide) _ _ _ 7 rfl rfl (by decide)).mono ?_
  rintro e w21 ⟨rfl, hb21⟩
  rw [decide_eq_true rfl]
  have HG7B := Lib.hid (gr_trans HG7A.out hb21)
  clear hb21 HG7A
  go_wp2_with fail
  refine (sameBytes_lit v16 [1, 4, 3, 2, 5] [1, 4, 3, 2, 5] _ _ rfl (HO16.out.keep (gr_trans HG67.out HG7B.out) (Nat.le_refl _)) (by decide) _ _ _ 5 rfl rfl (by decide)).mono ?_
  rintro e w22 ⟨rfl, hb22⟩
  rw [decide_eq_true rfl]
  have HG7C := Lib.hid (gr_trans HG7B.out hb22)
  clear hb22 HG7B
  go_wp2_with fail
  refine (sameBytes_lit v17 [3, 4, 5, 1, 2] [3, 4, 5, 1, 2] _ _ rfl (HO17.out.keep HG7C.out (Nat.le_refl _)) (by decide) _ _ _ 5 rfl rfl (by decide)).mono ?_
  rintro e w23 ⟨rfl, hb23⟩
  rw [decide_eq_true rfl]
  have HGZ := Lib.hid (gr_trans HG14.out (gr_trans HG45.out (gr_trans HG56.out (gr_trans HG67.out (gr_trans HG7C.out hb23)))))
  clear hb23
  go_wp2_with fail
  go_ret
  exact ⟨rfl, HGZ.out⟩
end Go.Proofs.YtmjigpnpcacefaaDoor
