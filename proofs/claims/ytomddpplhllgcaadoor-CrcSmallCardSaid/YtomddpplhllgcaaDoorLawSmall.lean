/- The walk of the law CrcSmall. -/
import Derived.Test.YtomddpplhllgcaaDoorLawShifts
import Derived.Test.YtomddpplhllgcaaDoorLawTells
import Derived.Test.YtomddpplhllgcaaDoorLawBits
import Derived.Test.YtomddpplhllgcaaDoorLawWrong
import Derived.Test.YtomddpplhllgcaaDoorRefG
namespace Go.Proofs.YtomddpplhllgcaaDoor
open Go Go.RowKit Go.Shelf

theorem tells_i (z : Int) (h0 : 0 ≤ z) (h1 : z < 4294967296) (v : Value) (xs : List Nat) (w : World) (hv : Reads .u8 w v xs) (hx : Bytes xs) (hT : Tab w) (hl : xs.length ≤ 1000) :
    Calls Tryd.prog 20 #[v, .int .u32 z] w fun e w' => e = .returned (.bool true) ∧ Below w.heap.size w w' := by
  obtain ⟨c, rfl⟩ : ∃ c : Nat, z = (c : Int) := ⟨z.toNat, by omega⟩
  exact tells_any c (by omega) v xs w hv hx hT hl
theorem shifts_i (a b n : Int) (ha : 0 ≤ a ∧ a < 4294967296) (hb : 0 ≤ b ∧ b < 4294967296) (w : World) :
    Calls Tryd.prog 16 #[.int .u32 a, .int .u32 b, .int .i64 n] w fun e w' => e = .returned (.bool true) ∧ Below w.heap.size w w' := by
  obtain ⟨a, rfl⟩ : ∃ c : Nat, a = (c : Int) := ⟨a.toNat, by omega⟩
  obtain ⟨b, rfl⟩ : ∃ c : Nat, b = (c : Int) := ⟨b.toNat, by omega⟩
  by_cases hn : n < 0 ∨ 16777216 < n
  · refine (shifts_err a b n hn w).mono ?_
    rintro e w' ⟨rfl, rfl⟩
    exact ⟨rfl, Below.refl _ _⟩
  · obtain ⟨n, rfl⟩ : ∃ c : Nat, n = (c : Int) := ⟨n.toNat, by omega⟩
    exact shifts_any a b n (by omega) (by omega) (by omega) w
theorem reads1 (w : World) (t : TypeId) (z : Int) (h0 : 0 ≤ z) (h1 : z < 256) : ∃ xs, Reads .u8 (w.alloc (.cells #[.int .u8 z] t)) (.slice (some ⟨w.heap.size, 0, none⟩) 1 1) xs ∧ Bytes xs ∧ xs.length = 1 := by
  obtain ⟨c, rfl⟩ : ∃ c : Nat, z = (c : Int) := ⟨z.toNat, by omega⟩
  exact ⟨[c], reads_one _ _ _ _ _ rfl, fun x hx => by simp at hx; omega, rfl⟩
theorem reads2 (w : World) (t : TypeId) (y z : Int) (h0 : 0 ≤ z) (h1 : z < 256) (h2 : 0 ≤ y) (h3 : y < 256) : ∃ xs, Reads .u8 (w.alloc (.cells #[.int .u8 y, .int .u8 z] t)) (.slice (some ⟨w.heap.size, 0, none⟩) 2 2) xs ∧ Bytes xs ∧ xs.length = 2 := by
  obtain ⟨c, rfl⟩ : ∃ c : Nat, z = (c : Int) := ⟨z.toNat, by omega⟩
  obtain ⟨d, rfl⟩ : ∃ c : Nat, y = (c : Int) := ⟨y.toNat, by omega⟩
  exact ⟨[d, c], reads_lit .u8 w [d, c] t (0, 0) _ 2 rfl rfl (by decide), fun x hx => by simp at hx; omega, rfl⟩
/-- A call of tells on bytes just made. -/
theorem tells_1 (w : World) (t : TypeId) (y z : Int) (hz : 0 ≤ z ∧ z < 4294967296) (hy : 0 ≤ y ∧ y < 256) (hT : Tab w) :
    Calls Tryd.prog 20 #[.slice (some ⟨w.heap.size, 0, none⟩) 1 1, .int .u32 z] (w.alloc (.cells #[.int .u8 y] t)) fun e w' => e = .returned (.bool true) ∧ Below w.heap.size w w' := by
  obtain ⟨xs, h1, h2, h3⟩ := reads1 w t y hy.1 hy.2
  refine (tells_i z hz.1 hz.2 _ xs _ h1 h2 (hT.keep (bel_alloc w _) (Nat.le_refl _)) (by omega)).mono ?_
  rintro e w' ⟨rfl, hb⟩
  exact ⟨rfl, (bel_alloc w _).trans (hb.mono (by simp))⟩
theorem tells_2 (w : World) (t : TypeId) (x y z : Int) (hz : 0 ≤ z ∧ z < 4294967296) (hx : 0 ≤ x ∧ x < 256) (hy : 0 ≤ y ∧ y < 256) (hT : Tab w) :
    Calls Tryd.prog 20 #[.slice (some ⟨w.heap.size, 0, none⟩) 2 2, .int .u32 z] (w.alloc (.cells #[.int .u8 x, .int .u8 y] t)) fun e w' => e = .returned (.bool true) ∧ Below w.heap.size w w' := by
  obtain ⟨xs, h1, h2, h3⟩ := reads2 w t x y hy.1 hy.2 hx.1 hx.2
  refine (tells_i z hz.1 hz.2 _ xs _ h1 h2 (hT.keep (bel_alloc w _) (Nat.le_refl _)) (by omega)).mono ?_
  rintro e w' ⟨rfl, hb⟩
  exact ⟨rfl, (bel_alloc w _).trans (hb.mono (by simp))⟩
theorem bits_l (n k : Int) (l : List Int) (cs : Array Value) (m : Nat) (t : TypeId) (w : World) (hc : cs = (valsI .i64 l).toArray) (hm : m = l.length) (hm2 : m ≤ 100) (hb : ∀ x ∈ l, -9223372036854775808 ≤ x ∧ x ≤ 9223372036854775807) (hT : Tab w) :
    Calls Tryd.prog 21 #[.int .i64 n, .int .i64 k, .slice (some ⟨w.heap.size, 0, none⟩) m m] (w.alloc (.cells cs t)) fun e w' => e = .returned (.bool true) ∧ Below w.heap.size w w' := by
  refine (bits_any n k _ l hb (by omega) _ (readsI_lit .i64 w l t cs m hc hm (by omega)) (hT.keep (bel_alloc w _) (Nat.le_refl _))).mono ?_
  rintro e w' ⟨rfl, hb⟩
  exact ⟨rfl, (bel_alloc w _).trans (hb.mono (by simp))⟩

theorem dam_many (X : List Nat) (hl : X.length = 4097) (hz : ∀ x ∈ X, x = 0) : damB 100 (X.map fun (y : Nat) => (y : Int)) = false ∧ damE 100 (X.map fun (y : Nat) => (y : Int)) = 5 := by
  have ok : damOk 100 (X.map fun (y : Nat) => (y : Int)) := by
    intro x hx
    obtain ⟨y, hy, rfl⟩ := List.mem_map.1 hx
    have := hz y hy
    omega
  constructor
  · unfold damB; rw [if_pos (by simp [hl])]
  · unfold damE; rw [if_neg (by simp [ok]), if_pos (by simp [hl])]
theorem own_full {k : IntKind} {e : TypeId} {w : World} {base n : Nat} {v : Value} {xs : List Nat} (h : Owns k e w base v xs) (hn : xs.length = n) (h0 : 0 < n) :
    ∃ g cap, v = .slice (some ⟨g, 0, none⟩) n cap ∧ base ≤ g ∧ g < w.heap.size ∧ n ≤ cap ∧ cap ≤ 9223372036854775807 := by
  subst hn
  rcases h.form with ⟨_, rfl⟩ | ⟨g, cap, e, h1, h2, h3, h4⟩
  · simp at h0
  · exact ⟨g, cap, e, h1, h2, h3, h4⟩
theorem or_small (k : Nat) (h : k < 256) : bits BinOp.or IntKind.u32 ((k : Int) * 131072) (k : Int) = (((k * 131072) ||| k : Nat) : Int) := by
  have : (k : Int) * 131072 = ((k * 131072 : Nat) : Int) := by omega
  rw [this, u32_or_nat _ _ (by omega) (by omega)]
set_option maxRecDepth 100000 in
set_option maxHeartbeats 8000000 in
theorem crcSmall_all (w : World) (hT : Tab w) :
    Calls Tryd.prog 13 #[] w fun e w' => e = .returned (.bool true) ∧ Below w.heap.size w w' := by
  have HT := Lib.hid hT
  clear hT
  go_enter Tryd.func13, Tryd.ntmps13
  go_wp2_with fail
  go_loopw [23] (fun vi wr => ∃ k : Nat, k ≤ 256 ∧ vi = .int .i64 (k : Int) ∧ Below w.heap.size w wr) (fun vi _ => 256 - (intOf vi).toNat)
  case atStart => exact ⟨0, by omega, rfl, Below.refl _ _⟩
  case round =>
    obtain ⟨k, hk, rfl, hBr⟩ := hrel
    by_cases hlt : k < 256
    · have hTr := HT.out.keep hBr (Nat.le_refl _)
      go_wp2_with fail
      refine (tells_1 _ _ _ _ ⟨by omega, by omega⟩ ⟨by omega, by omega⟩ hTr).mono ?_
      rintro e w2 ⟨rfl, hb2⟩
      have hB2 := hBr.trans (hb2.mono hBr.size)
      have hT2 := HT.out.keep hB2 (Nat.le_refl _)
      clear hBr hb2 hTr
      go_wp2_with fail
      refine (tells_2 _ _ _ _ _ ⟨by omega, by omega⟩ ⟨by omega, by omega⟩ ⟨by omega, by omega⟩ hT2).mono ?_
      rintro e w3 ⟨rfl, hb3⟩
      have hB3 := hB2.trans (hb3.mono hB2.size)
      clear hB2 hb3 hT2
      have ho : bits BinOp.or IntKind.u32 ((k : Int) * 131072) (k : Int) = (((k * 131072) ||| k : Nat) : Int) := or_small k hlt
      have hol : (k * 131072) ||| k < 4294967296 := Nat.or_lt_two_pow (n := 32) (by omega) (by omega)
      obtain ⟨oo, HOO⟩ := nm ((k * 131072) ||| k)
      rw [HOO.out] at ho hol
      go_wp2_with fail
      refine (shifts_i _ _ _ ⟨by omega, by omega⟩ ⟨by omega, by omega⟩ _).mono ?_
      rintro e w4 ⟨rfl, hb4⟩
      have hB4 := hB3.trans (hb4.mono hB3.size)
      clear hB3 hb4
      go_wp2_with fail
      go_roundw
      case rel => exact ⟨k + 1, by omega, by go_num, hB4⟩
      case measure => simp [intOf]; omega
    · obtain rfl : k = 256 := by omega
      rw [show ((256 : Nat) : Int) = 256 from rfl]
      obtain ⟨wa, rfl⟩ : ∃ wa : World, wa = wr := ⟨_, rfl⟩
      have hTx := reads_lit .u8 wa [49, 50, 51, 52, 53, 54, 55, 56, 57, 38, 57, 244, 203] 5 (13, 14) #[.int .u8 49, .int .u8 50, .int .u8 51, .int .u8 52, .int .u8 53, .int .u8 54, .int .u8 55, .int .u8 56, .int .u8 57, .int .u8 38, .int .u8 57, .int .u8 244, .int .u8 203] 13 rfl rfl (by decide)
      have hTb : Bytes [49, 50, 51, 52, 53, 54, 55, 56, 57, 38, 57, 244, 203] := bytes_lit rfl
      have hBt := hBr.trans ((bel_alloc wa (.cells #[.int .u8 49, .int .u8 50, .int .u8 51, .int .u8 52, .int .u8 53, .int .u8 54, .int .u8 55, .int .u8 56, .int .u8 57, .int .u8 38, .int .u8 57, .int .u8 244, .int .u8 203] 5 (13, 14))).mono hBr.size)
      have HTX := Lib.hid hTx
      have HTB := Lib.hid hTb
      have hsa := hBr.size
      clear hTx hTb hBr
      have hcv := fun (w : World) (C : Array Value) (n c : Nat) => Lib.run_convert_bytes_const (P := Tryd.prog) w 25 5 C n c Tryd.underlying25 Tryd.underlying5
      go_wp2_with fail
      clear hcv
      obtain ⟨T, HTT⟩ := nm [49, 50, 51, 52, 53, 54, 55, 56, 57, 38, 57, 244, 203]
      rw [HTT.out] at HTX HTB
      have hTl : T.length = 13 := by rw [← HTT.out]; rfl
      have HTL := Lib.hid hTl
      clear hTl
      obtain ⟨wb, HWB⟩ := nm (wa.alloc (.cells #[.int .u8 49, .int .u8 50, .int .u8 51, .int .u8 52, .int .u8 53, .int .u8 54, .int .u8 55, .int .u8 56, .int .u8 57, .int .u8 38, .int .u8 57, .int .u8 244, .int .u8 203] 5 (13, 14)))
      rw [HWB.out] at hBt HTX ⊢
      have hsb := hBt.size
      go_loopw [65] (fun vi wr => ∃ i : Nat, i ≤ 13 ∧ vi = .int .i64 (i : Int) ∧ Below wb.heap.size wb wr) (fun vi _ => 13 - (intOf vi).toNat)
      case atStart => exact ⟨0, by omega, rfl, Below.refl _ _⟩
      case round =>
        obtain ⟨i, hi, rfl, hBi⟩ := hrel
        by_cases hlt13 : i < 13
        · have hX4 := reads_lit .u8 wr [0, 1, 128, 255] 5 (0, 0) #[.int .u8 0, .int .u8 1, .int .u8 128, .int .u8 255] 4 rfl rfl (by decide)
          have hBx := hBi.trans ((bel_alloc wr (.cells #[.int .u8 0, .int .u8 1, .int .u8 128, .int .u8 255] 5)).mono hBi.size)
          have HX4 := Lib.hid hX4
          clear hX4
          go_wp2_with fail
          obtain ⟨wc, HWC⟩ := nm (wr.alloc (.cells #[.int .u8 0, .int .u8 1, .int .u8 128, .int .u8 255] 5))
          have hrc : wr.heap.size < wc.heap.size := by rw [← HWC.out]; simp
          rw [HWC.out] at hBx HX4 ⊢
          obtain ⟨wo, rfl⟩ : ∃ wo : World, wo = wr := ⟨_, rfl⟩
          rw [show decide ((i : Int) < 13) = true from decide_eq_true (by omega)]
          go_loopw [70] (fun vj wr => ∃ j : Nat, j ≤ 4 ∧ vj = .int .i64 (j : Int) ∧ Below wc.heap.size wc wr) (fun vj _ => 4 - (intOf vj).toNat)
          case atStart => exact ⟨0, by omega, rfl, Below.refl _ _⟩
          case round =>
            obtain ⟨j, hj, rfl, hBj⟩ := hrel
            have hBb := hBx.trans (hBj.mono hBx.size)
            by_cases hlt4 : j < 4
            · obtain ⟨ya, cy, ee, _, _, hcell⟩ := HX4.out.keep hBj (Nat.le_refl _)
              cases ee
              obtain ⟨yb, yo, ee, hc⟩ := hcell.resolve_left (by decide)
              cases ee
              have ck := hc j hlt4
              rw [Nat.zero_add] at ck
              have hx1 : ([0, 1, 128, 255] : List Nat)[j]?.getD 0 < 256 := by
                match j, hlt4 with
                | 0, _ => decide
                | 1, _ => decide
                | 2, _ => decide
                | 3, _ => decide
              obtain ⟨x, HXX⟩ := nm (([0, 1, 128, 255] : List Nat)[j]?.getD 0)
              rw [HXX.out] at ck hx1
              have hTr := HTX.out.keep hBb (Nat.le_refl _)
              have HTR := Lib.hid hTr
              have hTab := HT.out.keep (hBt.trans (hBb.mono hsb)) (Nat.le_refl _)
              clear hc hcell hTr
              go_wp2_with (at_builtin; (refine wpl_app rfl (.tmp 74) (.tmp 75) 25 rfl .u8 5 1 Tryd.underlying25 info_u8 (by decide) wr.heap.size _ [] _ (owns_empty .u8 5 wr wr.heap.size (Nat.le_refl _)) rfl _ T rfl ?_ ?_ ?_ ?_; (exact HTR.out.keep (bel_alloc wr _) (Nat.le_refl _)); (have := HTL.out; simp <;> omega); (simp); intro vo w4 ho hb4; rw [List.nil_append] at ho; obtain ⟨g, cc, rfl, hg1, hg2, hg3, hg4⟩ := own_full ho HTL.out (by decide); obtain ⟨g', hge, _, _, he1, he2, he3, hcell, hfr, hset⟩ := ho.at hlt13; clear he1 he2 he3; cases hge; have hx0 := HTB.out.get i; have hxx := u8_xor_nat (T[i]?.getD 0) x hx0 hx1; have hxl : T[i]?.getD 0 ^^^ x < 256 := Nat.xor_lt_two_pow (n := 8) hx0 hx1; obtain ⟨x0, HX0⟩ := nm (T[i]?.getD 0); obtain ⟨q, HQ⟩ := nm (T[i]?.getD 0 ^^^ x); rw [HQ.out] at hxl hxx; rw [HX0.out] at hxx hcell hx0; have hset2 := hset (q : Int) (by omega); rw [Int.toNat_natCast] at hset2; have HSET := Lib.hid hset2; have hic : (i : Int) ≤ (cc : Int) := (by omega); clear hset hset2 ho))
              have hb5 := (bel_alloc wr (.cells #[] 5)).trans hb4
              have hb6 : Below wr.heap.size wr (w4.setCell ⟨g, i, none⟩ (.int .u8 (q : Int))) := hb5.setCell (p := ⟨g, i, none⟩) hg1 _
              have hYb := bytes_set HTB.out i q hxl
              have hYl : (T.set i q).length = 13 := by rw [List.length_set]; exact HTL.out
              have hT6 := hTab.keep hb6 (Nat.le_refl _)
              have hrY := HSET.out.reads
              have hrP := reads_pre hrY (show i ≤ 13 by omega)
              have HYL := Lib.hid hYl
              have HRY := Lib.hid hrY
              have HRP := Lib.hid hrP
              clear hYl hrY hrP
              refine (tells_i 0 (by decide) (by decide) _ _ _ HRY.out hYb hT6 (by rw [HYL.out]; decide)).mono ?_
              rintro e w7 ⟨rfl, hb7⟩
              have hb17 := hb6.trans (hb7.mono hb6.size)
              have hrP7 := HRP.out.keep hb7 (Nat.le_refl _)
              have hT7 := hT6.keep hb7 (Nat.le_refl _)
              have HRP7 := Lib.hid hrP7
              clear hb7 hrP7 hcell hfr hb4 hb5 hb6 HSET
              go_wp2_with fail
              refine (tells_i 4294967295 (by decide) (by decide) _ ((T.set i q).take i) _ HRP7.out (hYb.take i) hT7 (by simp; omega)).mono ?_
              rintro e w8 ⟨rfl, hb8⟩
              have hb18 := hBj.trans ((hb17.trans (hb8.mono hb17.size)).mono hBj.size)
              clear hb17 hb8
              go_wp2_with fail
              go_roundw
              case rel => exact ⟨j + 1, by omega, by go_num, hb18⟩
              case measure => simp [intOf]; omega
            · obtain rfl : j = 4 := by omega
              go_wp2_with fail
              go_roundw
              case rel => exact ⟨i + 1, by omega, by go_num, hBb⟩
              case measure => simp [intOf]; omega
        · obtain rfl : i = 13 := by omega
          rw [show ((13 : Nat) : Int) = 13 from rfl]
          have hBw := hBt.trans (hBi.mono hsb)
          go_wp2_with fail
          obtain ⟨wd, rfl⟩ : ∃ wd : World, wd = wr := ⟨_, rfl⟩
          go_loopw [96] (fun vn wr => ∃ n : Nat, n ≤ 8 ∧ vn = .int .i64 (n : Int) ∧ Below w.heap.size w wr) (fun vn _ => 8 - (intOf vn).toNat)
          case atStart => exact ⟨0, by omega, rfl, hBw⟩
          case round =>
            obtain ⟨n, hn, rfl, hBn⟩ := hrel
            clear hBw hBi
            by_cases hlt8 : n < 8
            · go_wp2_with fail
              obtain ⟨we, rfl⟩ : ∃ we : World, we = wr := ⟨_, rfl⟩
              rw [show decide ((n : Int) < 8) = true from decide_eq_true (by omega)]
              go_loopw [8] (fun vk wr => ∃ k : Nat, k ≤ 8 * n + 2 ∧ vk = .int .i64 ((k : Int) - 1) ∧ Below w.heap.size w wr) (fun vk _ => (8 * n + 2) - (intOf vk + 1).toNat)
              case atStart => exact ⟨0, by omega, rfl, hBn⟩
              case round =>
                obtain ⟨k, hk9, rfl, hBk⟩ := hrel
                by_cases hltk : k < 8 * n + 2
                · have hTk := HT.out.keep hBk (Nat.le_refl _)
                  go_wp2_with fail
                  refine (bits_l n ((k : Int) - 1) [(k : Int) - 1] _ 1 _ _ rfl rfl (by decide) (by intro x hx; simp at hx; omega) hTk).mono ?_
                  rintro e w2 ⟨rfl, hb2⟩
                  have hB2 := hBk.trans (hb2.mono hBk.size)
                  have hT2 := HT.out.keep hB2 (Nat.le_refl _)
                  clear hb2 hBk hTk
                  go_wp2_with fail
                  refine (bits_l n ((k : Int) - 1) [(k : Int) - 1, 0, (k : Int) - 1] _ 3 _ _ rfl rfl (by decide) (by intro x hx; simp at hx; omega) hT2).mono ?_
                  rintro e w3 ⟨rfl, hb3⟩
                  have hB3 := hB2.trans (hb3.mono hB2.size)
                  have hT3 := HT.out.keep hB3 (Nat.le_refl _)
                  clear hb3 hB2 hT2
                  go_wp2_with fail
                  refine (bits_any n ((k : Int) - 1) _ [] (by intro x hx; cases hx) (by decide) _ (readsI_nil .i64 w3) hT3).mono ?_
                  rintro e w4 ⟨rfl, hb4⟩
                  have hB4 := hB3.trans (hb4.mono hB3.size)
                  have hT4 := HT.out.keep hB4 (Nat.le_refl _)
                  clear hb4 hB3 hT3
                  go_wp2_with fail
                  refine (bits_l n 0 [(k : Int) - 1, (k : Int) - 1 + 1] _ 2 _ _ ?_ rfl (by decide) (by intro x hx; simp at hx; omega) hT4).mono ?_
                  · first | rfl | (simp [valsI])
                  rintro e w5 ⟨rfl, hb5⟩
                  have hB5 := hB4.trans (hb5.mono hB4.size)
                  clear hb5 hB4 hT4
                  go_wp2_with fail
                  go_roundw
                  case rel => first | exact ⟨k + 1, by omega, by go_num, hB5⟩ | ((repeat apply Exists.intro); refine ⟨⟨k + 1, by omega, ?_, hB5⟩, rfl⟩; go_num)
                  case measure => simp [intOf]; omega
                · obtain rfl : k = 8 * n + 2 := by omega
                  go_wp2_with fail
                  go_roundw
                  case rel => exact ⟨n + 1, by omega, by go_num, hBk⟩
                  case measure => simp [intOf]; omega
            · obtain rfl : n = 8 := by omega
              rw [show ((8 : Nat) : Int) = 8 from rfl]
              have hra := readsI_lit .i64 wr [-9223372036854775808, -1, 16777217, 9223372036854775807] 3 #[.int .i64 (-9223372036854775808), .int .i64 (-1), .int .i64 16777217, .int .i64 9223372036854775807] 4 rfl rfl (by decide)
              have hBa := hBn.trans ((bel_alloc wr (.cells #[.int .i64 (-9223372036854775808), .int .i64 (-1), .int .i64 16777217, .int .i64 9223372036854775807] 3)).mono hBn.size)
              have HRA := Lib.hid hra
              clear hra
              go_wp2_with fail
              obtain ⟨wf, HWF⟩ := nm (wr.alloc (.cells #[.int .i64 (-9223372036854775808), .int .i64 (-1), .int .i64 16777217, .int .i64 9223372036854775807] 3))
              rw [HWF.out] at hBa HRA ⊢
              obtain ⟨we, rfl⟩ : ∃ we : World, we = wr := ⟨_, rfl⟩
              go_loopw [138] (fun vj wr => ∃ j : Nat, j ≤ 4 ∧ vj = .int .i64 (j : Int) ∧ Below wf.heap.size wf wr) (fun vj _ => 4 - (intOf vj).toNat)
              case atStart => exact ⟨0, by omega, rfl, Below.refl _ _⟩
              case round =>
                obtain ⟨j, hj, rfl, hBj⟩ := hrel
                have hBw := hBa.trans (hBj.mono hBa.size)
                by_cases hlt4 : j < 4
                · obtain ⟨ya, cy, ee, _, _, hcell⟩ := HRA.out.keep hBj (Nat.le_refl _)
                  cases ee
                  obtain ⟨yb, yo, ee, hc⟩ := hcell.resolve_left (by decide)
                  cases ee
                  have ck := hc j hlt4
                  rw [Nat.zero_add] at ck
                  obtain ⟨y, HY⟩ := nm (([-9223372036854775808, -1, 16777217, 9223372036854775807] : List Int)[j]?.getD 0)
                  rw [HY.out] at ck
                  clear hc hcell
                  go_wp2_with fail
                  refine (shifts_i 5 7 y (by decide) (by decide) _).mono ?_
                  rintro e w2 ⟨rfl, hb2⟩
                  have hB2 := hBj.trans (hb2.mono hBj.size)
                  have hT2 := HT.out.keep (hBa.trans (hB2.mono hBa.size)) (Nat.le_refl _)
                  clear hb2 hBj hBw
                  go_wp2_with fail
                  refine (bits_any y 0 _ [] (by intro x hx; cases hx) (by decide) _ (readsI_nil .i64 w2) hT2).mono ?_
                  rintro e w3 ⟨rfl, hb3⟩
                  have hB3 := hB2.trans (hb3.mono hB2.size)
                  clear hb3 hB2 hT2
                  go_wp2_with fail
                  go_roundw
                  case rel => exact ⟨j + 1, by omega, by go_num, hB3⟩
                  case measure => simp [intOf]; omega
                · obtain rfl : j = 4 := by omega
                  rw [show ((4 : Nat) : Int) = 4 from rfl]
                  clear hBj
                  have hs1 : Gf.stepN (8 * (16777216 : Int).toNat) 1 ≠ 0 := fun h => by
                    have := Gf.stepN_inj0 _ (c := 1) (by decide) h
                    cases this
                  go_wp2_with fail
                  refine (shift_any 1 16777216 (by decide) (by decide) (by decide) _).mono ?_
                  rintro e w2 ⟨rfl, hb2⟩
                  have hB2 := hBw.trans (hb2.mono hBw.size)
                  obtain ⟨r, HR⟩ := nm (Gf.stepN (8 * (16777216 : Int).toNat) 1)
                  rw [HR.out] at hs1 ⊢
                  have hrn : ((r : Int) != 0) = true := by simp; omega
                  have hT2 := HT.out.keep hB2 (Nat.le_refl _)
                  clear hb2 hBw hs1
                  go_wp2_with fail
                  refine (cbit_any 16777216 134217727 (by decide) (by decide) (by decide) (by decide) _ hT2).mono ?_
                  rintro e w3 ⟨rfl, hb3⟩
                  rw [show 8 * (16777216 : Int).toNat - 1 - (134217727 : Int).toNat = 0 from rfl, show Gf.stepN 0 Gf.R = 3988292384 from rfl]
                  have hB3 := hB2.trans (hb3.mono hB2.size)
                  clear hb3 hB2 hT2
                  go_wp2_with (refine wpl_makeE rfl (.const (.int .i64 65537)) (.const (.int .i64 65537)) 25 rfl .u8 5 1 Tryd.underlying25 info_u8 (by decide) w3.heap.size w3 65537 _ _ rfl rfl rfl rfl (by decide) (Nat.le_refl _) ?_; intro w4 ho hb)
                  have hol : (List.replicate 65537 0).length = 65537 := List.length_replicate
                  obtain ⟨X, HX⟩ := nm (List.replicate 65537 0)
                  rw [HX.out] at ho hol
                  have hB4 := hB3.trans (hb.mono hB3.size)
                  have HR4 := Lib.hid ho.reads
                  have HL4 := Lib.hid hol
                  clear ho hb hB3 hol
                  refine (find_bad _ X _ HR4.out (.inr (by rw [HL4.out]; decide))).mono ?_
                  rintro e w5 ⟨rfl, rfl⟩
                  clear HR4 HL4 HX
                  go_wp2_with (refine wpl_makeE rfl (.const (.int .i64 3)) (.const (.int .i64 3)) 25 rfl .u8 5 1 Tryd.underlying25 info_u8 (by decide) w4.heap.size w4 3 _ _ rfl rfl rfl rfl (by decide) (Nat.le_refl _) ?_; intro w5 ho hb)
                  have hol : (List.replicate 3 0).length = 3 := List.length_replicate
                  obtain ⟨X3, HX⟩ := nm (List.replicate 3 0)
                  rw [HX.out] at ho hol
                  have hB5 := hB4.trans (hb.mono hB4.size)
                  have HR4 := Lib.hid ho.reads
                  have HL4 := Lib.hid hol
                  clear ho hb hB4 hol
                  refine (find_bad _ X3 _ HR4.out (.inl (by rw [HL4.out]; decide))).mono ?_
                  rintro e w6 ⟨rfl, rfl⟩
                  clear HR4 HL4 HX
                  go_wp2_with (refine wpl_makeE rfl (.const (.int .i64 16777217)) (.const (.int .i64 16777217)) 25 rfl .u8 5 1 Tryd.underlying25 info_u8 (by decide) w5.heap.size w5 16777217 _ _ rfl rfl rfl rfl (by decide) (Nat.le_refl _) ?_; intro w6 ho hb)
                  have hol : (List.replicate 16777217 0).length = 16777217 := List.length_replicate
                  obtain ⟨X4, HX⟩ := nm (List.replicate 16777217 0)
                  rw [HX.out] at ho hol
                  have hB6 := hB5.trans (hb.mono hB5.size)
                  have HR4 := Lib.hid ho.reads
                  have HL4 := Lib.hid hol
                  clear ho hb hB5 hol
                  refine (seal_long _ X4 _ HR4.out (by rw [HL4.out]; decide)).mono ?_
                  rintro e w7 ⟨rfl, rfl⟩
                  clear HR4 HL4 HX
                  go_wp2_with (refine wpl_makeE rfl (.const (.int .i64 4097)) (.const (.int .i64 4097)) 33 rfl .i64 3 8 Tryd.underlying33 info_int (by decide) w6.heap.size w6 4097 _ _ rfl rfl rfl rfl (by decide) (Nat.le_refl _) ?_; intro w7 ho hb)
                  have hol : (List.replicate 4097 0).length = 4097 := List.length_replicate
                  have hoz : ∀ x ∈ List.replicate 4097 0, x = 0 := fun x hx => (List.mem_replicate.1 hx).2
                  obtain ⟨X5, HX⟩ := nm (List.replicate 4097 0)
                  rw [HX.out] at ho hol hoz
                  have hB7 := hB6.trans (hb.mono hB6.size)
                  have HR4 := Lib.hid (readsI_of ho.reads)
                  have hdd := dam_many X5 hol hoz
                  have HDD := Lib.hid hdd
                  have HOZ := Lib.hid hoz
                  have hT7 := HT.out.keep hB7 (Nat.le_refl _)
                  clear ho hb hB6 hol hoz hdd
                  refine (cdam_any 100 (by decide) (by decide) _ (by intro x hx; obtain ⟨y, hy, rfl⟩ := List.mem_map.1 hx; have := HOZ.out y hy; omega) _ _ HR4.out hT7).mono ?_
                  rintro e w8 ⟨rfl, hb8⟩
                  rw [HDD.out.1, HDD.out.2]
                  have hB8 := hB7.trans (hb8.mono hB7.size)
                  clear hB7 hb8 hT7 HR4 HX
                  go_wp2_with fail
                  refine (awake_any _ (HT.out.keep hB8 (Nat.le_refl _))).mono ?_
                  rintro e w9 ⟨rfl, hb9⟩
                  go_wp2_with fail
                  go_ret
                  exact ⟨rfl, hB8.trans (hb9.mono hB8.size)⟩
end Go.Proofs.YtomddpplhllgcaaDoor
