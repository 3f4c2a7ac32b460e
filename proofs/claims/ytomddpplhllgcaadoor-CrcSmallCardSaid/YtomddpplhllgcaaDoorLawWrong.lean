/- The walk of the law CrcWrong. -/
import Derived.Test.YtomddpplhllgcaaDoorLawBits
import Derived.Test.YtomddpplhllgcaaDoorOpen
import Derived.Deep.DeepCutAuto
import Derived.WalkLawsBesides
namespace Go.Proofs.YtomddpplhllgcaaDoor
open Go Go.RowKit Go.Shelf

theorem readsI_lit (k : IntKind) (w : World) (xs : List Int) (t : TypeId) (cs : Array Value) (n : Nat) (hc : cs = (valsI k xs).toArray) (hn : n = xs.length) (hl : n ≤ 9223372036854775807) :
    ReadsI k (w.alloc (.cells cs t)) (.slice (some ⟨w.heap.size, 0, none⟩) n n) xs := by
  subst hn hc
  refine ⟨_, _, rfl, Nat.le_refl _, hl, .inr ⟨_, _, rfl, fun i hi => ?_⟩⟩
  rw [Nat.zero_add, World.cell?_alloc_at _ _ _ _ rfl]
  rw [List.getElem?_toArray, valsI_get k xs i hi]
theorem damB_one (n y : Int) (h : y < 0 ∨ 8 * n ≤ y) : damB n [y] = false := by
  unfold damB
  have : ¬ damOk n [y] := fun hk => by have := hk y (by simp); omega
  rw [if_pos (.inr (.inr (.inl this)))]
theorem damE_one (n y : Int) (h : y < 0 ∨ 8 * n ≤ y) : damE n [y] = 2 := by
  unfold damE
  have : ¬ damOk n [y] := fun hk => by have := hk y (by simp); omega
  rw [if_pos (.inr (.inr this))]
theorem cell_five (w : World) (t : TypeId) (j : Nat) (h : j < 5) : (w.alloc (.cells #[.int .i64 2, .int .i64 2, .int .i64 2, .int .i64 2, .int .i64 2] t)).cell? ⟨w.heap.size, j, none⟩ = some (.int .i64 2) := by
  rw [World.cell?_alloc_at _ _ _ _ rfl]
  match j, h with
  | 0, _ => rfl
  | 1, _ => rfl
  | 2, _ => rfl
  | 3, _ => rfl
  | 4, _ => rfl
theorem readsI_nil (k : IntKind) (w : World) : ReadsI k w (.slice none 0 0) [] := ⟨none, 0, rfl, by simp, by decide, .inl rfl⟩

set_option maxRecDepth 100000 in
set_option maxHeartbeats 4000000 in
theorem crcWrong_all (n : Int) (hn : -9223372036854775808 ≤ n ∧ n ≤ 9223372036854775807) (v : Value) (xs : List Nat) (w : World) (hv : Reads .u8 w v xs) (hx : Bytes xs) (hT : Tab w) :
    Calls Tryd.prog 9 #[.int .i64 n, v] w fun e w' => e = .returned (.bool true) ∧ Below w.heap.size w w' := by
  have hv0 := hv
  obtain ⟨a, cap, rfl, hlc, hcm, hcs⟩ := hv
  obtain ⟨L, HL⟩ := nm xs.length
  rw [HL.out] at hlc hv0 ⊢
  have HV := Lib.hid hv0
  have HT := Lib.hid hT
  clear hcs hv0 hT
  go_enter Tryd.func9, Tryd.ntmps9
  go_upto_region 1 with fail
  go_cut [31, 32, 33] (fun v0 v1 v2 wx => ∃ y0 y1 : Int, y0 < 0 ∧ 16777216 < y1 ∧ v1 = .int .i64 2 ∧ v2 = .int .i64 0 ∧ v0 = .slice (some ⟨w.heap.size, 0, none⟩) 2 2 ∧ ReadsI .i64 wx v0 [y0, y1] ∧ -9223372036854775808 ≤ y0 ∧ y1 ≤ 9223372036854775807 ∧ Below w.heap.size w wx)
  case first =>
    by_cases c1 : n ≤ -1 <;> by_cases c2 : 16777217 ≤ n
    · exfalso; omega
    all_goals
      go_wp2_with fail
      go_meet
      first
        | exact ⟨n, 16777217, by omega, by omega, rfl, rfl, rfl, readsI_lit .i64 w [n, 16777217] _ _ 2 rfl rfl (by decide), by omega, by omega, bel_alloc w _⟩
        | exact ⟨-1, n, by omega, by omega, rfl, rfl, rfl, readsI_lit .i64 w [-1, n] _ _ 2 rfl rfl (by decide), by omega, by omega, bel_alloc w _⟩
        | exact ⟨-1, 16777217, by omega, by omega, rfl, rfl, rfl, readsI_lit .i64 w [-1, 16777217] _ _ 2 rfl rfl (by decide), by omega, by omega, bel_alloc w _⟩
  case rest =>
    obtain ⟨y0, y1, hy0, hy1, rfl, rfl, rfl, hr, hl0, hl1, hB0⟩ := hcut
    have HY := Lib.hid hr
    clear hr
    go_wp2_with fail
    go_loopw [33] (fun vi wr => ∃ k : Nat, k ≤ 2 ∧ vi = .int .i64 (k : Int) ∧ Below wc.heap.size wc wr) (fun vi _ => 2 - (intOf vi).toNat)
    case atStart => exact ⟨0, Nat.zero_le _, rfl, Below.refl _ _⟩
    case round =>
      obtain ⟨k, hk, rfl, hBr⟩ := hrel
      by_cases hlt : k < 2
      · have hBw := hB0.trans (hBr.mono hB0.size)
        have hTr := HT.out.keep hBw (Nat.le_refl _)
        obtain ⟨ya, cy, e1, _, _, hcell⟩ := HY.out.keep hBr (Nat.le_refl _)
        cases e1
        obtain ⟨yb, yo, e2, hc⟩ := hcell.resolve_left (by decide)
        cases e2
        have ck := hc k hlt
        rw [Nat.zero_add] at ck
        have hyy : ([y0, y1] : List Int)[k]?.getD 0 < 0 ∨ 16777216 < ([y0, y1] : List Int)[k]?.getD 0 := by
          match k, hlt with
          | 0, _ => exact .inl hy0
          | 1, _ => exact .inr hy1
        have hyb : -9223372036854775808 ≤ ([y0, y1] : List Int)[k]?.getD 0 ∧ ([y0, y1] : List Int)[k]?.getD 0 ≤ 9223372036854775807 := by
          match k, hlt with
          | 0, _ => exact ⟨hl0, by show y0 ≤ _; omega⟩
          | 1, _ => exact ⟨by show _ ≤ y1; omega, hl1⟩
        obtain ⟨y, HYY⟩ := nm (([y0, y1] : List Int)[k]?.getD 0)
        rw [HYY.out] at ck hyy hyb
        have HYB := Lib.hid hyy
        clear hc hcell hyy
        go_wp2_with fail
        refine (shift_err 7 y HYB.out _).mono ?_
        rintro e w2 ⟨rfl, rfl⟩
        go_wp2_with fail
        refine (join_err 7 7 y HYB.out _).mono ?_
        rintro e w2 ⟨rfl, rfl⟩
        go_wp2_with fail
        refine (cbit_err y 0 (by have := HYB.out; omega) _).mono ?_
        rintro e w2 ⟨rfl, rfl⟩
        go_wp2_with fail
        refine (cdam_bad y [] _ _ (by have := HYB.out; omega)).mono ?_
        rintro e w2 ⟨rfl, hb2⟩
        have d1 : damB y [] = false := by unfold damB; rw [if_pos (by have := HYB.out; omega)]
        have d2 : damE y [] = 2 := by unfold damE; rw [if_pos (by have := HYB.out; omega)]
        rw [d1, d2]
        clear d1 d2
        have hB2 := hBr.trans (hb2.mono hBr.size)
        go_wp2_with fail
        refine (cbit_err 20 y (by have := HYB.out; omega) _).mono ?_
        rintro e w3 ⟨rfl, rfl⟩
        have hT2 := HT.out.keep (hB0.trans (hB2.mono hB0.size)) (Nat.le_refl _)
        have hT3 := hT2.keep (bel_alloc w2 (.cells #[.int .i64 y] 3)) (Nat.le_refl _)
        go_wp2_with fail
        refine (cdam_any 20 (by decide) (by decide) [y] (by intro x hx; simp at hx; subst hx; exact hyb) _ _ (readsI_lit .i64 w2 [y] _ _ 1 rfl rfl (by decide)) hT3).mono ?_
        rintro e w4 ⟨rfl, hb4⟩
        rw [damB_one 20 y (by have := HYB.out; omega), damE_one 20 y (by have := HYB.out; omega)]
        have hb24 := (bel_alloc w2 (.cells #[.int .i64 y] 3)).trans (hb4.mono (by simp))
        have hB4 := hB2.trans (hb24.mono hB2.size)
        clear hB2 hT2 hT3 hb4 hb24 hb2
        go_wp2_with fail
        have c5 := cell_five w4 28
        have hB5 := hB4.trans ((bel_alloc w4 (.cells #[.int .i64 2, .int .i64 2, .int .i64 2, .int .i64 2, .int .i64 2] 28)).mono hB4.size)
        have C5 := Lib.hid c5
        clear c5
        go_loop [89] (fun vj => ∃ j : Nat, j ≤ 5 ∧ vj = .int .i64 (j : Int)) (fun vj => 5 - (intOf vj).toNat)
        case atStart => exact ⟨0, by omega, rfl⟩
        case round =>
          obtain ⟨j, hj, rfl⟩ := hrel
          by_cases hlt5 : j < 5
          · have cj := C5.out j hlt5
            go_wp2_with fail
            go_round
            case rel => exact ⟨j + 1, by omega, by go_num⟩
            case measure => simp [intOf]; omega
          · obtain rfl : j = 5 := by omega
            by_cases hneg : y < 0
            · go_wp2_with fail
              go_roundw
              case rel => exact ⟨k + 1, by omega, by go_num, hB5⟩
              case measure => simp [intOf]; omega
            · have hge : 160 ≤ y := by have := HYB.out; omega
              go_wp2_with fail
              go_roundw
              case rel => exact ⟨k + 1, by omega, by go_num, hB5⟩
              case measure => simp [intOf]; omega
      · obtain rfl : k = 2 := by omega
        have hBw := hB0.trans (hBr.mono hB0.size)
        have hTr := HT.out.keep hBw (Nat.le_refl _)
        clear hBr hB0
        obtain ⟨p, hp1, hp2, hpc, hpe⟩ : ∃ p : Nat, p ≤ L ∧ p ≤ 300 ∧ p ≤ cap ∧ ((L ≤ 300 ∧ p = L) ∨ (300 < L ∧ p = 300)) := by
          by_cases h : L ≤ 300
          · exact ⟨L, by omega, h, hlc, .inl ⟨h, rfl⟩⟩
          · exact ⟨300, by omega, by omega, by omega, .inr ⟨by omega, rfl⟩⟩
        have hr := (reads_pre HV.out hp1).keep hBw (Nat.le_refl _)
        have hX : Bytes (xs.take p) := hx.take p
        have hXl : (xs.take p).length < 1099511627776 := by simp; omega
        obtain ⟨X, HX⟩ := nm (xs.take p)
        rw [HX.out] at hr hX hXl
        have HPE := Lib.hid hpe
        clear hpe
        rcases HPE.out with ⟨h1, rfl⟩ | ⟨h1, rfl⟩
        all_goals
          go_wp2_with fail
          cases hs : sealedB X
          · have HSB := Lib.hid hs
            clear hs
            refine (open_not _ X _ hr hX hTr HSB.out).mono ?_
            rintro e w2 ⟨rfl, hb2⟩
            have hB2 := hBw.trans (hb2.mono hBw.size)
            have hrr := hr.keep hb2 (Nat.le_refl _)
            have hTt := hTr.keep hb2 (Nat.le_refl _)
            clear hb2 hr hTr
            go_wp2_with fail
            refine (sealed_any _ X _ hrr hX hTt).mono ?_
            rintro e w3 ⟨rfl, hb3⟩
            rw [HSB.out]
            have hB3 := hB2.trans (hb3.mono hB2.size)
            clear hB2 hb3 hrr hTt
            go_wp2_with fail
            refine (cdam_bad 3 [] _ _ (by decide)).mono ?_
            rintro e w4 ⟨rfl, hb4⟩
            rw [show damB 3 [] = false by decide, show damE 3 [] = 2 by decide]
            have hB4 := hB3.trans (hb4.mono hB3.size)
            clear hB3 hb4
            go_wp2_with fail
            refine (cbit_err 0 0 (by decide) _).mono ?_
            rintro e w5 ⟨rfl, rfl⟩
            go_wp2_with fail
            refine (awake_any _ (HT.out.keep hB4 (Nat.le_refl _))).mono ?_
            rintro e w5 ⟨rfl, hb5⟩
            go_wp2_with fail
            go_ret
            exact ⟨rfl, hB4.trans (hb5.mono hB4.size)⟩
          · have HSB := Lib.hid hs
            clear hs
            refine (open_yes _ X _ hr hX hTr HSB.out hXl).mono ?_
            rintro e w2 ⟨vo, rfl, _, hb2⟩
            have hB2 := hBw.trans (hb2.mono hBw.size)
            have hrr := hr.keep hb2 (Nat.le_refl _)
            have hTt := hTr.keep hb2 (Nat.le_refl _)
            clear hb2 hr hTr
            go_wp2_with fail
            refine (sealed_any _ X _ hrr hX hTt).mono ?_
            rintro e w3 ⟨rfl, hb3⟩
            rw [HSB.out]
            have hB3 := hB2.trans (hb3.mono hB2.size)
            clear hB2 hb3 hrr hTt
            go_wp2_with fail
            refine (cdam_bad 3 [] _ _ (by decide)).mono ?_
            rintro e w4 ⟨rfl, hb4⟩
            rw [show damB 3 [] = false by decide, show damE 3 [] = 2 by decide]
            have hB4 := hB3.trans (hb4.mono hB3.size)
            clear hB3 hb4
            go_wp2_with fail
            refine (cbit_err 0 0 (by decide) _).mono ?_
            rintro e w5 ⟨rfl, rfl⟩
            go_wp2_with fail
            refine (awake_any _ (HT.out.keep hB4 (Nat.le_refl _))).mono ?_
            rintro e w5 ⟨rfl, hb5⟩
            go_wp2_with fail
            go_ret
            exact ⟨rfl, hB4.trans (hb5.mono hB4.size)⟩
end Go.Proofs.YtomddpplhllgcaaDoor
