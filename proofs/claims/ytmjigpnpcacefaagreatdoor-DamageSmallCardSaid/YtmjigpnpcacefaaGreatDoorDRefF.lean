/- The reference of pieces: the walk of Pieces. -/
import Derived.Test.YtmjigpnpcacefaaGreatDoorDmgR
namespace Go.Proofs.YtmjigpnpcacefaaGreatDoor
open Go Go.RowKit Go.Shelf

/-- A stretch of bytes. -/
def seg (xs : List Nat) (a b : Nat) : List Nat := (xs.drop a).take (b - a)
theorem seg_nil (xs : List Nat) (a : Nat) : seg xs a a = [] := by simp [seg]
theorem seg_len (xs : List Nat) (a b : Nat) : (seg xs a b).length = min (b - a) (xs.length - a) := by simp [seg]
theorem seg_snoc {xs : List Nat} {a i : Nat} (h1 : a ≤ i) (h2 : i < xs.length) : seg xs a (i + 1) = seg xs a i ++ [xs[i]?.getD 0] := by
  unfold seg
  rw [show i + 1 - a = (i - a) + 1 by omega, List.take_succ_eq_append_getElem (by rw [List.length_drop]; omega), List.getElem_drop, List.getElem?_eq_getElem h2]
  congr 2
  simp only [Option.getD_some]
  congr 1
  omega
/-- A stretch, backwards. -/
def rseg (xs : List Nat) (i t : Nat) : List Nat := (seg xs i t).reverse
theorem rseg_nil (xs : List Nat) (t : Nat) : rseg xs t t = [] := by unfold rseg; rw [seg_nil]; rfl
theorem rseg_len (xs : List Nat) (i t : Nat) : (rseg xs i t).length = min (t - i) (xs.length - i) := by unfold rseg; rw [List.length_reverse, seg_len]
theorem rseg_snoc {xs : List Nat} {i t : Nat} (h1 : i < t) (h2 : i < xs.length) : rseg xs i t = rseg xs (i + 1) t ++ [xs[i]?.getD 0] := by
  unfold rseg seg
  rw [List.drop_eq_getElem_cons h2, show t - i = (t - (i + 1)) + 1 by omega, List.take_succ_cons, List.reverse_cons, List.getElem?_eq_getElem h2]
  rfl
/-- A stretch, repeated behind the head. -/
def reps (xs : List Nat) (f t : Nat) : Nat → List Nat
  | 0 => seg xs 0 f
  | q + 1 => reps xs f t q ++ seg xs f t
theorem reps_succ (xs : List Nat) (f t q : Nat) : reps xs f t (q + 1) = reps xs f t q ++ seg xs f t := rfl
theorem reps_len (xs : List Nat) (f t : Nat) : ∀ q, (reps xs f t q).length ≤ (q + 1) * xs.length
  | 0 => by unfold reps; rw [seg_len]; omega
  | q + 1 => by
    have := reps_len xs f t q
    unfold reps
    rw [List.length_append, seg_len, Nat.succ_mul]
    omega

set_option maxRecDepth 100000 in
set_option maxHeartbeats 8000000 in
theorem rpieces0_any (v : Value) (xs : List Nat) (f t : Nat) (z : Int) (hft : f ≤ t) (htn : t ≤ xs.length) (w : World) (hv : Reads .u8 w v xs) (hxl : xs.length < 400000) :
    Calls Tryz.prog 39 #[.int .i64 0, v, .int .i64 (f : Int), .int .i64 z, .int .i64 (t : Int)] w fun e w' => ∃ v', e = .returned (.tuple #[v', .int .i64 0]) ∧ Owns .u8 5 w' w.heap.size v' (seg xs 0 f ++ seg xs t xs.length) ∧ Below w.heap.size w w' := by
  obtain ⟨av, cv, rfl, hlc, hcm, hcs⟩ := hv
  have hxl0 : xs.length < 400000 := hxl
  obtain ⟨n, HN⟩ := nm xs.length
  rw [HN.out] at hlc hxl hcs htn ⊢
  have HA := Lib.hid hcs
  have HO := Lib.hid (Owns.nil .u8 5 w w.heap.size)
  have HB := Lib.hid (bel_refl w)
  have q1 : ¬ (f : Int) < 0 := by omega
  have q2 : ¬ (t : Int) < (f : Int) := by omega
  have q2n : ¬ t < f := by omega
  have q3 : ¬ (t : Int) < (t : Int) := by omega
  have q4 : ¬ (n : Int) < (t : Int) := by omega
  have q4n : ¬ n < t := by omega
  clear hcs
  go_enter Tryz.func39, Tryz.ntmps39
  go_wp2_with fail
  go_loopw [12, 13] (fun vo vi wr => ∃ i : Nat, 0 ≤ i ∧ i ≤ f ∧ vi = .int .i64 (i : Int) ∧ Owns .u8 5 wr w.heap.size vo (seg xs 0 i) ∧ Below w.heap.size w wr) (fun _ vi _ => f - (intOf vi).toNat)
  case atStart => exact ⟨0, Nat.le_refl _, by omega, by first | rfl | go_num, by rw [seg_nil]; exact HO.out, HB.out⟩
  case round =>
    obtain ⟨i, hi1, hi2, rfl, hown, hBr⟩ := hrel
    have hsz := hBr.size
    by_cases hlt : i < f
    · have hin : i < n := by omega
      obtain ⟨b, o, rfl, hc⟩ := HA.out.resolve_left (fun h => by omega)
      have ck := cell_keep hBr (hc i hin) (cell_lt (hc i hin))
      have hsn := seg_snoc (xs := xs) (a := 0) (i := i) hi1 (by rw [HN.out]; exact hin)
      have hlen : (seg xs 0 i).length < 17592186044415 := by simp only [seg_len]; omega
      obtain ⟨x, HX⟩ := nm (xs[i]?.getD 0)
      rw [HX.out] at ck hsn
      have HO2 := Lib.hid hown
      have HSN := Lib.hid hsn
      have j1 : (i : Int) < ((f : Nat) : Int) := by omega
      have j2 : (i : Int) < (n : Int) := by omega
      clear hown hsn hc
      go_wp2_with (at_builtin; refine wpl_app1 rfl (.tmp 47) (.tmp 52) 22 rfl .u8 5 1 Tryz.underlying22 info_u8 (by decide) w.heap.size _ (seg xs 0 i) wr HO2.out rfl _ x rfl rfl hlen hsz ?_; intro v' w3 hown' hB')
      go_roundw
      case rel => exact ⟨i + 1, by omega, by omega, by go_num, by rw [HSN.out]; exact hown', hBr.trans hB'⟩
      case measure => simp [intOf]; omega
    · obtain rfl : f = i := by omega
      have HO := Lib.hid hown
      have HB := Lib.hid hBr
      clear hown hBr hsz
      obtain ⟨wa, rfl⟩ : ∃ wa : World, wa = wr := ⟨_, rfl⟩
      have HO0 := HO
      have HO := Lib.hid (World.ownsRow.alloc HO0.out (.cells #[.int .i64 0, .int .i64 2, .int .i64 0, .int .i64 0] 3))
      have HB0 := HB
      have HB := Lib.hid (HB0.out.alloc HB0.out.size (.cells #[.int .i64 0, .int .i64 2, .int .i64 0, .int .i64 0] 3))
      clear HO0 HB0
      go_wp2_with fail
      obtain ⟨wb, HWB⟩ := nm (wa.alloc (.cells #[.int .i64 0, .int .i64 2, .int .i64 0, .int .i64 0] 3))
      rw [HWB.out] at HO HB ⊢
      go_loopw [12, 15] (fun vo vq wr => vq = .int .i64 0 ∧ Owns .u8 5 wr w.heap.size vo (seg xs 0 f) ∧ wb = wr) (fun _ _ _ => 0)
      case atStart => exact ⟨rfl, HO.out, rfl⟩
      case round =>
        obtain ⟨rfl, hown, rfl⟩ := hrel
        have HO := Lib.hid hown
        clear hown
        go_wp2_with fail
        go_loopw [12, 20] (fun vo vi wr => ∃ i : Nat, t ≤ i ∧ i ≤ n ∧ vi = .int .i64 (i : Int) ∧ Owns .u8 5 wr w.heap.size vo (seg xs 0 f ++ seg xs t i) ∧ Below w.heap.size w wr) (fun _ vi _ => n - (intOf vi).toNat)
        case atStart => exact ⟨t, Nat.le_refl _, by omega, by first | rfl | go_num, by rw [seg_nil, List.append_nil]; exact HO.out, HB.out⟩
        case round =>
          obtain ⟨i, hi1, hi2, rfl, hown, hBr⟩ := hrel
          have hsz := hBr.size
          by_cases hlt : i < n
          · have hin : i < n := by omega
            obtain ⟨b, o, rfl, hc⟩ := HA.out.resolve_left (fun h => by omega)
            have ck := cell_keep hBr (hc i hin) (cell_lt (hc i hin))
            have hsn := seg_snoc (xs := xs) (a := t) (i := i) hi1 (by rw [HN.out]; exact hin)
            have hlen : (seg xs 0 f ++ seg xs t i).length < 17592186044415 := by simp only [List.length_append, seg_len]; omega
            obtain ⟨x, HX⟩ := nm (xs[i]?.getD 0)
            rw [HX.out] at ck hsn
            have HO2 := Lib.hid hown
            have HSN := Lib.hid hsn
            have j1 : (i : Int) < ((n : Nat) : Int) := by omega
            have j2 : (i : Int) < (n : Int) := by omega
            clear hown hsn hc
            go_wp2_with (at_builtin; refine wpl_app1 rfl (.tmp 127) (.tmp 132) 22 rfl .u8 5 1 Tryz.underlying22 info_u8 (by decide) w.heap.size _ (seg xs 0 f ++ seg xs t i) wr HO2.out rfl _ x rfl rfl hlen hsz ?_; intro v' w3 hown' hB')
            go_roundw
            case rel => exact ⟨i + 1, by omega, by omega, by go_num, by rw [HSN.out, ← List.append_assoc]; exact hown', hBr.trans hB'⟩
            case measure => simp [intOf]; omega
          · obtain rfl : n = i := by omega
            have HO := Lib.hid hown
            have HB := Lib.hid hBr
            clear hown hBr hsz
            obtain ⟨wz, rfl⟩ : ∃ wz : World, wz = wr := ⟨_, rfl⟩
            go_wp2_with fail
            go_ret2
            exact ⟨_, rfl, HO.out, HB.out⟩

set_option maxRecDepth 100000 in
set_option maxHeartbeats 8000000 in
theorem rpieces1_any (v : Value) (xs : List Nat) (f t : Nat) (z : Int) (hft : f ≤ t) (htn : t ≤ xs.length) (w : World) (hv : Reads .u8 w v xs) (hxl : xs.length < 400000) :
    Calls Tryz.prog 39 #[.int .i64 1, v, .int .i64 (f : Int), .int .i64 z, .int .i64 (t : Int)] w fun e w' => ∃ v', e = .returned (.tuple #[v', .int .i64 0]) ∧ Owns .u8 5 w' w.heap.size v' (((seg xs 0 f ++ seg xs f t) ++ seg xs f t) ++ seg xs t xs.length) ∧ Below w.heap.size w w' := by
  obtain ⟨av, cv, rfl, hlc, hcm, hcs⟩ := hv
  have hxl0 : xs.length < 400000 := hxl
  obtain ⟨n, HN⟩ := nm xs.length
  rw [HN.out] at hlc hxl hcs htn ⊢
  have HA := Lib.hid hcs
  have HO := Lib.hid (Owns.nil .u8 5 w w.heap.size)
  have HB := Lib.hid (bel_refl w)
  have q1 : ¬ (f : Int) < 0 := by omega
  have q2 : ¬ (t : Int) < (f : Int) := by omega
  have q2n : ¬ t < f := by omega
  have q3 : ¬ (t : Int) < (t : Int) := by omega
  have q4 : ¬ (n : Int) < (t : Int) := by omega
  have q4n : ¬ n < t := by omega
  clear hcs
  go_enter Tryz.func39, Tryz.ntmps39
  go_wp2_with fail
  go_loopw [12, 13] (fun vo vi wr => ∃ i : Nat, 0 ≤ i ∧ i ≤ f ∧ vi = .int .i64 (i : Int) ∧ Owns .u8 5 wr w.heap.size vo (seg xs 0 i) ∧ Below w.heap.size w wr) (fun _ vi _ => f - (intOf vi).toNat)
  case atStart => exact ⟨0, Nat.le_refl _, by omega, by first | rfl | go_num, by rw [seg_nil]; exact HO.out, HB.out⟩
  case round =>
    obtain ⟨i, hi1, hi2, rfl, hown, hBr⟩ := hrel
    have hsz := hBr.size
    by_cases hlt : i < f
    · have hin : i < n := by omega
      obtain ⟨b, o, rfl, hc⟩ := HA.out.resolve_left (fun h => by omega)
      have ck := cell_keep hBr (hc i hin) (cell_lt (hc i hin))
      have hsn := seg_snoc (xs := xs) (a := 0) (i := i) hi1 (by rw [HN.out]; exact hin)
      have hlen : (seg xs 0 i).length < 17592186044415 := by simp only [seg_len]; omega
      obtain ⟨x, HX⟩ := nm (xs[i]?.getD 0)
      rw [HX.out] at ck hsn
      have HO2 := Lib.hid hown
      have HSN := Lib.hid hsn
      have j1 : (i : Int) < ((f : Nat) : Int) := by omega
      have j2 : (i : Int) < (n : Int) := by omega
      clear hown hsn hc
      go_wp2_with (at_builtin; refine wpl_app1 rfl (.tmp 47) (.tmp 52) 22 rfl .u8 5 1 Tryz.underlying22 info_u8 (by decide) w.heap.size _ (seg xs 0 i) wr HO2.out rfl _ x rfl rfl hlen hsz ?_; intro v' w3 hown' hB')
      go_roundw
      case rel => exact ⟨i + 1, by omega, by omega, by go_num, by rw [HSN.out]; exact hown', hBr.trans hB'⟩
      case measure => simp [intOf]; omega
    · obtain rfl : f = i := by omega
      have HO := Lib.hid hown
      have HB := Lib.hid hBr
      clear hown hBr hsz
      obtain ⟨wa, rfl⟩ : ∃ wa : World, wa = wr := ⟨_, rfl⟩
      have HO0 := HO
      have HO := Lib.hid (World.ownsRow.alloc HO0.out (.cells #[.int .i64 0, .int .i64 2, .int .i64 0, .int .i64 0] 3))
      have HB0 := HB
      have HB := Lib.hid (HB0.out.alloc HB0.out.size (.cells #[.int .i64 0, .int .i64 2, .int .i64 0, .int .i64 0] 3))
      clear HO0 HB0
      go_wp2_with fail
      obtain ⟨wb, HWB⟩ := nm (wa.alloc (.cells #[.int .i64 0, .int .i64 2, .int .i64 0, .int .i64 0] 3))
      rw [HWB.out] at HO HB ⊢
      go_loopw [12, 15] (fun vo vq wr => ∃ q : Nat, q ≤ 2 ∧ vq = .int .i64 (q : Int) ∧ Owns .u8 5 wr w.heap.size vo (reps xs f t q) ∧ Below w.heap.size w wr) (fun _ vq _ => 2 - (intOf vq).toNat)
      case atStart => exact ⟨0, by omega, rfl, HO.out, HB.out⟩
      case round =>
        obtain ⟨q, hq, rfl, hown, hBr⟩ := hrel
        have HO := Lib.hid hown
        have HB := Lib.hid hBr
        have hrl := reps_len xs f t q
        have hrs := reps_succ xs f t q
        clear hown hBr
        by_cases hq2 : q < 2
        · have hq3 : (q : Int) < 2 := by omega
          obtain ⟨RP, HRP⟩ := nm (reps xs f t q)
          rw [HRP.out] at HO hrl hrs
          have HRS := Lib.hid hrs
          have hrb : RP.length < 1600000 := by have h2 : (q + 1) * xs.length ≤ 2 * xs.length := Nat.mul_le_mul_right _ (by omega); omega
          clear hrs hrl
          obtain ⟨wc1, rfl⟩ : ∃ wc1 : World, wc1 = wr := ⟨_, rfl⟩
          go_wp2_with fail
          go_loopw [12, 16] (fun vo vi wr => ∃ i : Nat, f ≤ i ∧ i ≤ t ∧ vi = .int .i64 (i : Int) ∧ Owns .u8 5 wr w.heap.size vo (RP ++ seg xs f i) ∧ Below w.heap.size w wr) (fun _ vi _ => t - (intOf vi).toNat)
          case atStart => exact ⟨f, Nat.le_refl _, by omega, by first | rfl | go_num, by rw [seg_nil, List.append_nil]; exact HO.out, HB.out⟩
          case round =>
            obtain ⟨i, hi1, hi2, rfl, hown, hBr⟩ := hrel
            have hsz := hBr.size
            by_cases hlt : i < t
            · have hin : i < n := by omega
              obtain ⟨b, o, rfl, hc⟩ := HA.out.resolve_left (fun h => by omega)
              have ck := cell_keep hBr (hc i hin) (cell_lt (hc i hin))
              have hsn := seg_snoc (xs := xs) (a := f) (i := i) hi1 (by rw [HN.out]; exact hin)
              have hlen : (RP ++ seg xs f i).length < 17592186044415 := by simp only [List.length_append, seg_len]; omega
              obtain ⟨x, HX⟩ := nm (xs[i]?.getD 0)
              rw [HX.out] at ck hsn
              have HO2 := Lib.hid hown
              have HSN := Lib.hid hsn
              have j1 : (i : Int) < ((t : Nat) : Int) := by omega
              have j2 : (i : Int) < (n : Int) := by omega
              clear hown hsn hc
              go_wp2_with (at_builtin; refine wpl_app1 rfl (.tmp 69) (.tmp 74) 22 rfl .u8 5 1 Tryz.underlying22 info_u8 (by decide) w.heap.size _ (RP ++ seg xs f i) wr HO2.out rfl _ x rfl rfl hlen hsz ?_; intro v' w3 hown' hB')
              go_roundw
              case rel => exact ⟨i + 1, by omega, by omega, by go_num, by rw [HSN.out, ← List.append_assoc]; exact hown', hBr.trans hB'⟩
              case measure => simp [intOf]; omega
            · obtain rfl : t = i := by omega
              have HO := Lib.hid hown
              have HB := Lib.hid hBr
              clear hown hBr hsz
              go_wp2_with fail
              go_roundw
              case rel => exact ⟨q + 1, by omega, by go_num, by rw [HRS.out]; exact HO.out, HB.out⟩
              case measure => simp [intOf]; omega
        · obtain rfl : q = 2 := by omega
          rw [show ((2 : Nat) : Int) = 2 from rfl]
          obtain ⟨wc1, rfl⟩ : ∃ wc1 : World, wc1 = wr := ⟨_, rfl⟩
          go_wp2_with fail
          go_loopw [12, 20] (fun vo vi wr => ∃ i : Nat, t ≤ i ∧ i ≤ n ∧ vi = .int .i64 (i : Int) ∧ Owns .u8 5 wr w.heap.size vo (reps xs f t 2 ++ seg xs t i) ∧ Below w.heap.size w wr) (fun _ vi _ => n - (intOf vi).toNat)
          case atStart => exact ⟨t, Nat.le_refl _, by omega, by first | rfl | go_num, by rw [seg_nil, List.append_nil]; exact HO.out, HB.out⟩
          case round =>
            obtain ⟨i, hi1, hi2, rfl, hown, hBr⟩ := hrel
            have hsz := hBr.size
            by_cases hlt : i < n
            · have hin : i < n := by omega
              obtain ⟨b, o, rfl, hc⟩ := HA.out.resolve_left (fun h => by omega)
              have ck := cell_keep hBr (hc i hin) (cell_lt (hc i hin))
              have hsn := seg_snoc (xs := xs) (a := t) (i := i) hi1 (by rw [HN.out]; exact hin)
              have hlen : (reps xs f t 2 ++ seg xs t i).length < 17592186044415 := by simp only [List.length_append, seg_len]; omega
              obtain ⟨x, HX⟩ := nm (xs[i]?.getD 0)
              rw [HX.out] at ck hsn
              have HO2 := Lib.hid hown
              have HSN := Lib.hid hsn
              have j1 : (i : Int) < ((n : Nat) : Int) := by omega
              have j2 : (i : Int) < (n : Int) := by omega
              clear hown hsn hc
              go_wp2_with (at_builtin; refine wpl_app1 rfl (.tmp 127) (.tmp 132) 22 rfl .u8 5 1 Tryz.underlying22 info_u8 (by decide) w.heap.size _ (reps xs f t 2 ++ seg xs t i) wr HO2.out rfl _ x rfl rfl hlen hsz ?_; intro v' w3 hown' hB')
              go_roundw
              case rel => exact ⟨i + 1, by omega, by omega, by go_num, by rw [HSN.out, ← List.append_assoc]; exact hown', hBr.trans hB'⟩
              case measure => simp [intOf]; omega
            · obtain rfl : n = i := by omega
              have HO := Lib.hid hown
              have HB := Lib.hid hBr
              clear hown hBr hsz
              obtain ⟨wz, rfl⟩ : ∃ wz : World, wz = wr := ⟨_, rfl⟩
              go_wp2_with fail
              go_ret2
              exact ⟨_, rfl, HO.out, HB.out⟩

set_option maxRecDepth 100000 in
set_option maxHeartbeats 8000000 in
theorem rpieces2_any (v : Value) (xs : List Nat) (f t : Nat) (z : Int) (hft : f ≤ t) (htn : t ≤ xs.length) (w : World) (hv : Reads .u8 w v xs) (hxl : xs.length < 400000) :
    Calls Tryz.prog 39 #[.int .i64 2, v, .int .i64 (f : Int), .int .i64 z, .int .i64 (t : Int)] w fun e w' => ∃ v', e = .returned (.tuple #[v', .int .i64 0]) ∧ Owns .u8 5 w' w.heap.size v' ((seg xs 0 f ++ rseg xs f t) ++ seg xs t xs.length) ∧ Below w.heap.size w w' := by
  obtain ⟨av, cv, rfl, hlc, hcm, hcs⟩ := hv
  have hxl0 : xs.length < 400000 := hxl
  obtain ⟨n, HN⟩ := nm xs.length
  rw [HN.out] at hlc hxl hcs htn ⊢
  have HA := Lib.hid hcs
  have HO := Lib.hid (Owns.nil .u8 5 w w.heap.size)
  have HB := Lib.hid (bel_refl w)
  have q1 : ¬ (f : Int) < 0 := by omega
  have q2 : ¬ (t : Int) < (f : Int) := by omega
  have q2n : ¬ t < f := by omega
  have q3 : ¬ (t : Int) < (t : Int) := by omega
  have q4 : ¬ (n : Int) < (t : Int) := by omega
  have q4n : ¬ n < t := by omega
  clear hcs
  go_enter Tryz.func39, Tryz.ntmps39
  go_wp2_with fail
  go_loopw [12, 13] (fun vo vi wr => ∃ i : Nat, 0 ≤ i ∧ i ≤ f ∧ vi = .int .i64 (i : Int) ∧ Owns .u8 5 wr w.heap.size vo (seg xs 0 i) ∧ Below w.heap.size w wr) (fun _ vi _ => f - (intOf vi).toNat)
  case atStart => exact ⟨0, Nat.le_refl _, by omega, by first | rfl | go_num, by rw [seg_nil]; exact HO.out, HB.out⟩
  case round =>
    obtain ⟨i, hi1, hi2, rfl, hown, hBr⟩ := hrel
    have hsz := hBr.size
    by_cases hlt : i < f
    · have hin : i < n := by omega
      obtain ⟨b, o, rfl, hc⟩ := HA.out.resolve_left (fun h => by omega)
      have ck := cell_keep hBr (hc i hin) (cell_lt (hc i hin))
      have hsn := seg_snoc (xs := xs) (a := 0) (i := i) hi1 (by rw [HN.out]; exact hin)
      have hlen : (seg xs 0 i).length < 17592186044415 := by simp only [seg_len]; omega
      obtain ⟨x, HX⟩ := nm (xs[i]?.getD 0)
      rw [HX.out] at ck hsn
      have HO2 := Lib.hid hown
      have HSN := Lib.hid hsn
      have j1 : (i : Int) < ((f : Nat) : Int) := by omega
      have j2 : (i : Int) < (n : Int) := by omega
      clear hown hsn hc
      go_wp2_with (at_builtin; refine wpl_app1 rfl (.tmp 47) (.tmp 52) 22 rfl .u8 5 1 Tryz.underlying22 info_u8 (by decide) w.heap.size _ (seg xs 0 i) wr HO2.out rfl _ x rfl rfl hlen hsz ?_; intro v' w3 hown' hB')
      go_roundw
      case rel => exact ⟨i + 1, by omega, by omega, by go_num, by rw [HSN.out]; exact hown', hBr.trans hB'⟩
      case measure => simp [intOf]; omega
    · obtain rfl : f = i := by omega
      have HO := Lib.hid hown
      have HB := Lib.hid hBr
      clear hown hBr hsz
      obtain ⟨wa, rfl⟩ : ∃ wa : World, wa = wr := ⟨_, rfl⟩
      have HO0 := HO
      have HO := Lib.hid (World.ownsRow.alloc HO0.out (.cells #[.int .i64 0, .int .i64 2, .int .i64 0, .int .i64 0] 3))
      have HB0 := HB
      have HB := Lib.hid (HB0.out.alloc HB0.out.size (.cells #[.int .i64 0, .int .i64 2, .int .i64 0, .int .i64 0] 3))
      clear HO0 HB0
      go_wp2_with fail
      obtain ⟨wb, HWB⟩ := nm (wa.alloc (.cells #[.int .i64 0, .int .i64 2, .int .i64 0, .int .i64 0] 3))
      rw [HWB.out] at HO HB ⊢
      go_loopw [12, 15] (fun vo vq wr => vq = .int .i64 0 ∧ Owns .u8 5 wr w.heap.size vo (seg xs 0 f) ∧ wb = wr) (fun _ _ _ => 0)
      case atStart => exact ⟨rfl, HO.out, rfl⟩
      case round =>
        obtain ⟨rfl, hown, rfl⟩ := hrel
        have HO := Lib.hid hown
        clear hown
        go_wp2_with fail
        have hwt : IntKind.i64.wrap ((t : Int) - 1) = (t : Int) - 1 := IntWalk.i64_in _ (by omega)
        go_loopw [12, 17] (fun vo vi wr => ∃ i : Nat, f ≤ i ∧ i ≤ t ∧ vi = .int .i64 ((i : Int) - 1) ∧ Owns .u8 5 wr w.heap.size vo (seg xs 0 f ++ rseg xs i t) ∧ Below w.heap.size w wr) (fun _ vi _ => (intOf vi + 1).toNat)
        case atStart => exact ⟨t, hft, Nat.le_refl _, rfl, by rw [rseg_nil, List.append_nil]; exact HO.out, HB.out⟩
        case round =>
          obtain ⟨i, hi1, hi2, rfl, hown, hBr⟩ := hrel
          have hsz := hBr.size
          by_cases hlt : f < i
          · obtain ⟨j, rfl⟩ : ∃ j, i = j + 1 := ⟨i - 1, by omega⟩
            rw [show ((j + 1 : Nat) : Int) - 1 = (j : Int) by omega]
            have hin : j < n := by omega
            obtain ⟨b, o, rfl, hc⟩ := HA.out.resolve_left (fun h => by omega)
            have ck := cell_keep hBr (hc j hin) (cell_lt (hc j hin))
            have hsn := rseg_snoc (xs := xs) (t := t) (i := j) (by omega) (by rw [HN.out]; exact hin)
            have hlen : (seg xs 0 f ++ rseg xs (j + 1) t).length < 17592186044415 := by simp only [List.length_append, seg_len, rseg_len]; omega
            obtain ⟨x, HX⟩ := nm (xs[j]?.getD 0)
            rw [HX.out] at ck hsn
            have HO2 := Lib.hid hown
            have HSN := Lib.hid hsn
            have j1 : (f : Int) ≤ (j : Int) := by omega
            have j2 : (j : Int) < (n : Int) := by omega
            have j3 : f ≤ j := by omega
            clear hown hsn hc
            go_wp2_with (at_builtin; refine wpl_app1 rfl (.tmp 85) (.tmp 90) 22 rfl .u8 5 1 Tryz.underlying22 info_u8 (by decide) w.heap.size _ (seg xs 0 f ++ rseg xs (j + 1) t) wr HO2.out rfl _ x rfl rfl hlen hsz ?_; intro v' w3 hown' hB')
            go_roundw
            case rel => exact ⟨j, by omega, by omega, by first | rfl | go_num, by rw [HSN.out, ← List.append_assoc]; exact hown', hBr.trans hB'⟩
            case measure => (simp [intOf]) <;> omega
          · obtain rfl : f = i := by omega
            have HO := Lib.hid hown
            have HB := Lib.hid hBr
            have j4 : ¬ (f : Int) ≤ (f : Int) - 1 := by omega
            clear hown hBr hsz
            obtain ⟨wc2, rfl⟩ : ∃ wc2 : World, wc2 = wr := ⟨_, rfl⟩
            go_wp2_with fail
            go_loopw [12, 20] (fun vo vi wr => ∃ i : Nat, t ≤ i ∧ i ≤ n ∧ vi = .int .i64 (i : Int) ∧ Owns .u8 5 wr w.heap.size vo ((seg xs 0 f ++ rseg xs f t) ++ seg xs t i) ∧ Below w.heap.size w wr) (fun _ vi _ => n - (intOf vi).toNat)
            case atStart => exact ⟨t, Nat.le_refl _, by omega, by first | rfl | go_num, by rw [seg_nil, List.append_nil]; exact HO.out, HB.out⟩
            case round =>
              obtain ⟨i, hi1, hi2, rfl, hown, hBr⟩ := hrel
              have hsz := hBr.size
              by_cases hlt : i < n
              · have hin : i < n := by omega
                obtain ⟨b, o, rfl, hc⟩ := HA.out.resolve_left (fun h => by omega)
                have ck := cell_keep hBr (hc i hin) (cell_lt (hc i hin))
                have hsn := seg_snoc (xs := xs) (a := t) (i := i) hi1 (by rw [HN.out]; exact hin)
                have hlen : ((seg xs 0 f ++ rseg xs f t) ++ seg xs t i).length < 17592186044415 := by simp only [List.length_append, seg_len, rseg_len]; omega
                obtain ⟨x, HX⟩ := nm (xs[i]?.getD 0)
                rw [HX.out] at ck hsn
                have HO2 := Lib.hid hown
                have HSN := Lib.hid hsn
                have j1 : (i : Int) < ((n : Nat) : Int) := by omega
                have j2 : (i : Int) < (n : Int) := by omega
                clear hown hsn hc
                go_wp2_with (at_builtin; refine wpl_app1 rfl (.tmp 127) (.tmp 132) 22 rfl .u8 5 1 Tryz.underlying22 info_u8 (by decide) w.heap.size _ ((seg xs 0 f ++ rseg xs f t) ++ seg xs t i) wr HO2.out rfl _ x rfl rfl hlen hsz ?_; intro v' w3 hown' hB')
                go_roundw
                case rel => exact ⟨i + 1, by omega, by omega, by go_num, by rw [HSN.out, ← List.append_assoc]; exact hown', hBr.trans hB'⟩
                case measure => simp [intOf]; omega
              · obtain rfl : n = i := by omega
                have HO := Lib.hid hown
                have HB := Lib.hid hBr
                clear hown hBr hsz
                obtain ⟨wz, rfl⟩ : ∃ wz : World, wz = wr := ⟨_, rfl⟩
                go_wp2_with fail
                go_ret2
                exact ⟨_, rfl, HO.out, HB.out⟩

set_option maxRecDepth 100000 in
set_option maxHeartbeats 8000000 in
theorem rpieces3_any (v : Value) (xs : List Nat) (f m t : Nat) (hfm : f ≤ m) (hmt : m ≤ t) (htn : t ≤ xs.length) (w : World) (hv : Reads .u8 w v xs) (hxl : xs.length < 400000) :
    Calls Tryz.prog 39 #[.int .i64 3, v, .int .i64 (f : Int), .int .i64 (m : Int), .int .i64 (t : Int)] w fun e w' => ∃ v', e = .returned (.tuple #[v', .int .i64 0]) ∧ Owns .u8 5 w' w.heap.size v' (((seg xs 0 f ++ seg xs m t) ++ seg xs f m) ++ seg xs t xs.length) ∧ Below w.heap.size w w' := by
  obtain ⟨av, cv, rfl, hlc, hcm, hcs⟩ := hv
  have hxl0 : xs.length < 400000 := hxl
  obtain ⟨n, HN⟩ := nm xs.length
  rw [HN.out] at hlc hxl hcs htn ⊢
  have HA := Lib.hid hcs
  have HO := Lib.hid (Owns.nil .u8 5 w w.heap.size)
  have HB := Lib.hid (bel_refl w)
  have q1 : ¬ (f : Int) < 0 := by omega
  have q2 : ¬ (m : Int) < (f : Int) := by omega
  have q3 : ¬ (t : Int) < (m : Int) := by omega
  have q2n : ¬ m < f := by omega
  have q3n : ¬ t < m := by omega
  have q4 : ¬ (n : Int) < (t : Int) := by omega
  have q4n : ¬ n < t := by omega
  clear hcs
  go_enter Tryz.func39, Tryz.ntmps39
  go_wp2_with fail
  go_loopw [12, 13] (fun vo vi wr => ∃ i : Nat, 0 ≤ i ∧ i ≤ f ∧ vi = .int .i64 (i : Int) ∧ Owns .u8 5 wr w.heap.size vo (seg xs 0 i) ∧ Below w.heap.size w wr) (fun _ vi _ => f - (intOf vi).toNat)
  case atStart => exact ⟨0, Nat.le_refl _, by omega, by first | rfl | go_num, by rw [seg_nil]; exact HO.out, HB.out⟩
  case round =>
    obtain ⟨i, hi1, hi2, rfl, hown, hBr⟩ := hrel
    have hsz := hBr.size
    by_cases hlt : i < f
    · have hin : i < n := by omega
      obtain ⟨b, o, rfl, hc⟩ := HA.out.resolve_left (fun h => by omega)
      have ck := cell_keep hBr (hc i hin) (cell_lt (hc i hin))
      have hsn := seg_snoc (xs := xs) (a := 0) (i := i) hi1 (by rw [HN.out]; exact hin)
      have hlen : (seg xs 0 i).length < 17592186044415 := by simp only [seg_len]; omega
      obtain ⟨x, HX⟩ := nm (xs[i]?.getD 0)
      rw [HX.out] at ck hsn
      have HO2 := Lib.hid hown
      have HSN := Lib.hid hsn
      have j1 : (i : Int) < ((f : Nat) : Int) := by omega
      have j2 : (i : Int) < (n : Int) := by omega
      clear hown hsn hc
      go_wp2_with (at_builtin; refine wpl_app1 rfl (.tmp 47) (.tmp 52) 22 rfl .u8 5 1 Tryz.underlying22 info_u8 (by decide) w.heap.size _ (seg xs 0 i) wr HO2.out rfl _ x rfl rfl hlen hsz ?_; intro v' w3 hown' hB')
      go_roundw
      case rel => exact ⟨i + 1, by omega, by omega, by go_num, by rw [HSN.out]; exact hown', hBr.trans hB'⟩
      case measure => simp [intOf]; omega
    · obtain rfl : f = i := by omega
      have HO := Lib.hid hown
      have HB := Lib.hid hBr
      clear hown hBr hsz
      obtain ⟨wa, rfl⟩ : ∃ wa : World, wa = wr := ⟨_, rfl⟩
      have HO0 := HO
      have HO := Lib.hid (World.ownsRow.alloc HO0.out (.cells #[.int .i64 0, .int .i64 2, .int .i64 0, .int .i64 0] 3))
      have HB0 := HB
      have HB := Lib.hid (HB0.out.alloc HB0.out.size (.cells #[.int .i64 0, .int .i64 2, .int .i64 0, .int .i64 0] 3))
      clear HO0 HB0
      go_wp2_with fail
      obtain ⟨wb, HWB⟩ := nm (wa.alloc (.cells #[.int .i64 0, .int .i64 2, .int .i64 0, .int .i64 0] 3))
      rw [HWB.out] at HO HB ⊢
      go_loopw [12, 15] (fun vo vq wr => vq = .int .i64 0 ∧ Owns .u8 5 wr w.heap.size vo (seg xs 0 f) ∧ wb = wr) (fun _ _ _ => 0)
      case atStart => exact ⟨rfl, HO.out, rfl⟩
      case round =>
        obtain ⟨rfl, hown, rfl⟩ := hrel
        have HO := Lib.hid hown
        clear hown
        go_wp2_with fail
        go_loopw [12, 18] (fun vo vi wr => ∃ i : Nat, m ≤ i ∧ i ≤ t ∧ vi = .int .i64 (i : Int) ∧ Owns .u8 5 wr w.heap.size vo (seg xs 0 f ++ seg xs m i) ∧ Below w.heap.size w wr) (fun _ vi _ => t - (intOf vi).toNat)
        case atStart => exact ⟨m, Nat.le_refl _, by omega, by first | rfl | go_num, by rw [seg_nil, List.append_nil]; exact HO.out, HB.out⟩
        case round =>
          obtain ⟨i, hi1, hi2, rfl, hown, hBr⟩ := hrel
          have hsz := hBr.size
          by_cases hlt : i < t
          · have hin : i < n := by omega
            obtain ⟨b, o, rfl, hc⟩ := HA.out.resolve_left (fun h => by omega)
            have ck := cell_keep hBr (hc i hin) (cell_lt (hc i hin))
            have hsn := seg_snoc (xs := xs) (a := m) (i := i) hi1 (by rw [HN.out]; exact hin)
            have hlen : (seg xs 0 f ++ seg xs m i).length < 17592186044415 := by simp only [List.length_append, seg_len]; omega
            obtain ⟨x, HX⟩ := nm (xs[i]?.getD 0)
            rw [HX.out] at ck hsn
            have HO2 := Lib.hid hown
            have HSN := Lib.hid hsn
            have j1 : (i : Int) < ((t : Nat) : Int) := by omega
            have j2 : (i : Int) < (n : Int) := by omega
            clear hown hsn hc
            go_wp2_with (at_builtin; refine wpl_app1 rfl (.tmp 100) (.tmp 105) 22 rfl .u8 5 1 Tryz.underlying22 info_u8 (by decide) w.heap.size _ (seg xs 0 f ++ seg xs m i) wr HO2.out rfl _ x rfl rfl hlen hsz ?_; intro v' w3 hown' hB')
            go_roundw
            case rel => exact ⟨i + 1, by omega, by omega, by go_num, by rw [HSN.out, ← List.append_assoc]; exact hown', hBr.trans hB'⟩
            case measure => simp [intOf]; omega
          · obtain rfl : t = i := by omega
            have HO := Lib.hid hown
            have HB := Lib.hid hBr
            clear hown hBr hsz
            obtain ⟨wc3, rfl⟩ : ∃ wc3 : World, wc3 = wr := ⟨_, rfl⟩
            go_wp2_with fail
            go_loopw [12, 19] (fun vo vi wr => ∃ i : Nat, f ≤ i ∧ i ≤ m ∧ vi = .int .i64 (i : Int) ∧ Owns .u8 5 wr w.heap.size vo ((seg xs 0 f ++ seg xs m t) ++ seg xs f i) ∧ Below w.heap.size w wr) (fun _ vi _ => m - (intOf vi).toNat)
            case atStart => exact ⟨f, Nat.le_refl _, by omega, by first | rfl | go_num, by rw [seg_nil, List.append_nil]; exact HO.out, HB.out⟩
            case round =>
              obtain ⟨i, hi1, hi2, rfl, hown, hBr⟩ := hrel
              have hsz := hBr.size
              by_cases hlt : i < m
              · have hin : i < n := by omega
                obtain ⟨b, o, rfl, hc⟩ := HA.out.resolve_left (fun h => by omega)
                have ck := cell_keep hBr (hc i hin) (cell_lt (hc i hin))
                have hsn := seg_snoc (xs := xs) (a := f) (i := i) hi1 (by rw [HN.out]; exact hin)
                have hlen : ((seg xs 0 f ++ seg xs m t) ++ seg xs f i).length < 17592186044415 := by simp only [List.length_append, seg_len]; omega
                obtain ⟨x, HX⟩ := nm (xs[i]?.getD 0)
                rw [HX.out] at ck hsn
                have HO2 := Lib.hid hown
                have HSN := Lib.hid hsn
                have j1 : (i : Int) < ((m : Nat) : Int) := by omega
                have j2 : (i : Int) < (n : Int) := by omega
                clear hown hsn hc
                go_wp2_with (at_builtin; refine wpl_app1 rfl (.tmp 113) (.tmp 118) 22 rfl .u8 5 1 Tryz.underlying22 info_u8 (by decide) w.heap.size _ ((seg xs 0 f ++ seg xs m t) ++ seg xs f i) wr HO2.out rfl _ x rfl rfl hlen hsz ?_; intro v' w3 hown' hB')
                go_roundw
                case rel => exact ⟨i + 1, by omega, by omega, by go_num, by rw [HSN.out, ← List.append_assoc]; exact hown', hBr.trans hB'⟩
                case measure => simp [intOf]; omega
              · obtain rfl : m = i := by omega
                have HO := Lib.hid hown
                have HB := Lib.hid hBr
                clear hown hBr hsz
                obtain ⟨wd3, rfl⟩ : ∃ wd3 : World, wd3 = wr := ⟨_, rfl⟩
                go_wp2_with fail
                go_loopw [12, 20] (fun vo vi wr => ∃ i : Nat, t ≤ i ∧ i ≤ n ∧ vi = .int .i64 (i : Int) ∧ Owns .u8 5 wr w.heap.size vo (((seg xs 0 f ++ seg xs m t) ++ seg xs f m) ++ seg xs t i) ∧ Below w.heap.size w wr) (fun _ vi _ => n - (intOf vi).toNat)
                case atStart => exact ⟨t, Nat.le_refl _, by omega, by first | rfl | go_num, by rw [seg_nil, List.append_nil]; exact HO.out, HB.out⟩
                case round =>
                  obtain ⟨i, hi1, hi2, rfl, hown, hBr⟩ := hrel
                  have hsz := hBr.size
                  by_cases hlt : i < n
                  · have hin : i < n := by omega
                    obtain ⟨b, o, rfl, hc⟩ := HA.out.resolve_left (fun h => by omega)
                    have ck := cell_keep hBr (hc i hin) (cell_lt (hc i hin))
                    have hsn := seg_snoc (xs := xs) (a := t) (i := i) hi1 (by rw [HN.out]; exact hin)
                    have hlen : (((seg xs 0 f ++ seg xs m t) ++ seg xs f m) ++ seg xs t i).length < 17592186044415 := by simp only [List.length_append, seg_len]; omega
                    obtain ⟨x, HX⟩ := nm (xs[i]?.getD 0)
                    rw [HX.out] at ck hsn
                    have HO2 := Lib.hid hown
                    have HSN := Lib.hid hsn
                    have j1 : (i : Int) < ((n : Nat) : Int) := by omega
                    have j2 : (i : Int) < (n : Int) := by omega
                    clear hown hsn hc
                    go_wp2_with (at_builtin; refine wpl_app1 rfl (.tmp 127) (.tmp 132) 22 rfl .u8 5 1 Tryz.underlying22 info_u8 (by decide) w.heap.size _ (((seg xs 0 f ++ seg xs m t) ++ seg xs f m) ++ seg xs t i) wr HO2.out rfl _ x rfl rfl hlen hsz ?_; intro v' w3 hown' hB')
                    go_roundw
                    case rel => exact ⟨i + 1, by omega, by omega, by go_num, by rw [HSN.out, ← List.append_assoc]; exact hown', hBr.trans hB'⟩
                    case measure => simp [intOf]; omega
                  · obtain rfl : n = i := by omega
                    have HO := Lib.hid hown
                    have HB := Lib.hid hBr
                    clear hown hBr hsz
                    obtain ⟨wz, rfl⟩ : ∃ wz : World, wz = wr := ⟨_, rfl⟩
                    go_wp2_with fail
                    go_ret2
                    exact ⟨_, rfl, HO.out, HB.out⟩
end Go.Proofs.YtmjigpnpcacefaaGreatDoor
