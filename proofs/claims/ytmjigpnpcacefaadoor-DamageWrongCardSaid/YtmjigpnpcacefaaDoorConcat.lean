/- The walks of slices.Grow (of nil), slices.Concat, slices.Index and slices.Contains. -/
import Derived.Test.YtmjigpnpcacefaaDoorLong
namespace Go.Proofs.YtmjigpnpcacefaaDoor
open Go Go.RowKit Go.Shelf

theorem Owns.pre {k : IntKind} {e : TypeId} {w : World} {base n m cap : Nat} {a : Option Addr} {xs : List Nat} (h : Owns k e w base (.slice a n cap) xs) (hm : m ≤ n) (h0 : a ≠ none) : Owns k e w base (.slice a m cap) (xs.take m) := by
  obtain ⟨h1, h⟩ := h
  rcases h with ⟨e1, hn⟩ | ⟨g, cap', cur, e1, hb, hg, hn, hc, hcs, ht⟩
  · cases e1; exact absurd rfl h0
  · cases e1
    have hl : (xs.take m).length = m := by simp; omega
    refine ⟨by simp [vals], .inr ⟨g, cap, cur, by rw [hl], hb, hg, by rw [hl]; omega, hc, hcs, ?_⟩⟩
    rw [hl]
    have : vals k (xs.take m) = (vals k xs).take m := by simp [vals, List.map_take]
    rw [this, ← ht, List.take_take]
    congr 1
    omega

theorem grow_nil (n : Nat) (hn : n ≤ 100000000) (w : World) :
    Calls Tryd.prog 76 #[.slice none 0 0, .int .i64 n] w fun e w' => ∃ v', e = .returned v' ∧ Owns .u8 5 w' w.heap.size v' [] ∧ Below w.heap.size w w' := by
  by_cases h0 : n = 0
  · subst h0
    go_enter Tryd.func76, Tryd.ntmps76
    go_wp2_with fail
    go_ret
    exact ⟨_, rfl, Owns.nil _ _ _ _, Below.refl _ _⟩
  · have h1 : 0 < n := by omega
    go_enter Tryd.func76, Tryd.ntmps76
    go_wp2_with (at_builtin; refine wpl_appz rfl (.tmp 20) (.tmp 21) 28 3 rfl .u8 5 1 Tryd.underlying28 Tryd.underlying3 info_u8 (by decide) w.heap.size _ [] w (Owns.nil _ _ _ _) rfl n _ rfl rfl ?_ (Nat.le_refl _) ?_; (simp; omega); intro v1 w1 ho hb; rw [List.nil_append] at ho; obtain ⟨a1, n1, c1, rfl, hn1, hg1⟩ := ho.slice; rw [List.length_replicate] at hn1; have HO := Lib.hid ho; have HN1 := Lib.hid hn1; clear ho hn1 hg1)
    go_ret
    have h := HO.out
    rcases h.form with ⟨_, e2⟩ | ⟨g, cap, e2, _⟩
    · have := congrArg List.length e2; simp at this; omega
    · cases e2
      exact ⟨_, rfl, h.pre (Nat.zero_le _) (by simp), hb⟩
/-- Rows of bytes, one after the other. -/
def cat (f : Nat → List Nat) : Nat → List Nat
  | 0 => []
  | n + 1 => cat f n ++ f n
theorem cat_mono (f : Nat → List Nat) (n : Nat) : ∀ k, k ≤ n → (cat f k).length ≤ (cat f n).length := by
  induction n with
  | zero => intro k hk; cases (show k = 0 by omega); exact Nat.le_refl _
  | succ n ih =>
    intro k hk
    by_cases e : k = n + 1
    · subst e; exact Nat.le_refl _
    · have := ih k (by omega); rw [show cat f (n + 1) = cat f n ++ f n from rfl, List.length_append]; omega
set_option maxRecDepth 100000 in
set_option maxHeartbeats 1000000 in
theorem concat_any (B off n cap : Nat) (f : Nat → List Nat) (hl : (cat f n).length ≤ 1000000) (hn : n ≤ cap) (hcap : cap ≤ 1000) (w : World)
    (hc : ∀ i, i < n → ∃ ao c, w.cell? ⟨B, off + i, none⟩ = some (.slice ao (f i).length c) ∧ Reads .u8 w (.slice ao (f i).length c) (f i)) :
    Calls Tryd.prog 63 #[.slice (some ⟨B, off, none⟩) n cap] w fun e w' => ∃ v', e = .returned v' ∧ Owns .u8 5 w' w.heap.size v' (cat f n) ∧ Below w.heap.size w w' := by
  have hm := cat_mono f n
  have HM := Lib.hid hm
  have HC := Lib.hid hc
  clear hm hc
  obtain ⟨N, HN⟩ := nm (cat f n).length
  rw [HN.out] at hl
  go_enter Tryd.func63, Tryd.ntmps63
  go_wp2_with fail
  go_loop [3, 11] (fun vs vi => ∃ k : Nat, k ≤ n ∧ vi = .int .i64 (k : Int) ∧ vs = .int .i64 (((cat f k).length : Nat) : Int)) (fun _ vi => n - (intOf vi).toNat)
  case atStart => exact ⟨0, Nat.zero_le _, rfl, rfl⟩
  case round =>
    obtain ⟨k, hk, rfl, rfl⟩ := hrel
    by_cases hlt : k < n
    · obtain ⟨ao, c, ck, _⟩ := HC.out k hlt
      have h1 := HM.out (k + 1) (by omega)
      have h2 : (cat f (k + 1)).length = (cat f k).length + (f k).length := by rw [show cat f (k + 1) = cat f k ++ f k from rfl, List.length_append]
      rw [HN.out] at h1
      obtain ⟨L, HL⟩ := nm (f k).length
      obtain ⟨C, HC1⟩ := nm (cat f k).length
      rw [HL.out] at ck h2
      rw [HC1.out] at h2 ⊢
      have H2 := Lib.hid h2
      have hs : C + L ≤ 1000000 := by omega
      clear h1 h2
      go_wp2_with fail
      go_round
      case rel => exact ⟨k + 1, by omega, by go_num, by rw [H2.out]; go_num⟩
      case measure => simp [intOf]; omega
    · obtain rfl : k = n := by omega
      rw [HN.out]
      go_wp2_with fail
      refine (grow_nil N (by omega) _).mono ?_
      rintro e w1 ⟨v1, rfl, ho1, hb1⟩
      have hs1 := hb1.size
      go_wp2_with fail
      go_loopw [6, 27] (fun vo vi wr => ∃ j : Nat, j ≤ k ∧ vi = .int .i64 (j : Int) ∧ Owns .u8 5 wr w.heap.size vo (cat f j) ∧ Below w.heap.size w wr) (fun _ vi _ => k - (intOf vi).toNat)
      case atStart => exact ⟨0, Nat.zero_le _, rfl, ho1, hb1⟩
      case round =>
        obtain ⟨j, hj, rfl, hor, hBr⟩ := hrel
        by_cases hlt2 : j < k
        · obtain ⟨ao, c, ck0, hrd⟩ := HC.out j hlt2
          have ck := cell_keep hBr ck0 (cell_lt ck0)
          have hrd2 := hrd.keep hBr (Nat.le_refl _)
          have h1 := HM.out (j + 1) (by omega)
          have h2 : (cat f (j + 1)).length = (cat f j).length + (f j).length := by rw [show cat f (j + 1) = cat f j ++ f j from rfl, List.length_append]
          rw [HN.out] at h1
          have h3 : (cat f j).length + (f j).length < 17592186044415 := by omega
          have H3 := Lib.hid h3
          obtain ⟨L, HL⟩ := nm (f j).length
          rw [HL.out] at ck hrd2
          have HR := Lib.hid hrd2
          have hsz := hBr.size
          clear h1 h2 h3 hrd hrd2 ck0
          go_wp2_with (at_builtin; refine wpl_app rfl (.tmp 31) (.tmp 32) 28 rfl .u8 5 1 Tryd.underlying28 info_u8 (by decide) w.heap.size _ (cat f j) wr hor rfl _ (f j) rfl HR.out H3.out hsz ?_; intro vo2 w2 ho2 hb2)
          go_roundw
          case rel => exact ⟨j + 1, by omega, by go_num, ho2, hBr.trans hb2⟩
          case measure => simp [intOf]; omega
        · obtain rfl : j = k := by omega
          go_wp2_with fail
          go_ret
          exact ⟨_, rfl, hor, hBr⟩

theorem index_any (v : Value) (xs : List Int) (y : Int) (w : World) (hv : ReadsI .i64 w v xs) :
    Calls Tryd.prog 58 #[v, .int .i64 y] w fun e w' => ∃ r : Int, e = .returned (.int .i64 r) ∧ decide (0 ≤ r) = decide (y ∈ xs) ∧ w = w' := by
  have hlen := hv.len
  obtain ⟨a, cap, rfl, hlc, hcm, hcs⟩ := hv
  obtain ⟨L, HL⟩ := nm xs.length
  rw [HL.out] at hlen hlc hcs ⊢
  have HC := Lib.hid hcs
  clear hcs
  go_enter Tryd.func58, Tryd.ntmps58
  go_wp2_with fail
  go_loop [8] (fun vi => ∃ k : Nat, k ≤ L ∧ vi = .int .i64 (k : Int) ∧ y ∉ xs.take k) (fun vi => L - (intOf vi).toNat)
  case atStart => exact ⟨0, Nat.zero_le _, rfl, by simp⟩
  case round =>
    obtain ⟨k, hk, rfl, hno⟩ := hrel
    have HNO := Lib.hid hno
    clear hno
    by_cases hlt : k < L
    · obtain ⟨b, off, rfl, hc⟩ := HC.out.resolve_left (fun h => by omega)
      have ck := hc k hlt
      have hkl : k < xs.length := by have := HL.out; omega
      have hts : xs.take (k + 1) = xs.take k ++ [xs[k]?.getD 0] := by
        rw [List.take_succ_eq_append_getElem hkl]; simp [hkl]
      have HTS := Lib.hid hts
      have hmem : xs[k]?.getD 0 ∈ xs := ReadsI.getMem hkl
      have HMEM := Lib.hid hmem
      clear hc hts hmem
      obtain ⟨z, HZ⟩ := nm (xs[k]?.getD 0)
      rw [HZ.out] at ck HTS HMEM
      by_cases hyz : y = z
      · subst hyz
        go_wp2_with fail
        go_ret
        exact ⟨_, rfl, by have := HMEM.out; simp [this], rfl⟩
      · have hb : (y == z) = false := by simpa using hyz
        have HYZ := Lib.hid hyz
        clear hyz
        go_wp2_with fail
        go_round
        case rel => exact ⟨k + 1, by omega, by go_num, by rw [HTS.out]; simp [HNO.out, HYZ.out]⟩
        case measure => simp [intOf]; omega
    · obtain rfl : k = L := by omega
      go_wp2_with fail
      go_ret
      exact ⟨_, rfl, by have h := HNO.out; rw [List.take_of_length_le (by have := HL.out; omega)] at h; simp [h], rfl⟩
theorem contains_any (v : Value) (xs : List Int) (y : Int) (w : World) (hv : ReadsI .i64 w v xs) :
    Calls Tryd.prog 42 #[v, .int .i64 y] w fun e w' => e = .returned (.bool (decide (y ∈ xs))) ∧ w = w' := by
  go_enter Tryd.func42, Tryd.ntmps42
  go_wp2_with fail
  refine (index_any v xs y _ hv).mono ?_
  rintro e w1 ⟨r, rfl, hr, rfl⟩
  have HR := Lib.hid hr
  clear hr
  go_wp2_with fail
  go_ret
  exact ⟨by rw [← HR.out]; rfl, rfl⟩
end Go.Proofs.YtmjigpnpcacefaaDoor
