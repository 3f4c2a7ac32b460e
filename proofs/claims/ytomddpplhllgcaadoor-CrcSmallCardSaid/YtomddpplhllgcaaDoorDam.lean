/- The walk of crc.Damages. -/
import Derived.Test.YtomddpplhllgcaaDoorFlip
import Derived.Test.YtomddpplhllgcaaDoorFrame
namespace Go.Proofs.YtomddpplhllgcaaDoor
open Go Go.RowKit Go.Shelf

/-- What Damages answers: found, and the error's number. -/
def damOk (n : Int) (l : List Int) : Prop := ∀ k ∈ l, 0 ≤ k ∧ k < 8 * n
instance (n : Int) (l : List Int) : Decidable (damOk n l) := inferInstanceAs (Decidable (∀ k ∈ l, 0 ≤ k ∧ k < 8 * n))
def damB (n : Int) (l : List Int) : Bool := if n < 4 ∨ 16777216 < n ∨ ¬ damOk n l ∨ 4096 < l.length then false else !decide (Gf.bitvs n.toNat (l.map Int.toNat) = 0)
def damE (n : Int) (l : List Int) : Int := if n < 4 ∨ 16777216 < n ∨ ¬ damOk n l then 2 else if 4096 < l.length then 5 else 0

theorem ReadsI.getMem {xs : List Int} {i : Nat} (h : i < xs.length) : xs[i]?.getD 0 ∈ xs := by
  rw [List.getElem?_eq_getElem h]; exact List.getElem_mem h

theorem cdam_bad (n : Int) (l : List Int) (v : Value) (w : World) (hn : n < 4 ∨ 16777216 < n) :
    Calls Tryd.prog 25 #[.int .i64 n, v] w fun e w' => e = .returned (.tuple #[.bool (damB n l), .int .i64 (damE n l)]) ∧ Below w.heap.size w w' := by
  have hB : damB n l = false := by unfold damB; rw [if_pos (by omega)]
  have hE : damE n l = 2 := by unfold damE; rw [if_pos (by omega)]
  rw [hB, hE]
  clear hB hE
  by_cases h1 : n < 4
  · clear hn
    go_enter Tryd.func25, Tryd.ntmps25
    go_wp2_with fail
    go_ret2
    exact ⟨rfl, Below.refl _ _⟩
  · have h2 : 16777216 < n := by omega
    clear hn
    go_enter Tryd.func25, Tryd.ntmps25
    go_wp2_with fail
    go_ret2
    exact ⟨rfl, Below.refl _ _⟩

set_option maxRecDepth 100000 in
set_option maxHeartbeats 1000000 in
theorem cdam_any (n : Int) (h1 : 4 ≤ n) (h2 : n ≤ 16777216) (l : List Int) (hb : ∀ x ∈ l, -9223372036854775808 ≤ x ∧ x ≤ 9223372036854775807) (v : Value) (w : World) (hv : ReadsI .i64 w v l) (hT : Tab w) :
    Calls Tryd.prog 25 #[.int .i64 n, v] w fun e w' => e = .returned (.tuple #[.bool (damB n l), .int .i64 (damE n l)]) ∧ Below w.heap.size w w' := by
  have hlen := hv.len
  obtain ⟨a, cap, rfl, hlc, hcm, hcs⟩ := hv
  obtain ⟨L, HL⟩ := nm l.length
  rw [HL.out] at hlen hlc hcs ⊢
  have HC := Lib.hid hcs
  clear hcs
  go_enter Tryd.func25, Tryd.ntmps25
  go_wp2_with fail
  go_loopw [19] (fun vk wr => ∃ k : Nat, vk = .int .i64 (k : Int) ∧ k ≤ L ∧ w = wr ∧ ∀ i, i < k → 0 ≤ l[i]?.getD 0 ∧ l[i]?.getD 0 < 8 * n)
    (fun vk _ => L - (intOf vk).toNat)
  case atStart => exact ⟨0, rfl, Nat.zero_le _, rfl, fun i hi => by omega⟩
  case round =>
    obtain ⟨k, rfl, hk, rfl, hok⟩ := hrel
    by_cases hlt : k < L
    · obtain ⟨b, off, rfl, hc⟩ := HC.out.resolve_left (fun h => by omega)
      have ck := hc k hlt
      have hkl : k < l.length := by have := HL.out; omega
      have hm := ReadsI.getMem hkl
      have hbx := hb _ hm
      have HOK := Lib.hid hok
      have HM := Lib.hid hm
      clear hc hok hm
      obtain ⟨y, HY⟩ := nm (l[k]?.getD 0)
      rw [HY.out] at ck hbx
      by_cases hg : 0 ≤ y ∧ y < 8 * n
      · obtain ⟨hg1, hg2⟩ := hg
        go_wp2_with fail
        go_roundw
        case rel => exact ⟨k + 1, by go_num, by omega, (by first | rfl | trivial), fun i hi => by
          by_cases e : i = k
          · subst e; rw [HY.out]; exact ⟨hg1, hg2⟩
          · exact HOK.out i (by omega)⟩
        case measure => simp [intOf]; omega
      · have hno : ¬ damOk n l := fun h => hg (by have := h _ HM.out; rw [HY.out] at this; exact this)
        have hB : damB n l = false := by unfold damB; rw [if_pos (by exact .inr (.inr (.inl hno)))]
        have hE : damE n l = 2 := by unfold damE; rw [if_pos (by exact .inr (.inr hno))]
        have HDB := Lib.hid hB
        have HDE := Lib.hid hE
        clear hB hE hno
        by_cases hy : y < 0
        · clear hg
          go_wp2_with fail
          go_ret2
          exact ⟨by rw [HDB.out, HDE.out]; rfl, Below.refl _ _⟩
        · have hy2 : 8 * n ≤ y := by omega
          clear hg
          go_wp2_with fail
          go_ret2
          exact ⟨by rw [HDB.out, HDE.out]; rfl, Below.refl _ _⟩
    · obtain rfl : k = L := by omega
      have hdo : damOk n l := by
        intro x hx
        obtain ⟨i, hi, rfl⟩ := List.mem_iff_getElem.1 hx
        have := hok i (by have := HL.out; omega)
        rw [List.getElem?_eq_getElem hi] at this
        exact this
      clear hok
      by_cases h4 : 4096 < k
      · have hB : damB n l = false := by unfold damB; rw [if_pos (by have := HL.out; omega)]
        have hE : damE n l = 5 := by unfold damE; rw [if_neg (by simp [hdo]; omega), if_pos (by have := HL.out; omega)]
        have HDB := Lib.hid hB
        have HDE := Lib.hid hE
        clear hB hE
        have HD := Lib.hid hdo
        clear hdo
        go_wp2_with fail
        go_ret2
        exact ⟨by rw [HDB.out, HDE.out]; rfl, Below.refl _ _⟩
      · have hB : damB n l = !decide (Gf.bitvs n.toNat (l.map Int.toNat) = 0) := by unfold damB; rw [if_neg (by have := HL.out; simp [hdo]; omega)]
        have hE : damE n l = 0 := by unfold damE; rw [if_neg (by simp [hdo]; omega), if_neg (by have := HL.out; omega)]
        have HDB := Lib.hid hB
        have HDE := Lib.hid hE
        clear hB hE
        have HD := Lib.hid hdo
        clear hdo
        go_wp2_with fail
        go_loopw [8, 37] (fun vc vk wr => ∃ j : Nat, vk = .int .i64 (j : Int) ∧ j ≤ k ∧ vc = .int .u32 ((Gf.bitvs n.toNat ((l.take j).map Int.toNat) : Nat) : Int) ∧ Below w.heap.size w wr)
          (fun _ vk _ => k - (intOf vk).toNat)
        case atStart => exact ⟨0, rfl, Nat.zero_le _, rfl, Below.refl _ _⟩
        case round =>
          obtain ⟨j, rfl, hj, rfl, hB⟩ := hrel
          by_cases hlt : j < k
          · obtain ⟨b, off, rfl, hc⟩ := HC.out.resolve_left (fun h => by omega)
            have ck := cell_keep hB (hc j hlt) (cell_lt (hc j hlt))
            have hjl : j < l.length := by have := HL.out; omega
            have hm := ReadsI.getMem hjl
            have hg := HD.out _ hm
            have hs : Gf.bitvs n.toNat ((l.take (j + 1)).map Int.toNat) = Gf.bitvs n.toNat ((l.take j).map Int.toNat) ^^^ Gf.stepN (8 * n.toNat - 1 - (l[j]?.getD 0).toNat) Gf.R := by
              rw [List.take_succ_eq_append_getElem hjl, List.map_append]
              unfold Gf.bitvs
              rw [List.foldl_append]
              simp [Gf.bitv, hjl]
            have hl1 := Gf.bitvs_lt n.toNat ((l.take j).map Int.toNat)
            clear hc hm
            obtain ⟨y, HY⟩ := nm (l[j]?.getD 0)
            rw [HY.out] at ck hg hs
            obtain ⟨c0, HC0⟩ := nm (Gf.bitvs n.toNat ((l.take j).map Int.toNat))
            rw [HC0.out] at hs hl1 ⊢
            have HS := Lib.hid hs
            clear hs
            obtain ⟨hg1, hg2⟩ := hg
            have hbl := Gf.stepN_lt (8 * n.toNat - 1 - y.toNat) (c := Gf.R) (by decide)
            go_wp2_with fail
            refine (bit_any n y h2 hg1 hg2 _ (hT.keep hB (Nat.le_refl _))).mono ?_
            rintro e w2 ⟨rfl, hb2⟩
            have hx := u32_xor_nat c0 (Gf.stepN (8 * n.toNat - 1 - y.toNat) Gf.R) hl1 hbl
            rw [← HS.out] at hx
            obtain ⟨bv, HBV⟩ := nm (Gf.stepN (8 * n.toNat - 1 - y.toNat) Gf.R)
            rw [HBV.out] at hx ⊢
            go_wp2_with fail
            go_roundw
            case rel => exact ⟨j + 1, by go_num, by omega, by rw [← List.map_take], hB.trans (hb2.mono hB.size)⟩
            case measure => simp [intOf]; omega
          · obtain rfl : j = k := by omega
            rw [show l.take j = l by rw [List.take_of_length_le]; have := HL.out; omega]
            obtain ⟨c0, HC0⟩ := nm (Gf.bitvs n.toNat (l.map Int.toNat))
            rw [HC0.out]
            go_wp2_with fail
            go_ret2
            refine ⟨?_, hB⟩
            rw [HDB.out, HDE.out, HC0.out]
            by_cases h0 : c0 = 0
            · subst h0; rfl
            · have e1 : ((c0 : Int) != 0) = true := by simp; omega
              simp [e1, h0]
end Go.Proofs.YtomddpplhllgcaaDoor
