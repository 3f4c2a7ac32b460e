/- The reference of checksums: the walk of bits. -/
import Derived.Test.YtomddpplhllgcaaDoorRefB
namespace Go.Proofs.YtomddpplhllgcaaDoor
open Go Go.RowKit Go.Shelf

/-- The bits from c on. -/
def part (X N c : Nat) : List Nat := (List.range N).map fun i => if c ≤ i then (X.testBit i).toNat else 0
theorem part_length (X N c : Nat) : (part X N c).length = N := by simp [part]
theorem part_all (X N : Nat) : part X N N = List.replicate N 0 := by
  apply List.ext_getElem
  · simp [part]
  · intro i h1 h2
    rw [part_length] at h1
    simp [part]
    omega
theorem part_set (X N c : Nat) (h : c < N) : (part X N (c + 1)).set c (X.testBit c).toNat = part X N c := by
  apply List.ext_getElem
  · simp [part]
  · intro i h1 h2
    rw [part_length] at h2
    rw [List.getElem_set]
    simp only [part, List.getElem_map, List.getElem_range]
    by_cases e : c = i
    · subst e; simp
    · by_cases h3 : c ≤ i
      · simp [e, h3, show c + 1 ≤ i by omega]
      · simp [e, h3, show ¬ c + 1 ≤ i by omega]
theorem part_low (X N c : Nat) (h : ∀ i, i < c → X.testBit i = false) : part X N c = bitsN X N := by
  apply List.ext_getElem
  · simp [part, bitsN]
  · intro i h1 h2
    simp only [part, bitsN, List.getElem_map, List.getElem_range]
    by_cases h3 : c ≤ i
    · simp [h3]
    · simp [h3, h i (by omega)]

/-- The polynomial of bytes, times x^32. -/
@[irreducible] def bp32 (xs : List Nat) : Nat := Gf.bpoly xs <<< 32
theorem bp32_bit (xs : List Nat) (i : Nat) : (bp32 xs).testBit i = (decide (32 ≤ i) && (Gf.bpoly xs).testBit (i - 32)) := by
  unfold bp32; rw [Nat.testBit_shiftLeft]
theorem bp32_len (xs : List Nat) : Gf.plen (bp32 xs) ≤ 8 * xs.length + 32 := by
  unfold bp32
  have := Gf.plen_shl_le (Gf.bpoly xs) 32
  have := Gf.plen_le.2 (Gf.bpoly_lt xs)
  omega
theorem byte_bit (x j : Nat) : ((x : Int) / 2 ^ j).tmod 2 = ((x.testBit j).toNat : Int) := by
  have e : ((x : Int) / 2 ^ j) = ((x / 2 ^ j : Nat) : Int) := by simp
  rw [e, Int.tmod_eq_emod_of_nonneg (Int.natCast_nonneg _), Nat.testBit_eq_decide_div_mod_eq]
  rcases Nat.mod_two_eq_zero_or_one (x / 2 ^ j) with h | h
  · rw [h]; simp; omega
  · rw [h]; simp; omega

set_option maxRecDepth 100000 in
set_option maxHeartbeats 2000000 in
theorem rbits_any (xs : List Nat) (v : Value) (w : World) (hv : Reads .u8 w v xs) (hx : Bytes xs) (hlen : xs.length < 1099511627776) :
    Calls Tryd.prog 62 #[v] w fun e w' => ∃ v', e = .returned v' ∧ Reads .i64 w' v' (coeffs (bp32 xs)) ∧ Below w.heap.size w w' := by
  obtain ⟨a, cap, rfl, hlc, hcm, hcs⟩ := hv
  have hXb : ∀ k, k < 8 * xs.length → (bp32 xs).testBit (31 + 8 * xs.length - k) = (xs[k / 8]?.getD 0).testBit (k % 8) := by
    intro k hk
    rw [bp32_bit, show 31 + 8 * xs.length - k - 32 = 8 * xs.length - 1 - k by omega, Gf.bpoly_bit xs k hk, List.getD_eq_getElem?_getD]
    simp; omega
  have hX0 : ∀ i, i < 32 → (bp32 xs).testBit i = false := by
    intro i hi; rw [bp32_bit]; simp; omega
  have hXl := bp32_len xs
  obtain ⟨X, HX⟩ := nm (bp32 xs)
  rw [HX.out] at hXl hXb hX0 ⊢
  have HXB := Lib.hid hXb
  have HX0 := Lib.hid hX0
  clear hXb hX0
  obtain ⟨L, HL⟩ := nm xs.length
  rw [HL.out] at hlc hcs hXl hlen ⊢
  go_enter Tryd.func62, Tryd.ntmps62
  go_wp2_with (refine wpl_make rfl (.tmp 10) (.tmp 10) 91 rfl .i64 3 8 Tryd.underlying91 info_int (by decide) w.heap.size w (8 * L + 32) _ _ rfl rfl ?_ ?_ ?_ (Nat.le_refl _) ?_; (simp); (simp); (omega); intro v1 w1 hown hB1)
  rw [← part_all X] at hown
  obtain ⟨g, c1, rfl, hg1, hg2, hc1, hc2⟩ := (hown.form.resolve_left (fun h => by have := congrArg List.length h.2; rw [part_length] at this; simp at this))
  rw [part_length] at hc1 hown ⊢
  go_loopw [5] (fun vk wr => ∃ k : Nat, k ≤ 8 * L ∧ vk = .int .i64 (k : Int) ∧ Owns .i64 3 wr w.heap.size (.slice (some ⟨g, 0, none⟩) (8 * L + 32) c1) (part X (8 * L + 32) (8 * L + 32 - k)) ∧ Below w.heap.size w wr)
    (fun vk _ => 8 * L - (intOf vk).toNat)
  case atStart => exact ⟨0, Nat.zero_le _, rfl, hown, hB1⟩
  case round =>
    obtain ⟨k, hk, rfl, hownr, hBr⟩ := hrel
    by_cases hlt : k < 8 * L
    · obtain ⟨bb, off, rfl, hcell⟩ := hcs.resolve_left (fun h => by omega)
      have hcb := cell_keep hBr (hcell (k / 8) (by omega)) (cell_lt (hcell (k / 8) (by omega)))
      have hbit := byte_bit (xs[k / 8]?.getD 0) (k % 8)
      have hxv := hx.get (k / 8)
      rw [← HXB.out k (by rw [HL.out]; omega), HL.out] at hbit
      obtain ⟨x, Hx⟩ := nm (xs[k / 8]?.getD 0)
      rw [Hx.out] at hcb hbit hxv
      have ht := toNat_le (X.testBit (31 + 8 * L - k))
      have hset := fun c hc => hownr.set (by rw [part_length]) (31 + 8 * L - k) (X.testBit (31 + 8 * L - k)).toNat c hc (by rw [part_length]; omega)
      have hps := part_set X (8 * L + 32) (31 + 8 * L - k) (by omega)
      rw [show 8 * L + 32 - k = 31 + 8 * L - k + 1 by omega] at hset
      rw [hps] at hset
      obtain ⟨y, Hy⟩ := nm (X.testBit (31 + 8 * L - k)).toNat
      rw [Hy.out] at hbit ht hset
      have hcg := hownr.cellAt (by rw [part_length]) (31 + 8 * L - k) (by omega)
      have hfg := hownr.frozenAt (by rw [part_length]) (31 + 8 * L - k)
      have HS := Lib.hid hset
      clear hps hset hcell hcs
      go_wp2_with fail
      go_roundw
      case rel =>
        refine ⟨k + 1, by omega, by go_num, ?_, hBr.setCell (by exact hg1) _⟩
        rw [show 8 * L + 32 - (k + 1) = 31 + 8 * L - k by omega]
        exact HS.out _ rfl
      case measure => simp [intOf]; omega
    · obtain rfl : k = 8 * L := by omega
      rw [show 8 * L + 32 - 8 * L = 32 by omega, part_low X _ 32 HX0.out] at hownr
      have hcell2 := fun i hi => hownr.cellAt (by rw [bitsN_length]) i hi
      have HC := Lib.hid hcell2
      clear hcell2 hcs hown
      have HO := Lib.hid hownr
      clear hownr
      go_wp2_with fail
      go_loop [4] (fun vs => ∃ m : Nat, Gf.plen X ≤ m ∧ m ≤ 8 * L + 32 ∧ vs = .slice (some ⟨g, 0, none⟩) m c1) (fun vs => lenOf vs)
      case atStart => exact ⟨8 * L + 32, hXl, Nat.le_refl _, rfl⟩
      case round =>
        obtain ⟨m, hm1, hm2, rfl⟩ := hrel
        have hfin : Gf.plen X = m → Reads .i64 wr (.slice (some ⟨g, 0, none⟩) m c1) (coeffs X) := by
          intro e
          refine ⟨some ⟨g, 0, none⟩, c1, by rw [coeffs_length, e], by rw [coeffs_length]; omega, hc2, .inr ⟨g, 0, rfl, ?_⟩⟩
          intro i hi
          rw [coeffs_length] at hi
          rw [Nat.zero_add, HC.out i (by omega), bitsN_get X _ _ (by omega)]
          unfold coeffs
          rw [bitsN_get X _ _ hi]
        have HF := Lib.hid hfin
        clear hfin
        by_cases h0 : m = 0
        · have HP := Lib.hid (show Gf.plen X = m by omega)
          subst h0
          go_wp2_with fail
          go_ret
          exact ⟨_, rfl, HF.out HP.out, hBr⟩
        · have hc := HC.out (m - 1) (by omega)
          rw [bitsN_get X _ _ (by omega)] at hc
          by_cases htop : Gf.plen X = m
          · have hb1 : X.testBit (m - 1) = true := by rw [← htop]; exact Gf.plen_top (by intro e; rw [e, Gf.plen_zero] at htop; omega)
            rw [hb1] at hc
            have HT := Lib.hid htop
            have hm0 : 0 < m := by omega
            clear htop hb1 h0
            go_wp2_with fail
            go_ret
            exact ⟨_, rfl, HF.out HT.out, hBr⟩
          · have hb1 : X.testBit (m - 1) = false := Gf.bit_plen (by omega)
            rw [hb1] at hc
            have hm0 : 0 < m := by omega
            clear hb1 h0
            go_wp2_with fail
            go_round
            case rel => exact ⟨m - 1, by omega, by omega, rfl⟩
            case measure => simp [lenOf]; omega
end Go.Proofs.YtomddpplhllgcaaDoor
