/- The reference of checksums: the walks of Bit and Damages. -/
import Derived.Test.YtomddpplhllgcaaDoorDam
import Derived.Test.YtomddpplhllgcaaDoorOpen
namespace Go.Proofs.YtomddpplhllgcaaDoor
open Go Go.RowKit Go.Shelf

theorem rbit_err (n k : Int) (h : n < 1 ∨ 16777216 < n ∨ k < 0 ∨ 8 * n ≤ k) (w : World) :
    Calls Tryd.prog 46 #[.int .i64 n, .int .i64 k] w fun e w' => e = .returned (.tuple #[.int .u32 0, .int .i64 2]) ∧ w = w' := by
  by_cases h1 : n < 1
  · go_enter Tryd.func46, Tryd.ntmps46
    go_wp2_with fail
    go_ret2
    exact ⟨rfl, rfl⟩
  · by_cases h2 : 16777216 < n
    · go_enter Tryd.func46, Tryd.ntmps46
      go_wp2_with fail
      go_ret2
      exact ⟨rfl, rfl⟩
    · by_cases h3 : k < 0
      · go_enter Tryd.func46, Tryd.ntmps46
        go_wp2_with fail
        go_ret2
        exact ⟨rfl, rfl⟩
      · have h4 : 8 * n ≤ k := by omega
        clear h
        go_enter Tryd.func46, Tryd.ntmps46
        go_wp2_with fail
        go_ret2
        exact ⟨rfl, rfl⟩

theorem bytes_zeros (n : Nat) : Bytes (List.replicate n 0) := fun x hx => by rw [(List.mem_replicate.1 hx).2]; decide
theorem lin_flip (n k : Nat) (h : k / 8 < n) : Gf.lin (Gf.flip (List.replicate n 0) k) = Gf.bitv n k := by
  have h2 := Gf.run_flip 0 (List.replicate n 0) k (by simpa using h)
  rw [Gf.lin_eq _ (Gf.bytes_flip (bytes_zeros n) k), h2, Gf.run_zeros, Gf.stepN_zero, Nat.zero_xor, List.length_replicate]

set_option maxRecDepth 100000 in
set_option maxHeartbeats 1000000 in
theorem rbit_any (n k : Nat) (hn : n ≤ 16777216) (hk : k < 8 * n) (w : World) :
    Calls Tryd.prog 46 #[.int .i64 n, .int .i64 k] w fun e w' => e = .returned (.tuple #[.int .u32 (Gf.bitv n k), .int .i64 0]) ∧ Below w.heap.size w w' := by
  have hk8 : k / 8 < n := by omega
  have hlf := lin_flip n k hk8
  have hbf := Gf.bytes_flip (bytes_zeros n) k
  have hlen : (Gf.flip (List.replicate n 0) k).length = n := by rw [Gf.flip_length, List.length_replicate]
  have hset : ∀ wr : World, Owns .u8 5 wr w.heap.size (.slice (some ⟨w.heap.size, 0, none⟩) n n) (List.replicate n 0) → ∀ c : Int, c = ((2 ^ (k % 8) : Nat) : Int) → ∀ o : Nat, o = k / 8 →
      Owns .u8 5 (wr.setCell ⟨w.heap.size, o, none⟩ (.int .u8 c)) w.heap.size (.slice (some ⟨w.heap.size, 0, none⟩) n n) (Gf.flip (List.replicate n 0) k) := by
    intro wr ho c hc o hoe
    subst hoe
    have := ho.set (by simp) (k / 8) (2 ^ (k % 8)) c hc (by simpa using hk8)
    unfold Gf.flip
    rw [show (List.replicate n 0)[k / 8]?.getD 0 ^^^ 2 ^ (k % 8) = 2 ^ (k % 8) by simp [hk8]]
    exact this
  have hp : ∀ j : Nat, j < 8 → (2 : Int) ^ j % 256 = ((2 ^ j : Nat) : Int) := by decide
  have hpk := hp (k % 8) (by omega)
  have HSET := Lib.hid hset
  have HPK := Lib.hid hpk
  have HLF := Lib.hid hlf
  have HLEN := Lib.hid hlen
  obtain ⟨xs, HXS⟩ := nm (Gf.flip (List.replicate n 0) k)
  obtain ⟨r, HR⟩ := nm (Gf.bitv n k)
  rw [HXS.out] at hbf
  clear hset hp hpk hlf hlen
  have h1 : 1 ≤ (n : Int) := by omega
  have h2 : (n : Int) ≤ 16777216 := by omega
  have h3 : (0 : Int) ≤ (k : Int) := by omega
  have h4 : (k : Int) < 8 * (n : Int) := by omega
  have h5 : (k : Int) / 8 < (n : Int) := by omega
  go_enter Tryd.func46, Tryd.ntmps46
  go_wp2_with (refine wpl_makeE rfl (.tmp 23) (.tmp 23) 25 rfl .u8 5 1 Tryd.underlying25 info_u8 (by decide) w.heap.size w n _ _ rfl rfl rfl rfl ?_ (Nat.le_refl _) ?_; (omega); intro w1 hown hB1; have HOWN := Lib.hid hown; have hcg := hown.cellAt (by simp) (k / 8) hk8; have hfg := hown.frozenAt (by simp) (k / 8); clear hown)
  have ho2 := HSET.out _ HOWN.out _ HPK.out _ rfl
  rw [HXS.out] at ho2
  have hB2 : Below w.heap.size w (w1.setCell ⟨w.heap.size, k / 8, none⟩ (.int .u8 (2 ^ (k % 8) % 256))) := hB1.setCell (by exact Nat.le_refl _) _
  obtain ⟨w2, HW2⟩ := nm (w1.setCell ⟨w.heap.size, k / 8, none⟩ (.int .u8 (2 ^ (k % 8) % 256)))
  rw [HW2.out] at ho2 hB2 ⊢
  refine (rlinear_any xs _ _ (by have h := ho2.reads; exact h) hbf (by have := HLEN.out; rw [HXS.out] at this; omega)).mono ?_
  rintro e w3 ⟨rfl, hb3⟩
  have hr := HLF.out
  rw [HXS.out, HR.out] at hr
  rw [hr]
  clear hr
  go_wp2_with fail
  go_ret2
  exact ⟨by rw [HR.out]; rfl, hB2.trans (hb3.mono hB2.size)⟩

theorem rdam_bad (n : Int) (l : List Int) (v : Value) (w : World) (hn : n < 4 ∨ 16777216 < n) :
    Calls Tryd.prog 47 #[.int .i64 n, v] w fun e w' => e = .returned (.tuple #[.bool (damB n l), .int .i64 (damE n l)]) ∧ Below w.heap.size w w' := by
  have hB : damB n l = false := by unfold damB; rw [if_pos (by omega)]
  have hE : damE n l = 2 := by unfold damE; rw [if_pos (by omega)]
  rw [hB, hE]
  clear hB hE
  by_cases h1 : n < 4
  · clear hn
    go_enter Tryd.func47, Tryd.ntmps47
    go_wp2_with fail
    go_ret2
    exact ⟨rfl, Below.refl _ _⟩
  · have h2 : 16777216 < n := by omega
    clear hn
    go_enter Tryd.func47, Tryd.ntmps47
    go_wp2_with fail
    go_ret2
    exact ⟨rfl, Below.refl _ _⟩

theorem sealedB_zeros (m : Nat) : sealedB (Gf.sealB (List.replicate m 0)) = true := by
  have hb : Bytes (Gf.sealB (List.replicate m 0)) := Bytes.append (bytes_zeros m) (bytes_four _)
  have hl : (Gf.sealB (List.replicate m 0)).length = m + 4 := by simp [Gf.sealB, Gf.four]
  rw [← sealedB_eq _ hb (by omega), hl, show m + 4 - 4 = m by omega]
  have : (Gf.sealB (List.replicate m 0)).take m = List.replicate m 0 := by
    unfold Gf.sealB
    rw [List.take_append_of_le_length (by simp), List.take_of_length_le (by simp)]
  rw [this]; simp

set_option maxRecDepth 100000 in
set_option maxHeartbeats 1000000 in
theorem rdam_any (n : Nat) (h1 : 4 ≤ n) (h2 : n ≤ 16777216) (l : List Int) (hb : ∀ x ∈ l, -9223372036854775808 ≤ x ∧ x ≤ 9223372036854775807) (v : Value) (w : World) (hv : ReadsI .i64 w v l) :
    Calls Tryd.prog 47 #[.int .i64 n, v] w fun e w' => e = .returned (.tuple #[.bool (damB n l), .int .i64 (damE n l)]) ∧ Below w.heap.size w w' := by
  have hlen := hv.len
  obtain ⟨a, cap, rfl, hlc, hcm, hcs⟩ := hv
  obtain ⟨L, HL⟩ := nm l.length
  rw [HL.out] at hlen hlc hcs ⊢
  have HC := Lib.hid hcs
  clear hcs
  have hn4 : (4 : Int) ≤ (n : Int) := by omega
  have hn16 : (n : Int) ≤ 16777216 := by omega
  go_enter Tryd.func47, Tryd.ntmps47
  go_wp2_with fail
  go_loopw [6] (fun vk wr => ∃ k : Nat, vk = .int .i64 (k : Int) ∧ k ≤ L ∧ w = wr ∧ ∀ i, i < k → 0 ≤ l[i]?.getD 0 ∧ l[i]?.getD 0 < 8 * (n : Int))
    (fun vk _ => L - (intOf vk).toNat)
  case atStart => exact ⟨0, rfl, Nat.zero_le _, rfl, fun i hi => by omega⟩
  case round =>
    obtain ⟨k, rfl, hk, rfl, hok⟩ := hrel
    by_cases hlt : k < L
    · obtain ⟨b, off, rfl, hc⟩ := HC.out.resolve_left (fun h => by omega)
      have ck := hc k hlt
      have hkl : k < l.length := by have := HL.out; omega
      have hm := ReadsI.getMem hkl
      have hbx := hb _ hm
      have HOK := Lib.hid hok
      have HM := Lib.hid hm
      clear hc hok hm
      obtain ⟨y, HY⟩ := nm (l[k]?.getD 0)
      rw [HY.out] at ck hbx
      by_cases hg : 0 ≤ y ∧ y < 8 * (n : Int)
      · obtain ⟨hg1, hg2⟩ := hg
        go_wp2_with fail
        go_roundw
        case rel => exact ⟨k + 1, by go_num, by omega, (by first | rfl | trivial), fun i hi => by
          by_cases e : i = k
          · subst e; rw [HY.out]; exact ⟨hg1, hg2⟩
          · exact HOK.out i (by omega)⟩
        case measure => simp [intOf]; omega
      · have hno : ¬ damOk n l := fun h => hg (by have := h _ HM.out; rw [HY.out] at this; exact this)
        have hB : damB n l = false := by unfold damB; rw [if_pos (by exact .inr (.inr (.inl hno)))]
        have hE : damE n l = 2 := by unfold damE; rw [if_pos (by exact .inr (.inr hno))]
        have HDB := Lib.hid hB
        have HDE := Lib.hid hE
        clear hB hE hno
        by_cases hy : y < 0
        · clear hg
          go_wp2_with fail
          go_ret2
          exact ⟨by rw [HDB.out, HDE.out]; rfl, Below.refl _ _⟩
        · have hy2 : 8 * (n : Int) ≤ y := by omega
          clear hg
          go_wp2_with fail
          go_ret2
          exact ⟨by rw [HDB.out, HDE.out]; rfl, Below.refl _ _⟩
    · obtain rfl : k = L := by omega
      have hdo : damOk n l := by
        intro x hx
        obtain ⟨i, hi, rfl⟩ := List.mem_iff_getElem.1 hx
        have := hok i (by have := HL.out; omega)
        rw [List.getElem?_eq_getElem hi] at this
        exact this
      clear hok
      by_cases h4 : 4096 < k
      · have hB : damB n l = false := by unfold damB; rw [if_pos (by have := HL.out; omega)]
        have hE : damE n l = 5 := by unfold damE; rw [if_neg (by simp [hdo]; omega), if_pos (by have := HL.out; omega)]
        have HDB := Lib.hid hB
        have HDE := Lib.hid hE
        clear hB hE
        have HD := Lib.hid hdo
        clear hdo
        go_wp2_with fail
        go_ret2
        exact ⟨by rw [HDB.out, HDE.out]; rfl, Below.refl _ _⟩
      · have hB : damB n l = !decide (Gf.bitvs n (l.map Int.toNat) = 0) := by unfold damB; rw [if_neg (by have := HL.out; simp [hdo]; omega)]; rfl
        have hE : damE n l = 0 := by unfold damE; rw [if_neg (by simp [hdo]; omega), if_neg (by have := HL.out; omega)]
        have HDB := Lib.hid hB
        have HDE := Lib.hid hE
        clear hB hE
        have HD := Lib.hid hdo
        clear hdo
        obtain ⟨m, hnm⟩ : ∃ m, n = m + 4 := ⟨n - 4, by omega⟩
        have hm4 : (n : Int) - 4 = (m : Int) := by omega
        have hmb : m ≤ 16777216 := by omega
        have HN := Lib.hid hnm
        clear hnm
        have hsz := sealedB_zeros m
        have HSZ := Lib.hid hsz
        clear hsz
        go_wp2_with (refine wpl_makeE rfl (.tmp 39) (.tmp 39) 25 rfl .u8 5 1 Tryd.underlying25 info_u8 (by decide) w.heap.size w m _ _ rfl rfl ?_ ?_ ?_ (Nat.le_refl _) ?_; (omega); (omega); (omega); intro w1 hown hB1; have HOWN := Lib.hid hown; clear hown)
        refine (rseal_any _ (List.replicate m 0) _ HOWN.out.reads (bytes_zeros m) (by simp; omega)).mono ?_
        rintro e w2 ⟨vb, rfl, ho, hb2⟩
        have hB2 := hB1.trans (hb2.mono hB1.size)
        obtain ⟨ab, lb, cb, rfl, hlb, hgb⟩ := ho.slice
        have hS0 : (Gf.sealB (List.replicate m 0)).length = n := by have := HN.out; simp [Gf.sealB, Gf.four]; omega
        have hbS : Bytes (Gf.sealB (List.replicate m 0)) := Bytes.append (bytes_zeros m) (bytes_four _)
        rw [hS0] at hlb
        have HS0 := Lib.hid hS0
        have HLB := Lib.hid hlb
        clear hS0 hlb hgb
        have hs1 := hB1.size
        obtain ⟨S0, HSS⟩ := nm (Gf.sealB (List.replicate m 0))
        rw [HSS.out] at ho hbS
        go_wp2_with fail
        go_loopw [8] (fun vk wr => ∃ j : Nat, vk = .int .i64 (j : Int) ∧ j ≤ k ∧ Owns .u8 5 wr w1.heap.size (.slice ab lb cb) (Gf.flips S0 ((l.take j).map Int.toNat)) ∧ Below w.heap.size w wr)
          (fun vk _ => k - (intOf vk).toNat)
        case atStart => exact ⟨0, rfl, Nat.zero_le _, ho, hB2⟩
        case round =>
          obtain ⟨j, rfl, hj, hor, hBr⟩ := hrel
          by_cases hlt : j < k
          · obtain ⟨b, off, rfl, hc⟩ := HC.out.resolve_left (fun h => by omega)
            have ck := cell_keep hBr (hc j hlt) (cell_lt (hc j hlt))
            have hjl : j < l.length := by have := HL.out; omega
            have hg := HD.out _ (ReadsI.getMem hjl)
            have hs : Gf.flips S0 ((l.take (j + 1)).map Int.toNat) = Gf.flip (Gf.flips S0 ((l.take j).map Int.toNat)) (l[j]?.getD 0).toNat := by
              rw [List.take_succ_eq_append_getElem hjl, List.map_append]
              unfold Gf.flips
              rw [List.foldl_append]
              simp [hjl]
            have hbF := Gf.bytes_flips ((l.take j).map Int.toNat) hbS
            clear hc
            obtain ⟨y, HY⟩ := nm (l[j]?.getD 0)
            rw [HY.out] at ck hg hs
            obtain ⟨z, rfl⟩ : ∃ z : Nat, y = (z : Int) := ⟨y.toNat, by omega⟩
            have hz : z / 8 < lb := by have := HLB.out; omega
            obtain ⟨g, rfl, hg1, hg2, hm, hm2, hm3, hcell, hfr, hset⟩ := hor.at hz
            rw [Int.toNat_natCast] at hs
            obtain ⟨F, HF⟩ := nm (Gf.flips S0 ((l.take j).map Int.toNat))
            rw [HF.out] at hs hcell hset hbF hm hor
            have hx1 := hbF.get (z / 8)
            obtain ⟨x, HX⟩ := nm (F[z / 8]?.getD 0)
            rw [HX.out] at hcell hx1
            have hp : ∀ i : Nat, i < 8 → (2 : Int) ^ i % 256 = ((2 ^ i : Nat) : Int) := by decide
            have hpk := hp (z % 8) (by omega)
            have hp2 : 2 ^ (z % 8) < 256 := Gf.pow_lt8 (by omega)
            have hxx := u8_xor_nat x (2 ^ (z % 8)) hx1 hp2
            rw [← hpk] at hxx
            have hset2 : Owns .u8 5 (wr.setCell ⟨g, z / 8, none⟩ (.int .u8 ((x ^^^ 2 ^ (z % 8) : Nat) : Int))) w1.heap.size (.slice (some ⟨g, 0, none⟩) lb cb) (Gf.flip F z) := by
              have := hset ((x ^^^ 2 ^ (z % 8) : Nat) : Int) (by omega)
              rw [Int.toNat_natCast, ← HX.out] at this
              exact HX.out ▸ this
            have HSET := Lib.hid hset2
            have HS := Lib.hid hs
            have HM := Lib.hid hm
            obtain ⟨q, HQ⟩ := nm (x ^^^ 2 ^ (z % 8))
            rw [HQ.out] at hxx
            have hzl : (z : Int) / 8 < (lb : Int) := by omega
            have hz0 : (0 : Int) ≤ (z : Int) := by omega
            clear hset hset2 hs hm hor hp hpk ho hB2
            have hzt : ((z : Int) / 8).toNat = z / 8 := by omega
            have hzd : (z : Int).tdiv 8 = (z : Int) / 8 := Int.tdiv_eq_ediv_of_nonneg (by omega)
            go_wp2_with fail
            go_region
            all_goals
              go_wp2_with fail
              go_roundw
              case rel => exact ⟨j + 1, by go_num, by omega, by rw [HS.out]; have h := HSET.out; rw [HQ.out] at h; exact World.ownsRow.drew h, (hBr.setCell (by show w.heap.size ≤ g; omega) _).drew⟩
              case measure => simp [intOf]; omega
          · obtain rfl : j = k := by omega
            rw [show l.take j = l by rw [List.take_of_length_le]; have := HL.out; omega] at hor
            have hks : ∀ q ∈ l.map Int.toNat, q / 8 < S0.length := by
              intro q hq
              obtain ⟨y, hy, rfl⟩ := List.mem_map.1 hq
              have := HD.out y hy
              have h0 := HS0.out
              rw [HSS.out] at h0
              omega
            have hzs := HSZ.out
            rw [HSS.out] at hzs
            have hl4 : S0.length = n := by have := HS0.out; rw [HSS.out] at this; exact this
            have hfin := sealedB_flips S0 hbS (by omega) hzs (l.map Int.toNat) hks
            rw [hl4] at hfin
            have hbF := Gf.bytes_flips (l.map Int.toNat) hbS
            have hlF : (Gf.flips S0 (l.map Int.toNat)).length < 1099511627776 := by rw [Gf.flips_length]; omega
            obtain ⟨F, HF⟩ := nm (Gf.flips S0 (l.map Int.toNat))
            rw [HF.out] at hor hfin hbF hlF
            have HFIN := Lib.hid hfin
            clear hfin hzs hl4 hks
            go_wp2_with fail
            refine (rsealed_any _ F _ hor.reads hbF hlF).mono ?_
            rintro e w3 ⟨rfl, hb3⟩
            rw [HFIN.out]
            go_wp2_with fail
            go_ret2
            exact ⟨by rw [HDB.out, HDE.out]; rfl, hBr.trans (hb3.mono hBr.size)⟩
end Go.Proofs.YtomddpplhllgcaaDoor
