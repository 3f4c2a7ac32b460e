/- The walk of damage.Of. -/
import Derived.Test.YtmjigpnpcacefaaDoorSorted
import Derived.Test.YtmjigpnpcacefaaDoorDmgK
namespace Go.Proofs.YtmjigpnpcacefaaDoor
open Go Go.RowKit Go.Shelf

def orBits (s : List Int) (b : Int) : Nat → Nat
  | 0 => 0
  | k + 1 => orBits s b k ||| 2 ^ (s[k]?.getD 0 - b).toNat
def ofS (s : List Int) : Int :=
  if s.length = 0 ∨ s[0]?.getD 0 < 0 then 2 else if (Lib.compact s).length < s.length then 131 else if 32 ≤ s[s.length - 1]?.getD 0 - s[0]?.getD 0 then 3 else 0
def ofE (l : List Int) : Int := ofS (srt l)
def ofA (l : List Int) : Int := if ofE l = 0 then (srt l)[0]?.getD 0 else 0
def ofB (l : List Int) : Nat := if ofE l = 0 then orBits (srt l) ((srt l)[0]?.getD 0) (srt l).length else 0

theorem orBits_lt (s : List Int) (b : Int) : ∀ k, (∀ i, i < k → s[i]?.getD 0 - b < 32) → orBits s b k < 4294967296
  | 0, _ => by simp [orBits]
  | k + 1, h => by
    have h1 := orBits_lt s b k (fun i hi => h i (by omega))
    have h2 : (2 : Nat) ^ (s[k]?.getD 0 - b).toNat < 2 ^ 32 := Nat.pow_lt_pow_right (by omega) (by have := h k (by omega); omega)
    exact Nat.or_lt_two_pow (n := 32) h1 h2
theorem pw_get {s : List Int} (h : s.Pairwise (· ≤ ·)) {i j : Nat} (hij : i ≤ j) (hj : j < s.length) : s[i]?.getD 0 ≤ s[j]?.getD 0 := by
  rcases Nat.lt_or_ge i j with hlt | hge
  · have := List.pairwise_iff_getElem.1 h i j (by omega) hj hlt
    rw [List.getElem?_eq_getElem (show i < s.length by omega), List.getElem?_eq_getElem hj]
    exact this
  · obtain rfl : i = j := by omega
    exact Int.le_refl _
theorem get_mem {s : List Int} {i : Nat} (h : i < s.length) : s[i]?.getD 0 ∈ s := by
  rw [List.getElem?_eq_getElem h]
  exact List.getElem_mem h
theorem shl_u32 {m : Nat} (h : m < 32) : IntKind.u32.wrap ((2 : Int) ^ m) = ((2 ^ m : Nat) : Int) := by
  have h2 : (2 : Nat) ^ m < 4294967296 := Nat.pow_lt_pow_right (n := 32) (by omega) h
  have e : ((2 : Int) ^ m) = ((2 ^ m : Nat) : Int) := by simp
  obtain ⟨p, HP⟩ := nm (2 ^ m)
  rw [HP.out] at h2 e
  rw [e, HP.out, IntKind.wrap_u32]
  omega

theorem cell_two_box {W : World} {B : Nat} {a b : Value} {t : TypeId} (h : W.heap[B]? = some (.cells #[a, b] t (0, 0))) : W.cell? ⟨B, 0, none⟩ = some a ∧ W.cell? ⟨B, 1, none⟩ = some b ∧ W.frozen? ⟨B, 0, none⟩ = false ∧ W.frozen? ⟨B, 1, none⟩ = false := by
  refine ⟨?_, ?_, ?_, ?_⟩ <;> simp [World.cell?, World.frozen?, h]
theorem cell_two (w : World) (a b : Value) (t : TypeId) : (w.alloc (.cells #[a, b] t)).cell? ⟨w.heap.size, 0, none⟩ = some a ∧ (w.alloc (.cells #[a, b] t)).cell? ⟨w.heap.size, 1, none⟩ = some b ∧ (w.alloc (.cells #[a, b] t)).frozen? ⟨w.heap.size, 0, none⟩ = false ∧ (w.alloc (.cells #[a, b] t)).frozen? ⟨w.heap.size, 1, none⟩ = false :=
  cell_two_box (World.alloc_heap_new w _)

set_option maxRecDepth 100000 in
set_option maxHeartbeats 4000000 in
theorem of13_any (vl : Value) (l : List Int) (w : World) (hl : ReadsI .i64 w vl l) (hll : l.length < 1000000000) (hlb : ∀ k ∈ l, -9223372036854775808 ≤ k ∧ k ≤ 9223372036854775807) :
    Calls Tryd.prog 20 #[vl] w fun e w' => e = .returned (.tuple #[.agg #[.int .i64 (ofA l), .int .u32 (ofB l : Nat)], .int .i64 (ofE l)]) ∧ Below w.heap.size w w' := by
  have hl0 := hl
  obtain ⟨al, cl, rfl, hlc, hcm, hcs⟩ := hl
  clear hcs
  have hsl := srt_length l
  have hpw := srt_sorted l
  have hmem : ∀ i, i < l.length → -9223372036854775808 ≤ (srt l)[i]?.getD 0 ∧ (srt l)[i]?.getD 0 ≤ 9223372036854775807 := fun i hi => hlb _ ((srt_perm l).mem_iff.1 (get_mem (by rw [hsl]; exact hi)))
  have hsv := fun B (w1 : World) (hB : Below w.heap.size w w1) h => sorted_values B al cl l hll w w1 hl0 hB h
  have HSV := Lib.hid hsv
  have hE : ofE l = ofS (srt l) := rfl
  have hA : ofA l = if ofE l = 0 then (srt l)[0]?.getD 0 else 0 := rfl
  have hBq : ofB l = if ofE l = 0 then orBits (srt l) ((srt l)[0]?.getD 0) (srt l).length else 0 := rfl
  obtain ⟨s, HS⟩ := nm (srt l)
  simp only [HS.out] at hsl hpw hmem hE hA hBq HSV
  obtain ⟨n, HN⟩ := nm l.length
  rw [HN.out] at hlc hll hsl
  simp only [HN.out] at hmem HSV
  rw [HN.out]
  have HE := Lib.hid hE
  have HA := Lib.hid hA
  have HB := Lib.hid hBq
  have HM := Lib.hid hmem
  have HP := Lib.hid hpw
  have HL := Lib.hid hsl
  clear hE hA hBq hmem hpw hsl hlb hl0 hsv
  go_enter Tryd.func20, Tryd.ntmps20
  go_wp2_with fail
  refine (values_any al n cl _).mono ?_
  rintro e w1 ⟨rfl, rfl⟩
  go_wp2_with fail
  have hb1 := cell_new_l (w.alloc (.cells #[.int .i64 0, .int .u32 0] 24)) (.slice al n cl) 25
  rw [World.size_alloc] at hb1
  have hB1 : Below w.heap.size w ((w.alloc (.cells #[.int .i64 0, .int .u32 0] 24)).alloc (.cells #[.slice al n cl] 25)) := ((Below.refl _ w).alloc (Nat.le_refl _) _).alloc (by simp) _
  refine (HSV.out _ _ hB1 hb1.1).mono ?_
  rintro e w2 ⟨v, rfl, ho, hb2⟩
  rw [World.size_alloc, World.size_alloc] at ho hb2
  obtain ⟨ao, m, c, rfl, hm, hmc, hcmax, hblk⟩ := ho.slice
  rw [HL.out] at hm
  obtain rfl : n = m := hm.symm
  have hB2 : Below w.heap.size w w2 := hB1.trans (hb2.mono (by omega))
  have hrd := ho.reads
  obtain ⟨a', c', e', h1, h2, hcs⟩ := hrd
  rw [HL.out] at e' hcs
  cases e'
  have HO := Lib.hid ho
  obtain ⟨x1, x2, x3, x4⟩ : w2.cell? ⟨w.heap.size, 0, none⟩ = some (.int .i64 0) ∧ w2.cell? ⟨w.heap.size, 1, none⟩ = some (.int .u32 0) ∧ w2.frozen? ⟨w.heap.size, 0, none⟩ = false ∧ w2.frozen? ⟨w.heap.size, 1, none⟩ = false := by
    obtain ⟨k1, k2, k3, k4⟩ := cell_two w (.int .i64 0) (.int .u32 0) 24
    exact ⟨(hb2.cell (p := ⟨w.heap.size, 0, none⟩) (by show w.heap.size < _; omega)).trans (cell_alloc_l _ k1), (hb2.cell (p := ⟨w.heap.size, 1, none⟩) (by show w.heap.size < _; omega)).trans (cell_alloc_l _ k2), (hb2.frozen (p := ⟨w.heap.size, 0, none⟩) (by show w.heap.size < _; omega)).trans (frozen_alloc_l _ k1 k3), (hb2.frozen (p := ⟨w.heap.size, 1, none⟩) (by show w.heap.size < _; omega)).trans (frozen_alloc_l _ k2 k4)⟩
  have hsz2 := hb2.size
  clear ho hb2 hb1 hB1 h1 h2
  by_cases h0 : n = 0
  · have hE0 : ofE l = 2 := by rw [HE.out]; unfold ofS; rw [if_pos (.inl (by rw [HL.out]; exact h0))]
    have hz : ((n : Int) == 0) = true := by simp [h0]
    clear h0 hcs
    go_wp2_with fail
    refine bodyPost_ret (v := .tuple #[.agg #[.int .i64 0, .int .u32 0], .int .i64 2]) (by simp [results, Tryd.results20, go_sem, x1, x2]) rfl ⟨?_, ?_⟩
    · rw [HA.out, HB.out, hE0]; rfl
    · exact (hB2.setCell (p := ⟨w.heap.size, 0, none⟩) (Nat.le_refl _) _).setCell (p := ⟨w.heap.size, 1, none⟩) (Nat.le_refl _) _
  obtain ⟨b, off, rfl, hcell⟩ := hcs.resolve_left (fun h => by omega)
  have hbg : w.heap.size + 1 + 1 ≤ b := (hblk b rfl).1
  have hz : ((n : Int) == 0) = false := beq_false_of_ne (by omega)
  have c0 := hcell 0 (by omega)
  have cL := hcell (n - 1) (by omega)
  have hm0 := HM.out 0 (by omega)
  have hmL := HM.out (n - 1) (by omega)
  have HCELL := Lib.hid hcell
  rw [Nat.add_zero] at c0
  obtain ⟨F, HF⟩ := nm (s[0]?.getD 0)
  obtain ⟨L, HLL⟩ := nm (s[n - 1]?.getD 0)
  rw [HF.out] at c0 hm0
  rw [HLL.out] at cL hmL
  clear hcell hblk
  have hn0 : 0 < n := by omega
  by_cases hF : F < 0
  · have hE0 : ofE l = 2 := by rw [HE.out]; unfold ofS; rw [if_pos (.inr (by rw [HF.out]; exact hF))]
    have hd : decide (F < 0) = true := decide_eq_true hF
    clear h0 cL
    go_wp2_with fail
    refine bodyPost_ret (v := .tuple #[.agg #[.int .i64 0, .int .u32 0], .int .i64 2]) (by simp [results, Tryd.results20, go_sem, x1, x2]) rfl ⟨?_, ?_⟩
    · rw [HA.out, HB.out, hE0]; rfl
    · exact (hB2.setCell (p := ⟨w.heap.size, 0, none⟩) (Nat.le_refl _) _).setCell (p := ⟨w.heap.size, 1, none⟩) (Nat.le_refl _) _
  have hd : decide (F < 0) = false := decide_eq_false hF
  have hcl := clone_ints _ s w2 HO.out.reads (by rw [HL.out]; omega)
  have HCL := Lib.hid hcl
  obtain ⟨K, HK⟩ := nm (Lib.compact s).length
  have hco := fun base v W ho hbw => compact_own (base := base) (v := v) s (by rw [HL.out]; omega) W ho (by rw [HL.out]; omega) hbw
  simp only [HK.out] at hco
  have HCO := Lib.hid hco
  have hE1 : ofE l = if K < n then 131 else if 32 ≤ L - F then 3 else 0 := by
    rw [HE.out]; unfold ofS; rw [if_neg (by rw [HL.out, HF.out]; omega), HK.out, HL.out, HF.out, HLL.out]
  have HE1 := Lib.hid hE1
  clear hE1 hco hcl h0
  go_wp2_with fail
  refine (HCL.out).mono ?_
  rintro e w3 ⟨vc, rfl, ho3, hb3⟩
  obtain ⟨a3, m3, k3, rfl, hm3, _⟩ := ho3.slice
  rw [HL.out] at hm3
  obtain rfl : n = m3 := hm3.symm
  have HO3 := Lib.hid ho3
  clear ho3
  go_wp2_with fail
  refine (HCO.out _ _ _ HO3.out hb3.size).mono ?_
  rintro e w4 ⟨a4, k4, rfl, hb4⟩
  have hb24 : Below w2.heap.size w2 w4 := hb3.trans hb4
  have y1 := cell_keep hb24 x1 (cell_lt x1)
  have y2 := cell_keep hb24 x2 (cell_lt x2)
  have y3 := (hb24.frozen (p := ⟨w.heap.size, 0, none⟩) (cell_lt x1)).trans x3
  have y4 := (hb24.frozen (p := ⟨w.heap.size, 1, none⟩) (cell_lt x1)).trans x4
  have d0 := cell_keep hb24 c0 (cell_lt c0)
  have dL := cell_keep hb24 cL (cell_lt cL)
  have hB4 : Below w.heap.size w w4 := hB2.trans (hb24.mono hB2.size)
  clear x1 x2 x3 x4 c0 cL hb3 hb4
  by_cases hK : K < n
  · have hE0 : ofE l = 131 := by rw [HE1.out, if_pos hK]
    clear dL
    go_wp2_with fail
    refine bodyPost_ret (v := .tuple #[.agg #[.int .i64 0, .int .u32 0], .int .i64 131]) (by simp [results, Tryd.results20, go_sem, y1, y2]) rfl ⟨?_, ?_⟩
    · rw [HA.out, HB.out, hE0]; rfl
    · exact (hB4.setCell (p := ⟨w.heap.size, 0, none⟩) (Nat.le_refl _) _).setCell (p := ⟨w.heap.size, 1, none⟩) (Nat.le_refl _) _
  have HF0 : 0 ≤ F := by omega
  have hFL : F ≤ L := by rw [← HF.out, ← HLL.out]; exact pw_get HP.out (Nat.zero_le _) (by rw [HL.out]; omega)
  have hw1 : IntKind.i64.wrap ((n : Int) - 1) = ((n - 1 : Nat) : Int) := by rw [IntWalk.i64_in _ (by omega)]; omega
  have hw2 : IntKind.i64.wrap (L - F) = L - F := IntWalk.i64_in _ (by omega)
  obtain ⟨q, HQ⟩ := nm (n - 1)
  have hqn : (q : Int) < (n : Int) := by have := HQ.out; omega
  have hq0 : (0 : Int) ≤ (q : Int) := by omega
  have hn1 : (0 : Int) < (n : Int) := by omega
  rw [HQ.out] at hw1 dL
  have HK2 := Lib.hid hK
  have HW1 := Lib.hid hw1
  have HW2 := Lib.hid hw2
  clear hw1 hw2
  go_wp2_with fail
  have hw1 := HW1.out
  have hw2 := HW2.out
  by_cases hD : 32 ≤ L - F
  · have hE0 : ofE l = 3 := by rw [HE1.out, if_neg HK2.out, if_pos hD]
    have HE0 := Lib.hid hE0
    have hdd : decide (32 ≤ L - F) = true := decide_eq_true hD
    clear hE0 HCELL
    go_quiet (fail)
    all_goals go_wp2_with fail
    refine bodyPost_ret (v := .tuple #[.agg #[.int .i64 0, .int .u32 0], .int .i64 3]) (by simp [results, Tryd.results20, go_sem, y1, y2]) rfl ⟨?_, ?_⟩
    · rw [HA.out, HB.out, HE0.out]; rfl
    · exact ((below_drewN hB4 _).setCell (p := ⟨w.heap.size, 0, none⟩) (Nat.le_refl _) _).setCell (p := ⟨w.heap.size, 1, none⟩) (Nat.le_refl _) _
  have hE0 : ofE l = 0 := by rw [HE1.out, if_neg HK2.out, if_neg hD]
  have HE0 := Lib.hid hE0
  have hdd : decide (32 ≤ L - F) = false := decide_eq_false hD
  clear hE0
  go_quiet (fail)
  have hB45 : Below w2.heap.size w2 (w4.drewN nq) := below_drewN hb24 _
  have hBw5 : Below w.heap.size w (w4.drewN nq) := below_drewN hB4 _
  have y1' : (w4.drewN nq).cell? ⟨w.heap.size, 0, none⟩ = some (.int .i64 0) := by simpa using y1
  have y2' : (w4.drewN nq).cell? ⟨w.heap.size, 1, none⟩ = some (.int .u32 0) := by simpa using y2
  have y3' : (w4.drewN nq).frozen? ⟨w.heap.size, 0, none⟩ = false := by simpa using y3
  have y4' : (w4.drewN nq).frozen? ⟨w.heap.size, 1, none⟩ = false := by simpa using y4
  have d0' : (w4.drewN nq).cell? ⟨b, off, none⟩ = some (.int .i64 F) := by simpa using d0
  clear hdd hw1 hw2 y1 y2 y3 y4 d0 dL hb24 hB4 hcs
  obtain ⟨w5, HW5⟩ := nm (w4.drewN nq)
  rw [HW5.out] at hB45 hBw5 y1' y2' y3' y4' d0' ⊢
  obtain ⟨n1, n2, n3, n4⟩ := cell_two w5 (.int .i64 0) (.int .u32 0) 24
  go_wp2_with fail
  clear n1 n2 n3 n4
  have hst := cell_two w5 (.int .i64 F) (.int .u32 0) 24
  have HST := Lib.hid hst
  clear hst
  go_loopw [50] (fun vi wr => ∃ k : Nat, k ≤ n ∧ vi = .int .i64 (k : Int) ∧ wr.cell? ⟨w5.heap.size, 0, none⟩ = some (.int .i64 F) ∧ wr.cell? ⟨w5.heap.size, 1, none⟩ = some (.int .u32 (orBits s F k : Nat)) ∧ wr.frozen? ⟨w5.heap.size, 0, none⟩ = false ∧ wr.frozen? ⟨w5.heap.size, 1, none⟩ = false ∧ Below w5.heap.size w5 wr) (fun vi _ => n - (intOf vi).toNat)
  case atStart => exact ⟨0, Nat.zero_le _, rfl, HST.out.1, HST.out.2.1, HST.out.2.2.1, HST.out.2.2.2, (Below.refl _ w5).alloc (Nat.le_refl _) _⟩
  case round =>
    obtain ⟨k, hk, rfl, g1, g2, g3, g4, hBr⟩ := hrel
    have hBw : Below w.heap.size w wr := hBw5.trans (hBr.mono hBw5.size)
    by_cases hlt : k < n
    · have hb2r : Below w2.heap.size w2 wr := hB45.trans (hBr.mono hB45.size)
      have ck := cell_keep hb2r (HCELL.out k hlt) (cell_lt (HCELL.out k hlt))
      have e0 := cell_keep hBr d0' (cell_lt d0')
      have hlo : F ≤ s[k]?.getD 0 := by rw [← HF.out]; exact pw_get HP.out (Nat.zero_le _) (by rw [HL.out]; exact hlt)
      have hhi : s[k]?.getD 0 ≤ L := by rw [← HLL.out]; exact pw_get HP.out (by omega) (by rw [HL.out]; omega)
      have hor : orBits s F (k + 1) = orBits s F k ||| 2 ^ (s[k]?.getD 0 - F).toNat := rfl
      have hO : orBits s F k < 4294967296 := orBits_lt s F k (fun i hi => by
        have : s[i]?.getD 0 ≤ L := by rw [← HLL.out]; exact pw_get HP.out (by omega) (by rw [HL.out]; omega)
        omega)
      obtain ⟨E, HEE⟩ := nm (s[k]?.getD 0)
      rw [HEE.out] at ck hlo hhi hor
      obtain ⟨o, HO1⟩ := nm (orBits s F k)
      rw [HO1.out] at g2 hor hO
      obtain ⟨d, HD⟩ := nm (E - F).toNat
      have hdE : E - F = (d : Int) := by have := HD.out; omega
      rw [HD.out] at hor
      have hd32 : d < 32 := by omega
      have hsub : IntKind.i64.wrap (E - F) = (d : Int) := by rw [IntWalk.i64_in _ (by omega)]; exact hdE
      have hsh := shl_u32 hd32
      have hpl : (2 : Nat) ^ d < 4294967296 := Nat.pow_lt_pow_right (n := 32) (by omega) hd32
      obtain ⟨p, HPP⟩ := nm ((2 : Nat) ^ d)
      rw [HPP.out] at hsh hpl hor
      have hbo := u32_or_nat o p hO hpl
      rw [← hor] at hbo
      have HOR := Lib.hid hor
      clear hor hdE hlo hhi hO hpl d0' HST
      go_wp2_with fail
      go_region
      all_goals
        go_wp2
        go_roundw
        case rel =>
          refine ⟨k + 1, by omega, by go_num, ?_, ?_, ?_, ?_, ?_⟩
          · simpa using (World.cell?_setCell_other wr ⟨w5.heap.size, 1, none⟩ ⟨w5.heap.size, 0, none⟩ _ (by simp)).trans g1
          · simpa using World.cell?_setCell_same' wr ⟨w5.heap.size, 1, none⟩ _ (by rw [g2]; rfl)
          · simpa using g3
          · simpa using g4
          · exact (hBr.setCell (p := ⟨w5.heap.size, 1, none⟩) (Nat.le_refl _) _).drew
        case measure => simp [intOf]; omega
    · obtain rfl : k = n := by omega
      have y1 := cell_keep hBr y1' (cell_lt y1')
      have y2 := cell_keep hBr y2' (cell_lt y2')
      have y3 := (hBr.frozen (p := ⟨w.heap.size, 0, none⟩) (cell_lt y1')).trans y3'
      have y4 := (hBr.frozen (p := ⟨w.heap.size, 1, none⟩) (cell_lt y1')).trans y4'
      clear y1' y2' y3' y4' HST d0'
      go_wp2_with fail
      refine bodyPost_ret (v := .tuple #[.agg #[.int .i64 F, .int .u32 (orBits s F k : Nat)], .int .i64 0]) (by simp [results, Tryd.results20, go_sem, y1, y2]) rfl ⟨?_, ?_⟩
      · rw [HA.out, HB.out, HE0.out, HF.out, HL.out]; rfl
      · exact (hBw.setCell (p := ⟨w.heap.size, 0, none⟩) (Nat.le_refl _) _).setCell (p := ⟨w.heap.size, 1, none⟩) (Nat.le_refl _) _
end Go.Proofs.YtmjigpnpcacefaaDoor
