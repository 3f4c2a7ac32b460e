/- The walk of the law CrcBursts. -/
import Derived.Test.YtomddpplhllgcaaDoorLong
import Derived.Test.YtomddpplhllgcaaDoorAwake
namespace Go.Proofs.YtomddpplhllgcaaDoor
open Go Go.RowKit Go.Shelf

theorem Owns.keepAt {k : IntKind} {e : TypeId} {w w' : World} {base n : Nat} {v : Value} {xs : List Nat} (h : Owns k e w base v xs) (hB : Below n w w') (hn : ∀ j, v.ownBlock = some j → j < n) : Owns k e w' base v xs := by
  obtain ⟨h1, h⟩ := h
  refine ⟨h1, ?_⟩
  rcases h with h | ⟨g, cap, cur, rfl, hb, hg, rest⟩
  · exact .inl h
  · exact .inr ⟨g, cap, cur, rfl, hb, (hB.block g (hn g rfl)).trans hg, rest⟩
theorem readsI_of {k : IntKind} {w : World} {v : Value} {ys : List Nat} (h : Reads k w v ys) : ReadsI k w v (ys.map fun (y : Nat) => (y : Int)) := by
  obtain ⟨a, cap, rfl, hl, hm, hc⟩ := h
  refine ⟨a, cap, by simp, by simpa using hl, hm, ?_⟩
  rcases hc with h | ⟨b, off, e, hcell⟩
  · exact .inl h
  · refine .inr ⟨b, off, e, fun i hi => ?_⟩
    have hi2 : i < ys.length := by simpa using hi
    rw [hcell i hi2]
    simp [hi2]
theorem and_bit32_beq (p k : Nat) (h : p < 4294967296) : (bits BinOp.and IntKind.u32 ((p : Int) / 2 ^ k) 1 == 1) = p.testBit k := by
  have e : ((p : Int) / 2 ^ k) = ((p / 2 ^ k : Nat) : Int) := by simp
  rw [e, show (1 : Int) = ((1 : Nat) : Int) from rfl, u32_and_nat _ _ (Nat.lt_of_le_of_lt (Nat.div_le_self _ _) h) (by decide), nat_mask1, Nat.testBit_eq_decide_div_mod_eq]
  rcases Nat.mod_two_eq_zero_or_one (p / 2 ^ k) with h | h <;> rw [h] <;> rfl
/-- What Damages says of bits that there are. -/
theorem dam_nat (n : Nat) (h1 : 4 ≤ n) (h2 : n ≤ 16777216) (ks : List Nat) (hk : ∀ k ∈ ks, k < 8 * n) (hl : ks.length ≤ 4096) :
    damB n (ks.map fun (y : Nat) => (y : Int)) = !decide (Gf.bitvs n ks = 0) ∧ damE n (ks.map fun (y : Nat) => (y : Int)) = 0 := by
  have ok : damOk n (ks.map fun (y : Nat) => (y : Int)) := by
    intro x hx
    obtain ⟨y, hy, rfl⟩ := List.mem_map.1 hx
    have := hk y hy
    omega
  have e : (ks.map fun (y : Nat) => (y : Int)).map Int.toNat = ks := by
    rw [List.map_map]; conv => rhs; rw [← List.map_id ks]
    exact List.map_congr_left fun x _ => rfl
  constructor
  · unfold damB; rw [if_neg (by simp [ok]; omega), e]; rfl
  · unfold damE; rw [if_neg (by simp [ok]; omega), if_neg (by simp; omega)]

set_option maxRecDepth 100000 in
set_option maxHeartbeats 4000000 in
theorem crcBursts_all (v : Value) (xs : List Nat) (w : World) (hv : Reads .u8 w v xs) (hx : Bytes xs) (n : Nat) (hn : n < 65536) (b : Nat) (hb : b < 65536) (p : Nat) (hp : p < 4294967296) (hT : Tab w) :
    Calls Tryd.prog 7 #[v, .int .u16 n, .int .u16 b, .int .u32 p] w fun e w' => e = .returned (.bool true) ∧ Below w.heap.size w w' := by
  have HV := Lib.hid hv
  have HT := Lib.hid hT
  clear hv hT
  go_enter Tryd.func7, Tryd.ntmps7
  go_upto_region 1 with fail
  go_cut [3] (fun v wx => ∃ P : Nat, P < 4294967296 ∧ v = .int .u32 (P : Int) ∧ w = wx)
  case first =>
    by_cases c1 : 1 ≤ p
    · go_wp2
      go_meet
      exact ⟨p, hp, rfl, rfl⟩
    · go_wp2
      go_meet
      exact ⟨1, by decide, rfl, rfl⟩
  case rest =>
    obtain ⟨P, hP, rfl, rfl⟩ := hcut
    have hm1 : n % 4093 ≤ 4092 := by omega
    have e1 : (n : Int) % 4093 = ((n % 4093 : Nat) : Int) := by omega
    obtain ⟨m, HM⟩ := nm (n % 4093)
    rw [HM.out] at hm1 e1
    have E1 := Lib.hid e1
    clear e1
    go_wp2_with fail
    rw [E1.out]
    refine (long_any _ xs m (by omega) _ HV.out hx).mono ?_
    rintro e w1 ⟨ao, co, ys, rfl, ho, hys, hyb, hb1⟩
    have HYS := Lib.hid hys
    clear hys
    have hT1 := HT.out.keep hb1 (Nat.le_refl _)
    go_wp2_with fail
    refine (seal_any _ ys _ ho.reads hyb hT1 (by rw [HYS.out]; omega)).mono ?_
    rintro e w2 ⟨vs, rfl, hs, hb2⟩
    have hB2 := hb1.trans (hb2.mono hb1.size)
    have hT2 := HT.out.keep hB2 (Nat.le_refl _)
    have hss := sealedB_seal ys hyb
    have hSb : Bytes (Gf.sealB ys) := Bytes.append hyb (bytes_four _)
    have hSl : (Gf.sealB ys).length = m + 4 := by have := HYS.out; simp [Gf.sealB, Gf.four]; omega
    obtain ⟨a5, ls, cs, rfl, hls, hgs⟩ := hs.slice
    obtain ⟨S, HS⟩ := nm (Gf.sealB ys)
    rw [HS.out] at hs hss hSb hSl hls
    have hlb1 : 4 ≤ ls := by omega
    have hlb2 : ls ≤ 4096 := by omega
    have hSl' : S.length = ls := by omega
    have HSL := Lib.hid hSl'
    have HSS := Lib.hid hss
    clear hSl hls hSl' hss hgs ho hb1 hb2 hT1
    go_wp2_with fail
    refine (sealed_any _ S _ hs.reads hSb hT2).mono ?_
    rintro e w3 ⟨rfl, hb3⟩
    rw [HSS.out]
    have hB3 := hB2.trans (hb3.mono hB2.size)
    have hs3 := hs.keep hb3 (Nat.le_refl _)
    have hS3 := hs3.reads
    have e2 : (b : Int) % (8 * (ls : Int)) = ((b % (8 * ls) : Nat) : Int) := by simp
    have hbl : b % (8 * ls) < 8 * ls := Nat.mod_lt _ (by omega)
    obtain ⟨B, HB⟩ := nm (b % (8 * ls))
    rw [HB.out] at e2 hbl
    clear hb3 hs hs3
    go_wp2_with (at_builtin; refine wpl_app rfl (.tmp 47) (.tmp 48) 25 rfl .u8 5 1 Tryd.underlying25 info_u8 (by decide) w3.heap.size _ [] _ (owns_empty .u8 5 w3 w3.heap.size (Nat.le_refl _)) rfl _ S rfl ?_ ?_ ?_ ?_; (exact hS3.keep (bel_alloc w3 _) (Nat.le_refl _)); (rw [HSL.out]; simp; omega); (simp); intro vc w4 hc hb4; have HCH := Lib.hid hc; clear hc)
    obtain ⟨ac, lc, cc, rfl, hlc, hgc⟩ := HCH.out.slice
    rw [List.nil_append] at hlc HCH
    have hlc' : lc = ls := by have := HSL.out; omega
    subst hlc'
    have hb34 := (bel_alloc w3 (.cells #[] 5)).trans hb4
    have hB4 := hB3.trans (hb34.mono hB3.size)
    have hs34 := hb34.size
    have hs03 := hB3.size
    have HGC := Lib.hid hgc
    have HE2 := Lib.hid e2
    have hOC0 : Owns .u8 5 w4 w3.heap.size (.slice ac lc cc) (Gf.flips S []) := HCH.out
    have HOC0 := Lib.hid hOC0
    clear hlc hgc e2 hOC0 hb34 hb4 hB2 hB3 hS3 hT2 HCH
    go_loopw [13, 50] (fun vb vi wr => ∃ (i : Nat) (ks : List Nat), i ≤ 32 ∧ vi = .int .i64 (i : Int) ∧ Gf.Bur lc B i ks ∧ Owns .i64 3 wr w4.heap.size vb ks ∧ Owns .u8 5 wr w3.heap.size (.slice ac lc cc) (Gf.flips S ks) ∧ Below w.heap.size w wr ∧ w4.heap.size ≤ wr.heap.size)
      (fun _ vi _ => 32 - (intOf vi).toNat)
    case atStart => exact ⟨0, [], by omega, rfl, Gf.bur_zero _ _, Owns.nil _ _ _ _, HOC0.out, hB4, Nat.le_refl _⟩
    case round =>
      obtain ⟨i, ks, hi, rfl, hbu, hob, hoc, hBr, hsr⟩ := hrel
      clear HOC0 hB4
      by_cases hlt : i < 32
      · have hab := and_bit32_beq P i hP
        cases hbit : P.testBit i
        · rw [hbit] at hab
          have HBU := Lib.hid hbu
          clear hbu hbit
          go_wp2_with fail
          go_roundw
          case rel => exact ⟨i + 1, ks, by omega, by go_num, HBU.out.skip, hob, hoc, hBr, hsr⟩
          case measure => simp [intOf]; omega
        · rw [hbit] at hab
          have HBU := Lib.hid hbu
          have hkl : ks.length ≤ 32 := by obtain ⟨_, _, _, _, _, h5⟩ := hbu; omega
          clear hbu hbit
          by_cases hk : B + i < 8 * lc
          · have hF := Gf.bytes_flips ks hSb
            obtain ⟨z, HZ⟩ := nm (B + i)
            have hze : (B : Int) + (i : Int) = (z : Int) := by have := HZ.out; omega
            have hz0 : (z : Int) < 8 * (lc : Int) := by have := HZ.out; omega
            have hz1 : (0 : Int) ≤ (z : Int) := by omega
            have hz : z / 8 < lc := by omega
            obtain ⟨g, rfl, hg1, hg2, hm, hm2, hm3, hcell, hfr, hset⟩ := hoc.at hz
            obtain ⟨F, HF⟩ := nm (Gf.flips S ks)
            rw [HF.out] at hcell hset hF hm hoc
            have hx1 := hF.get (z / 8)
            obtain ⟨x, HX⟩ := nm (F[z / 8]?.getD 0)
            rw [HX.out] at hcell hx1
            have hp : ∀ i : Nat, i < 8 → (2 : Int) ^ i % 256 = ((2 ^ i : Nat) : Int) := by decide
            have hpk := hp (z % 8) (by omega)
            have hp2 : 2 ^ (z % 8) < 256 := Gf.pow_lt8 (by omega)
            have hxx := u8_xor_nat x (2 ^ (z % 8)) hx1 hp2
            rw [← hpk] at hxx
            have hset2 : Owns .u8 5 (wr.setCell ⟨g, z / 8, none⟩ (.int .u8 ((x ^^^ 2 ^ (z % 8) : Nat) : Int))) w3.heap.size (.slice (some ⟨g, 0, none⟩) lc cc) (Gf.flip F z) := by
              have := hset ((x ^^^ 2 ^ (z % 8) : Nat) : Int) (by omega)
              rw [Int.toNat_natCast, ← HX.out] at this
              exact HX.out ▸ this
            have hgl : g < w4.heap.size := (HGC.out g rfl).2
            have hob2 := fun u => hob.other (g := g) (i := z / 8) (u := u) (fun j hj => by have := (own_base hob) j hj; omega)
            have HSET := Lib.hid hset2
            have HOB := Lib.hid hob2
            have HZE := Lib.hid hze
            have hbi : (i : Int) ≤ 31 := by omega
            clear hset hset2 hm hoc hp hpk hob2 hze hob
            obtain ⟨q, HQ⟩ := nm (x ^^^ 2 ^ (z % 8))
            rw [HQ.out] at hxx
            have hzl : (z : Int) / 8 < (lc : Int) := by omega
            have hzt : ((z : Int) / 8).toNat = z / 8 := by omega
            have hzd : (z : Int).tdiv 8 = (z : Int) / 8 := Int.tdiv_eq_ediv_of_nonneg (by omega)
            have hze := HZE.out
            go_wp2_with fail
            go_region
            clear hzt hzd hze hxx
            go_wp2_with (at_builtin; (refine wpl_app1d rfl (.tmp 78) (.tmp 80) 33 rfl .i64 3 8 Tryd.underlying33 info_int (by decide) w4.heap.size _ ks _ (HOB.out _) rfl _ z ?_ rfl ?_ ?_ ?_; (rw [World.size_setCell]; rfl); (omega); (simp; omega); intro vb2 w5 hob5 hb5))
            go_roundw
            case rel =>
              refine ⟨i + 1, ks ++ [z], by omega, by go_num, HZ.out ▸ HBU.out.take (by omega) hk, hob5, ?_, ?_, ?_⟩
              · have h1 := HSET.out
                rw [HQ.out] at h1
                rw [Gf.flips_snoc, HF.out]
                exact h1.keepAt hb5 (fun j hj => by cases hj; exact hgl)
              · exact (hBr.setCell (by show w.heap.size ≤ g; omega) _).trans (hb5.mono (by omega))
              · have := hb5.size; simp at this; omega
            case measure => simp [intOf]; omega
          · have hk2 : 8 * (lc : Int) ≤ (B : Int) + (i : Int) := by omega
            go_wp2_with fail
            go_roundw
            case rel => exact ⟨i + 1, ks, by omega, by go_num, HBU.out.skip, hob, hoc, hBr, hsr⟩
            case measure => simp [intOf]; omega
      · obtain rfl : i = 32 := by omega
        have hfin := hbu.fin
        obtain ⟨X, _, _, _, hks, hkl⟩ := hbu
        have hd := dam_nat lc (by omega) (by omega) ks hks (by omega)
        have hsf := sealedB_flips S hSb (by rw [HSL.out]; omega) HSS.out ks (fun k hk => by have := hks k hk; have := HSL.out; omega)
        rw [HSL.out] at hsf
        have hri := readsI_of hob.reads
        have hFb := Gf.bytes_flips ks hSb
        have hTr := HT.out.keep hBr (Nat.le_refl _)
        have hbnd : ∀ x ∈ ks.map (fun (y : Nat) => (y : Int)), -9223372036854775808 ≤ x ∧ x ≤ 9223372036854775807 := by
          intro x hx
          obtain ⟨y, hy, rfl⟩ := List.mem_map.1 hx
          have := hks y hy
          omega
        have HD := Lib.hid hd
        have HSF := Lib.hid hsf
        have HBD := Lib.hid hbnd
        clear hd hsf hbnd hks
        obtain ⟨ab, lb, cb, rfl, hlb, _⟩ := hob.slice
        by_cases h0 : ks = []
        · subst h0
          have e0 := hfin.2 rfl
          rw [e0] at HD HSF
          obtain rfl : lb = 0 := hlb
          clear hfin e0
          go_wp2_with fail
          refine (cdam_any lc (by omega) (by omega) _ HBD.out _ _ hri hTr).mono ?_
          rintro e w6 ⟨rfl, hb6⟩
          rw [HD.out.1, HD.out.2]
          have hB6 := hBr.trans (hb6.mono hBr.size)
          go_wp2_with fail
          refine (sealed_any _ _ _ (hoc.reads.keep hb6 (Nat.le_refl _)) hFb (hTr.keep hb6 (Nat.le_refl _))).mono ?_
          rintro e w7 ⟨rfl, hb7⟩
          rw [HSF.out]
          have hB7 := hB6.trans (hb7.mono hB6.size)
          clear hB6 hb6 hb7 hBr
          go_wp2_with fail
          refine (awake_any _ (HT.out.keep hB7 (Nat.le_refl _))).mono ?_
          rintro e w8 ⟨rfl, hb8⟩
          go_wp2_with fail
          go_ret
          exact ⟨rfl, hB7.trans (hb8.mono hB7.size)⟩
        · have e0 : (Gf.bitvs lc ks = 0) = False := by simp [hfin, h0]
          simp only [e0] at HD HSF
          have hl0 : 0 < lb := by have := List.length_pos_iff.2 h0; omega
          clear hfin e0 hlb
          go_wp2_with fail
          refine (cdam_any lc (by omega) (by omega) _ HBD.out _ _ hri hTr).mono ?_
          rintro e w6 ⟨rfl, hb6⟩
          rw [HD.out.1, HD.out.2]
          have hB6 := hBr.trans (hb6.mono hBr.size)
          go_wp2_with fail
          refine (sealed_any _ _ _ (hoc.reads.keep hb6 (Nat.le_refl _)) hFb (hTr.keep hb6 (Nat.le_refl _))).mono ?_
          rintro e w7 ⟨rfl, hb7⟩
          rw [HSF.out]
          have hB7 := hB6.trans (hb7.mono hB6.size)
          clear hB6 hb6 hb7 hBr
          go_wp2_with fail
          refine (awake_any _ (HT.out.keep hB7 (Nat.le_refl _))).mono ?_
          rintro e w8 ⟨rfl, hb8⟩
          go_wp2_with fail
          go_ret
          exact ⟨rfl, hB7.trans (hb8.mono hB7.size)⟩
end Go.Proofs.YtomddpplhllgcaaDoor
