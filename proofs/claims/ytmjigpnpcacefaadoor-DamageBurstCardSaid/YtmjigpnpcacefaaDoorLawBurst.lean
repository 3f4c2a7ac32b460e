/- The walk of the law DamageBurst. -/
import Derived.Test.YtmjigpnpcacefaaDoorDmgS
import Derived.Test.YtmjigpnpcacefaaDoorOwnV
namespace Go.Proofs.YtmjigpnpcacefaaDoor
open Go Go.RowKit Go.Shelf

@[irreducible] def zb40 : Array Value := (List.replicate 40 (Value.bool false)).toArray
theorem zb40_eq : zb40 = (valsB (tbl 40 [])).toArray := by kernel_rfl
theorem zb40_built : Tryd.prog.built 48 [] = some zb40 := by kernel_rfl
theorem zb40_zero (W : World) : (zeroValue 48).run Tryd.prog W = .ok (.agg zb40) W := by kernel_rfl
theorem zb40_size : (Tryd.prog.info? 48).map (·.size) = some zb40.size := by kernel_rfl
theorem zb40_one : zb40.all (·.oneCell') = true := by kernel_rfl
/-- The table of which bits have been seen, in its own block. -/
theorem seen_set {W : World} {g k : Nat} {t : TypeId} {ks : List Nat} (h : W.heap[g]? = some (.cells (valsB (tbl 40 ks)).toArray t (0, 0))) :
    (W.setCell ⟨g, k, none⟩ (.bool true)).heap[g]? = some (.cells (valsB (tbl 40 (ks ++ [k]))).toArray t (0, 0)) := by
  rw [heap_setCell_same W g k _ t (.bool true) h]
  congr 2
  rw [← tbl_set]
  unfold valsB
  rw [List.map_set, List.setIfInBounds_toArray]
theorem seen_cell {W : World} {g k : Nat} {t : TypeId} {ks : List Nat} (h : W.heap[g]? = some (.cells (valsB (tbl 40 ks)).toArray t (0, 0))) (hk : k < 40) :
    W.cell? ⟨g, k, none⟩ = some (.bool (decide (k ∈ ks))) ∧ W.frozen? ⟨g, k, none⟩ = false := by
  refine ⟨?_, frozen_of_row W g k _ t h⟩
  rw [cell_of_row W g k _ t _ h, List.getElem?_toArray, valsB_get _ k (by rw [tbl_length]; exact hk), tbl_get 40 ks k hk]
theorem twice_snoc (ks : List Nat) (k : Nat) : decide (¬ (ks ++ [k]).Nodup) = (decide (¬ ks.Nodup) || decide (k ∈ ks)) := by
  rw [Bool.eq_iff_iff, Bool.or_eq_true, decide_eq_true_iff, decide_eq_true_iff, decide_eq_true_iff, nodup_snoc]
  by_cases h : ks.Nodup <;> by_cases h2 : k ∈ ks <;> simp [h, h2]
set_option maxRecDepth 100000 in
set_option maxHeartbeats 8000000 in
theorem damageBurst_all (at' : Nat) (ha : at' < 18446744073709551616) (b : Nat) (hb : b < 4294967296) (v : Value) (l : List Nat) (w : World) (hv : Reads .u8 w v l) (hl : Bytes l) (tn : Nat) (ht : tn < 256) (hT : Tab w) :
    Calls Tryd.prog 6 #[.int .u64 at', .int .u32 b, v, .int .u8 tn] w fun e w' => e = .returned (.bool true) ∧ Below w.heap.size w w' := by
  have HV := Lib.hid hv
  have HT := Lib.hid hT
  obtain ⟨av, cv, rfl, hlv, hcv, hsv⟩ := hv
  obtain ⟨nl, HNL⟩ := nm l.length
  rw [HNL.out] at hlv HV hsv ⊢
  have HSV := Lib.hid hsv
  obtain ⟨M, HM⟩ := nm (min nl 40)
  have hM1 : M ≤ nl := by have := HM.out; omega
  have hM2 : M ≤ 40 := by have := HM.out; omega
  have hmin1 : min (nl : Int) 40 = (M : Int) := by have := HM.out; omega
  clear hT hsv
  obtain ⟨X, HX⟩ := nm (at' % 4611686018427387904)
  have hX : X < 4611686018427387904 := by have := HX.out; omega
  have hXm : (at' : Int) % 4611686018427387904 = (X : Int) := by have := HX.out; omega
  have hor : bits BinOp.or IntKind.u32 (b : Int) 1 = ((b ||| 1 : Nat) : Int) := u32_or_nat b 1 hb (by decide)
  have hP : b ||| 1 < 4294967296 := Nat.or_lt_two_pow (n := 32) hb (by decide)
  have hPo := odd_or b
  obtain ⟨P, HP⟩ := nm (b ||| 1)
  rw [HP.out] at hor hP hPo
  have HPO := Lib.hid hPo
  clear hPo
  go_enter Tryd.func6, Tryd.ntmps6
  go_wp2_with fail
  refine (awakeD_any w HT.out).mono ?_
  rintro e w1 ⟨rfl, hb1⟩
  have HB1 := Lib.hid hb1
  clear hb1
  go_wp2_with fail
  have HXC := Lib.hid (cell_two w1 (.int .i64 (X : Int)) (.int .u32 (P : Int)) 24)
  refine (bits_any (X : Int) P hP (by omega) _).mono ?_
  rintro e w2 ⟨vh, rfl, hoh, hb2⟩
  have hbk := burst_ok X P hP HPO.out (by omega)
  rw [hbk.2.2.1] at hoh
  rw [hbk.2.2.2.1]
  have hhe := hits_ends X P HPO.out
  have hhl : (hits X P).length ≤ 32 := by
    have := plen_le32 hP
    unfold hits
    rw [List.length_map]
    have := List.length_filter_le (fun i => P.testBit i) (List.range (Gf.plen P))
    simp at this
    omega
  rcases hoh.form with ⟨_, hnil⟩ | ⟨gh, ch, rfl, hgh1, hgh2, hgh3, hgh4⟩
  · have h1 := congrArg List.length hnil; rw [ints_length] at h1; have h2 := hhe.1; rw [h1] at h2; simp at h2
  rw [ints_length] at hgh3 hoh ⊢
  obtain ⟨nh, HNH⟩ := nm (hits X P).length
  have hh1 := hhe.1
  rw [HNH.out] at hgh3 hhl hh1 hoh ⊢
  have HB2 := Lib.hid ((bel_alloc w1 _).trans (hb2.mono (by simp)))
  have x1 := cell_keep hb2 HXC.out.1 (cell_lt HXC.out.1)
  have x2 := cell_keep hb2 HXC.out.2.1 (cell_lt HXC.out.2.1)
  have HXX := Lib.hid (And.intro x1 x2)
  have HOH := Lib.hid hoh
  have hgx : w1.heap.size < gh := by simp at hgh1; omega
  clear hb2 x1 x2 hoh hbk hhe HXC hgh1
  go_wp2_with fail
  go_loopw [41] (fun vk wr => ∃ (k : Nat) (L : List Int), k ≤ nh ∧ vk = .int .i64 (k : Int) ∧ L.Perm (ints (hits X P)) ∧ L.length = nh ∧ OwnsI .i64 3 wr gh (.slice (some ⟨gh, 0, none⟩) nh ch) L ∧ Below gh w2 wr ∧ gh < wr.heap.size) (fun vk _ => nh - (intOf vk).toNat)
  case atStart => exact ⟨0, ints (hits X P), Nat.zero_le _, rfl, List.Perm.refl _, by rw [ints_length, HNH.out], ⟨HOH.out.1, HOH.out.2.elim .inl (fun ⟨g, c, cs, e, _, r⟩ => .inr ⟨g, c, cs, e, by cases e; exact Nat.le_refl _, r⟩)⟩, Below.refl _ _, hgh2⟩
  case round =>
    obtain ⟨k, L, hk, rfl, hLp, hLl, hoL, hBr, hgr⟩ := hrel
    by_cases hlt : k < nh
    · obtain ⟨j, HJ⟩ := nm (k * tn % nh)
      have hjn : j < nh := by rw [← HJ.out]; exact Nat.mod_lt _ (by omega)
      have hm0 : k * tn ≤ 32 * 256 := Nat.mul_le_mul (by omega) (by omega)
      have hmi : (k : Int) * (tn : Int) = ((k * tn : Nat) : Int) := by simp
      obtain ⟨y, HY⟩ := nm (k * tn)
      rw [HY.out] at hm0 hmi
      have hym : (y : Int) % (nh : Int) = (j : Int) := by have := HJ.out; rw [HY.out] at this; omega
      have hwt : IntKind.i64.wrap (tn : Int) = (tn : Int) := IntWalk.i64_in _ (by omega)
      have hwy : IntKind.i64.wrap (y : Int) = (y : Int) := IntWalk.i64_in _ (by omega)
      have hty : (y : Int).tmod (nh : Int) = (j : Int) := by rw [Int.tmod_eq_emod_of_nonneg (by omega)]; exact hym
      have hn0 : ¬ nh = 0 := by omega
      have ck := hoL.cellAt hLl.symm k hlt
      have cj := hoL.cellAt hLl.symm j hjn
      have fk := hoL.frozenAt hLl.symm k
      have fj := hoL.frozenAt hLl.symm j
      have hperm := (swap_perm L (i := k) (j := j) (by omega) (by omega)).trans hLp
      have hset := ((hoL.set hLl.symm k (L[j]?.getD 0) (by omega)).set (by rw [List.length_set]; exact hLl.symm) j (L[k]?.getD 0) (by rw [List.length_set]; omega))
      have hslen : ((L.set k (L[j]?.getD 0)).set j (L[k]?.getD 0)).length = nh := by rw [List.length_set, List.length_set]; exact hLl
      obtain ⟨zk, HZK⟩ := nm (L[k]?.getD 0)
      obtain ⟨zj, HZJ⟩ := nm (L[j]?.getD 0)
      rw [HZK.out] at ck
      rw [HZJ.out] at cj
      rw [HZK.out, HZJ.out] at hperm hset hslen
      obtain ⟨L2, HL2⟩ := nm ((L.set k zj).set j zk)
      rw [HL2.out] at hperm hset hslen
      have HSET := Lib.hid (World.ownsRow.drew hset : OwnsI .i64 3 ((wr.setCell ⟨gh, k, none⟩ (.int .i64 zj)).setCell ⟨gh, j, none⟩ (.int .i64 zk)).drew gh _ L2)
      have HBR := Lib.hid (((hBr.setCell (p := ⟨gh, k, none⟩) (Nat.le_refl _) (.int .i64 zj)).setCell (p := ⟨gh, j, none⟩) (Nat.le_refl _) (.int .i64 zk)).drew)
      have HPM := Lib.hid hperm
      have HSL := Lib.hid hslen
      have hj0 : (j : Int) < (nh : Int) := by omega
      clear hoL hLp hset hperm hslen hLl hBr
      by_cases hjk : j = k
      · subst hjk
        obtain rfl : zj = zk := by rw [← HZJ.out, ← HZK.out]
        clear cj fj
        go_wp2_with fail
        go_region
        go_wp2_with fail
        go_roundw
        case rel => exact ⟨j + 1, L2, by omega, by go_num, HPM.out, HSL.out, HSET.out, HBR.out, by simpa using hgr⟩
        case measure => simp [intOf]; omega
      · have hkj : ¬ k = j := fun e => hjk e.symm
        go_wp2_with fail
        go_region
        go_wp2_with fail
        go_roundw
        case rel => exact ⟨k + 1, L2, by omega, by go_num, HPM.out, HSL.out, HSET.out, HBR.out, by simpa using hgr⟩
        case measure => simp [intOf]; omega
    · obtain rfl : k = nh := by omega
      obtain ⟨hof1, hof2, hof3⟩ := of_hits L X P hP HPO.out hLp
      have hlb : ∀ z ∈ L, -9223372036854775808 ≤ z ∧ z ≤ 9223372036854775807 := fun z hz => by
        have hz2 := hLp.mem_iff.1 hz
        exact ints_bound (fun q hq => hits_lt X P q hq : ∀ q ∈ hits X P, q < X + Gf.plen P) (by have := plen_le32 hP; omega) z hz2
      have HLB := Lib.hid hlb
      have HRL := Lib.hid hoL.reads
      have hlen : L.length < 1000000000 := by omega
      have HLEN := Lib.hid hlen
      have HOF := Lib.hid (And.intro hof1 (And.intro hof2 hof3))
      have HBR := Lib.hid hBr
      clear hoL hLp hLl hof1 hof2 hof3 hlb hlen hBr HOH
      go_wp2_with fail
      refine (of13_any _ L wr HRL.out HLEN.out HLB.out).mono ?_
      rintro e w3 ⟨rfl, hb3⟩
      rw [HOF.out.1, HOF.out.2.1, HOF.out.2.2]
      have hb23 : Below gh w2 w3 := HBR.out.trans (hb3.mono (by omega))
      have x1 := cell_keep hb23 HXX.out.1 (by exact hgx)
      have x2 := cell_keep hb23 HXX.out.2 (by exact hgx)
      have HB3 := Lib.hid hb23
      have HYC := Lib.hid (cell_two w3 (.int .i64 (X : Int)) (.int .u32 (P : Int)) 24)
      have xa1 := cell_keep (bel_alloc w3 (.cells #[.int .i64 (X : Int), .int .u32 (P : Int)] 24)) x1 (cell_lt x1)
      have xa2 := cell_keep (bel_alloc w3 (.cells #[.int .i64 (X : Int), .int .u32 (P : Int)] 24)) x2 (cell_lt x2)
      obtain ⟨n1, n2, n3, n4⟩ := cell_two w3 (.int .i64 0) (.int .u32 0) 24
      have ya1 := HYC.out.1
      have ya2 := HYC.out.2.1
      clear hb3 hb23 x1 x2
      go_wp2_with fail
      clear n1 n2 n3 n4 ya1 ya2
      have hrb := (burst_ok X P hP HPO.out (by omega)).1
      have HRB := Lib.hid hrb
      clear hrb
      refine (right_any (X : Int) P hP _).mono ?_
      rintro e w4 ⟨rfl, hb4⟩
      rw [HRB.out]
      have x1 := cell_keep hb4 xa1 (cell_lt xa1)
      have x2 := cell_keep hb4 xa2 (cell_lt xa2)
      have HX4 := Lib.hid (And.intro x1 x2)
      have HB34 := Lib.hid (gr_trans (bel_alloc w3 _) hb4)
      clear xa1 xa2 hb4 x1 x2 HYC HRL HLB HLEN HOF
      go_wp2_with (refine wpl_zeros rfl rfl rfl 48 90 16 rfl rfl rfl rfl rfl rfl (by decide) (of_decide_eq_true rfl) (of_decide_eq_true rfl) zb40 zb40_built zb40_zero zb40_size zb40_one ?_)
      obtain ⟨w5, HW5⟩ := nm (w4.alloc (.cells zb40 48))
      rw [HW5.out]
      have hgs : w5.heap[w4.heap.size]? = some (.cells (valsB (tbl 40 [])).toArray 48 (0, 0)) := by
        rw [← HW5.out]
        exact (World.alloc_heap_new w4 _).trans (by rw [zb40_eq])
      have hs5 : w5.heap.size = w4.heap.size + 1 := by rw [← HW5.out]; simp
      have HB5 : Hid (Below w4.heap.size w4 w5) := Lib.hid (by rw [← HW5.out]; exact bel_alloc w4 _)
      have HB4 := Lib.hid (((gr_trans HB1.out HB2.out).trans (HB3.out.mono (by have := HB1.out.size; omega))).trans (HB34.out.mono (by have h1 := (gr_trans HB1.out HB2.out).size; have h2 := HB3.out.size; omega)))
      have hg4 := HB34.out.size
      have hw1lt : w1.heap.size < w4.heap.size := cell_lt HX4.out.1
      obtain ⟨gs, HGS⟩ := nm w4.heap.size
      rw [HGS.out] at hgs hs5 HB5 hw1lt ⊢
      have HS0 := Lib.hid hgs
      have HK40 := Lib.hid (fun q (hq : q ∈ (l.take M).map (· % 40)) => (show q < 40 by
        obtain ⟨y, _, e⟩ := List.mem_map.1 hq
        have e' : y % 40 = q := e
        omega))
      have HKL := Lib.hid (show ((l.take M).map (· % 40)).length = M by rw [List.length_map, List.length_take, HNL.out]; omega)
      have HKG := Lib.hid (fun i (hi : i < M) => show ((l.take M).map (· % 40)).take (i + 1) = ((l.take M).map (· % 40)).take i ++ [l[i]?.getD 0 % 40] by
        have h1 : i < ((l.take M).map (· % 40)).length := by rw [HKL.out]; exact hi
        rw [List.take_succ_eq_append_getElem h1, List.getElem_map, List.getElem_take, List.getElem?_eq_getElem (show i < l.length by rw [HNL.out]; omega)]
        rfl)
      obtain ⟨K, HK⟩ := nm ((l.take M).map (· % 40))
      rw [HK.out] at HKL
      simp only [HK.out] at HK40 HKG
      clear hgs hg4 HRB HXX
      go_loopw [15, 17, 18, 19, 97] (fun vq vt va vz vi wr => ∃ i : Nat, i ≤ M ∧ vi = .int .i64 (i : Int) ∧ OwnsI .i64 3 wr w5.heap.size vq (fromX X (K.take i)) ∧ vt = .bool (decide (¬ (K.take i).Nodup)) ∧ va = .int .i64 (leastN (K.take i) : Nat) ∧ vz = .int .i64 (mostN (K.take i) : Nat) ∧
          wr.heap[gs]? = some (.cells (valsB (tbl 40 (K.take i))).toArray 48 (0, 0)) ∧ Below gs w4 wr ∧ w5.heap.size ≤ wr.heap.size) (fun _ _ _ _ vi _ => M - (intOf vi).toNat)
      case atStart => exact ⟨0, Nat.zero_le _, rfl, OwnsI.nil _ _ _ _, by simp, rfl, rfl, HS0.out, HB5.out, Nat.le_refl _⟩
      case round =>
        obtain ⟨i, hi, rfl, hoq, rfl, rfl, rfl, htb, hBr, hsr⟩ := hrel
        by_cases hlt : i < M
        · obtain ⟨bl, ol, rfl, hcl'⟩ := HSV.out.resolve_left (fun h => by omega)
          have hBw := HB4.out.trans (hBr.mono (by have := HB4.out.size; rw [HGS.out] at this; exact this))
          have ck := cell_keep hBw (hcl' i (by omega)) (cell_lt (hcl' i (by omega)))
          have x1 := cell_keep hBr HX4.out.1 hw1lt
          have hx8 : l[i]?.getD 0 < 256 := hl.get i
          have hkg := HKG.out i hlt
          obtain ⟨x, HXX⟩ := nm (l[i]?.getD 0)
          rw [HXX.out] at ck hx8 hkg
          obtain ⟨q, HQ⟩ := nm (x % 40)
          have hq40 : q < 40 := by have := HQ.out; omega
          have hxm : (x : Int) % 40 = (q : Int) := by have := HQ.out; omega
          rw [HQ.out] at hkg
          have hsc := seen_cell htb hq40
          have hset := seen_set (k := q) htb
          rw [← hkg] at hset
          have htw := twice_snoc (K.take i) q
          have hls := leastN_snoc (K.take i) q
          have hms := mostN_snoc (K.take i) q
          have hfs := fromX_snoc X (K.take i) q
          rw [← hkg] at htw hls hms hfs
          have hql : (fromX X (K.take i)).length < 17592186044414 := by rw [fromX_length, List.length_take]; omega
          have hll := leastN_le (K.take i)
          have hml : mostN (K.take i) ≤ 40 := by
            obtain ⟨h1, _, _⟩ := most_of (K.take i) 0
            rcases h1 with h1 | h1
            · unfold mostN; omega
            · have := HK40.out _ (List.mem_of_mem_take h1)
              unfold mostN; omega
          obtain ⟨ks, HKS⟩ := nm (K.take i)
          obtain ⟨k2, HK2⟩ := nm (K.take (i + 1))
          rw [HKS.out] at htw hls hms hfs hoq hsc hql hll hml ⊢
          rw [HK2.out] at htw hls hms hfs hset
          obtain ⟨f1, HF1⟩ := nm (decide (¬ ks.Nodup))
          obtain ⟨f2, HF2⟩ := nm (decide (q ∈ ks))
          obtain ⟨f3, HF3⟩ := nm (decide (¬ k2.Nodup))
          obtain ⟨lo, HLO⟩ := nm (leastN ks)
          obtain ⟨hi', HHI⟩ := nm (mostN ks)
          obtain ⟨lo2, HLO2⟩ := nm (leastN k2)
          obtain ⟨hi2, HHI2⟩ := nm (mostN k2)
          rw [HF1.out] at htw ⊢
          rw [HF2.out] at htw hsc
          rw [HF3.out] at htw
          rw [HLO.out] at hls hll ⊢
          rw [HLO2.out] at hls
          rw [HHI.out] at hms hml ⊢
          rw [HHI2.out] at hms
          obtain ⟨hsc1, hsc2⟩ := hsc
          have hmn : min (lo : Int) (q : Int) = (lo2 : Int) := by omega
          have hmx : max (hi' : Int) (q : Int) = (hi2 : Int) := by omega
          have hwx : IntKind.i64.wrap ((X : Int) + (q : Int)) = (X : Int) + (q : Int) := IntWalk.i64_in _ (by omega)
          have xa : (wr.setCell ⟨gs, q, none⟩ (.bool true)).cell? ⟨w1.heap.size, 0, none⟩ = some (.int .i64 (X : Int)) := (World.cell?_setCell_other _ _ _ _ (by simp)).trans x1
          have hq2 : OwnsI .i64 3 (wr.setCell ⟨gs, q, none⟩ (.bool true)) w5.heap.size u15 (fromX X ks) := hoq.other (fun j hj => by have := (World.ownsRow.lt hoq j hj).1; omega)
          obtain ⟨aq, nq, cq, rfl, -⟩ := hoq.slice
          have HQ2 := Lib.hid hq2
          have HSET := Lib.hid hset
          have HTW := Lib.hid htw
          have HFS := Lib.hid hfs
          have HQL := Lib.hid hql
          have HBR := Lib.hid hBr
          clear hoq hq2 hset htw hfs hql hBw hcl' hkg hls hms htb x1 hBr
          cases f1
          · go_wp2_with (at_builtin; refine wpl_app1I rfl (.tmp 112) (.tmp 117) 25 rfl .i64 3 8 Tryd.underlying25 info_int (by decide) w5.heap.size _ (fromX X ks) _ HQ2.out rfl ((X : Int) + (q : Int)) ?_ HQL.out ?_ ?_; (rw [World.size_setCell]; rfl); (rw [World.size_setCell]; exact hsr); intro vq2 w6 hoq6 hb6)
            go_roundw
            case rel => exact ⟨i + 1, by omega, by go_num, by rw [HK2.out, HFS.out]; exact hoq6, by first | (rw [HK2.out, HF3.out, HTW.out]; done) | (rw [HK2.out, HF3.out, HTW.out]; rfl), by rw [HK2.out, HLO2.out], by rw [HK2.out, HHI2.out], by rw [HK2.out]; exact (hb6.block gs (by omega)).trans HSET.out, (HBR.out.setCell (p := ⟨gs, q, none⟩) (Nat.le_refl _) _).trans (hb6.mono (by omega)), by have := hb6.size; rw [World.size_setCell] at this; omega⟩
            case measure => simp [intOf]; omega
          · go_wp2_with (at_builtin; refine wpl_app1I rfl (.tmp 112) (.tmp 117) 25 rfl .i64 3 8 Tryd.underlying25 info_int (by decide) w5.heap.size _ (fromX X ks) _ HQ2.out rfl ((X : Int) + (q : Int)) ?_ HQL.out ?_ ?_; (rw [World.size_setCell]; rfl); (rw [World.size_setCell]; exact hsr); intro vq2 w6 hoq6 hb6)
            go_roundw
            case rel => exact ⟨i + 1, by omega, by go_num, by rw [HK2.out, HFS.out]; exact hoq6, by first | (rw [HK2.out, HF3.out, HTW.out]; done) | (rw [HK2.out, HF3.out, HTW.out]; rfl), by rw [HK2.out, HLO2.out], by rw [HK2.out, HHI2.out], by rw [HK2.out]; exact (hb6.block gs (by omega)).trans HSET.out, (HBR.out.setCell (p := ⟨gs, q, none⟩) (Nat.le_refl _) _).trans (hb6.mono (by omega)), by have := hb6.size; rw [World.size_setCell] at this; omega⟩
            case measure => simp [intOf]; omega
        · obtain rfl : i = M := by omega
          rw [show K.take i = K from List.take_of_length_le (by rw [HKL.out]; exact Nat.le_refl _)] at hoq htb ⊢
          obtain ⟨aq, nq, cq, rfl, hnq, -⟩ := hoq.slice
          have hnq' : nq = i := by rw [hnq, fromX_length, HKL.out]
          subst hnq'
          have HRL := Lib.hid hoq.reads
          have HLB := Lib.hid (fromX_bound (ks := K) hX HK40.out)
          have hlen : (fromX X K).length < 1000000000 := by rw [fromX_length, HKL.out]; omega
          have HLEN := Lib.hid hlen
          have hBw := HB4.out.trans (hBr.mono (by have := HB4.out.size; rw [HGS.out] at this; exact this))
          have HBW := Lib.hid hBw
          have hx1 := cell_keep hBr HX4.out.1 hw1lt
          have HX1 := Lib.hid hx1
          have HTB := Lib.hid htb
          have HCASE := Lib.hid (show (K = []) ∨ (K ≠ [] ∧ ¬ K.Nodup) ∨ (K ≠ [] ∧ K.Nodup ∧ 32 ≤ mostN K - leastN K) ∨ (K ≠ [] ∧ K.Nodup ∧ mostN K - leastN K < 32) from by
            by_cases h1 : K = []
            · exact .inl h1
            · by_cases h2 : K.Nodup
              · rcases Nat.lt_or_ge (mostN K - leastN K) 32 with h3 | h3
                · exact .inr (.inr (.inr ⟨h1, h2, h3⟩))
                · exact .inr (.inr (.inl ⟨h1, h2, h3⟩))
              · exact .inr (.inl ⟨h1, h2⟩))
          clear hoq hnq hlen hBw hBr hx1 htb HS0 HSV HKG HB5 HX4
          go_wp2_with fail
          refine (of13_any _ (fromX X K) wr HRL.out HLEN.out HLB.out).mono ?_
          rintro e w7 ⟨rfl, hb7⟩
          have HB7 := Lib.hid hb7
          clear hb7
          rcases HCASE.out with h | ⟨hne, h⟩ | ⟨hne, hd, h⟩ | ⟨hne, hd, h⟩
          · subst h
            obtain rfl : nq = 0 := by have := HKL.out; simpa using this.symm
            obtain ⟨h1, h2, h3⟩ := from_none X
            rw [h1, h2, h3]
            clear h1 h2 h3
            have HZC := Lib.hid (cell_two w7 (.int .i64 0) (.int .u32 0) 24)
            obtain ⟨n1, n2, n3, n4⟩ := HZC.out
            rw [show ((0 : Nat) : Int) = 0 from rfl]
            go_wp2_with fail
            go_ret
            exact ⟨by simp, gr_trans HBW.out (gr_trans HB7.out (bel_alloc w7 _))⟩
          · have hq0 : 0 < nq := by rw [← HKL.out]; exact List.length_pos_iff.2 hne
            rw [from_twice h]
            rw [show decide (¬ K.Nodup) = true from decide_eq_true h]
            obtain ⟨aZ, HAZ⟩ := nm (ofA (fromX X K))
            obtain ⟨bZ, HBZ⟩ := nm (ofB (fromX X K))
            rw [HAZ.out, HBZ.out]
            have hqq : ((nq : Int) == 0) = false := beq_false_of_ne (by omega)
            obtain ⟨n1, n2, n3, n4⟩ := cell_two w7 (.int .i64 0) (.int .u32 0) 24
            clear h hne
            go_wp2_with fail
            go_ret
            exact ⟨by simp, gr_trans HBW.out (gr_trans HB7.out (bel_alloc w7 _))⟩
          · have hq0 : 0 < nq := by rw [← HKL.out]; exact List.length_pos_iff.2 hne
            rw [from_long HK40.out hne hd h]
            rw [show decide (¬ K.Nodup) = false from decide_eq_false (fun e => e hd)]
            obtain ⟨aZ, HAZ⟩ := nm (ofA (fromX X K))
            obtain ⟨bZ, HBZ⟩ := nm (ofB (fromX X K))
            have hmm := HK40.out _ (most_mem hne).1
            rw [HAZ.out, HBZ.out]
            have hqq : ((nq : Int) == 0) = false := beq_false_of_ne (by omega)
            obtain ⟨lo, HLO⟩ := nm (leastN K)
            obtain ⟨hi', HHI⟩ := nm (mostN K)
            rw [HLO.out, HHI.out] at h
            rw [HHI.out] at hmm
            rw [HLO.out, HHI.out]
            have hw : IntKind.i64.wrap ((hi' : Int) - (lo : Int)) = (hi' : Int) - (lo : Int) := IntWalk.i64_in _ (by omega)
            have hge : 32 ≤ (hi' : Int) - (lo : Int) := by omega
            obtain ⟨n1, n2, n3, n4⟩ := cell_two w7 (.int .i64 0) (.int .u32 0) 24
            clear h hne hd
            go_wp2_with fail
            go_ret
            exact ⟨by simp, gr_trans HBW.out (gr_trans HB7.out (bel_alloc w7 _))⟩
          · have hq0 : 0 < nq := by rw [← HKL.out]; exact List.length_pos_iff.2 hne
            obtain ⟨hE, hA, hB, hB2, hlen⟩ := from_fine (X := X) HK40.out hne hd h
            rw [hE]
            rw [show decide (¬ K.Nodup) = false from decide_eq_false (fun e => e hd)]
            have hmm := HK40.out _ (most_mem hne).1
            have hlm := (most_mem hne).2 _ (least_mem HK40.out hne).1
            obtain ⟨aZ, HAZ⟩ := nm (ofA (fromX X K))
            obtain ⟨bZ, HBZ⟩ := nm (ofB (fromX X K))
            rw [HAZ.out] at hA hlen ⊢
            rw [HBZ.out] at hB2 hlen ⊢
            simp only [HBZ.out] at hB
            have hqq : ((nq : Int) == 0) = false := beq_false_of_ne (by omega)
            obtain ⟨lo, HLO⟩ := nm (leastN K)
            obtain ⟨hi', HHI⟩ := nm (mostN K)
            rw [HLO.out] at h hlm hA hlen ⊢
            simp only [HLO.out] at hB
            rw [HHI.out] at h hmm hlm hlen ⊢
            have hw : IntKind.i64.wrap ((hi' : Int) - (lo : Int)) = (hi' : Int) - (lo : Int) := IntWalk.i64_in _ (by omega)
            have hge : ¬ 32 ≤ (hi' : Int) - (lo : Int) := by omega
            have hw2 : IntKind.i64.wrap ((hi' : Int) - (lo : Int) + 1) = (hi' : Int) - (lo : Int) + 1 := IntWalk.i64_in _ (by omega)
            have hw3 : IntKind.i64.wrap ((X : Int) + (lo : Int)) = aZ := by rw [IntWalk.i64_in _ (by omega)]; exact hA.symm
            have hlen2 : (lenB aZ bZ : Int) = (hi' : Int) - (lo : Int) + 1 := by omega
            obtain ⟨n1, n2, n3, n4⟩ := cell_two w7 (.int .i64 0) (.int .u32 0) 24
            have HZC := Lib.hid (cell_two w7 (.int .i64 aZ) (.int .u32 (bZ : Int)) 24)
            have ya1 := HZC.out.1
            have ya2 := HZC.out.2.1
            have xa1 := cell_keep (gr_trans HB7.out (bel_alloc w7 (.cells #[.int .i64 aZ, .int .u32 (bZ : Int)] 24))) HX1.out (cell_lt HX1.out)
            have HB := Lib.hid hB
            have HL2 := Lib.hid hlen2
            clear hE hA hB h hne hd hlen hlen2
            go_wp2_with fail
            clear n1 n2 n3 n4 ya1 ya2 xa1 hw3
            refine (length_any aZ bZ hB2 _).mono ?_
            rintro e w8 ⟨rfl, hb8⟩
            rw [HL2.out]
            have htb8 : w8.heap[gs]? = some (.cells (valsB (tbl 40 K)).toArray 48 (0, 0)) := (hb8.block gs (by have := (Array.getElem?_eq_some_iff.1 HTB.out).1; have := HB7.out.size; simp; omega)).trans ((heap_alloc_old w7 _ gs (by have := (Array.getElem?_eq_some_iff.1 HTB.out).1; have := HB7.out.size; omega)).trans ((HB7.out.block gs (Array.getElem?_eq_some_iff.1 HTB.out).1).trans HTB.out))
            have z2 := cell_keep hb8 HZC.out.2.1 (cell_lt HZC.out.2.1)
            have HBF := Lib.hid (gr_trans HBW.out (gr_trans HB7.out (gr_trans (bel_alloc w7 _) hb8)))
            have hcsz : (valsB (tbl 40 K)).toArray.size = 40 := by rw [List.size_toArray, valsB_length, tbl_length]
            have hcg : ∀ k, k < 40 → (valsB (tbl 40 K)).toArray[k]? = some (.bool (decide (k ∈ K))) := fun k hk => by
              rw [List.getElem?_toArray, valsB_get _ k (by rw [tbl_length]; exact hk), tbl_get 40 K k hk]
            obtain ⟨C, HC⟩ := nm (valsB (tbl 40 K)).toArray
            rw [HC.out] at htb8 hcsz
            simp only [HC.out] at hcg
            have HTB8 := Lib.hid htb8
            have HCG := Lib.hid hcg
            have HCS := Lib.hid (show (Tryd.prog.info? 48).map (·.size) = some C.size from by rw [hcsz]; kernel_rfl)
            clear hb8 htb8 hcg hcsz
            go_wp2_with (refine wpList_load_row rfl 48 (.tmp 16) rfl gs rfl 48 C (0, 0) _ HTB8.out Tryd.underlying48 rfl HCS.out ?_)
            go_loopw [174] (fun vk wz => ∃ k : Nat, k ≤ 40 ∧ vk = .int .i64 (k : Int) ∧ w8 = wz) (fun vk _ => 40 - (intOf vk).toNat)
            case atStart => exact ⟨0, by omega, rfl, rfl⟩
            case round =>
              obtain ⟨k, hk, rfl, rfl⟩ := hrel
              by_cases hk40 : k < 40
              · have hix := fun W => index_plain (P := Tryd.prog) (e := 4) (n := 40) Tryd.underlying48 (by kernel_rfl) (by kernel_rfl) hk40 (HCG.out k hk40) W
                by_cases h1 : lo ≤ k
                · by_cases h2 : k ≤ hi'
                  · have hsub : (k : Int) - (lo : Int) = ((k - lo : Nat) : Int) := by omega
                    have hwk : IntKind.i64.wrap ((k : Int) - (lo : Int)) = ((k - lo : Nat) : Int) := by rw [IntWalk.i64_in _ (by omega)]; exact hsub
                    have hab := and_bit_beq32 bZ (k - lo) hB2
                    rw [HB.out (k - lo), show lo + (k - lo) = k by omega] at hab
                    obtain ⟨s, HS⟩ := nm (k - lo)
                    rw [HS.out] at hsub hwk hab
                    have hs32 : s < 40 := by have := HS.out; omega
                    obtain ⟨f, HF⟩ := nm (decide (k ∈ K))
                    rw [HF.out] at hab
                    simp only [HF.out] at hix
                    have h1' : (lo : Int) ≤ (k : Int) := by omega
                    have h2' : (k : Int) ≤ (hi' : Int) := by omega
                    cases f
                    · go_wp2_with fail
                      go_roundw
                      case rel => exact ⟨k + 1, by omega, by go_num, trivial⟩
                      case measure => simp [intOf]; omega
                    · go_wp2_with fail
                      go_roundw
                      case rel => exact ⟨k + 1, by omega, by go_num, trivial⟩
                      case measure => simp [intOf]; omega
                  · obtain ⟨f, HF⟩ := nm (decide (k ∈ K))
                    simp only [HF.out] at hix
                    have h1' : (lo : Int) ≤ (k : Int) := by omega
                    have h2' : ¬ (k : Int) ≤ (hi' : Int) := by omega
                    go_wp2_with fail
                    go_roundw
                    case rel => exact ⟨k + 1, by omega, by go_num, trivial⟩
                    case measure => simp [intOf]; omega
                · obtain ⟨f, HF⟩ := nm (decide (k ∈ K))
                  simp only [HF.out] at hix
                  have h1' : ¬ (lo : Int) ≤ (k : Int) := by omega
                  go_wp2_with fail
                  go_roundw
                  case rel => exact ⟨k + 1, by omega, by go_num, trivial⟩
                  case measure => simp [intOf]; omega
              · obtain rfl : k = 40 := by omega
                rw [show ((40 : Nat) : Int) = 40 from rfl]
                go_wp2_with fail
                go_ret
                exact ⟨by simp, HBF.out⟩
end Go.Proofs.YtmjigpnpcacefaaDoor
