/- The reference masks: arrays of 64 truth values; the walks of Bits, Members, Of. -/
import Derived.Test.YtjpkldndeakkkaaDoorMRefP
namespace Go.Proofs.YtjpkldndeakkkaaDoor
open Go Go.RowKit Go.Shelf

@[irreducible] def zb64 : Array Value := (List.replicate 64 (Value.bool false)).toArray
theorem zb64_zero (W : World) : (zeroValue 69).run Tryd.prog W = .ok (.agg zb64) W := by kernel_rfl
/-- A block holds an array of 64 truth values. -/
def Arr (w : World) (g : Nat) (L : List Bool) : Prop := L.length = 64 ∧ w.heap[g]? = some (.cells (valsB L).toArray 69 (0, 0))
theorem Arr.zero (w : World) : Arr (w.alloc (.cells zb64 69)) w.heap.size (List.replicate 64 false) := by
  refine ⟨by simp, (World.alloc_heap_new w _).trans ?_⟩
  have : zb64 = (valsB (List.replicate 64 false)).toArray := by kernel_rfl
  rw [this]
theorem Arr.cell {w : World} {g : Nat} {L : List Bool} (h : Arr w g L) {i : Nat} (hi : i < 64) : w.cell? ⟨g, i, none⟩ = some (.bool (L[i]?.getD false)) := by
  rw [cell_of_row w g i _ _ _ h.2]
  rw [List.getElem?_toArray, valsB_get L i (by rw [h.1]; exact hi)]
theorem Arr.frozen {w : World} {g : Nat} {L : List Bool} (h : Arr w g L) (i : Nat) : w.frozen? ⟨g, i, none⟩ = false := by
  simp [World.frozen?, h.2]
theorem Arr.lt {w : World} {g : Nat} {L : List Bool} (h : Arr w g L) : g < w.heap.size := (Array.getElem?_eq_some_iff.1 h.2).1
theorem Arr.set {w : World} {g : Nat} {L : List Bool} (h : Arr w g L) (i : Nat) (y : Bool) : Arr (w.setCell ⟨g, i, none⟩ (.bool y)) g (L.set i y) := by
  refine ⟨by rw [List.length_set]; exact h.1, (heap_setCell_same w g i _ _ _ h.2).trans ?_⟩
  unfold valsB
  rw [List.map_set]
  simp
theorem Arr.other {w : World} {g g' i : Nat} {v : Value} {L : List Bool} (h : Arr w g L) (hne : g ≠ g') : Arr (w.setCell ⟨g', i, none⟩ v) g L :=
  ⟨h.1, (heap_setCell_other w ⟨g', i, none⟩ g v hne).trans h.2⟩
theorem Arr.keep {w w' : World} {g n : Nat} {L : List Bool} (h : Arr w g L) (hB : Below n w w') (hn : g < n) : Arr w' g L := ⟨h.1, (hB.block g hn).trans h.2⟩
theorem Arr.alloc {w : World} {g : Nat} {L : List Bool} (h : Arr w g L) (o : Obj) : Arr (w.alloc o) g L := ⟨h.1, (heap_alloc_old w o g h.lt).trans h.2⟩
theorem Below.row {B : Nat} {a w : World} (h : Below B a w) {g : Nat} (hg : B ≤ g) (cs : Array Value) : Below B a (w.setRow g cs) :=
  h.trans ⟨rfl, rfl, rfl, by simp, fun k hk => by
    show (w.heap.modify g _)[k]? = _
    rw [Array.getElem?_modify, if_neg (by omega)]⟩
/-- The array of a mask. -/
def bt (m : Nat) : List Bool := (List.range 64).map fun i => m.testBit i
theorem bt_length (m : Nat) : (bt m).length = 64 := by simp [bt]
theorem bt_get (m : Nat) {i : Nat} (h : i < 64) : (bt m)[i]?.getD false = m.testBit i := by simp [bt, h]
@[irreducible] def cb64 (m : Nat) : Array Value := (valsB (bt m)).toArray
theorem cb64_size (m : Nat) : (Tryd.prog.info? 69).map (·.size) = some (cb64 m).size := by
  have h1 : (Tryd.prog.info? 69).map (·.size) = some 64 := by kernel_rfl
  rw [h1]; unfold cb64; simp [valsB, bt]
theorem cb64_one (m : Nat) : (cb64 m).all (·.oneCell') = true := by
  unfold cb64
  simp [valsB, Value.oneCell']
theorem Arr.row {w : World} {g m : Nat} (h : Arr w g (bt m)) : w.heap[g]? = some (.cells (cb64 m) 69 (0, 0)) := by unfold cb64; exact h.2
theorem Arr.laid (w : World) (m : Nat) : Arr (w.alloc (.cells (cb64 m) 69)) w.heap.size (bt m) := by
  refine ⟨bt_length m, ?_⟩
  rw [World.alloc_heap_new]
  unfold cb64; rfl
/-- b := f(): a new array, and what f gave laid into it. -/
theorem wpl_arr {P : Program} {ops : Array Oper} {rest : List Oper} {o1 o2 : Oper} {a : Act} {Q : Exit → Act → World → Prop} {w : World} (g1 : o1.guard = none) (g2 : o2.guard = none) (t : TypeId) (d : Tmp) (y : Operand)
    (h1 : o1.op = .alloc t) (e1 : o1.dst = some d) (h2 : o2.op = .store t (.tmp d) y) (e2 : o2.dst = none) (hs : d < a.tmps.size) (Z C : Array Value)
    (hz : (zeroValue t).run P w = .ok (.agg Z) w) (hy : (a.put (some d) (.pointer (some ⟨w.heap.size, 0, none⟩))).eval y = .agg C) (hi : (P.info? t).map (·.size) = some C.size) (hzc : Z.size = C.size) (hone : C.all (·.oneCell') = true)
    (h : wpList P ops Q rest (a.put (some d) (.pointer (some ⟨w.heap.size, 0, none⟩))) (w.alloc (.cells C t))) : wpList P ops Q (o1 :: o2 :: rest) a w := by
  refine wpl_allocZ g1 t h1 Z hz ?_
  rw [e1]
  refine wpList_store_row g2 t (.tmp d) y h2 w.heap.size C ?_ hy t Z (World.alloc_heap_new w _) hi hzc hone ?_
  · exact Act.eval_put_same _ _ _ hs
  · rw [e2, World.setRow_alloc_new]
    exact h
theorem zb64_cb (m : Nat) : zb64.size = (cb64 m).size := by unfold zb64 cb64; simp [valsB, bt]
/-- The bits below k. -/
def btTo (m k : Nat) : List Bool := (List.range 64).map fun i => decide (i < k) && m.testBit i
theorem btTo_zero (m : Nat) : btTo m 0 = List.replicate 64 false := by
  apply List.ext_getElem
  · simp [btTo]
  · intro i h1 h2; rw [List.getElem_replicate]; simp [btTo]
theorem btTo_all (m : Nat) : btTo m 64 = bt m := by
  apply List.ext_getElem
  · simp [btTo, bt]
  · intro i h1 h2
    have : i < 64 := by simpa [btTo] using h1
    simp [btTo, bt, this]
theorem btTo_set (m k : Nat) (_h : k < 64) : (btTo m k).set k (m.testBit k) = btTo m (k + 1) := by
  apply List.ext_getElem
  · simp [btTo]
  · intro i h1 h2
    rw [List.getElem_set]
    by_cases e : k = i
    · subst e; simp [btTo]
    · rw [if_neg e]
      simp only [btTo, List.getElem_map, List.getElem_range]
      congr 1
      rw [decide_eq_decide]
      omega
theorem rem2_nat (q : Nat) : (q : Int).tmod 2 = ((q % 2 : Nat) : Int) := by rw [Int.tmod_eq_emod_of_nonneg (Int.natCast_nonneg _)]; omega

set_option maxRecDepth 100000 in
set_option maxHeartbeats 2000000 in
theorem rbits_any (m : Nat) (hm : m < 18446744073709551616) (w : World) :
    Calls Tryd.prog 48 #[.int .u64 m] w fun e w' => e = .returned (.agg (cb64 m)) ∧ Below w.heap.size w w' := by
  have HZ := Lib.hid zb64_zero
  go_enter Tryd.func48, Tryd.ntmps48
  go_wp2_with (first | (refine wpl_allocZ rfl 69 rfl zb64 (zb64_zero _) ?_))
  have ha := (Arr.zero w).alloc (.cells zb64 69)
  have hb := Arr.zero (w.alloc (.cells zb64 69))
  have hB : Below w.heap.size w ((w.alloc (.cells zb64 69)).alloc (.cells zb64 69)) := (bel_alloc w _).alloc (by simp) _
  rw [World.size_alloc] at hb
  obtain ⟨w1, HW1⟩ := nm ((w.alloc (.cells zb64 69)).alloc (.cells zb64 69))
  rw [HW1.out] at ha hb hB ⊢
  go_wp2_with fail
  go_loopw [0, 4] (fun vm vc wr => ∃ c : Nat, c ≤ 64 ∧ vc = .int .i64 (c : Int) ∧ vm = .int .u64 ((m / 2 ^ c : Nat) : Int) ∧ Arr wr w.heap.size (List.replicate 64 false) ∧ Arr wr (w.heap.size + 1) (btTo m c) ∧ Below w.heap.size w wr) (fun _ vc _ => 64 - (intOf vc).toNat)
  case atStart => exact ⟨0, Nat.zero_le _, rfl, by rw [Nat.pow_zero, Nat.div_one], ha, by rw [btTo_zero]; exact hb, hB⟩
  case round =>
    obtain ⟨c, hc, rfl, rfl, ha, hb, hBr⟩ := hrel
    by_cases hlt : c < 64
    · have hq64 : m / 2 ^ c < 18446744073709551616 := Nat.lt_of_le_of_lt (Nat.div_le_self _ _) hm
      have hh : m / 2 ^ c / 2 = m / 2 ^ (c + 1) := by rw [Nat.div_div_eq_div_mul, Nat.pow_succ]
      have hbt : m.testBit c = decide (m / 2 ^ c % 2 = 1) := Nat.testBit_eq_decide_div_mod_eq
      have hst := hb.set c (m.testBit c)
      rw [btTo_set m c hlt] at hst
      obtain ⟨q, HQ⟩ := nm (m / 2 ^ c)
      obtain ⟨q2, HQ2⟩ := nm (m / 2 ^ (c + 1))
      rw [HQ.out] at hq64 hh hbt ⊢
      rw [HQ2.out] at hh
      have ht := rem2_nat q
      have ht2 : (q : Int) % 2 = ((q % 2 : Nat) : Int) := by omega
      have hd2 : (q : Int) / 2 = (q2 : Int) := by omega
      have hd3 : (q : Int).tdiv 2 = (q2 : Int) := by rw [Int.tdiv_eq_ediv_of_nonneg (by omega)]; exact hd2
      have hcell := hb.cell hlt
      have hfz := hb.frozen c
      have HA := Lib.hid (ha.other (g' := w.heap.size + 1) (i := c) (v := .bool (m.testBit c)) (by omega))
      have HST := Lib.hid hst
      have HBR := Lib.hid hBr
      clear ha hb hst hh hBr
      cases hbit : m.testBit c with
      | true =>
        rw [hbit] at hbt HA HST
        have h1 : q % 2 = 1 := of_decide_eq_true hbt.symm
        rw [h1] at ht ht2
        clear hbt hbit h1
        go_wp2_with fail
        go_roundw
        case rel => exact ⟨c + 1, by omega, by go_num, by rw [HQ2.out], HA.out, HST.out, HBR.out.setCell (p := ⟨w.heap.size + 1, c, none⟩) (by show w.heap.size ≤ w.heap.size + 1; omega) _⟩
        case measure => simp [intOf]; omega
      | false =>
        rw [hbit] at hbt HA HST
        have h1 : ¬ q % 2 = 1 := of_decide_eq_false hbt.symm
        rw [show q % 2 = 0 by omega] at ht ht2
        clear hbt hbit h1
        go_wp2_with fail
        go_roundw
        case rel => exact ⟨c + 1, by omega, by go_num, by rw [HQ2.out], HA.out, HST.out, HBR.out.setCell (p := ⟨w.heap.size + 1, c, none⟩) (by show w.heap.size ≤ w.heap.size + 1; omega) _⟩
        case measure => simp [intOf]; omega
    · obtain rfl : c = 64 := by omega
      rw [btTo_all] at hb
      have hr := hb.row
      have hz := ha.2
      have hz2 : wr.heap[w.heap.size]? = some (.cells zb64 69 (0, 0)) := by
        rw [hz]
        have : zb64 = (valsB (List.replicate 64 false)).toArray := by kernel_rfl
        rw [this]
      have hcs := zb64_cb m
      have HR := Lib.hid hr
      have HZ2 := Lib.hid hz2
      have HCS := Lib.hid hcs
      have HBR := Lib.hid hBr
      clear hr hz hz2 ha hb hcs hBr
      go_wp2_with (first | (refine wpList_load_row rfl 69 (.tmp 3) rfl (w.heap.size + 1) rfl 69 (cb64 m) (0, 0) _ HR.out Tryd.underlying69 rfl (cb64_size m) ?_) | (refine wpList_store_row rfl 69 (.tmp 2) (.tmp 16) rfl w.heap.size (cb64 m) rfl rfl 69 zb64 HZ2.out (cb64_size m) HCS.out (cb64_one m) ?_))
      refine bodyPost_ret (v := .agg (cb64 m)) (results_cell_row Tryd.results48 _ _ w.heap.size 69 (cb64 m) (0, 0) _ rfl ?_ Tryd.underlying69 rfl (cb64_size m)) rfl ⟨rfl, ?_⟩
      · exact setRow_heap _ w.heap.size _ _ _ _ HZ2.out
      · exact Below.row HBR.out (Nat.le_refl _) _

set_option maxRecDepth 100000 in
set_option maxHeartbeats 2000000 in
theorem rmembers_any (m : Nat) (hm : m < 18446744073709551616) (w : World) :
    Calls Tryd.prog 42 #[.int .u64 m] w fun e w' => ∃ v, e = .returned v ∧ OwnsI .i64 3 w' w.heap.size v (ints (members m)) ∧ Below w.heap.size w w' := by
  go_enter Tryd.func42, Tryd.ntmps42
  go_wp2_with fail
  refine (rbits_any m hm _).mono ?_
  rintro e w1 ⟨rfl, hb1⟩
  go_wp2_with (refine wpl_arr rfl rfl 69 3 (.tmp 7) rfl rfl rfl rfl (of_decide_eq_true rfl) zb64 (cb64 m) (zb64_zero _) rfl (cb64_size m) (zb64_cb m) (cb64_one m) ?_)
  have ha := Arr.laid w1 m
  have hB := hb1.alloc hb1.size (.cells (cb64 m) 69)
  have hz1 := hb1.size
  obtain ⟨w2, HW2⟩ := nm (w1.alloc (.cells (cb64 m) 69))
  obtain ⟨g, HG⟩ := nm w1.heap.size
  rw [HW2.out] at ha hB ⊢
  rw [HG.out] at ha hz1 ⊢
  have hB2 := Below.refl w2.heap.size w2
  go_wp2_with fail
  go_loopw [4, 5] (fun vo vc wr => ∃ c : Nat, c ≤ 64 ∧ vc = .int .i64 (c : Int) ∧ OwnsI .i64 3 wr w2.heap.size vo (ints (memL m c)) ∧ Below w2.heap.size w2 wr) (fun _ vc _ => 64 - (intOf vc).toNat)
  case atStart => exact ⟨0, Nat.zero_le _, rfl, OwnsI.nil _ _ _ _, hB2⟩
  case round =>
    obtain ⟨c, hc, rfl, hown, hBr⟩ := hrel
    have hsz := hBr.size
    have hsz2 := hB.size
    by_cases hlt : c < 64
    · have ck := (ha.keep hBr ha.lt).cell hlt
      rw [bt_get m hlt] at ck
      have hms := memL_succ m c
      have hml := memL_length m c
      have HO := Lib.hid hown
      clear hown
      cases hb : m.testBit c with
      | true =>
        rw [hb] at ck
        rw [hb, if_pos rfl] at hms
        have HMS := Lib.hid hms
        have hlen : (ints (memL m c)).length < 17592186044414 := by rw [ints_length]; omega
        clear hms hb
        go_wp2_with (at_builtin; refine wpl_app1I rfl (.tmp 15) (.tmp 17) 24 rfl .i64 3 8 Tryd.underlying24 info_int (by decide) w2.heap.size _ (ints (memL m c)) wr HO.out rfl (c : Int) rfl hlen hsz ?_; intro v' w3 hown' hB')
        go_roundw
        case rel => exact ⟨c + 1, by omega, by go_num, by rw [HMS.out, ints_snoc]; exact hown', hBr.trans hB'⟩
        case measure => simp [intOf]; omega
      | false =>
        rw [hb] at ck
        rw [hb, if_neg (by decide)] at hms
        have HMS := Lib.hid hms
        clear hms hb
        go_wp2_with fail
        go_roundw
        case rel => exact ⟨c + 1, by omega, by go_num, by rw [HMS.out]; exact HO.out, hBr⟩
        case measure => simp [intOf]; omega
    · obtain rfl : c = 64 := by omega
      have hBw := hB.trans (hBr.mono hB.size)
      have hOw := hown.mono hB.size
      clear hown hBr
      go_wp2_with fail
      go_ret
      exact ⟨_, rfl, hOw, hBw⟩

theorem bt_or (V : Nat) {c : Nat} (_hc : c < 64) : (bt V).set c true = bt (V ||| 1 <<< c) := by
  apply List.ext_getElem
  · simp [bt]
  · intro i h1 h2
    rw [List.getElem_set]
    simp only [bt, List.getElem_map, List.getElem_range, Nat.testBit_or, one_shl_bit]
    by_cases e : c = i
    · subst e; simp
    · have e' : ¬ i = c := fun q => e q.symm
      simp [e, e']
theorem bt_zero : bt 0 = List.replicate 64 false := by
  apply List.ext_getElem
  · simp [bt]
  · intro i h1 h2; rw [List.getElem_replicate]; simp [bt]
theorem half_bit (V c : Nat) : V / 2 ^ c = 2 * (V / 2 ^ (c + 1)) + (if V.testBit c then 1 else 0) := by
  have h1 : V / 2 ^ (c + 1) = V / 2 ^ c / 2 := by rw [Nat.pow_succ, Nat.div_div_eq_div_mul]
  rw [h1, Nat.testBit_eq_decide_div_mod_eq]
  by_cases h : V / 2 ^ c % 2 = 1
  · simp [h]; omega
  · simp [h]; omega

set_option maxRecDepth 100000 in
set_option maxHeartbeats 2000000 in
theorem rof_any (vl : Value) (l : List Int) (w : World) (hl : ReadsI .i64 w vl l) (hll : l.length < 1000000) (hok : ∀ c ∈ l, okC c = true) :
    Calls Tryd.prog 32 #[vl] w fun e w' => e = .returned (.int .u64 (orL l : Nat)) ∧ Below w.heap.size w w' := by
  obtain ⟨al, cl, rfl, hlc, hcm, hcs⟩ := hl
  have hget := fun i (h : i < l.length) => takeI_get l i h
  have hmem : ∀ i, i < l.length → l[i]?.getD 0 ∈ l := fun i hi => by rw [List.getElem?_eq_getElem hi]; exact List.getElem_mem hi
  have hfull : l.take l.length = l := List.take_length
  have hV := orL_lt l hok
  obtain ⟨V, HVV⟩ := nm (orL l)
  rw [HVV.out] at hV ⊢
  obtain ⟨n, HN⟩ := nm l.length
  rw [HN.out] at hlc hll hcs hfull ⊢
  simp only [HN.out] at hget hmem
  have HG := Lib.hid hget
  have HM := Lib.hid hmem
  have HCS := Lib.hid hcs
  have HFULL := Lib.hid hfull
  clear hget hmem hcs hfull
  go_enter Tryd.func32, Tryd.ntmps32
  go_wp2_with (first | (refine wpl_allocZ rfl 69 rfl zb64 (zb64_zero _) ?_))
  have ha := Arr.zero w
  have hB := bel_alloc w (.cells zb64 69)
  obtain ⟨w1, HW1⟩ := nm (w.alloc (.cells zb64 69))
  rw [HW1.out] at ha hB ⊢
  go_wp2_with fail
  go_loopw [4] (fun vi wr => ∃ i : Nat, i ≤ n ∧ vi = .int .i64 (i : Int) ∧ Arr wr w.heap.size (bt (orL (l.take i))) ∧ Below w.heap.size w wr) (fun vi _ => n - (intOf vi).toNat)
  case atStart => exact ⟨0, Nat.zero_le _, rfl, by rw [show orL (l.take 0) = 0 from rfl, bt_zero]; exact ha, hB⟩
  case round =>
    obtain ⟨i, hi, rfl, ha, hBr⟩ := hrel
    by_cases hlt : i < n
    · obtain ⟨b, o, rfl, hcl⟩ := HCS.out.resolve_left (fun h => by omega)
      have ck := cell_keep hBr (hcl i hlt) (cell_lt (hcl i hlt))
      have hg := HG.out i hlt
      have hk := of_decide_eq_true (hok _ (HM.out i hlt))
      have hsn := orL_snoc (l.take i) (l[i]?.getD 0)
      rw [← hg] at hsn
      obtain ⟨x, HX⟩ := nm (l[i]?.getD 0)
      rw [HX.out] at ck hk hsn
      obtain ⟨k, rfl⟩ := Int.eq_ofNat_of_zero_le hk.1
      have hk64 : k < 64 := by omega
      have hki : (k : Int) < 64 := by omega
      rw [Int.toNat_natCast] at hsn
      have hst := ha.set k true
      rw [bt_or _ hk64, ← hsn] at hst
      have hc2 := ha.cell hk64
      have hfz := ha.frozen k
      obtain ⟨y, HY⟩ := nm ((bt (orL (l.take i)))[k]?.getD false)
      rw [HY.out] at hc2
      have HST := Lib.hid hst
      have HBR := Lib.hid hBr
      clear hst ha hcl hg hsn hBr hk
      go_wp2_with fail
      go_roundw
      case rel => exact ⟨i + 1, by omega, by go_num, HST.out, HBR.out.setCell (p := ⟨w.heap.size, k, none⟩) (Nat.le_refl _) _⟩
      case measure => simp [intOf]; omega
    · obtain rfl : i = n := by omega
      rw [HFULL.out] at ha
      rw [HVV.out] at ha
      obtain ⟨wo, rfl⟩ : ∃ wo : World, wo = wr := ⟨_, rfl⟩
      have HBR := Lib.hid hBr
      clear hBr
      go_wp2_with fail
      go_loopw [5, 6] (fun vm vc wr => ∃ c : Nat, c ≤ 64 ∧ vc = .int .i64 ((c : Int) - 1) ∧ vm = .int .u64 ((V / 2 ^ c : Nat) : Int) ∧ wo = wr) (fun _ vc _ => (intOf vc + 1).toNat)
      case atStart => exact ⟨64, Nat.le_refl _, rfl, by rw [Nat.div_eq_of_lt hV]; rfl, rfl⟩
      case round =>
        obtain ⟨c, hc, rfl, rfl, rfl⟩ := hrel
        by_cases hc0 : c = 0
        · subst hc0
          rw [Nat.pow_zero, Nat.div_one, show ((0 : Nat) : Int) - 1 = -1 from rfl]
          go_wp2_with fail
          go_ret
          exact ⟨rfl, HBR.out⟩
        · obtain ⟨d, rfl⟩ : ∃ d, c = d + 1 := ⟨c - 1, by omega⟩
          rw [show ((d + 1 : Nat) : Int) - 1 = (d : Int) by omega]
          have hd64 : d < 64 := by omega
          have hh := half_bit V d
          have hlt2 : V / 2 ^ d < 18446744073709551616 := Nat.lt_of_le_of_lt (Nat.div_le_self _ _) hV
          have hc2 := ha.cell hd64
          rw [bt_get V hd64] at hc2
          obtain ⟨q, HQ⟩ := nm (V / 2 ^ d)
          obtain ⟨q2, HQ2⟩ := nm (V / 2 ^ (d + 1))
          rw [HQ.out] at hh hlt2
          rw [HQ2.out] at hh ⊢
          have hd0 : (0 : Int) ≤ (d : Int) := by omega
          have hdd : (d : Int) < 64 := by omega
          cases hb : V.testBit d with
          | true =>
            rw [hb] at hc2 hh
            rw [if_pos rfl] at hh
            have hw1 : IntKind.u64.wrap (2 * (q2 : Int)) = 2 * (q2 : Int) := by rw [IntKind.wrap_u64]; omega
            have hw2 : IntKind.u64.wrap (2 * (q2 : Int) + 1) = (q : Int) := by rw [IntKind.wrap_u64]; omega
            clear hh hb
            go_wp2_with fail
            go_roundw
            case rel => exact ⟨d, by omega, by first | rfl | go_num, by rw [HQ.out], trivial⟩
            case measure => (simp [intOf]) <;> omega
          | false =>
            rw [hb] at hc2 hh
            rw [if_neg (by decide)] at hh
            have hw1 : IntKind.u64.wrap (2 * (q2 : Int)) = (q : Int) := by rw [IntKind.wrap_u64]; omega
            clear hh hb
            go_wp2_with fail
            go_roundw
            case rel => exact ⟨d, by omega, by first | rfl | go_num, by rw [HQ.out], trivial⟩
            case measure => (simp [intOf]) <;> omega
end Go.Proofs.YtjpkldndeakkkaaDoor
