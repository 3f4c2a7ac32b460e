/- Masks of CPUs: the walks of mask.Of, members and its iterator, Members, Count. -/
import Derived.Test.YtjpkldndeakkkaaDoorMskA
namespace Go.Proofs.YtjpkldndeakkkaaDoor
open Go Go.RowKit Go.Shelf
attribute [local go_sem] Oper.semAt_some
attribute [local go_sem] wide_fn

def okC (c : Int) : Bool := decide (0 ≤ c ∧ c < 64)
def orL (l : List Int) : Nat := l.foldl (fun m c => m ||| 1 <<< c.toNat) 0
def mofE (l : List Int) : Int := if l.all okC then 0 else 200
def mofV (l : List Int) : Nat := if l.all okC then orL l else 0
theorem orL_snoc (l : List Int) (c : Int) : orL (l ++ [c]) = orL l ||| 1 <<< c.toNat := by unfold orL; rw [List.foldl_append]; rfl
theorem orL_bit (l : List Int) (i : Nat) : (orL l).testBit i = l.any (fun c => decide (c.toNat = i)) := by
  unfold orL
  have : ∀ (l : List Int) (m : Nat), (l.foldl (fun m c => m ||| 1 <<< c.toNat) m).testBit i = (m.testBit i || l.any (fun c => decide (c.toNat = i))) := by
    intro l
    induction l with
    | nil => intro m; simp
    | cons c l ih =>
      intro m
      rw [List.foldl_cons, ih, Nat.testBit_or, one_shl_bit, List.any_cons, Bool.or_assoc]
      congr 2
      rw [decide_eq_decide]
      exact ⟨Eq.symm, Eq.symm⟩
  rw [this]; simp
theorem orL_lt (l : List Int) (h : ∀ c ∈ l, okC c = true) : orL l < 18446744073709551616 := by
  refine Gf.lt_of_bits (n := 64) (fun i hi => ?_)
  rw [orL_bit, List.any_eq_false]
  intro c hc
  have := of_decide_eq_true (h c hc)
  simp; omega
theorem takeI_get (l : List Int) (i : Nat) (h : i < l.length) : l.take (i + 1) = l.take i ++ [l[i]?.getD 0] := by
  rw [List.take_succ_eq_append_getElem h, List.getElem?_eq_getElem h]; rfl

set_option maxRecDepth 100000 in
set_option maxHeartbeats 2000000 in
theorem mof_any (vl : Value) (l : List Int) (w : World) (hl : ReadsI .i64 w vl l) (hll : l.length < 1000000000) :
    Calls Tryd.prog 25 #[vl] w fun e w' => e = .returned (.tuple #[.int .u64 (mofV l : Nat), .int .i64 (mofE l)]) ∧ Below w.heap.size w w' := by
  obtain ⟨al, cl, rfl, hlc, hcm, hcs⟩ := hl
  have hget := fun i (h : i < l.length) => takeI_get l i h
  have hbad : ∀ i, i < l.length → okC (l[i]?.getD 0) = false → mofV l = 0 ∧ mofE l = 200 := fun i hi h => by
    have : l.all okC = false := by
      rw [List.all_eq_false]
      exact ⟨l[i]?.getD 0, by rw [List.getElem?_eq_getElem hi]; exact List.getElem_mem hi, by rw [h]; simp⟩
    unfold mofV mofE
    rw [this]; exact ⟨rfl, rfl⟩
  have hgood : (∀ c ∈ l.take l.length, okC c = true) → mofV l = orL l ∧ mofE l = 0 := fun h => by
    rw [List.take_length] at h
    have : l.all okC = true := List.all_eq_true.2 h
    unfold mofV mofE
    rw [this]; exact ⟨rfl, rfl⟩
  have hall : l.take l.length = l := List.take_length
  obtain ⟨n, HN⟩ := nm l.length
  rw [HN.out] at hlc hll hcs hgood hall ⊢
  simp only [HN.out] at hget hbad
  have HG := Lib.hid hget
  have HBAD := Lib.hid hbad
  have HGOOD := Lib.hid hgood
  have HALL := Lib.hid hall
  have HCS := Lib.hid hcs
  obtain ⟨V, HV⟩ := nm (mofV l)
  obtain ⟨E, HE⟩ := nm (mofE l)
  rw [HV.out, HE.out]
  clear hget hbad hgood hall hcs
  go_enter Tryd.func25, Tryd.ntmps25
  go_wp2_with fail
  go_loopw [4, 9] (fun vm vi wr => ∃ i : Nat, i ≤ n ∧ vi = .int .i64 (i : Int) ∧ vm = .int .u64 (orL (l.take i) : Nat) ∧ Hid (∀ c ∈ l.take i, okC c = true) ∧ w = wr) (fun _ vi _ => n - (intOf vi).toNat)
  case atStart => exact ⟨0, Nat.zero_le _, rfl, rfl, Lib.hid (fun c h => by simp at h), rfl⟩
  case round =>
    obtain ⟨i, hi, rfl, rfl, HK, rfl⟩ := hrel
    by_cases hlt : i < n
    · obtain ⟨b, o, rfl, hc⟩ := HCS.out.resolve_left (fun h => by omega)
      have ck := hc i hlt
      have hg := HG.out i hlt
      have hb := HBAD.out i hlt
      have hM := orL_lt _ HK.out
      have hsn := orL_snoc (l.take i) (l[i]?.getD 0)
      rw [← hg] at hsn
      have hk2 : okC (l[i]?.getD 0) = true → ∀ c ∈ l.take (i + 1), okC c = true := fun h c hc => by
        rw [hg, List.mem_append, List.mem_singleton] at hc
        rcases hc with hc | hc
        · exact HK.out c hc
        · rw [hc]; exact h
      obtain ⟨c, HC⟩ := nm (l[i]?.getD 0)
      rw [HC.out] at ck hb hsn hk2
      obtain ⟨M, HM⟩ := nm (orL (l.take i))
      rw [HM.out] at hM hsn ⊢
      obtain ⟨M2, HM2⟩ := nm (orL (l.take (i + 1)))
      rw [HM2.out] at hsn
      have HK2 := Lib.hid hk2
      clear hc hg hk2
      by_cases h0 : c < 0
      · have hB := hb (by unfold okC; exact decide_eq_false (by omega))
        rw [HV.out, HE.out] at hB
        have HB := Lib.hid hB
        have hd : decide (c < 0) = true := decide_eq_true h0
        clear hB hb hsn
        go_wp2_with fail
        go_ret2
        exact ⟨by rw [HB.out.1, HB.out.2]; rfl, bel_refl _⟩
      · have hd : decide (c < 0) = false := decide_eq_false h0
        by_cases h1 : 64 ≤ c
        · have hB := hb (by unfold okC; exact decide_eq_false (by omega))
          rw [HV.out, HE.out] at hB
          have HB := Lib.hid hB
          have hd1 : decide (64 ≤ c) = true := decide_eq_true h1
          clear hB hb hsn
          go_wp2_with fail
          go_ret2
          exact ⟨by rw [HB.out.1, HB.out.2]; rfl, bel_refl _⟩
        · have hd1 : decide (64 ≤ c) = false := decide_eq_false h1
          obtain ⟨k, rfl⟩ := Int.eq_ofNat_of_zero_le (show 0 ≤ c by omega)
          have hk : k < 64 := by omega
          have hw := wrap_shl_one hk
          have hl1 := one_shl_lt hk
          rw [Int.toNat_natCast] at hsn
          obtain ⟨q, HQ⟩ := nm (1 <<< k : Nat)
          rw [HQ.out] at hw hl1 hsn
          have hor := u64_or_nat M q hM hl1
          rw [← hsn] at hor
          have HKK := Lib.hid (HK2.out (by unfold okC; exact decide_eq_true (by omega)))
          clear hb hsn
          go_wp2_with fail
          go_roundw
          case rel => exact ⟨i + 1, by omega, by go_num, by rw [HM2.out], HKK, trivial⟩
          case measure => simp [intOf]; omega
    · obtain rfl : n = i := by omega
      have hB := HGOOD.out HK.out
      rw [HV.out, HE.out] at hB
      rw [HALL.out]
      have HB := Lib.hid hB
      clear hB
      go_wp2_with fail
      go_ret2
      exact ⟨by rw [HB.out.1, HB.out.2]; rfl, bel_refl _⟩

/-- The CPUs of a mask below k. -/
def memL (m k : Nat) : List Nat := (List.range k).filter fun i => m.testBit i
theorem memL_succ (m k : Nat) : memL m (k + 1) = if m.testBit k then memL m k ++ [k] else memL m k := by
  unfold memL
  rw [List.range_succ, List.filter_append]
  by_cases h : m.testBit k = true <;> simp [h]
theorem memL_length (m k : Nat) : (memL m k).length ≤ k := by
  have := List.length_filter_le (fun i => m.testBit i) (List.range k)
  simpa [memL] using this
theorem memL_more (m k : Nat) (hk : ∀ i, k ≤ i → m.testBit i = false) : ∀ j, memL m (k + j) = memL m k
  | 0 => rfl
  | j + 1 => by rw [← Nat.add_assoc, memL_succ, hk (k + j) (by omega)]; exact memL_more m k hk j
theorem memL_end (m k : Nat) (hk : k ≤ 64) (h : m / 2 ^ k = 0) : memL m 64 = memL m k := by
  have h1 : m < 2 ^ k := by
    rcases Nat.lt_or_ge m (2 ^ k) with h2 | h2
    · exact h2
    · have := Nat.div_pos h2 (Nat.pow_pos (by decide)); omega
  have := memL_more m k (fun i hi => Gf.bit_ge h1 hi) (64 - k)
  rwa [show k + (64 - k) = 64 by omega] at this
theorem memL_pre (m k j : Nat) : memL m k <+: memL m (k + j) := by
  induction j with
  | zero => exact List.prefix_refl _
  | succ j ih =>
    rw [← Nat.add_assoc, memL_succ]
    split
    · exact ih.trans (List.prefix_append _ _)
    · exact ih
def members (m : Nat) : List Nat := memL m 64
theorem ints_pre {a b : List Nat} (h : a <+: b) : ints a <+: ints b := List.IsPrefix.map _ h

theorem members_fn (m : Nat) (w : World) :
    Calls Tryd.prog 40 #[.int .u64 m] w fun e w' => e = .returned (.func (.func 61) #[] #[.pointer (some ⟨w.heap.size, 0, none⟩)]) ∧ w.alloc (.cells #[.int .u64 m] 26) = w' := by
  go_enter Tryd.func40, Tryd.ntmps40
  go_wp2
  go_ret
  exact ⟨rfl, rfl⟩

/-- What a round keeps: the iterator's box. -/
def KeepB (B : Nat) (W W' : World) : Prop := W'.cell? ⟨B, 0, none⟩ = W.cell? ⟨B, 0, none⟩ ∧ W'.frozen? ⟨B, 0, none⟩ = W.frozen? ⟨B, 0, none⟩
theorem KeepB.trans {B : Nat} {X Y Z : World} (h : KeepB B X Y) (k : KeepB B Y Z) : KeepB B X Z := ⟨k.1.trans h.1, k.2.trans h.2⟩
/-- What the iterator does to its box. -/
def ClB (B : Nat) (A C : World) : Prop := ∃ v, C = (A.setCell ⟨B, 0, none⟩ v).drew
theorem half_div (m k : Nat) : (m / 2 ^ k) / 2 = m / 2 ^ (k + 1) := by rw [Nat.div_div_eq_div_mul, Nat.pow_succ]

set_option maxRecDepth 100000 in
set_option maxHeartbeats 2000000 in
theorem members_in (n : Nat) (hn : 1 ≤ n) (l B : Nat) (m : Nat) (hm : m < 18446744073709551616) (J Jx : List Int → World → Prop)
    (hC : ∀ t A C, J t A → ClB B A C → J t C)
    (hY : ∀ pre x W, J pre W → pre.length < 64 → YieldAt Fence.wide (n - 1) Tryd.prog l #[.int .i64 x] W fun e W' =>
      (e = .returned (.bool true) ∧ J (pre ++ [x]) W' ∧ KeepB B W W') ∨ (e = .returned (.bool false) ∧ Jx (pre ++ [x]) W'))
    (W : World) (hc : W.cell? ⟨B, 0, none⟩ = some (.int .u64 m)) (hf : W.frozen? ⟨B, 0, none⟩ = false) (h0 : J [] W) :
    CallsIn Fence.wide n Tryd.prog 61 #[.func (.yield l) #[] #[], .pointer (some ⟨B, 0, none⟩)] W fun e W' => (∃ v, e = .returned v) ∧
      ((∃ ys, ys = ints (members m) ∧ J ys W') ∨ (∃ pre, pre <+: ints (members m) ∧ Jx pre W')) := by
  have HC := Lib.hid hC
  have HY := Lib.hid hY
  clear hC hY
  refine callsIn_of_wp Tryd.func61 rfl trivial ?_ rfl
  simp only [Tryd.ntmps61, List.size_toArray, List.length_cons, List.length_nil, Nat.reduceAdd, Nat.reduceSub, Array.replicate_succ, Array.replicate_zero, List.push_toArray, List.append_toArray, List.nil_append, List.cons_append]
  gi_wp2
  gi_loopw [3] (fun vc wr => ∃ k : Nat, k ≤ 64 ∧ vc = .int .i64 (k : Int) ∧ wr.cell? ⟨B, 0, none⟩ = some (.int .u64 ((m / 2 ^ k : Nat) : Int)) ∧ wr.frozen? ⟨B, 0, none⟩ = false ∧ J (ints (memL m k)) wr) (fun vc _ => 64 - (intOf vc).toNat)
  case atStart => exact ⟨0, Nat.zero_le _, rfl, by simpa using hc, hf, h0⟩
  case round =>
    obtain ⟨k, hk, rfl, hcr, hfr, hJ⟩ := hrel
    by_cases hz : m / 2 ^ k = 0
    · have he := memL_end m k hk hz
      rw [hz] at hcr
      have HE := Lib.hid he
      clear he hz
      gi_wp2
      go_end0
      exact ⟨⟨_, rfl⟩, .inl ⟨_, by unfold members; rw [HE.out], hJ⟩⟩
    · have hk64 : k < 64 := by
        rcases Nat.lt_or_ge k 64 with h | h
        · exact h
        · have : m < 2 ^ k := Nat.lt_of_lt_of_le hm (show (2 : Nat) ^ 64 ≤ 2 ^ k from Nat.pow_le_pow_right (by decide) h)
          exact absurd (Nat.div_eq_of_lt this) hz
      have hb0 := and_bit_beq m k hm
      have hhd := half_div m k
      have hms := memL_succ m k
      have hsz : m / 2 ^ k < 18446744073709551616 := Nat.lt_of_le_of_lt (Nat.div_le_self _ _) hm
      have e : ((m : Int) / 2 ^ k) = ((m / 2 ^ k : Nat) : Int) := by simp
      rw [e] at hb0
      clear e
      have hne : (((m / 2 ^ k : Nat) : Int) == 0) = false := beq_false_of_ne (by omega)
      have hne2 : (((m / 2 ^ k : Nat) : Int) != 0) = true := by simp only [bne, hne]; rfl
      have hlen : (ints (memL m k)).length < 64 := by rw [ints_length]; have := memL_length m k; omega
      have hpre : ints (memL m (k + 1)) <+: ints (members m) := ints_pre (by have := memL_pre m (k + 1) (63 - k); rwa [show k + 1 + (63 - k) = 64 by omega] at this)
      have hhi : ((m / 2 ^ k : Nat) : Int) / 2 = ((m / 2 ^ (k + 1) : Nat) : Int) := by rw [← hhd]; omega
      obtain ⟨z, HZ⟩ := nm (m / 2 ^ k)
      obtain ⟨z2, HZ2⟩ := nm (m / 2 ^ (k + 1))
      rw [HZ.out] at hcr hb0 hne hne2 hsz hhi
      rw [HZ2.out] at hhi
      cases hbit : m.testBit k with
      | false =>
        rw [hbit] at hb0 hms
        rw [if_neg (by simp)] at hms
        have HMS := Lib.hid hms
        clear hms hhd hbit hz
        have hcl := HC.out _ wr _ hJ ⟨.int .u64 (z2 : Int), rfl⟩
        rw [← HMS.out] at hcl
        have HCL := Lib.hid hcl
        clear hcl
        gi_wp2
        gi_region
        all_goals
          gi_wp2
          go_roundw
          case rel =>
            refine ⟨k + 1, by omega, by go_num, ?_, ?_, HCL.out⟩
            · rw [HZ2.out]
              simpa using World.cell?_setCell_same' wr ⟨B, 0, none⟩ (.int .u64 (z2 : Int)) (by rw [hcr]; rfl)
            · simpa using hfr
          case measure => simp [intOf]; omega
      | true =>
        rw [hbit] at hb0 hms
        rw [if_pos rfl] at hms
        obtain ⟨fn, tmps, assign, body, hy, hR⟩ := HY.out _ (k : Int) wr hJ hlen
        have hsn : ints (memL m (k + 1)) = ints (memL m k) ++ [(k : Int)] := by rw [hms]; exact ints_snoc _ _
        have HSN := Lib.hid hsn
        have HPRE := Lib.hid hpre
        clear hms hhd hbit hz hsn hpre
        gi_wp2
        refine hR.mono ?_
        rintro e W3 (⟨rfl, hJ3, hk3⟩ | ⟨rfl, hJx3⟩)
        · have hc3 : W3.cell? ⟨B, 0, none⟩ = some (.int .u64 (z : Int)) := hk3.1.trans hcr
          have hf3 : W3.frozen? ⟨B, 0, none⟩ = false := hk3.2.trans hfr
          rw [← HSN.out] at hJ3
          have hcl := HC.out _ W3 _ hJ3 ⟨.int .u64 (z2 : Int), rfl⟩
          have HCL := Lib.hid hcl
          clear hcl hk3 hJ3 hcr hfr hJ
          gi_wp2
          gi_region
          all_goals
            gi_wp2
            go_roundw
            case rel =>
              refine ⟨k + 1, by omega, by go_num, ?_, ?_, HCL.out⟩
              · rw [HZ2.out]
                simpa using World.cell?_setCell_same' W3 ⟨B, 0, none⟩ (.int .u64 (z2 : Int)) (by rw [hc3]; rfl)
              · simpa using hf3
            case measure => simp [intOf]; omega
        · gi_wp2
          refine bodyPost_ret (results_none rfl _ _ _) rfl ?_
          exact ⟨⟨_, rfl⟩, .inr ⟨_, by rw [← HSN.out]; exact HPRE.out, hJx3⟩⟩
theorem members_stops (n : Nat) (hn : 1 ≤ n) (B : Nat) (m : Nat) (hm : m < 18446744073709551616) (w : World) (hc : w.cell? ⟨B, 0, none⟩ = some (.int .u64 m)) (hf : w.frozen? ⟨B, 0, none⟩ = false) :
    SeqStopsC Fence.wide n Tryd.prog 61 #[.pointer (some ⟨B, 0, none⟩)] (fun x : Int => #[Value.int .i64 x]) (KeepB B) (ClB B) (fun xs => xs = ints (members m)) (fun pre => pre <+: ints (members m)) 64 w := by
  intro l J Jx W hW hC hY h0
  have hB := cell_lt hc
  exact members_in n hn l B m hm J Jx hC hY W ((hW.cell (p := ⟨B, 0, none⟩) hB).trans hc) ((hW.frozen (p := ⟨B, 0, none⟩) hB).trans hf) h0

theorem mmembers_any (m : Nat) (hm : m < 18446744073709551616) (w : World) :
    Calls Tryd.prog 17 #[.int .u64 m] w fun e w' => ∃ v, e = .returned v ∧ OwnsI .i64 3 w' w.heap.size v (ints (members m)) ∧ Below w.heap.size w w' := by
  have hbx := cell_new_l w (.int .u64 (m : Int)) 26
  have H := Lib.hid (collect_any 61 #[.pointer (some ⟨w.heap.size, 0, none⟩)] (enters_of Tryd.func61 (by kernel_rfl) rfl) (KeepB w.heap.size) (ClB w.heap.size) (fun xs => xs = ints (members m)) (fun pre => pre <+: ints (members m)) 64 (by decide) w.heap.size
    (w.alloc (.cells #[.int .u64 (m : Int)] 26)) (w.alloc (.cells #[.int .u64 (m : Int)] 26)) (Below.refl _ _) (by simp)
    (members_stops 5 (by omega) w.heap.size m hm _ hbx.1 hbx.2) (fun h k => h.trans k) (fun A C h => ⟨h.cell (p := ⟨w.heap.size, 0, none⟩) (by simp), h.frozen (p := ⟨w.heap.size, 0, none⟩) (by simp)⟩)
    (fun A C ⟨v, hv⟩ => by rw [hv]; exact clOk_setCell (Nat.le_refl _) (by simp) A v))
  clear hbx
  go_enter Tryd.func17, Tryd.ntmps17
  go_wp2_with fail
  refine (members_fn m _).mono ?_
  rintro e w1 ⟨rfl, rfl⟩
  go_wp2_with fail
  refine H.out.mono ?_
  rintro e w2 ⟨v, xs, rfl, rfl, ho, hb⟩
  go_wp2_with fail
  go_ret
  exact ⟨v, rfl, ho.mono (by simp), ((Below.refl _ w).alloc (Nat.le_refl _) _).trans hb⟩

theorem mcount_any (m : Nat) (hm : m < 18446744073709551616) (w : World) :
    Calls Tryd.prog 26 #[.int .u64 m] w fun e w' => e = .returned (.int .i64 ((members m).length : Nat)) ∧ Below w.heap.size w w' := by
  have hln := ints_length (members m)
  obtain ⟨n, HN⟩ := nm (members m).length
  rw [HN.out] at hln ⊢
  have HLN := Lib.hid hln
  clear hln
  go_enter Tryd.func26, Tryd.ntmps26
  go_wp2_with fail
  refine (mmembers_any m hm _).mono ?_
  rintro e w1 ⟨v, rfl, ho, hb⟩
  obtain ⟨a, k, c, rfl, hk, hkc, _, _⟩ := ho.slice
  rw [HLN.out] at hk
  obtain rfl : n = k := hk.symm
  clear ho
  go_wp2_with fail
  go_ret
  exact ⟨rfl, hb⟩
end Go.Proofs.YtjpkldndeakkkaaDoor
