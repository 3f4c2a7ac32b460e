/- The walks of crc.step, rest, bits and Find. -/
import Derived.Test.YtomddpplhllgcaaDoorDam
import Derived.Test.YtomddpplhllgcaaDoorAwake
import Derived.WalkMore
namespace Go.Proofs.YtomddpplhllgcaaDoor
open Go Go.RowKit Go.Shelf
attribute [local go_sem] Oper.semAt_some
attribute [local go_sem] wide_fn

theorem cstep_any (c : Nat) (hc : c < 4294967296) (w : World) :
    Calls Tryd.prog 65 #[.int .u32 c] w fun e w' => e = .returned (.int .u32 ((Gf.step c : Nat) : Int)) ∧ w = w' := by
  have hb : bits BinOp.and IntKind.u32 (c : Int) 1 = ((c % 2 : Nat) : Int) := by
    rw [show (1 : Int) = ((1 : Nat) : Int) from rfl, u32_and_nat _ _ hc (by decide), nat_mask1]
  rcases Nat.mod_two_eq_zero_or_one c with h | h
  · have hs : Gf.step c = c / 2 := by unfold Gf.step; rw [if_neg (by omega)]
    rw [h] at hb
    have HS := Lib.hid hs
    clear hs h
    go_enter Tryd.func65, Tryd.ntmps65
    go_wp2_with fail
    go_ret
    exact ⟨by rw [HS.out]; rfl, rfl⟩
  · have hs : Gf.step c = c / 2 ^^^ 3988292384 := by unfold Gf.step; rw [if_pos h]; rfl
    have hx : bits BinOp.xor IntKind.u32 ((c : Int) / 2) 3988292384 = ((Gf.step c : Nat) : Int) := by
      rw [hs, ← u32_xor_nat (c / 2) 3988292384 (by omega) (by decide), Int.natCast_ediv]; rfl
    rw [h] at hb
    clear hs h
    go_enter Tryd.func65, Tryd.ntmps65
    go_wp2_with fail
    go_ret
    exact ⟨rfl, rfl⟩
theorem rest_any (w : World) (hT : Tab w) :
    Calls Tryd.prog 51 #[] w fun e w' => e = .returned (.int .u32 ((Gf.stepN 32 4294967295 : Nat) : Int)) ∧ Below w.heap.size w w' := by
  have hT1 := hT.keep (bel_alloc w (.cells #[.int .u8 0, .int .u8 0, .int .u8 0, .int .u8 0] 5)) (Nat.le_refl _)
  have hr := reads_lit .u8 w [0, 0, 0, 0] 5 (0, 0) #[.int .u8 0, .int .u8 0, .int .u8 0, .int .u8 0] 4 rfl rfl (by decide)
  have hz : Gf.run 4294967295 [0, 0, 0, 0] = Gf.stepN 32 4294967295 := Gf.run_zeros 4294967295 4
  have HZ := Lib.hid hz
  have HR := Lib.hid hr
  clear hz hr
  go_enter Tryd.func51, Tryd.ntmps51
  go_wp2_with fail
  refine (run_any 4294967295 _ [0, 0, 0, 0] (by decide) (bytes_lit rfl) _ hT1 HR.out).mono ?_
  rintro e w1 ⟨rfl, rfl⟩
  rw [HZ.out]
  obtain ⟨r, HRR⟩ := nm (Gf.stepN 32 4294967295)
  rw [HRR.out]
  go_wp2_with fail
  go_ret
  exact ⟨by rw [HRR.out]; rfl, bel_alloc w _⟩
theorem cbits_any (n : Int) (w : World) :
    Calls Tryd.prog 52 #[.int .i64 n] w fun e w' => e = .returned (.func (.func 64) #[] #[.pointer (some ⟨w.heap.size, 0, none⟩)]) ∧ w.alloc (.cells #[.int .i64 n] 3) = w' := by
  go_enter Tryd.func52, Tryd.ntmps52
  go_wp2
  go_ret
  exact ⟨rfl, rfl⟩

set_option maxRecDepth 100000 in
set_option maxHeartbeats 1000000 in
theorem bits_in (n : Nat) (hn : 1 ≤ n) (l B : Nat) (m : Nat) (hm : m ≤ 65536) (J Jx : List Nat → World → Prop)
    (hY : ∀ (pre : List Nat) (x : Nat) (W : World), J pre W → pre.length < 8 * m → YieldAt Fence.wide (n - 1) Tryd.prog l #[.int .i64 (8 * (m : Int) - 1 - (x : Int)), .int .u32 ((Gf.stepN x Gf.R : Nat) : Int)] W fun e W' =>
      (e = .returned (.bool true) ∧ J (pre ++ [x]) W' ∧ W'.cell? ⟨B, 0, none⟩ = W.cell? ⟨B, 0, none⟩) ∨ (e = .returned (.bool false) ∧ Jx (pre ++ [x]) W'))
    (W : World) (hT : Tab W) (hc : W.cell? ⟨B, 0, none⟩ = some (.int .i64 m)) (hJ : AbidesFrom W.heap.size J) (h0 : J [] W) :
    CallsIn Fence.wide n Tryd.prog 64 #[.func (.yield l) #[] #[], .pointer (some ⟨B, 0, none⟩)] W fun e W' => (∃ v, e = .returned v) ∧
      ((∃ ys, ys = List.range (8 * m) ∧ J ys W') ∨ (∃ pre, pre <+: List.range (8 * m) ∧ Jx pre W')) := by
  have hT1 := hT.keep (bel_alloc W (.cells #[.int .u8 128] 5)) (Nat.le_refl _)
  have hr := reads_lit .u8 W [128] 5 (0, 0) #[.int .u8 128] 1 rfl rfl (by decide)
  have hc1 := cell_alloc_l (.cells #[.int .u8 128] 5) hc
  have h01 := hJ [] W (W.alloc (.cells #[.int .u8 128] 5)) none h0 (World.grownBy_alloc W _ none) (fun r e => by cases e)
  refine callsIn_of_wp Tryd.func64 rfl trivial ?_ rfl
  simp only [Tryd.ntmps64, List.size_toArray, List.length_cons, List.length_nil, Nat.reduceAdd, Nat.reduceSub, Array.replicate_succ, Array.replicate_zero, List.push_toArray, List.append_toArray, List.nil_append, List.cons_append]
  gi_wp2_with fail
  refine (callsIn_wide.2 (linear_any _ [128] (bytes_lit rfl) _ hT1 hr)).mono ?_
  rintro e w1 ⟨rfl, rfl⟩
  rw [aw_l128]
  gi_wp2_with fail
  gi_loopw [3, 4] (fun c i wr => ∃ (d : Nat), d ≤ 8 * m ∧ c = .int .u32 ((Gf.stepN d Gf.R : Nat) : Int) ∧ i = .int .i64 (8 * (m : Int) - 1 - (d : Int)) ∧ J (List.range d) wr ∧ wr.cell? ⟨B, 0, none⟩ = some (.int .i64 m))
    (fun _ i _ => (intOf i + 1).toNat)
  case atStart => exact ⟨0, by omega, rfl, by simp, h01, hc1⟩
  case round =>
    obtain ⟨d, hd, rfl, rfl, hJr, hcr⟩ := hrel
    by_cases hlt : d < 8 * m
    · obtain ⟨fn, tmps, assign, body, hy, hR⟩ := hY (List.range d) d wr hJr (by simp; exact hlt)
      have hs1 : Gf.step (Gf.stepN d Gf.R) = Gf.stepN (d + 1) Gf.R := by rw [Gf.stepN_add]; rfl
      have hsl : Gf.stepN d Gf.R < 4294967296 := Gf.stepN_lt d (by decide)
      have hpre : List.range d ++ [d] <+: List.range (8 * m) := by
        rw [← List.range_succ, show List.range (d + 1) = (List.range (8 * m)).take (d + 1) by rw [List.take_range]; congr 1; omega]
        exact List.take_prefix _ _
      have HPRE := Lib.hid hpre
      obtain ⟨s, HS⟩ := nm (Gf.stepN d Gf.R)
      rw [HS.out] at hs1 hsl hy
      have HS1 := Lib.hid hs1
      rw [HS.out]
      clear hY hs1 hpre h01 hc1 hT1 hr
      gi_wp2_with fail
      refine hR.mono ?_
      rintro e W3 (⟨rfl, hJ3, hk3⟩ | ⟨rfl, hJx3⟩)
      · have hc3 : W3.cell? ⟨B, 0, none⟩ = some (.int .i64 m) := hk3.trans hcr
        gi_wp2_with fail
        refine (callsIn_wide.2 (cstep_any s hsl _)).mono ?_
        rintro e W4 ⟨rfl, rfl⟩
        rw [HS1.out]
        gi_wp2_with fail
        go_roundw
        case rel => exact ⟨d + 1, by omega, rfl, by go_num, by rw [List.range_succ]; exact hJ3, hc3⟩
        case measure => simp [intOf]; omega
      · gi_wp2
        refine bodyPost_ret (results_none rfl _ _ _) rfl ?_
        exact ⟨⟨_, rfl⟩, .inr ⟨_, HPRE.out, hJx3⟩⟩
    · obtain rfl : d = 8 * m := by omega
      gi_wp2
      go_end0
      exact ⟨⟨_, rfl⟩, .inl ⟨_, rfl, hJr⟩⟩
theorem bits_stops (n : Nat) (hn : 1 ≤ n) (B m : Nat) (hm : m ≤ 65536) (w : World) (hT : Tab w) (hc : w.cell? ⟨B, 0, none⟩ = some (.int .i64 m)) :
    SeqStopsK Fence.wide n Tryd.prog 64 #[.pointer (some ⟨B, 0, none⟩)] (fun x : Nat => #[Value.int .i64 (8 * (m : Int) - 1 - (x : Int)), Value.int .u32 ((Gf.stepN x Gf.R : Nat) : Int)]) (fun W W' => W'.cell? ⟨B, 0, none⟩ = W.cell? ⟨B, 0, none⟩)
      (fun xs => xs = List.range (8 * m)) (fun pre => pre <+: List.range (8 * m)) (8 * m) w := by
  intro l J Jx W hW hJ hJx hY h0
  exact bits_in n hn l B m hm J Jx hY W (hT.keep hW (Nat.le_refl _)) ((hW.cell (p := ⟨B, 0, none⟩) (by have := cell_lt hc; exact this)).trans hc) hJ h0
/-- The place that Find holds after some bits. -/
def atOf (m c : Nat) (pre : List Nat) : Int := pre.foldl (fun z d => if Gf.stepN d Gf.R = c then 8 * (m : Int) - 1 - (d : Int) else z) (-1)
theorem atOf_snoc (m c d : Nat) (pre : List Nat) : atOf m c (pre ++ [d]) = if Gf.stepN d Gf.R = c then 8 * (m : Int) - 1 - (d : Int) else atOf m c pre := by simp [atOf, List.foldl_append]
theorem stepR_ne (d : Nat) : Gf.stepN d Gf.R ≠ 0 := fun h => by
  have := Gf.stepN_inj0 d (c := Gf.R) (by decide) h
  revert this; decide
theorem atOf_none (m c : Nat) (pre : List Nat) (h : ∀ d ∈ pre, Gf.stepN d Gf.R ≠ c) : atOf m c pre = -1 := by
  induction pre using Gf.snoc_ind with
  | h0 => rfl
  | hs l x ih =>
    rw [atOf_snoc, if_neg (h x (by simp))]
    exact ih (fun d hd => h d (by simp [hd]))
theorem atOf_zero (m : Nat) (pre : List Nat) : atOf m 0 pre = -1 := atOf_none m 0 pre (fun d _ => stepR_ne d)
def syn (xs : List Nat) : Nat := Gf.run 4294967295 xs ^^^ Gf.stepN 32 4294967295
def findK (xs : List Nat) : Int := if xs.length < 4 ∨ 65536 < xs.length then 0 else max 0 (atOf xs.length (syn xs) (List.range (8 * xs.length)))
def findE (xs : List Nat) : Int := if xs.length < 4 ∨ 65536 < xs.length then 2 else if atOf xs.length (syn xs) (List.range (8 * xs.length)) < 0 then 6 else 0
theorem find_bad (v : Value) (xs : List Nat) (w : World) (hv : Reads .u8 w v xs) (h : xs.length < 4 ∨ 65536 < xs.length) :
    Calls Tryd.prog 33 #[v] w fun e w' => e = .returned (.tuple #[.int .i64 0, .int .i64 2]) ∧ w = w' := by
  obtain ⟨a, cap, rfl, hlc, hcm, hcs⟩ := hv
  clear hcs
  obtain ⟨L, HL⟩ := nm xs.length
  rw [HL.out] at hlc h ⊢
  by_cases h1 : L < 4
  · clear h
    go_enter Tryd.func33, Tryd.ntmps33
    go_wp2
    go_step3
    go_wp2_with fail
    go_ret2
    exact ⟨rfl, rfl⟩
  · have h2 : 65536 < L := by omega
    clear h
    go_enter Tryd.func33, Tryd.ntmps33
    go_wp2
    go_step3
    go_wp2_with fail
    try rw [Exit.noGoto_ret]
    go_ret2
    exact ⟨rfl, rfl⟩
set_option maxRecDepth 100000 in
set_option maxHeartbeats 2000000 in
theorem find_ok (v : Value) (xs : List Nat) (w : World) (hv : Reads .u8 w v xs) (hx : Bytes xs) (hT : Tab w) (h1 : 4 ≤ xs.length) (h2 : xs.length ≤ 65536) :
    Calls Tryd.prog 33 #[v] w fun e w' => e = .returned (.tuple #[.int .i64 (findK xs), .int .i64 (findE xs)]) ∧ Below w.heap.size w w' := by
  have hrun := Gf.run_lt (c := 4294967295) (bs := xs) (by decide) hx
  have hst := Gf.stepN_lt 32 (c := 4294967295) (by decide)
  have hxx := u32_xor_nat _ _ hrun hst
  have hfk : findK xs = max 0 (atOf xs.length (syn xs) (List.range (8 * xs.length))) := by unfold findK; rw [if_neg (by omega)]
  have hfe : findE xs = if atOf xs.length (syn xs) (List.range (8 * xs.length)) < 0 then 6 else 0 := by unfold findE; rw [if_neg (by omega)]
  have hsy : Gf.run 4294967295 xs ^^^ Gf.stepN 32 4294967295 = syn xs := rfl
  rw [hsy] at hxx
  have hra := run_any 4294967295 v xs (by decide) hx w hT hv
  obtain ⟨a, cap, rfl, hlc, hcm, hcs⟩ := hv
  clear hcs hsy
  obtain ⟨m, HL⟩ := nm xs.length
  rw [HL.out] at hlc h1 h2 hra hfk hfe ⊢
  obtain ⟨c, HC⟩ := nm (syn xs)
  rw [HC.out] at hxx hfk hfe
  obtain ⟨r1, HR1⟩ := nm (Gf.run 4294967295 xs)
  rw [HR1.out] at hxx hra hrun
  obtain ⟨r2, HR2⟩ := nm (Gf.stepN 32 4294967295)
  have hre := rest_any w hT
  rw [HR2.out] at hxx hst hre
  have HRA := Lib.hid hra
  have HRE := Lib.hid hre
  have HFK := Lib.hid hfk
  have HFE := Lib.hid hfe
  clear hra hre hfk hfe
  refine (callsIn_wide (n := 6)).1 ?_
  have h6 : 1 ≤ 6 := by omega
  refine callsIn_of_wp_marks Tryd.func33 rfl trivial ?_ rfl
  simp only [Tryd.ntmps33, List.size_toArray, List.length_cons, List.length_nil, Nat.reduceAdd, Nat.reduceSub, Array.replicate_succ, Array.replicate_zero, List.push_toArray, List.append_toArray, List.nil_append, List.cons_append]
  refine wpIn_wide.2 ?_
  go_wp2
  go_step3
  go_wp2_with fail
  refine HRA.out.mono ?_
  rintro e w1 ⟨rfl, rfl⟩
  go_wp2_with fail
  refine HRE.out.mono ?_
  rintro e w1 ⟨rfl, hb1⟩
  go_wp2_with fail
  go_step3
  go_wp2_with fail
  refine (cbits_any _ _).mono ?_
  rintro e w2 ⟨rfl, rfl⟩
  go_wp2_with fail
  have hs1 := hb1.size
  have c1 := cell_new_l w1 (.int .u32 c) 22
  have c2 := cell_new_l (w1.alloc (.cells #[.int .u32 c] 22)) (.int .i64 (-1)) 3
  have c3 := cell_new_l ((w1.alloc (.cells #[.int .u32 c] 22)).alloc (.cells #[.int .i64 (-1)] 3)) (.int .i64 m) 3
  rw [World.size_alloc] at c2
  rw [World.size_alloc, World.size_alloc] at c3
  have d1 : Below w1.heap.size w1 (((w1.alloc (.cells #[.int .u32 c] 22)).alloc (.cells #[.int .i64 (-1)] 3)).alloc (.cells #[.int .i64 m] 3)) := (((Below.refl _ w1).alloc (Nat.le_refl _) _).alloc (by simp) _).alloc (by simp; omega) _
  have hB0 := hb1.trans (d1.mono hs1)
  have hT3 := hT.keep hB0 (Nat.le_refl _)
  have f1 := frozen_alloc_l (.cells #[.int .i64 m] 3) (cell_alloc_l (.cells #[.int .i64 (-1)] 3) c1.1) (frozen_alloc_l (.cells #[.int .i64 (-1)] 3) c1.1 c1.2)
  have f2 := frozen_alloc_l (.cells #[.int .i64 m] 3) c2.1 c2.2
  have g1 := cell_alloc_l (.cells #[.int .i64 m] 3) (cell_alloc_l (.cells #[.int .i64 (-1)] 3) c1.1)
  have g2 := cell_alloc_l (.cells #[.int .i64 m] 3) c2.1
  by_cases hc0 : c = 0
  · subst hc0
    refine (wpIn_wide (n := 6)).1 ?_
    refine wpIn_rangeFunc_ownF rfl h6 (gf := 64) (lb := #[.pointer (some ⟨w1.heap.size + 1 + 1, 0, none⟩)]) rfl trivial (enters_of Tryd.func64 (by kernel_rfl) rfl)
      (bits_stops 5 (by omega) (w1.heap.size + 1 + 1) m h2 _ hT3 c3.1) (fun h k => k.trans h) (fun W l o o' hl ho _ _ => (belowK_b (Nat.le_refl _) W l o o' hl ho ‹_› ‹_›).cell (p := ⟨w1.heap.size + 1 + 1, 0, none⟩) (by simp)) (Below.refl _ _) (fun _ => rfl)
      (fun pre W => (pre = [] ∧ W.cell? ⟨w1.heap.size, 0, none⟩ = some (.int .u32 0) ∧ W.cell? ⟨w1.heap.size + 1, 0, none⟩ = some (.int .i64 (-1))) ∧ Below w.heap.size w W)
      (fun cd _ W => (cd = .exit 0 ∧ W.cell? ⟨w1.heap.size + 1, 0, none⟩ = some (.int .i64 (-1))) ∧ Below w.heap.size w W)
      (OwnFrom.and (Own.from (fun s A B row hs hg hr => ⟨hs.1, cell_kept hs.2.1 hg hr, cell_kept hs.2.2 hg hr⟩) _) (ownFrom_below (Nat.le_refl _) (by simp; omega)))
      (fun cd => OwnFrom.and (Own.from (fun s A B row hs hg hr => ⟨hs.1, cell_kept hs.2 hg hr⟩) _) (ownFrom_below (Nat.le_refl _) (by simp; omega)))
      ⟨⟨rfl, g1, g2⟩, hB0⟩
      (fun x => { tmps := #[.slice a m cap, undef, .int .i64 0, .int .i64 0, .int .i64 m, .pointer (some ⟨w1.heap.size, 0, none⟩), .pointer (some ⟨w1.heap.size + 1, 0, none⟩), .int .i64 (8 * (m : Int) - 1 - (x : Int)), .int .u32 ((Gf.stepN x Gf.R : Nat) : Int), .slice a m cap, .int .i64 m, .int .i64 m,
          .bool (decide ((m : Int) < 4)), .bool (decide ((m : Int) < 4)), .int .i64 m, .bool (decide (65536 < (m : Int))), .bool (decide ((m : Int) < 4) || decide (65536 < (m : Int))), .slice a m cap, .int .u32 r1, .int .u32 r2, .int .u32 0, .int .i64 m,
          .func (.func 64) #[] #[.pointer (some ⟨w1.heap.size + 1 + 1, 0, none⟩)], .int .i64 (8 * (m : Int) - 1 - (x : Int)), .int .u32 ((Gf.stepN x Gf.R : Nat) : Int), undef, undef, undef, undef, undef, undef, undef, undef, undef], defers := [] }) ?assign ?body ?done ?stop
    case assign =>
      intro l x W K hK
      gi_wp2
      exact hK
    case body =>
      rintro l pre x W ⟨⟨rfl, hcc, hca⟩, hB⟩ _
      clear c1 c2 c3 d1 hB0 f1 f2 g1 g2 hT3
      gi_wp2
      exact ⟨KeepsOthers.refl _, ⟨rfl, hca⟩, hB⟩
    case done =>
      rintro D xs W hD rfl ⟨⟨he, _⟩, _⟩ hK
      have := congrArg List.length he
      simp at this
      omega
    case stop =>
      rintro D cd pre W hD hpre ⟨⟨rfl, hca⟩, hB⟩ hK
      clear c1 c2 c3 d1 hB0 f1 f2 g1 g2 hT3
      rw [atOf_zero] at HFK HFE
      refine (wpIn_wide (n := 6)).2 ?_
      go_wp2
      refine ⟨by simp, .inl ⟨_, _, rfl, run_takeDeferred hK, ?_⟩⟩
      refine ⟨.tuple #[.int .i64 0, .int .i64 6], ?_, by rw [HFK.out, HFE.out]; rfl, hB.trans (belowK_b (w := w) (Nat.le_refl _) W D _ _ (by simp at hD; omega) hK rfl rfl)⟩
      simp [results, Tryd.f33, go_sem]
  · refine (wpIn_wide (n := 6)).1 ?_
    refine wpIn_rangeFunc_ownF rfl h6 (gf := 64) (lb := #[.pointer (some ⟨w1.heap.size + 1 + 1, 0, none⟩)]) rfl trivial (enters_of Tryd.func64 (by kernel_rfl) rfl)
      (bits_stops 5 (by omega) (w1.heap.size + 1 + 1) m h2 _ hT3 c3.1) (fun h k => k.trans h) (fun W l o o' hl ho _ _ => (belowK_b (Nat.le_refl _) W l o o' hl ho ‹_› ‹_›).cell (p := ⟨w1.heap.size + 1 + 1, 0, none⟩) (by simp)) (Below.refl _ _) (fun _ => rfl)
      (fun pre W => (W.cell? ⟨w1.heap.size, 0, none⟩ = some (.int .u32 c) ∧ W.cell? ⟨w1.heap.size + 1, 0, none⟩ = some (.int .i64 (atOf m c pre)) ∧ W.frozen? ⟨w1.heap.size + 1, 0, none⟩ = false) ∧ Below w.heap.size w W)
      (fun _ _ _ => False)
      (OwnFrom.and (Own.from (fun s A B row hs hg hr => ⟨cell_kept hs.1 hg hr, cell_kept hs.2.1 hg hr, (frozen_kept hs.2.1 hg hr).trans hs.2.2⟩) _) (ownFrom_below (Nat.le_refl _) (by simp; omega)))
      (fun c => fun s A B row hs hg hr => hs)
      ⟨⟨g1, g2, f2⟩, hB0⟩
      (fun x => { tmps := #[.slice a m cap, undef, .int .i64 0, .int .i64 0, .int .i64 m, .pointer (some ⟨w1.heap.size, 0, none⟩), .pointer (some ⟨w1.heap.size + 1, 0, none⟩), .int .i64 (8 * (m : Int) - 1 - (x : Int)), .int .u32 ((Gf.stepN x Gf.R : Nat) : Int), .slice a m cap, .int .i64 m, .int .i64 m,
          .bool (decide ((m : Int) < 4)), .bool (decide ((m : Int) < 4)), .int .i64 m, .bool (decide (65536 < (m : Int))), .bool (decide ((m : Int) < 4) || decide (65536 < (m : Int))), .slice a m cap, .int .u32 r1, .int .u32 r2, .int .u32 c, .int .i64 m,
          .func (.func 64) #[] #[.pointer (some ⟨w1.heap.size + 1 + 1, 0, none⟩)], .int .i64 (8 * (m : Int) - 1 - (x : Int)), .int .u32 ((Gf.stepN x Gf.R : Nat) : Int), undef, undef, undef, undef, undef, undef, undef, undef, undef], defers := [] }) ?assign ?body ?done ?stop
    case assign =>
      intro l x W K hK
      gi_wp2
      exact hK
    case body =>
      rintro l pre x W ⟨⟨hcc, hca, hfa⟩, hB⟩ _
      have hsn := atOf_snoc m c x pre
      have hcn : ((c : Int) == 0) = false := beq_false_of_ne (by omega)
      clear c1 c2 c3 d1 hB0 f1 f2 g1 g2 hT3
      obtain ⟨sx, HSX⟩ := nm (Gf.stepN x Gf.R)
      obtain ⟨z, HZ⟩ := nm (8 * (m : Int) - 1 - (x : Int))
      rw [HSX.out, HZ.out] at hsn
      rw [HSX.out, HZ.out]
      by_cases hm : sx = c
      · have hbe : ((sx : Int) == (c : Int)) = true := beq_iff_eq.2 (by omega)
        rw [if_pos hm] at hsn
        have HSN := Lib.hid hsn
        clear hsn hm
        gi_wp2
        exact ⟨KeepsOthers.setCell _ _ _, World.cell?_setCell_other _ _ _ _ (by simp), ⟨(World.cell?_setCell_other _ _ _ _ (by simp)).trans hcc, by rw [HSN.out]; exact World.cell?_setCell_same' _ _ _ (by rw [hca]; rfl), by rw [World.frozen?_setCell]; exact hfa⟩, hB.setCell (p := ⟨w1.heap.size + 1, 0, none⟩) (by show _ ≤ w1.heap.size + 1; omega) _⟩
      · have hbe : ((sx : Int) == (c : Int)) = false := beq_false_of_ne (by omega)
        rw [if_neg hm] at hsn
        have HSN := Lib.hid hsn
        clear hsn hm
        gi_wp2
        exact ⟨KeepsOthers.refl _, rfl, ⟨hcc, by rw [HSN.out]; exact hca, hfa⟩, hB⟩
    case done =>
      rintro D xs W hD rfl ⟨⟨hcc, hca, hfa⟩, hB⟩ hK
      clear c1 c2 c3 d1 hB0 f1 f2 g1 g2 hT3
      obtain ⟨at0, HAT⟩ := nm (atOf m c (List.range (8 * m)))
      rw [HAT.out] at hca HFK HFE
      by_cases hneg : at0 < 0
      · go_wp2
        refine ⟨by simp, .inl ⟨_, _, rfl, run_takeDeferred hK, ?_⟩⟩
        refine ⟨.tuple #[.int .i64 0, .int .i64 6], ?_, by rw [HFK.out, HFE.out, if_pos hneg, Int.max_eq_left (by omega)], hB.trans (belowK_b (w := w) (Nat.le_refl _) W D _ _ (by simp at hD; omega) hK rfl rfl)⟩
        simp [results, Tryd.f33, go_sem]
      · have hneg2 : 0 ≤ at0 := by omega
        clear hneg
        go_wp2
        refine ⟨by simp, .inl ⟨_, _, rfl, run_takeDeferred hK, ?_⟩⟩
        refine ⟨.tuple #[.int .i64 at0, .int .i64 0], ?_, by rw [HFK.out, HFE.out, if_neg (by omega), Int.max_eq_right (by omega)], hB.trans (belowK_b (w := w) (Nat.le_refl _) W D _ _ (by simp at hD; omega) hK rfl rfl)⟩
        simp [results, Tryd.f33, go_sem]
    case stop =>
      rintro D c pre W hD hpre hF hK
      exact hF.elim
end Go.Proofs.YtomddpplhllgcaaDoor
