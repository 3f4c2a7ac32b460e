/- The walk of poly.Read. -/
import Derived.Test.YtidkjcflppbpdaaDoorSplitSeq
namespace Go.Proofs.YtidkjcflppbpdaaDoor
open Go Go.RowKit Go.Shelf
attribute [local go_sem] Oper.semAt_some
attribute [local go_sem] wide_fn

theorem findT_found (x : List UInt8) (k : Nat) (h : termB k = x) : ∀ n, k < n → (∀ j, k + 1 ≤ j → j < n → termB j ≠ x) → findT x n = some k
  | n + 1, hk, hn => by
    unfold findT
    by_cases e : n = k
    · subst e; rw [if_pos h]
    · rw [if_neg (hn n (by omega) (by omega))]
      exact findT_found x k h n (by omega) (fun j h1 h2 => hn j h1 (by omega))
theorem findT_none (x : List UInt8) : ∀ n, (∀ j, 0 ≤ j → j < n → termB j ≠ x) → findT x n = none
  | 0, _ => rfl
  | n + 1, hn => by
    unfold findT
    rw [if_neg (hn n (by omega) (by omega))]
    exact findT_none x n (fun j h1 h2 => hn j h1 (by omega))

set_option maxHeartbeats 1000000 in
theorem read_long (s : ByteArray) (hs : 400 < s.size) (w : World) :
    Calls Tryd.prog 25 #[.string s] w fun e w' => e = .returned (.tuple #[.int .u64 (readV s.data.toList), .int .i64 (readE s.data.toList)]) ∧ Below w.heap.size w w' := by
  have hl : 400 < s.data.toList.length := hs
  have hv : readV s.data.toList = 0 := by unfold readV; rw [if_pos hl]
  have he : readE s.data.toList = 3 := by unfold readE; rw [if_pos hl]
  rw [hv, he]
  clear hv he hl
  go_enter Tryd.func25, Tryd.ntmps25
  go_wp2
  go_step3
  go_wp2
  rw [Exit.noGoto_ret]
  go_ret2
  exact ⟨rfl, bel_refl _⟩
set_option maxHeartbeats 1000000 in
theorem read_zero (w : World) :
    Calls Tryd.prog 25 #[.string ⟨#[48]⟩] w fun e w' => e = .returned (.tuple #[.int .u64 0, .int .i64 0]) ∧ Below w.heap.size w w' := by
  go_enter Tryd.func25, Tryd.ntmps25
  go_wp2
  go_step3
  go_wp2
  rw [Exit.noGoto_ret]
  go_ret2
  exact ⟨rfl, bel_refl _⟩

theorem both_alloc {W : World} {a : Addr} {v : Value} (o : Obj) (h : W.cell? a = some v ∧ W.frozen? a = false) : (W.alloc o).cell? a = some v ∧ (W.alloc o).frozen? a = false := ⟨cell_alloc_l o h.1, frozen_alloc_l o h.1 h.2⟩
theorem both_new (W : World) (n : Nat) (v : Value) (t : TypeId) (h : n = W.heap.size) : (W.alloc (.cells #[v] t)).cell? ⟨n, 0, none⟩ = some v ∧ (W.alloc (.cells #[v] t)).frozen? ⟨n, 0, none⟩ = false := by
  subst h; exact cell_new_l W v t
/-- What the variables of Read hold when some words have been read. -/
def RdI (B : Nat) (pre : List (List UInt8)) (W : World) : Prop :=
  ∃ q last : Nat, last ≤ 64 ∧ q < 18446744073709551616 ∧ (∀ ws, readW (pre ++ ws) 0 64 = readW ws q last) ∧ W.cell? ⟨B, 0, none⟩ = some (.int .u64 q) ∧ W.cell? ⟨B + 1, 0, none⟩ = some (.int .i64 last) ∧ W.cell? ⟨B + 2, 0, none⟩ = some (.bool true) ∧
    W.frozen? ⟨B, 0, none⟩ = false ∧ W.frozen? ⟨B + 1, 0, none⟩ = false ∧ W.frozen? ⟨B + 2, 0, none⟩ = false
def RdX (B : Nat) (pre : List (List UInt8)) (W : World) : Prop := (∀ ws, readW (pre ++ ws) 0 64 = none) ∧ W.cell? ⟨B + 2, 0, none⟩ = some (.bool false)

theorem RdI.own (B : Nat) : Own (RdI B) := by
  rintro pre A C row ⟨q, last, h1, h2, h3, c0, c1, c2, f0, f1, f2⟩ hg hr
  exact ⟨q, last, h1, h2, h3, cell_kept c0 hg hr, cell_kept c1 hg hr, cell_kept c2 hg hr, (frozen_kept c0 hg hr).trans f0, (frozen_kept c1 hg hr).trans f1, (frozen_kept c2 hg hr).trans f2⟩
theorem RdI.other {B b : Nat} {pre : List (List UInt8)} {A : World} (v : Value) (h : RdI B pre A) (h0 : b ≠ B) (h1 : b ≠ B + 1) (h2 : b ≠ B + 2) : RdI B pre (A.setCell ⟨b, 0, none⟩ v) := by
  obtain ⟨q, last, a1, a2, a3, c0, c1, c2, f0, f1, f2⟩ := h
  exact ⟨q, last, a1, a2, a3, (World.cell?_setCell_other _ _ _ _ (by simp <;> omega)).trans c0, (World.cell?_setCell_other _ _ _ _ (by simp <;> omega)).trans c1, (World.cell?_setCell_other _ _ _ _ (by simp <;> omega)).trans c2,
    (World.frozen?_setCell _ _ _ _).trans f0, (World.frozen?_setCell _ _ _ _).trans f1, (World.frozen?_setCell _ _ _ _).trans f2⟩

set_option maxRecDepth 100000 in
set_option maxHeartbeats 4000000 in
theorem read_words (s : ByteArray) (hs : s.size ≤ 400) (h0 : s.data.toList ≠ [48]) (w : World) :
    Calls Tryd.prog 25 #[.string s] w fun e w' => e = .returned (.tuple #[.int .u64 (readV s.data.toList), .int .i64 (readE s.data.toList)]) ∧ Below w.heap.size w w' := by
  have hz : (s.toList == (⟨#[48]⟩ : ByteArray).toList) = false := beq_false_of_ne (by rw [ByteArray.toList_eq, ByteArray.toList_eq]; exact h0)
  have hz' : (s.toList == [48]) = false := beq_false_of_ne (by rw [ByteArray.toList_eq]; exact h0)
  have hz'' : ¬ s.toList = [48] := by rw [ByteArray.toList_eq]; exact h0
  have HV0 := Lib.hid (show readV s.data.toList = (readW (spl s.data.toList) 0 64).getD 0 by
    unfold readV; rw [if_neg (show ¬ 400 < s.data.toList.length from Nat.not_lt.2 hs), if_neg h0])
  have HE0 := Lib.hid (show readE s.data.toList = if (readW (spl s.data.toList) 0 64).isSome then 0 else 30 by
    unfold readE; rw [if_neg (show ¬ 400 < s.data.toList.length from Nat.not_lt.2 hs), if_neg h0])
  clear h0
  refine (callsIn_wide (n := 6)).1 ?_
  have h6 : 1 ≤ 6 := by omega
  refine callsIn_of_wp_marks Tryd.func25 rfl trivial ?_ rfl
  simp only [Tryd.ntmps25, List.size_toArray, List.length_cons, List.length_nil, Nat.reduceAdd, Nat.reduceSub, Array.replicate_succ, Array.replicate_zero, List.push_toArray, List.append_toArray, List.nil_append, List.cons_append]
  refine wpIn_wide.2 ?_
  go_wp2
  go_step3
  go_wp2_with fail
  go_step3
  go_wp2_with fail
  refine (SplitSeq_any s _ _).mono ?_
  rintro e w1 ⟨rfl, rfl⟩
  go_wp2_with fail
  have g0 := both_alloc (.cells #[.int .i64 0] 3) (both_alloc (.cells #[.string ⟨#[43]⟩] 9) (both_alloc (.cells #[.string s] 9) (both_alloc (.cells #[.bool true] 4) (both_alloc (.cells #[.int .i64 64] 3) (both_new w w.heap.size (.int .u64 0) 22 rfl)))))
  have g1 := both_alloc (.cells #[.int .i64 0] 3) (both_alloc (.cells #[.string ⟨#[43]⟩] 9) (both_alloc (.cells #[.string s] 9) (both_alloc (.cells #[.bool true] 4) (both_new (w.alloc (.cells #[.int .u64 0] 22)) (w.heap.size + 1) (.int .i64 64) 3 (by simp)))))
  have g2 := both_alloc (.cells #[.int .i64 0] 3) (both_alloc (.cells #[.string ⟨#[43]⟩] 9) (both_alloc (.cells #[.string s] 9) (both_new ((w.alloc (.cells #[.int .u64 0] 22)).alloc (.cells #[.int .i64 64] 3)) (w.heap.size + 2) (.bool true) 4 (by simp))))
  have g3 := both_alloc (.cells #[.int .i64 0] 3) (both_alloc (.cells #[.string ⟨#[43]⟩] 9) (both_new (((w.alloc (.cells #[.int .u64 0] 22)).alloc (.cells #[.int .i64 64] 3)).alloc (.cells #[.bool true] 4)) (w.heap.size + 3) (.string s) 9 (by simp)))
  have g4 := both_alloc (.cells #[.int .i64 0] 3) (both_new ((((w.alloc (.cells #[.int .u64 0] 22)).alloc (.cells #[.int .i64 64] 3)).alloc (.cells #[.bool true] 4)).alloc (.cells #[.string s] 9)) (w.heap.size + 4) (.string ⟨#[43]⟩) 9 (by simp))
  have g5 := both_new (((((w.alloc (.cells #[.int .u64 0] 22)).alloc (.cells #[.int .i64 64] 3)).alloc (.cells #[.bool true] 4)).alloc (.cells #[.string s] 9)).alloc (.cells #[.string ⟨#[43]⟩] 9)) (w.heap.size + 5) (.int .i64 0) 3 (by simp)
  have hB0 : Below w.heap.size w ((((((w.alloc (.cells #[.int .u64 0] 22)).alloc (.cells #[.int .i64 64] 3)).alloc (.cells #[.bool true] 4)).alloc (.cells #[.string s] 9)).alloc (.cells #[.string ⟨#[43]⟩] 9)).alloc (.cells #[.int .i64 0] 3)) := ((((((Below.refl _ w).alloc (by first | exact Nat.le_refl _ | (simp only [World.size_alloc]; omega)) (.cells #[.int .u64 0] 22)).alloc (by first | exact Nat.le_refl _ | (simp only [World.size_alloc]; omega)) (.cells #[.int .i64 64] 3)).alloc (by first | exact Nat.le_refl _ | (simp only [World.size_alloc]; omega)) (.cells #[.bool true] 4)).alloc (by first | exact Nat.le_refl _ | (simp only [World.size_alloc]; omega)) (.cells #[.string s] 9)).alloc (by first | exact Nat.le_refl _ | (simp only [World.size_alloc]; omega)) (.cells #[.string ⟨#[43]⟩] 9)).alloc (by first | exact Nat.le_refl _ | (simp only [World.size_alloc]; omega)) (.cells #[.int .i64 0] 3)
  have hsz : ((((((w.alloc (.cells #[.int .u64 0] 22)).alloc (.cells #[.int .i64 64] 3)).alloc (.cells #[.bool true] 4)).alloc (.cells #[.string s] 9)).alloc (.cells #[.string ⟨#[43]⟩] 9)).alloc (.cells #[.int .i64 0] 3)).heap.size = w.heap.size + 6 := by simp
  obtain ⟨W0, HW0⟩ := nm ((((((w.alloc (.cells #[.int .u64 0] 22)).alloc (.cells #[.int .i64 64] 3)).alloc (.cells #[.bool true] 4)).alloc (.cells #[.string s] 9)).alloc (.cells #[.string ⟨#[43]⟩] 9)).alloc (.cells #[.int .i64 0] 3))
  rw [HW0.out] at g0 g1 g2 g3 g4 g5 hB0 hsz ⊢
  refine (wpIn_wide (n := 6)).1 ?_
  refine wpIn_rangeFunc_cl rfl h6 (gf := 57) (lb := #[.pointer (some ⟨w.heap.size + 1 + 1 + 1 + 1, 0, none⟩), .pointer (some ⟨w.heap.size + 1 + 1 + 1, 0, none⟩), .pointer (some ⟨w.heap.size + 1 + 1 + 1 + 2, 0, none⟩)]) rfl trivial (enters_of Tryd.func57 (by kernel_rfl) rfl)
    (split_stops 5 (by omega) (w.heap.size + 3) s (by omega) W0 g3.1 g3.2 g4.1 g5.1) (cl_setCell (w.heap.size + 3)) (fun h k => h.trans k)
    (fun W l o o' hl ho hc hw => fun b h1 h2 => ⟨(belowK_b (Nat.le_refl _) W l o o' hl ho hc hw).cell (p := ⟨b, 0, none⟩) (by show b < _; omega), (belowK_b (Nat.le_refl _) W l o o' hl ho hc hw).frozen (p := ⟨b, 0, none⟩) (by show b < _; omega)⟩) (Below.refl _ _) (fun _ => rfl)
    (fun pre W => RdI w.heap.size pre W ∧ Below w.heap.size w W)
    (fun c pre W => (c = .exit 1 ∧ RdX w.heap.size pre W) ∧ Below w.heap.size w W)
    (OwnFrom.and (Own.from (RdI.own _) _) (ownFrom_below (Nat.le_refl _) (by omega)))
    (fun c => OwnFrom.and (Own.from (fun t A C row hs hg hr => ⟨hs.1, hs.2.1, cell_kept hs.2.2 hg hr⟩) _) (ownFrom_below (Nat.le_refl _) (by omega)))
    (by rintro t A C ⟨h1, h2⟩ ⟨v, rfl⟩; exact ⟨h1.other v (by omega) (by omega) (by omega), h2.setCell (p := ⟨w.heap.size + 3, 0, none⟩) (by show w.heap.size ≤ w.heap.size + 3; omega) _⟩)
    ⟨⟨0, 64, Nat.le_refl _, by decide, fun _ => rfl, g0.1, g1.1, g2.1, g0.2, g1.2, g2.2⟩, hB0⟩
    (fun x => { tmps := #[.string s, undef, .int .u64 0, .int .i64 0, .pointer (some ⟨w.heap.size, 0, none⟩), .pointer (some ⟨w.heap.size + 1, 0, none⟩), .pointer (some ⟨w.heap.size + 1 + 1, 0, none⟩), .string (bstr x), undef, .bool (decide (400 < (s.size : Int))), .string s, .int .i64 s.size, .bool (decide (400 < (s.size : Int))), .bool false, .string s, .bool false, .string s, .func (.func 57) #[] #[.pointer (some ⟨w.heap.size + 1 + 1 + 1 + 1, 0, none⟩), .pointer (some ⟨w.heap.size + 1 + 1 + 1, 0, none⟩), .pointer (some ⟨w.heap.size + 1 + 1 + 1 + 2, 0, none⟩)], .string (bstr x), undef, undef, undef, undef, undef, undef, undef, undef, undef, undef, undef, undef, undef, undef, undef, undef, undef, undef], defers := [] }) ?assign ?body ?done ?stop
  case assign =>
    intro l x W K hK
    gi_wp2
    exact hK
  case body =>
    rintro l pre x W ⟨⟨q, last, hl64, hq, hrw, c0, c1, c2, f0, f1, f2⟩, hB⟩ _
    clear g0 g1 g2 g3 g4 g5 hB0 HW0
    gi_wp2
    gi_loopw [8] (fun vi wr => ∃ k : Nat, k ≤ last ∧ vi = .int .i64 ((k : Int) - 1) ∧ Hid (∀ j, k ≤ j → j < last → termB j ≠ x) ∧ W = wr) (fun vi _ => (intOf vi + 1).toNat)
    case atStart => exact ⟨last, Nat.le_refl _, rfl, Lib.hid (fun j h1 h2 => absurd h2 (by omega)), rfl⟩
    case round =>
      obtain ⟨k, hk, rfl, HN, rfl⟩ := hrel
      have HRW := Lib.hid hrw
      clear hrw
      cases k with
      | zero =>
        have hf := findT_none x last HN.out
        have HX := Lib.hid (show ∀ ws, readW ((pre ++ [x]) ++ ws) 0 64 = none from fun ws => by
          rw [List.append_assoc, HRW.out]
          show (match findT x last with | some i => readW ws (q ||| 1 <<< i) i | none => none) = none
          rw [hf])
        clear hf
        gi_wp2
        exact ⟨(KeepsOthers.setCell _ _ _).from _, ⟨rfl, HX.out, World.cell?_setCell_same' _ _ _ (by rw [c2]; rfl)⟩, hB.setCell (p := ⟨w.heap.size + 2, 0, none⟩) (by show w.heap.size ≤ w.heap.size + 2; omega) _⟩
      | succ k =>
        have hk64 : k < 64 := by omega
        have ht := fun W => term_any k hk64 W
        have heq : ((bstr (termB k)).toList == (bstr x).toList) = decide (termB k = x) := by
          rw [ByteArray.toList_eq, ByteArray.toList_eq, show (bstr (termB k)).data.toList = termB k by simp [bstr], show (bstr x).data.toList = x by simp [bstr]]
          by_cases h : termB k = x
          · rw [h]; simp
          · rw [decide_eq_false h]; exact beq_false_of_ne h
        obtain ⟨T, HT⟩ := nm (bstr (termB k))
        simp only [HT.out] at ht
        rw [HT.out] at heq
        have HTX := Lib.hid ht
        clear ht
        obtain ⟨xs, HXS⟩ := nm (bstr x)
        rw [HXS.out] at heq ⊢
        cases hd : decide (termB k = x) with
        | true =>
          rw [hd] at heq
          have hf := findT_found x k (of_decide_eq_true hd) last (by omega) HN.out
          have hsh := wrap_shl_one hk64
          have hol := one_shl_lt hk64
          have hor := u64_or_nat q _ hq hol
          have hq2 : q ||| 1 <<< k < 18446744073709551616 := Nat.or_lt_two_pow (n := 64) hq hol
          have HX := Lib.hid (show ∀ ws, readW ((pre ++ [x]) ++ ws) 0 64 = readW ws (q ||| 1 <<< k) k from fun ws => by
            rw [List.append_assoc, HRW.out]
            show (match findT x last with | some i => readW ws (q ||| 1 <<< i) i | none => none) = _
            rw [hf])
          obtain ⟨X, HXX⟩ := nm (1 <<< k)
          obtain ⟨q2, HQ2⟩ := nm (q ||| X)
          rw [HXX.out, HQ2.out] at hor hq2 HX
          rw [HXX.out] at hsh
          clear hd hf hol
          gi_wp2_with (gi_at_call 42; refine (callsIn_wide.2 (HTX.out _)).mono ?_; rintro e W9 ⟨rfl, rfl⟩)
          have fin : KeepsFrom W0.heap.size W ((W.setCell ⟨w.heap.size, 0, none⟩ (.int .u64 (q2 : Int))).setCell ⟨w.heap.size + 1, 0, none⟩ (.int .i64 (k : Int))).drew ∧ KeepBox (w.heap.size + 3) W ((W.setCell ⟨w.heap.size, 0, none⟩ (.int .u64 (q2 : Int))).setCell ⟨w.heap.size + 1, 0, none⟩ (.int .i64 (k : Int))).drew ∧
              RdI w.heap.size (pre ++ [x]) ((W.setCell ⟨w.heap.size, 0, none⟩ (.int .u64 (q2 : Int))).setCell ⟨w.heap.size + 1, 0, none⟩ (.int .i64 (k : Int))).drew ∧ Below w.heap.size w ((W.setCell ⟨w.heap.size, 0, none⟩ (.int .u64 (q2 : Int))).setCell ⟨w.heap.size + 1, 0, none⟩ (.int .i64 (k : Int))).drew := by
            refine ⟨(((KeepsOthers.setCell _ _ _).trans (KeepsOthers.setCell _ _ _)).trans (KeepsOthers.drew _)).from _, fun b h1 h2 => ⟨(World.cell?_setCell_other _ _ _ _ (by simp <;> omega)).trans (World.cell?_setCell_other _ _ _ _ (by simp <;> omega)), (World.frozen?_setCell _ _ _ _).trans (World.frozen?_setCell _ _ _ _)⟩,
              ⟨q2, k, by omega, hq2, HX.out, ?_, ?_, ?_, ?_, ?_, ?_⟩, ((hB.setCell (p := ⟨w.heap.size, 0, none⟩) (Nat.le_refl _) _).setCell (p := ⟨w.heap.size + 1, 0, none⟩) (by show w.heap.size ≤ w.heap.size + 1; omega) _).drew⟩
            · exact (World.cell?_setCell_other _ _ _ _ (by simp)).trans (World.cell?_setCell_same' _ _ _ (by rw [c0]; rfl))
            · exact World.cell?_setCell_same' _ _ _ (by rw [World.cell?_setCell_other _ _ _ _ (by simp), c1]; rfl)
            · exact ((World.cell?_setCell_other _ _ _ _ (by simp)).trans (World.cell?_setCell_other _ _ _ _ (by simp))).trans c2
            · exact ((World.frozen?_setCell _ _ _ _).trans (World.frozen?_setCell _ _ _ _)).trans f0
            · exact ((World.frozen?_setCell _ _ _ _).trans (World.frozen?_setCell _ _ _ _)).trans f1
            · exact ((World.frozen?_setCell _ _ _ _).trans (World.frozen?_setCell _ _ _ _)).trans f2
          gi_region
          all_goals
            gi_wp2
            exact fin
        | false =>
          rw [hd] at heq
          have HD := Lib.hid (of_decide_eq_false hd)
          clear hd
          gi_wp2_with (gi_at_call 42; refine (callsIn_wide.2 (HTX.out _)).mono ?_; rintro e W9 ⟨rfl, rfl⟩)
          go_roundw
          case rel =>
            refine ⟨k, by omega, rfl, Lib.hid (fun j h1 h2 => ?_), trivial⟩
            by_cases e : j = k
            · rw [e]; exact HD.out
            · exact HN.out j (by omega) h2
          case measure => simp [intOf]
  case done =>
    rintro D xs W hD rfl ⟨⟨q, last, hl64, hq, hrw, c0, c1, c2, f0, f1, f2⟩, hB⟩ hK
    have hr := hrw []
    rw [List.append_nil] at hr
    have hv : readV s.data.toList = q := by rw [HV0.out, hr]; rfl
    have he : readE s.data.toList = 0 := by rw [HE0.out, hr]; rfl
    have HV := Lib.hid hv
    have HE := Lib.hid he
    clear g0 g1 g2 g3 g4 g5 hB0 HW0 hr hrw hv he HV0 HE0
    go_wp2
    rw [Exit.noGoto_ret]
    refine ⟨by simp, .inl ⟨_, _, rfl, run_takeDeferred hK, ?_⟩⟩
    refine ⟨.tuple #[.int .u64 (q : Int), .int .i64 0], ?_, by rw [HV.out, HE.out]; try rfl, hB.trans (belowK_b (w := w) (Nat.le_refl _) W D _ _ (by omega) hK rfl rfl)⟩
    simp [results, Tryd.f25, go_sem]
  case stop =>
    rintro D c pre W hD hpre ⟨⟨rfl, hx, c2⟩, hB⟩ hK
    obtain ⟨t, ht⟩ := hpre
    have hr := hx t
    rw [ht] at hr
    have hv : readV s.data.toList = 0 := by rw [HV0.out, hr]; rfl
    have he : readE s.data.toList = 30 := by rw [HE0.out, hr]; rfl
    have HV := Lib.hid hv
    have HE := Lib.hid he
    clear g0 g1 g2 g3 g4 g5 hB0 HW0 hr hx hv he HV0 HE0 ht
    refine (wpIn_wide (n := 6)).2 ?_
    go_wp2
    rw [Exit.noGoto_ret]
    refine ⟨by simp, .inl ⟨_, _, rfl, run_takeDeferred hK, ?_⟩⟩
    refine ⟨.tuple #[.int .u64 0, .int .i64 30], ?_, by rw [HV.out, HE.out]; try rfl, hB.trans (belowK_b (w := w) (Nat.le_refl _) W D _ _ (by omega) hK rfl rfl)⟩
    simp [results, Tryd.f25, go_sem]
theorem read_any (s : ByteArray) (w : World) :
    Calls Tryd.prog 25 #[.string s] w fun e w' => e = .returned (.tuple #[.int .u64 (readV s.data.toList), .int .i64 (readE s.data.toList)]) ∧ Below w.heap.size w w' := by
  by_cases h : s.size ≤ 400
  · by_cases h0 : s.data.toList = [48]
    · have hs : s = ⟨#[48]⟩ := by
        apply ByteArray.ext
        apply Array.ext'
        exact h0
      subst hs
      exact read_zero w
    · exact read_words s h h0 w
  · exact read_long s (by omega) w
end Go.Proofs.YtidkjcflppbpdaaDoor
