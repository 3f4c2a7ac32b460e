/- The walks of poly.Mul, Gcd. -/
import Derived.Test.YtidkjcflppbpdaaDoorPower
import Derived.Test.YtidkjcflppbpdaaDoorReads
namespace Go.Proofs.YtidkjcflppbpdaaDoor
open Go Go.RowKit Go.Shelf
attribute [local go_sem] Oper.semAt_some
attribute [local go_sem] wide_fn

/-- What the product's loop holds after some exponents. -/
def mulF (a : Nat) (pre : List (Fin 64)) : Nat := pre.foldl (fun o x => o ^^^ (a <<< x.val) % 18446744073709551616) 0
theorem mulF_snoc (a : Nat) (pre : List (Fin 64)) (x : Fin 64) : mulF a (pre ++ [x]) = mulF a pre ^^^ (a <<< x.val) % 18446744073709551616 := by simp [mulF, List.foldl_append]
theorem mulF_lt (a : Nat) (pre : List (Fin 64)) : mulF a pre < 18446744073709551616 := by
  induction pre using Gf.snoc_ind with
  | h0 => show 0 < _; decide
  | hs l x ih => rw [mulF_snoc]; exact Nat.xor_lt_two_pow (n := 64) ih (Nat.mod_lt _ (by decide))
theorem mulF_foldl (a : Nat) (l : List (Fin 64)) : ∀ c, l.foldl (fun o x => o ^^^ (a <<< x.val) % 18446744073709551616) c = c ^^^ mulF a l := by
  induction l with
  | nil => intro c; simp [mulF]
  | cons x l ih =>
    intro c
    have h := ih (0 ^^^ (a <<< x.val) % 18446744073709551616)
    rw [List.foldl_cons, ih]
    show _ = c ^^^ l.foldl _ (0 ^^^ (a <<< x.val) % 18446744073709551616)
    rw [h, Nat.zero_xor, Nat.xor_assoc]
theorem mulF_expo (a b : Nat) (ha : a ≠ 0) (h : Gf.plen a + Gf.plen b ≤ 65) : ∀ k, k ≤ 64 → mulF a (expo b k) = Gf.pmulN a b k := by
  intro k
  induction k with
  | zero => intro _; rfl
  | succ k ih =>
    intro hk
    rw [expo]
    by_cases hb : b.testBit k = true
    · rw [dif_pos ⟨by omega, hb⟩]
      show (expo b k).foldl _ (0 ^^^ (a <<< k) % 18446744073709551616) = _
      have hkb := Gf.lt_plen_of_bit hb
      have hlt : a <<< k < 18446744073709551616 := lt64_of_plen (by rw [Gf.plen_shl ha]; omega)
      rw [mulF_foldl, ih (by omega), Nat.zero_xor, Nat.mod_eq_of_lt hlt, Nat.xor_comm]
      rw [Gf.pmulN, if_pos hb]
    · rw [dif_neg (fun h => hb h.2), ih (by omega)]
      rw [Gf.pmulN, if_neg hb]; simp
theorem bel_alloc' (w : World) (o : Obj) : Below w.heap.size w (w.alloc o) := (bel_refl _).alloc (Nat.le_refl _) _
set_option maxRecDepth 100000 in
set_option maxHeartbeats 1000000 in
theorem iter_inK (n : Nat) (hn : 1 ≤ n) (l B : Nat) (p : Nat) (hp : p < 18446744073709551616) (J Jx : List (Fin 64) → World → Prop)
    (hY : ∀ pre x W, J pre W → pre.length < 64 → YieldAt Fence.wide (n - 1) Tryd.prog l #[.int .i64 (x.val : Int)] W fun e W' =>
      (e = .returned (.bool true) ∧ J (pre ++ [x]) W' ∧ W'.cell? ⟨B, 0, none⟩ = W.cell? ⟨B, 0, none⟩) ∨ (e = .returned (.bool false) ∧ Jx (pre ++ [x]) W'))
    (W : World) (hc : W.cell? ⟨B, 0, none⟩ = some (.int .u64 p)) (h0 : J [] W) :
    CallsIn Fence.wide n Tryd.prog 45 #[.func (.yield l) #[] #[], .pointer (some ⟨B, 0, none⟩)] W fun e W' => (∃ v, e = .returned v) ∧
      ((∃ ys, ys = expo p 64 ∧ J ys W') ∨ (∃ pre, pre <+: expo p 64 ∧ Jx pre W')) := by
  refine callsIn_of_wp Tryd.func45 rfl trivial ?_ rfl
  simp only [Tryd.ntmps45, List.size_toArray, List.length_cons, List.length_nil, Nat.reduceAdd, Nat.reduceSub, Array.replicate_succ, Array.replicate_zero, List.push_toArray, List.append_toArray, List.nil_append, List.cons_append]
  gi_wp2
  gi_loopw [3] (fun i wr => ∃ (k : Nat) (pre : List (Fin 64)), k ≤ 64 ∧ i = .int .i64 ((k : Int) - 1) ∧ Hid (expo p 64 = pre ++ expo p k) ∧ pre.length + k ≤ 64 ∧ J pre wr ∧ wr.cell? ⟨B, 0, none⟩ = some (.int .u64 p))
    (fun i _ => (intOf i + 1).toNat)
  case atStart => exact ⟨64, [], by omega, rfl, Lib.hid rfl, by simp, h0, hc⟩
  case round =>
    obtain ⟨k, pre, hk, rfl, He, hl, hJ, hcr⟩ := hrel
    cases k with
    | zero =>
      gi_wp2
      go_end0
      exact ⟨⟨_, rfl⟩, .inl ⟨pre, by rw [He]; simp [expo], hJ⟩⟩
    | succ k =>
      have hbb := and_bit_beq p k hp
      by_cases hb : p.testBit k = true
      · rw [hb] at hbb
        have hx : expo p (k + 1) = ⟨k, by omega⟩ :: expo p k := by rw [expo, dif_pos ⟨by omega, hb⟩]
        have Hx := Lib.hid hx
        obtain ⟨fn, tmps, assign, body, hy, hR⟩ := hY pre ⟨k, by omega⟩ wr hJ (by omega)
        dsimp only at hy
        clear hY hx hb
        gi_wp2
        refine hR.mono ?_
        rintro e W3 (⟨rfl, hJ3, hk3⟩ | ⟨rfl, hJx3⟩)
        · have hc3 : W3.cell? ⟨B, 0, none⟩ = some (.int .u64 p) := hk3.trans hcr
          gi_wp2
          go_roundw
          case rel => exact ⟨k, pre ++ [⟨k, by omega⟩], by omega, rfl, Lib.hid (by rw [He, Hx.out]; simp), by simp; omega, hJ3, hc3⟩
          case measure => simp [intOf]
        · gi_wp2
          refine bodyPost_ret (results_none rfl _ _ _) rfl ?_
          exact ⟨⟨_, rfl⟩, .inr ⟨pre ++ [⟨k, by omega⟩], ⟨expo p k, by rw [He, Hx.out]; simp⟩, hJx3⟩⟩
      · have hb' : p.testBit k = false := by simpa using hb
        rw [hb'] at hbb
        have hx : expo p (k + 1) = expo p k := by rw [expo, dif_neg (fun h => hb h.2)]
        have Hx := Lib.hid hx
        clear hY hx hb hb'
        gi_wp2
        go_roundw
        case rel => exact ⟨k, pre, by omega, rfl, Lib.hid (by rw [He, Hx.out]), by omega, hJ, hcr⟩
        case measure => simp [intOf]
theorem iter_stopsK (n : Nat) (hn : 1 ≤ n) (B p : Nat) (hp : p < 18446744073709551616) (w : World) (hc : w.cell? ⟨B, 0, none⟩ = some (.int .u64 p)) :
    SeqStopsK Fence.wide n Tryd.prog 45 #[.pointer (some ⟨B, 0, none⟩)] (fun x : Fin 64 => #[Value.int .i64 (x.val : Int)]) (fun W W' => W'.cell? ⟨B, 0, none⟩ = W.cell? ⟨B, 0, none⟩)
      (fun xs => xs = expo p 64) (fun pre => pre <+: expo p 64) 64 w := by
  intro l J Jx W hW hJ hJx hY h0
  exact iter_inK n hn l B p hp J Jx hY W ((hW.cell (p := ⟨B, 0, none⟩) (by have := cell_lt hc; exact this)).trans hc) h0
def mulV (a b : Nat) : Nat := if a = 0 ∨ b = 0 then 0 else if 65 < Gf.plen a + Gf.plen b then 0 else Gf.pmul a b
def mulE (a b : Nat) : Int := if a = 0 ∨ b = 0 then 0 else if 65 < Gf.plen a + Gf.plen b then 3 else 0

set_option maxRecDepth 100000 in
set_option maxHeartbeats 2000000 in
theorem mul_any (a b : Nat) (ha : a < 18446744073709551616) (hb : b < 18446744073709551616) (w : World) :
    Calls Tryd.prog 16 #[.int .u64 a, .int .u64 b] w fun e w' => e = .returned (.tuple #[.int .u64 (mulV a b), .int .i64 (mulE a b)]) ∧ Below w.heap.size w w' := by
  by_cases h0 : a = 0 ∨ b = 0
  · unfold mulV mulE
    rw [if_pos h0, if_pos h0]
    by_cases ha0 : a = 0
    · subst ha0
      go_enter Tryd.func16, Tryd.ntmps16
      go_wp2_with fail
      go_ret2
      exact ⟨rfl, (bel_refl w).alloc (Nat.le_refl _) _⟩
    · have hb0 : b = 0 := h0.resolve_left ha0
      subst hb0
      have hae : ((a : Int) == 0) = false := beq_false_of_ne (by omega)
      clear h0
      go_enter Tryd.func16, Tryd.ntmps16
      go_wp2_with fail
      go_ret2
      exact ⟨rfl, (bel_refl w).alloc (Nat.le_refl _) _⟩
  · have ha0 : a ≠ 0 := fun h => h0 (.inl h)
    have hb0 : b ≠ 0 := fun h => h0 (.inr h)
    have hae : ((a : Int) == 0) = false := beq_false_of_ne (by omega)
    have hbe : ((b : Int) == 0) = false := beq_false_of_ne (by omega)
    have hda := degree_any a ha
    have hdb := degree_any b hb
    have hla := plen_le64 ha
    have hlb := plen_le64 hb
    have hvE : mulE a b = if 65 < Gf.plen a + Gf.plen b then 3 else 0 := by unfold mulE; rw [if_neg h0]
    have hvV : mulV a b = if 65 < Gf.plen a + Gf.plen b then 0 else Gf.pmul a b := by unfold mulV; rw [if_neg h0]
    have hex := mulF_expo a b ha0
    obtain ⟨pa, HPA⟩ := nm (Gf.plen a)
    obtain ⟨pb, HPB⟩ := nm (Gf.plen b)
    rw [HPA.out] at hda hla hvE hvV hex
    rw [HPB.out] at hdb hlb hvE hvV hex
    have HDA := Lib.hid hda
    have HDB := Lib.hid hdb
    have HVE := Lib.hid hvE
    have HVV := Lib.hid hvV
    have HEX := Lib.hid hex
    clear hda hdb h0 hvE hvV hex
    by_cases hlong : 65 < pa + pb
    · rw [if_pos hlong] at HVE HVV
      go_enter Tryd.func16, Tryd.ntmps16
      go_wp2_with fail
      refine (HDA.out _).mono ?_
      rintro e w1 ⟨rfl, hb1⟩
      have hB1 := (bel_alloc' w (.cells #[.int .u64 a] 22)).trans (hb1.mono (by simp))
      go_wp2_with fail
      refine (HDB.out _).mono ?_
      rintro e w2 ⟨rfl, hb2⟩
      have hB2 := hB1.trans (hb2.mono hB1.size)
      go_wp2_with fail
      go_ret2
      exact ⟨by rw [HVE.out, HVV.out]; rfl, hB2⟩
    · rw [if_neg hlong] at HVE HVV
      have hle : pa + pb ≤ 65 := by omega
      refine (callsIn_wide (n := 6)).1 ?_
      have h6 : 1 ≤ 6 := by omega
      refine callsIn_of_wp_marks Tryd.func16 rfl trivial ?_ rfl
      simp only [Tryd.ntmps16, List.size_toArray, List.length_cons, List.length_nil, Nat.reduceAdd, Nat.reduceSub, Array.replicate_succ, Array.replicate_zero, List.push_toArray, List.append_toArray, List.nil_append, List.cons_append]
      refine wpIn_wide.2 ?_
      go_wp2_with fail
      refine (HDA.out _).mono ?_
      rintro e w1 ⟨rfl, hb1⟩
      have hB1 := (bel_alloc' w (.cells #[.int .u64 a] 22)).trans (hb1.mono (by simp))
      go_wp2_with fail
      refine (HDB.out _).mono ?_
      rintro e w2 ⟨rfl, hb2⟩
      have hB2 := hB1.trans (hb2.mono hB1.size)
      have hbb := hb1.trans (hb2.mono hb1.size)
      have cA0 := cell_keep hbb (cell_new_l w (.int .u64 a) 22).1 (by simp)
      have hsw : w.heap.size < w2.heap.size := by have := hbb.size; simp at this; omega
      clear hb1 hb2 hB1 hbb
      go_wp2_with fail
      refine (terms_any b _).mono ?_
      rintro e w3 ⟨rfl, rfl⟩
      have hs := cell_new_l w2 (.int .u64 0) 22
      have hb3 := cell_new_l (w2.alloc (.cells #[.int .u64 0] 22)) (.int .u64 b) 22
      rw [World.size_alloc] at hb3
      have hB3 : Below w.heap.size w ((w2.alloc (.cells #[.int .u64 0] 22)).alloc (.cells #[.int .u64 b] 22)) := (hB2.alloc hB2.size _).alloc (by have := hB2.size; simp; omega) _
      have cA := cell_alloc_l (.cells #[.int .u64 b] 22) (cell_alloc_l (.cells #[.int .u64 0] 22) cA0)
      have cO := cell_alloc_l (.cells #[.int .u64 b] 22) hs.1
      have fO := frozen_alloc_l (.cells #[.int .u64 b] 22) hs.1 hs.2
      go_wp2_with fail
      refine (wpIn_wide (n := 6)).1 ?_
      refine wpIn_rangeFunc_ownF rfl h6 (gf := 45) (lb := #[.pointer (some ⟨w2.heap.size + 1, 0, none⟩)]) rfl trivial (enters_of Tryd.func45 (by kernel_rfl) rfl)
        (iter_stopsK 5 (by omega) (w2.heap.size + 1) b hb _ hb3.1) (fun h k => k.trans h) (fun W l o o' hl ho _ _ => (belowK_b (Nat.le_refl _) W l o o' hl ho ‹_› ‹_›).cell (p := ⟨w2.heap.size + 1, 0, none⟩) (by simp)) (Below.refl _ _) (fun _ => rfl)
        (fun pre W => (W.cell? ⟨w.heap.size, 0, none⟩ = some (.int .u64 a) ∧ W.cell? ⟨w2.heap.size, 0, none⟩ = some (.int .u64 ((mulF a pre : Nat) : Int)) ∧ W.frozen? ⟨w2.heap.size, 0, none⟩ = false) ∧ Below w.heap.size w W)
        (fun _ _ _ => False)
        (OwnFrom.and (Own.from (fun s A B row hs hg hr => ⟨cell_kept hs.1 hg hr, cell_kept hs.2.1 hg hr, (frozen_kept hs.2.1 hg hr).trans hs.2.2⟩) _) (ownFrom_below (Nat.le_refl _) (by simp; omega)))
        (fun c => fun s A B row hs hg hr => hs)
        ⟨⟨cA, cO, fO⟩, hB3⟩
        (fun x => { tmps := #[.int .u64 a, .int .u64 b, .pointer (some ⟨w.heap.size, 0, none⟩), undef, .int .u64 0, .int .i64 0, .pointer (some ⟨w2.heap.size, 0, none⟩), .int .i64 (x.val : Int), .int .u64 a, .bool false, .bool false, .int .u64 b, .bool false, .bool false, .int .u64 a, .int .i64 ((pa : Int) - 1), .int .u64 b, .int .i64 ((pb : Int) - 1), .int .i64 ((pa : Int) - 1 + ((pb : Int) - 1)),
          .bool (decide (63 < (pa : Int) - 1 + ((pb : Int) - 1))), .int .u64 b, .func (.func 45) #[] #[.pointer (some ⟨w2.heap.size + 1, 0, none⟩)], .int .i64 (x.val : Int), undef, undef, undef, undef, undef, undef], defers := [] }) ?assign ?body ?done ?stop
      case assign =>
        intro l x W K hK
        gi_wp2
        exact hK
      case body =>
        rintro l pre x W ⟨⟨hca, hco, hfo⟩, hB⟩ _
        clear cA0 hs hb3 hB3 cA cO fO hB2
        have hx0 : (0 : Int) ≤ (x.val : Int) := by omega
        have hx1 : (x.val : Int) ≤ 63 := by omega
        have hsn := mulF_snoc a pre x
        have hol := mulF_lt a pre
        have hw : IntKind.u64.wrap ((a : Int) * 2 ^ x.val) = (((a <<< x.val) % 18446744073709551616 : Nat) : Int) := by
          rw [IntKind.wrap_u64, Nat.shiftLeft_eq]; simp
        have hsl : (a <<< x.val) % 18446744073709551616 < 18446744073709551616 := Nat.mod_lt _ (by decide)
        obtain ⟨s, HS⟩ := nm ((a <<< x.val) % 18446744073709551616)
        rw [HS.out] at hsn hw hsl
        obtain ⟨o, HO⟩ := nm (mulF a pre)
        rw [HO.out] at hsn hol hco
        have hxx := u64_xor_nat o s hol hsl
        rw [← hsn] at hxx
        have HSN := Lib.hid hsn
        clear hsn
        obtain ⟨o', HO'⟩ := nm (mulF a (pre ++ [x]))
        rw [HO'.out] at hxx
        gi_wp2
        gi_region
        all_goals
          gi_wp2
          exact ⟨(KeepsOthers.setCell _ _ _).trans (KeepsOthers.drew _), World.cell?_setCell_other _ _ _ _ (by simp), ⟨(World.cell?_setCell_other _ _ _ _ (by simp <;> omega)).trans hca, by rw [HO'.out]; exact World.cell?_setCell_same' _ _ _ (by rw [hco]; rfl), (World.frozen?_setCell W _ _ _).trans hfo⟩, (hB.setCell (p := ⟨w2.heap.size, 0, none⟩) (by show _ ≤ w2.heap.size; omega) _).drew⟩
      case done =>
        rintro D xs W hD rfl ⟨⟨hca, hco, hfo⟩, hB⟩ hK
        clear cA0 hs hb3 hB3 cA cO fO hB2
        have hfin : mulF a (expo b 64) = Gf.pmul a b := by rw [HEX.out hle 64 (Nat.le_refl _)]; exact (Gf.pmul_eq a b (by have := HPB.out; omega)).symm
        rw [hfin] at hco
        clear hfin
        obtain ⟨r, HR⟩ := nm (Gf.pmul a b)
        rw [HR.out] at hco HVV
        go_wp2
        refine ⟨by simp, .inl ⟨_, _, rfl, run_takeDeferred hK, ?_⟩⟩
        refine ⟨.tuple #[.int .u64 r, .int .i64 0], ?_, by rw [HVE.out, HVV.out], hB.trans (belowK_b (w := w) (Nat.le_refl _) W D _ _ (by simp at hD; omega) hK rfl rfl)⟩
        simp [results, Tryd.f16, go_sem]
      case stop =>
        rintro D c pre W hD hpre hF hK
        exact hF.elim
end Go.Proofs.YtidkjcflppbpdaaDoor
