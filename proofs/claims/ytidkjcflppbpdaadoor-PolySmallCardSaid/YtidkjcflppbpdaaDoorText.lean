/- The walks of poly.term, Text. -/
import Derived.Test.YtidkjcflppbpdaaDoorOrder
import Derived.Test.YtidkjcflppbpdaaDoorOwn
import Derived.Test.YtidkjcflppbpdaaDoorShelfA
import Derived.Stop.RegionWithIn
namespace Go.Proofs.YtidkjcflppbpdaaDoor
open Go Go.RowKit Go.Shelf
attribute [local go_sem] Oper.semAt_some
attribute [local go_sem] wide_fn

/-- The text of a power of x. -/
def termB (i : Nat) : List UInt8 := if i = 0 then [49] else if i = 1 then [120] else [120, 94] ++ Lib.decDigits i
def bstr (l : List UInt8) : ByteArray := ⟨l.toArray⟩
theorem bstr_append (a b : List UInt8) : bstr a ++ bstr b = bstr (a ++ b) := by
  apply ByteArray.ext
  simp [bstr]
theorem dec_len : ∀ i, i < 64 → (Lib.decDigits i).length ≤ 2 := by decide +kernel
theorem term_any (i : Nat) (hi : i < 64) (w : World) :
    Calls Tryd.prog 42 #[.int .i64 i] w fun e w' => e = .returned (.string (bstr (termB i))) ∧ w = w' := by
  by_cases h0 : i = 0
  · subst h0
    go_enter Tryd.func42, Tryd.ntmps42
    go_wp2_with fail
    go_ret
    exact ⟨rfl, rfl⟩
  · by_cases h1 : i = 1
    · subst h1
      go_enter Tryd.func42, Tryd.ntmps42
      go_wp2_with fail
      go_ret
      exact ⟨rfl, rfl⟩
    · have hi0 : ((i : Int) == 0) = false := beq_false_of_ne (by omega)
      have hi1 : ((i : Int) == 1) = false := beq_false_of_ne (by omega)
      have ht : termB i = [120, 94] ++ Lib.decDigits i := by unfold termB; rw [if_neg h0, if_neg h1]
      have HT := Lib.hid ht
      clear ht h0 h1
      go_enter Tryd.func42, Tryd.ntmps42
      go_wp2_with fail
      refine (Tryd.strconv_Itoa_small i (by omega) _).mono ?_
      rintro e w1 ⟨rfl, rfl⟩
      have hdl := dec_len i hi
      obtain ⟨D, HD⟩ := nm (Lib.decDigits i)
      rw [HD.out] at hdl HT ⊢
      go_wp2_with fail
      go_ret
      refine ⟨?_, rfl⟩
      rw [HT.out, ← bstr_append]
      rfl
theorem expo_len (p : Nat) : ∀ k, (expo p k).length ≤ k
  | 0 => Nat.le_refl _
  | k + 1 => by
    have := expo_len p k
    rw [expo]
    split
    · simp; omega
    · omega
def textB (p : Nat) : List UInt8 := if p = 0 then [48] else Lib.join ((expo p 64).map fun x => termB x.val) [43]
/-- A slice of strings that the call has made itself. -/
def OwnsS (w : World) (base : Nat) (v : Value) (xs : List (List UInt8)) : Prop := w.ownsRow base 9 1 v xs.length (xs.map fun x => Value.string (bstr x))
theorem info_string : (Tryd.prog.info? 9).map (fun i => (i.zero, i.size, i.bytes)) = some (some (.string ByteArray.empty), 1, 16) := by kernel_rfl
theorem ownsRow_ne {w : World} {base : Nat} {e : TypeId} {size : Nat} {v : Value} {n : Nat} {xs : List Value} {row : Option Nat} (h : w.ownsRow base e size v n xs) (hr : ∀ r, row = some r → ∃ o : Obj, w.heap[r]? = some o ∧ o.isCells = false) : v.ownBlock = none ∨ v.ownBlock ≠ row := by
  obtain ⟨_, h⟩ := h
  rcases h with ⟨rfl, _⟩ | ⟨g, cap, cur, rfl, _, hg, _⟩
  · exact .inl rfl
  · right
    intro e
    obtain ⟨o, ho, hc⟩ := hr g e.symm
    rw [hg] at ho
    cases ho
    cases hc
theorem ownsRow_cells {w : World} {base : Nat} {e : TypeId} {size : Nat} {v : Value} {n : Nat} {xs : List Value} {j : Nat} {o : Obj} (h : w.ownsRow base e size v n xs) (hj : v.ownBlock = some j) (ho : w.heap[j]? = some o) : o.isCells = true := by
  obtain ⟨_, h⟩ := h
  rcases h with ⟨rfl, _⟩ | ⟨g, cap, cur, rfl, _, hg, _⟩
  · cases hj
  · cases hj
    rw [hg] at ho
    cases ho
    rfl
theorem ownsS_other {w : World} {base g : Nat} {v u : Value} {xs : List (List UInt8)} (h : OwnsS w base v xs) (hne : ∀ j, v.ownBlock = some j → j ≠ g) : OwnsS (w.setCell ⟨g, 0, none⟩ u) base v xs := by
  refine World.ownsRow.kept h (row := some g) ⟨rfl, rfl, rfl, by simp, fun k _ hk => heap_setCell_other w ⟨g, 0, none⟩ k u (fun e => hk (by simp [e]))⟩ ?_
  cases hv : v.ownBlock with
  | none => exact .inl rfl
  | some j => right; intro e2; cases e2; exact hne g hv rfl
theorem ownsRow_slice {w : World} {base : Nat} {e : TypeId} {size : Nat} {v : Value} {n : Nat} {xs : List Value} (h : w.ownsRow base e size v n xs) : ∃ a n c, v = .slice a n c := by
  obtain ⟨_, h⟩ := h
  rcases h with ⟨rfl, _⟩ | ⟨g, cap, cur, rfl, _⟩
  · exact ⟨_, _, _, rfl⟩
  · exact ⟨_, _, _, rfl⟩
theorem term_len : ∀ i, i < 64 → (termB i).length ≤ 4 := by decide +kernel
theorem join_len (m : Nat) (l : List (List UInt8)) (sep : List UInt8) (h : ∀ x ∈ l, x.length ≤ m) : (Lib.join l sep).length ≤ l.length * (m + sep.length) := by
  cases l with
  | nil => rw [Lib.join_nil]; exact Nat.zero_le _
  | cons x r =>
    rw [Lib.join_cons, List.length_append, List.length_cons]
    have hx := h x List.mem_cons_self
    have ht : (Lib.joinTail sep r).length ≤ r.length * (m + sep.length) := by
      have hr : ∀ y ∈ r, y.length ≤ m := fun y hy => h y (List.mem_cons_of_mem _ hy)
      clear h hx
      induction r with
      | nil => exact Nat.zero_le _
      | cons y r ih =>
        have h1 := ih (fun z hz => hr z (List.mem_cons_of_mem _ hz))
        have h2 := hr y List.mem_cons_self
        unfold Lib.joinTail at h1 ⊢
        rw [List.map_cons, List.flatten_cons, List.length_append, List.length_append, List.length_cons, Nat.succ_mul]
        omega
    rw [Nat.succ_mul]
    omega
theorem stepIn_append {F : Fence} {n : Nat} {P : Program} {ops : Array Oper} {o : Oper} {a : Act} {w : World} {K : Act → World → Prop} {Q : Exit → Act → World → Prop} {E : Prop}
    (hg : o.guard = none) (s x : Operand) (t : TypeId) (hop : o.op = Op.call { callee := Callee.builtin Builtin.append, args := #[s, x], argTypes := #[t, t] }) (v : Value) (w' : World)
    (hrun : (Builtin.append_ #[t, t] o.type #[a.eval s, a.eval x]).run P w = .ok v w') (hK : K (a.put o.dst v) w') :
    if Region.wanted o (yielded ops a.tmps) = true then Oper.wpIn F n P o a w K Q else E := by
  have hw : Region.wanted o (yielded ops a.tmps) = true := by simp [Region.wanted, hg]
  rw [if_pos hw]
  unfold Oper.wpIn
  refine ⟨by simp [Oper.about, hop, resolve, Target.leads, Sem.run_pure], ?_⟩
  rw [Oper.semAt_plain F _ _ (by rw [hop]; intro c hc; cases hc)]
  simp [execOp, hop, resolve, invoke, builtin, hrun, Result.andThen]
  exact hK
set_option maxRecDepth 100000 in
set_option maxHeartbeats 2000000 in
theorem text_ne (p : Nat) (hp : p < 18446744073709551616) (hp0 : p ≠ 0) (w : World) :
    Calls Tryd.prog 27 #[.int .u64 p] w fun e w' => e = .returned (.string (bstr (textB p))) ∧ Below w.heap.size w w' := by
  have hpe : ((p : Int) == 0) = false := beq_false_of_ne (by omega)
  refine (callsIn_wide (n := 6)).1 ?_
  have h6 : 1 ≤ 6 := by omega
  refine callsIn_of_wp_marks Tryd.func27 rfl trivial ?_ rfl
  simp only [Tryd.ntmps27, List.size_toArray, List.length_cons, List.length_nil, Nat.reduceAdd, Nat.reduceSub, Array.replicate_succ, Array.replicate_zero, List.push_toArray, List.append_toArray, List.nil_append, List.cons_append]
  refine wpIn_wide.2 ?_
  go_wp2_with fail
  refine (terms_any p _).mono ?_
  rintro e w1 ⟨rfl, rfl⟩
  go_wp2_with fail
  have hs := cell_new_l w (.slice none 0 0) 53
  have hb3 := cell_new_l (w.alloc (.cells #[.slice none 0 0] 53)) (.int .u64 p) 22
  rw [World.size_alloc] at hb3
  have hB3 : Below w.heap.size w ((w.alloc (.cells #[.slice none 0 0] 53)).alloc (.cells #[.int .u64 p] 22)) := ((Below.refl _ w).alloc (Nat.le_refl _) _).alloc (by simp) _
  have cO := cell_alloc_l (.cells #[.int .u64 p] 22) hs.1
  have fO := frozen_alloc_l (.cells #[.int .u64 p] 22) hs.1 hs.2
  refine (wpIn_wide (n := 6)).1 ?_
  refine wpIn_rangeFunc_ownF rfl h6 (gf := 45) (lb := #[.pointer (some ⟨w.heap.size + 1, 0, none⟩)]) rfl trivial (enters_of Tryd.func45 (by kernel_rfl) rfl)
    (iter_stopsK 5 (by omega) (w.heap.size + 1) p hp _ hb3.1) (fun h k => k.trans h) (fun W l o o' hl ho _ _ => (belowK_b (Nat.le_refl _) W l o o' hl ho ‹_› ‹_›).cell (p := ⟨w.heap.size + 1, 0, none⟩) (by simp)) (Below.refl _ _) (fun _ => rfl)
    (fun pre W => (∃ v, W.cell? ⟨w.heap.size, 0, none⟩ = some v ∧ W.frozen? ⟨w.heap.size, 0, none⟩ = false ∧ OwnsS W (w.heap.size + 2) v (pre.map fun x => termB x.val) ∧ w.heap.size + 2 ≤ W.heap.size) ∧ Below w.heap.size w W)
    (fun _ _ _ => False)
    (OwnFrom.and (Own.from (fun s A B row hs hg hr => by
      obtain ⟨v, h1, h2, h3, h4⟩ := hs
      refine ⟨v, cell_kept h1 hg hr, (frozen_kept h1 hg hr).trans h2, World.ownsRow.kept h3 hg ?_, Nat.le_trans h4 hg.size⟩
      exact ownsRow_ne h3 hr) _) (ownFrom_below (Nat.le_refl _) (by simp; omega)))
    (fun c => fun s A B row hs hg hr => hs)
    ⟨⟨.slice none 0 0, cO, fO, World.ownsRow_nil _ _ _ _, by simp⟩, hB3⟩
    (fun x => { tmps := #[.int .u64 p, undef, .string ⟨#[]⟩, .pointer (some ⟨w.heap.size, 0, none⟩), .int .i64 (x.val : Int), .int .u64 p, .bool false, .int .u64 p, .func (.func 45) #[] #[.pointer (some ⟨w.heap.size + 1, 0, none⟩)], .int .i64 (x.val : Int), undef, undef, undef, undef, undef, undef, undef], defers := [] }) ?assign ?body ?done ?stop
  case assign =>
    intro l x W K hK
    gi_wp2
    exact hK
  case body =>
    rintro l pre x W ⟨⟨v, hcv, hfv, hown, hsz⟩, hB⟩ hlen
    clear hs hb3 hB3 cO fO
    have hx : x.val < 64 := x.isLt
    obtain ⟨i0, hi0, hz0, hz1, hz2⟩ := info_parts info_string
    obtain ⟨v2, W2, hr, hown2, hg2, _⟩ := run_append_own (P := Tryd.prog) ((W.alloc (.cells #[.string (bstr (termB x.val))] 9)).drew) (w.heap.size + 2) 53 53 9 i0 (.string ByteArray.empty) 1 16 Tryd.underlying53 hi0 hz0 hz1 hz2 rfl (by decide)
      v (pre.map fun x => termB x.val).length ((pre.map fun x => termB x.val).map fun x => Value.string (bstr x)) (World.ownsRow.drew (World.ownsRow.alloc hown _)) ⟨W.heap.size, 0, none⟩ 1 1 [.string (bstr (termB x.val))] rfl
      (fun j u hu => (cell_one_new W (.string (bstr (termB x.val))) 9) j u hu) (by simp [Value.oneCell']) (by simp; unfold maxLen; omega) (by simp; omega) (by simp; omega)
    obtain ⟨a2, n2, k2, rfl⟩ := ownsRow_slice hown2
    have hbW : Below (w.heap.size + 2) W W2 := (((Below.refl _ W).alloc hsz _).drew).grown hg2 (by simp; omega) (fun j hj => (World.ownsRow.lt hown j hj).1)
    have c2 := cell_keep hbW hcv (by omega)
    have f2 : W2.frozen? ⟨w.heap.size, 0, none⟩ = false := (hbW.frozen (p := ⟨w.heap.size, 0, none⟩) (by show w.heap.size < _; omega)).trans hfv
    have hko : KeepsOthers W W2 := ((KeepsOthers.alloc W _).trans (KeepsOthers.drew _)).trans (KeepsOthers.of_grownBy hg2 (fun j o hj ho => ownsRow_cells (World.ownsRow.drew (World.ownsRow.alloc hown _)) hj ho))
    have hsz2 := hbW.size
    have hsn : ((pre ++ [x]).map fun (x : Fin 64) => termB x.val) = (pre.map fun x => termB x.val) ++ [termB x.val] := by simp
    have hown3 : OwnsS W2 (w.heap.size + 2) (.slice a2 n2 k2) ((pre ++ [x]).map fun x => termB x.val) := by
      unfold OwnsS
      rw [hsn]
      simpa using hown2
    have fin : KeepsOthers W (W2.setCell ⟨w.heap.size, 0, none⟩ (.slice a2 n2 k2)) ∧ (W2.setCell ⟨w.heap.size, 0, none⟩ (.slice a2 n2 k2)).cell? ⟨w.heap.size + 1, 0, none⟩ = W.cell? ⟨w.heap.size + 1, 0, none⟩ ∧
        (∃ v, (W2.setCell ⟨w.heap.size, 0, none⟩ (.slice a2 n2 k2)).cell? ⟨w.heap.size, 0, none⟩ = some v ∧ (W2.setCell ⟨w.heap.size, 0, none⟩ (.slice a2 n2 k2)).frozen? ⟨w.heap.size, 0, none⟩ = false ∧ OwnsS (W2.setCell ⟨w.heap.size, 0, none⟩ (.slice a2 n2 k2)) (w.heap.size + 2) v ((pre ++ [x]).map fun x => termB x.val) ∧ w.heap.size + 2 ≤ (W2.setCell ⟨w.heap.size, 0, none⟩ (.slice a2 n2 k2)).heap.size) ∧ Below w.heap.size w (W2.setCell ⟨w.heap.size, 0, none⟩ (.slice a2 n2 k2)) := by
      refine ⟨hko.trans (KeepsOthers.setCell _ _ _), (World.cell?_setCell_other _ _ _ _ (by simp)).trans (hbW.cell (p := ⟨w.heap.size + 1, 0, none⟩) (by show w.heap.size + 1 < _; omega)), ⟨_, World.cell?_setCell_same' _ _ _ (by rw [c2]; rfl), (World.frozen?_setCell _ _ _ _).trans f2, ?_, by simp; omega⟩, (hB.trans (hbW.mono (by omega))).setCell (p := ⟨w.heap.size, 0, none⟩) (Nat.le_refl _) _⟩
      exact ownsS_other hown3 (fun j hj => by have := (World.ownsRow.lt hown3 j hj).1; omega)
    have hca := cell_alloc_l (.cells #[.string (bstr (termB x.val))] 9) hcv
    have HR := Lib.hid hr
    clear hown hown2 hown3 hg2 hsn hi0 hz0 hz1 hz2 hr
    gi_wp2
    refine wpIn_region_any (by kernel_rfl) ?_
    change wpAnyIn _ _ _ _ _ _ _ _ _ (World.drew _)
    refine wpAnyIn_ready (rs := [0, 1]) (by kernel_rfl) (by simp) ?_
    refine AllReadyIn.cons rfl (fun K hK => ?_) (AllReadyIn.cons rfl (fun K hK => ?_) AllReadyIn.nil)
    · go_simp
      refine hK _ _ ?_
      clear hK K
      refine wpAnyIn_ready (rs := [1]) (by kernel_rfl) (by simp) ?_
      refine AllReadyIn.cons rfl (fun K hK => ?_) AllReadyIn.nil
      go_simp
      refine hK _ _ ?_
      clear hK K
      refine wpAnyIn_ready (rs := [2]) (by kernel_rfl) (by simp) ?_
      refine AllReadyIn.cons rfl (fun K hK => ?_) AllReadyIn.nil
      go_simp
      gi_wp2_with (gi_at_call 42; refine (callsIn_wide.2 (term_any _ hx _)).mono ?_; rintro e W9 ⟨rfl, rfl⟩)
      refine wpAnyIn_ready (rs := [3]) (by kernel_rfl) (by simp) ?_
      refine AllReadyIn.cons rfl (fun K hK => ?_) AllReadyIn.nil
      go_simp
      refine hK _ _ ?_
      clear hK K
      refine wpAnyIn_ready (rs := [4]) (by kernel_rfl) (by simp) ?_
      refine AllReadyIn.cons rfl (fun K hK => ?_) AllReadyIn.nil
      refine stepIn_append rfl (.tmp 10) (.tmp 13) 53 rfl (.slice a2 n2 k2) W2 HR.out ?_
      refine hK _ _ ?_
      clear hK K
      refine wpAnyIn_ready (rs := [5]) (by kernel_rfl) (by simp) ?_
      refine AllReadyIn.cons rfl (fun K hK => ?_) AllReadyIn.nil
      go_simp
      refine hK _ _ ?_
      clear hK K
      refine wpAnyIn_done (by kernel_rfl) ?_ _
      exact fin
    · go_simp
      refine hK _ _ ?_
      clear hK K
      refine wpAnyIn_ready (rs := [0, 2]) (by kernel_rfl) (by simp) ?_
      refine AllReadyIn.cons rfl (fun K hK => ?_) (AllReadyIn.cons rfl (fun K hK => ?_) AllReadyIn.nil)
      · go_simp
        refine hK _ _ ?_
        clear hK K
        refine wpAnyIn_ready (rs := [2]) (by kernel_rfl) (by simp) ?_
        refine AllReadyIn.cons rfl (fun K hK => ?_) AllReadyIn.nil
        go_simp
        gi_wp2_with (gi_at_call 42; refine (callsIn_wide.2 (term_any _ hx _)).mono ?_; rintro e W9 ⟨rfl, rfl⟩)
        refine wpAnyIn_ready (rs := [3]) (by kernel_rfl) (by simp) ?_
        refine AllReadyIn.cons rfl (fun K hK => ?_) AllReadyIn.nil
        go_simp
        refine hK _ _ ?_
        clear hK K
        refine wpAnyIn_ready (rs := [4]) (by kernel_rfl) (by simp) ?_
        refine AllReadyIn.cons rfl (fun K hK => ?_) AllReadyIn.nil
        refine stepIn_append rfl (.tmp 10) (.tmp 13) 53 rfl (.slice a2 n2 k2) W2 HR.out ?_
        refine hK _ _ ?_
        clear hK K
        refine wpAnyIn_ready (rs := [5]) (by kernel_rfl) (by simp) ?_
        refine AllReadyIn.cons rfl (fun K hK => ?_) AllReadyIn.nil
        go_simp
        refine hK _ _ ?_
        clear hK K
        refine wpAnyIn_done (by kernel_rfl) ?_ _
        exact fin
      · go_simp
        gi_wp2_with (gi_at_call 42; refine (callsIn_wide.2 (term_any _ hx _)).mono ?_; rintro e W9 ⟨rfl, rfl⟩)
        refine wpAnyIn_ready (rs := [0, 3]) (by kernel_rfl) (by simp) ?_
        refine AllReadyIn.cons rfl (fun K hK => ?_) (AllReadyIn.cons rfl (fun K hK => ?_) AllReadyIn.nil)
        · go_simp
          refine hK _ _ ?_
          clear hK K
          refine wpAnyIn_ready (rs := [3]) (by kernel_rfl) (by simp) ?_
          refine AllReadyIn.cons rfl (fun K hK => ?_) AllReadyIn.nil
          go_simp
          refine hK _ _ ?_
          clear hK K
          refine wpAnyIn_ready (rs := [4]) (by kernel_rfl) (by simp) ?_
          refine AllReadyIn.cons rfl (fun K hK => ?_) AllReadyIn.nil
          refine stepIn_append rfl (.tmp 10) (.tmp 13) 53 rfl (.slice a2 n2 k2) W2 HR.out ?_
          refine hK _ _ ?_
          clear hK K
          refine wpAnyIn_ready (rs := [5]) (by kernel_rfl) (by simp) ?_
          refine AllReadyIn.cons rfl (fun K hK => ?_) AllReadyIn.nil
          go_simp
          refine hK _ _ ?_
          clear hK K
          refine wpAnyIn_done (by kernel_rfl) ?_ _
          exact fin
        · go_simp
          refine hK _ _ ?_
          clear hK K
          refine wpAnyIn_ready (rs := [0]) (by kernel_rfl) (by simp) ?_
          refine AllReadyIn.cons rfl (fun K hK => ?_) AllReadyIn.nil
          go_simp
          refine hK _ _ ?_
          clear hK K
          refine wpAnyIn_ready (rs := [4]) (by kernel_rfl) (by simp) ?_
          refine AllReadyIn.cons rfl (fun K hK => ?_) AllReadyIn.nil
          refine stepIn_append rfl (.tmp 10) (.tmp 13) 53 rfl (.slice a2 n2 k2) W2 HR.out ?_
          refine hK _ _ ?_
          clear hK K
          refine wpAnyIn_ready (rs := [5]) (by kernel_rfl) (by simp) ?_
          refine AllReadyIn.cons rfl (fun K hK => ?_) AllReadyIn.nil
          go_simp
          refine hK _ _ ?_
          clear hK K
          refine wpAnyIn_done (by kernel_rfl) ?_ _
          exact fin
  case done =>
    rintro D xs W hD rfl ⟨⟨v, hcv, hfv, hown, hsz⟩, hB⟩ hK
    clear hs hb3 hB3 cO fO
    have hne : expo p 64 ≠ [] := fun e => hp0 (expo_nil p 64 (Nat.le_refl _) e hp)
    have htx : textB p = Lib.join ((expo p 64).map fun x => termB x.val) [43] := by unfold textB; rw [if_neg hp0]
    have hlx : ((expo p 64).map fun (x : Fin 64) => termB x.val).length = (expo p 64).length := by simp
    have hel : (expo p 64).length ≤ 64 := expo_len p 64
    rcases hown.2 with ⟨rfl, h0⟩ | ⟨g, cap, cur, rfl, hbg, hgc, hnc, hcap, hcs, htk⟩
    · exact absurd (List.length_eq_zero_iff.1 (by rw [hlx] at h0; exact h0)) hne
    · have hcl := fun j hj => World.ownsRow.cellAt hown j hj
      have HCL := Lib.hid hcl
      have hgl : g < W.heap.size := (Array.getElem?_eq_some_iff.1 hgc).1
      clear hown hcs htk hgc hcl
      obtain ⟨X, HX⟩ := nm ((expo p 64).map fun x => bstr (termB x.val))
      have hXl : X.length = (expo p 64).length := by rw [← HX.out]; simp
      have hXd : X.map (fun s => s.data.toList) = (expo p 64).map fun x => termB x.val := by
        rw [← HX.out, List.map_map]
        apply List.map_congr_left
        intro x _
        simp [bstr]
      have hjl : (Lib.join (X.map fun s => s.data.toList) (⟨#[43]⟩ : ByteArray).data.toList).length ≤ 140737488355328 := by
        rw [hXd]
        refine Nat.le_trans (join_len 4 _ [43] (fun t ht => ?_)) ?_
        · obtain ⟨x, _, rfl⟩ := List.mem_map.1 ht
          exact term_len x.val x.isLt
        · rw [hlx]; simp; omega
      have hcells : ∀ (j : Nat) s, X[j]? = some s → W.cell? ⟨g, 0 + j, none⟩ = some (.string s) := by
        intro j s hs
        have hj : j < X.length := (List.getElem?_eq_some_iff.1 hs).1
        rw [Nat.zero_add, HCL.out j (by rw [hlx]; omega)]
        rw [← HX.out] at hs
        simp at hs ⊢
        obtain ⟨x, hx, rfl⟩ := hs
        exact ⟨x, hx, rfl⟩
      have hjc := Tryd.strings_Join g 0 cap X ⟨#[43]⟩ W hcells hgl (by rw [hXl]; omega) (by rw [hXl, ← hlx]; exact hnc) hjl
      rw [hXl, hXd] at hjc
      rw [hlx] at hcv
      obtain ⟨L, HL⟩ := nm (expo p 64).length
      rw [HL.out] at hjc hcv
      have HJC := Lib.hid hjc
      have HTX := Lib.hid htx
      clear hXl hXd hjl hcells hjc htx hlx hel hne hnc HCL
      go_wp2_with fail
      refine HJC.out.mono ?_
      rintro e W3 ⟨rfl, hb3⟩
      have hB3' := hB.trans (hb3.mono hB.size)
      have hK3 : W3.heap[D]? = some (Obj.deferred (some [])) := (hb3.block D (Array.getElem?_eq_some_iff.1 hK).1).trans hK
      obtain ⟨T, HTT⟩ := nm (Lib.join ((expo p 64).map fun x => termB x.val) [43])
      rw [HTT.out] at HTX ⊢
      clear hb3 hK
      go_wp2_with fail
      refine ⟨by simp, .inl ⟨_, _, rfl, run_takeDeferred hK3, ?_⟩⟩
      refine ⟨.string ⟨T.toArray⟩, ?_, by rw [HTX.out]; rfl, hB3'.trans (belowK_b (w := w) (Nat.le_refl _) W3 D _ _ (by simp at hD; omega) hK3 rfl rfl)⟩
      simp [results, Tryd.f27, go_sem]
  case stop =>
    rintro D c pre W hD hpre hF hK
    exact hF.elim
theorem text_any (p : Nat) (hp : p < 18446744073709551616) (w : World) :
    Calls Tryd.prog 27 #[.int .u64 p] w fun e w' => e = .returned (.string (bstr (textB p))) ∧ Below w.heap.size w w' := by
  by_cases h0 : p = 0
  · subst h0
    go_enter Tryd.func27, Tryd.ntmps27
    go_wp2_with fail
    go_ret
    exact ⟨rfl, Below.refl _ _⟩
  · exact text_ne p hp h0 w
end Go.Proofs.YtidkjcflppbpdaaDoor
