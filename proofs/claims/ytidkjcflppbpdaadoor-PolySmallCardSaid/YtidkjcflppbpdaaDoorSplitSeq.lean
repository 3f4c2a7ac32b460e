/- strings.SplitSeq at the sign '+': the walks of SplitSeq, splitSeq and its iterator. -/
import Derived.Test.YtidkjcflppbpdaaDoorSplit
import Derived.Test.YtidkjcflppbpdaaDoorSeqC
import Derived.Test.YtidkjcflppbpdaaDoorShelfB
namespace Go.Proofs.YtidkjcflppbpdaaDoor
open Go Go.RowKit Go.Shelf
attribute [local go_sem] Oper.semAt_some
attribute [local go_sem] wide_fn

theorem bstr_toList (r : ByteArray) : bstr r.data.toList = r := by
  apply ByteArray.ext
  exact Array.toArray_toList
theorem splitSeq_any (s p : ByteArray) (w : World) :
    Calls Tryd.prog 51 #[.string s, .string p, .int .i64 0] w fun e w' => e = .returned (.func (.func 57) #[] #[.pointer (some ⟨w.heap.size + 1, 0, none⟩), .pointer (some ⟨w.heap.size, 0, none⟩), .pointer (some ⟨w.heap.size + 2, 0, none⟩)]) ∧
      ((w.alloc (.cells #[.string s] 9)).alloc (.cells #[.string p] 9)).alloc (.cells #[.int .i64 0] 3) = w' := by
  go_enter Tryd.func51, Tryd.ntmps51
  go_wp2_with fail
  go_ret
  exact ⟨rfl, rfl⟩
theorem SplitSeq_any (s p : ByteArray) (w : World) :
    Calls Tryd.prog 41 #[.string s, .string p] w fun e w' => e = .returned (.func (.func 57) #[] #[.pointer (some ⟨w.heap.size + 1, 0, none⟩), .pointer (some ⟨w.heap.size, 0, none⟩), .pointer (some ⟨w.heap.size + 2, 0, none⟩)]) ∧
      ((w.alloc (.cells #[.string s] 9)).alloc (.cells #[.string p] 9)).alloc (.cells #[.int .i64 0] 3) = w' := by
  go_enter Tryd.func41, Tryd.ntmps41
  go_wp2_with fail
  refine (splitSeq_any s p _).mono ?_
  rintro e w1 ⟨rfl, rfl⟩
  go_wp2_with fail
  go_ret
  exact ⟨rfl, rfl⟩

theorem index_plus (s : ByteArray) (w : World) :
    Calls Tryd.prog 59 #[.string s, .string ⟨#[43]⟩] w fun e w' => e = .returned (.int .i64 (Lib.indexByte s.data.toList 43)) ∧ w = w' :=
  (Tryd.strings_Index_one s 43 w).mono fun _ _ h => ⟨h.1, h.2.symm⟩
theorem spl_index_none {r : ByteArray} (h : Lib.indexByte r.data.toList 43 = -1) : spl r.data.toList = [r.data.toList] :=
  spl_none _ fun c hc e => by
    obtain ⟨i, hi, he⟩ := List.mem_iff_getElem.1 hc
    exact Lib.indexByte_none h i (by rw [List.getElem?_eq_getElem hi, he, e])
theorem spl_index_some {r : ByteArray} {o : Nat} (h : Lib.indexByte r.data.toList 43 = (o : Int)) :
    o < r.size ∧ spl r.data.toList = (r.extract 0 o).data.toList :: spl (r.extract (o + 1) r.size).data.toList := by
  obtain ⟨h1, h2⟩ := Lib.indexByte_some h
  have hlt : o < r.data.toList.length := (List.getElem?_eq_some_iff.1 h1).1
  refine ⟨hlt, ?_⟩
  have hs : r.data.toList = (r.data.toList.take o) ++ 43 :: r.data.toList.drop (o + 1) := by
    rw [List.getElem?_eq_getElem hlt] at h1
    have := List.drop_eq_getElem_cons hlt
    rw [Option.some.inj h1] at this
    rw [← this]
    exact (List.take_append_drop o _).symm
  have e1 : (r.extract 0 o).data.toList = r.data.toList.take o := by simp [List.extract]
  have e2 : (r.extract (o + 1) r.size).data.toList = r.data.toList.drop (o + 1) := by
    rw [ByteArray.data_extract, Array.toList_extract]
    unfold List.extract
    exact List.take_of_length_le (by rw [List.length_drop]; exact Nat.le_refl _)
  rw [e1, e2]
  conv => lhs; rw [hs]
  refine spl_at _ _ fun c hc e => ?_
  obtain ⟨i, hi, he⟩ := List.mem_iff_getElem.1 hc
  rw [List.getElem_take] at he
  rw [List.length_take] at hi
  exact h2 i (by omega) (by rw [List.getElem?_eq_getElem (by omega), he, e])

/-- What a round keeps: the iterator's three boxes. -/
def KeepBox (B : Nat) (W W' : World) : Prop := ∀ b, B ≤ b → b ≤ B + 2 → W'.cell? ⟨b, 0, none⟩ = W.cell? ⟨b, 0, none⟩ ∧ W'.frozen? ⟨b, 0, none⟩ = W.frozen? ⟨b, 0, none⟩
theorem KeepBox.trans {B : Nat} {X Y Z : World} (h : KeepBox B X Y) (k : KeepBox B Y Z) : KeepBox B X Z := fun b h1 h2 => ⟨(k b h1 h2).1.trans (h b h1 h2).1, (k b h1 h2).2.trans (h b h1 h2).2⟩

set_option maxRecDepth 100000 in
set_option maxHeartbeats 2000000 in
theorem split_inC (n : Nat) (hn : 1 ≤ n) (l B : Nat) (s : ByteArray) (hs : s.size ≤ 1000000) (J Jx : List (List UInt8) → World → Prop)
    (hC : ∀ t A C, J t A → (∃ v, C = A.setCell ⟨B, 0, none⟩ v) → J t C)
    (hY : ∀ pre x W, J pre W → pre.length < (spl s.data.toList).length → YieldAt Fence.wide (n - 1) Tryd.prog l #[.string (bstr x)] W fun e W' =>
      (e = .returned (.bool true) ∧ J (pre ++ [x]) W' ∧ KeepBox B W W') ∨ (e = .returned (.bool false) ∧ Jx (pre ++ [x]) W'))
    (W : World) (hc : W.cell? ⟨B, 0, none⟩ = some (.string s)) (hf : W.frozen? ⟨B, 0, none⟩ = false) (hc1 : W.cell? ⟨B + 1, 0, none⟩ = some (.string ⟨#[43]⟩)) (hc2 : W.cell? ⟨B + 2, 0, none⟩ = some (.int .i64 0)) (h0 : J [] W) :
    CallsIn Fence.wide n Tryd.prog 57 #[.func (.yield l) #[] #[], .pointer (some ⟨B + 1, 0, none⟩), .pointer (some ⟨B, 0, none⟩), .pointer (some ⟨B + 2, 0, none⟩)] W fun e W' => (∃ v, e = .returned v) ∧
      ((∃ ys, ys = spl s.data.toList ∧ J ys W') ∨ (∃ pre, pre <+: spl s.data.toList ∧ Jx pre W')) := by
  refine callsIn_of_wp Tryd.func57 rfl trivial ?_ rfl
  simp only [Tryd.ntmps57, List.size_toArray, List.length_cons, List.length_nil, Nat.reduceAdd, Nat.reduceSub, Array.replicate_succ, Array.replicate_zero, List.push_toArray, List.append_toArray, List.nil_append, List.cons_append]
  gi_wp2
  gi_loopw [7] (fun _ wr => ∃ (r : ByteArray) (pre : List (List UInt8)), r.size ≤ 1000000 ∧ wr.cell? ⟨B, 0, none⟩ = some (.string r) ∧ wr.frozen? ⟨B, 0, none⟩ = false ∧ wr.cell? ⟨B + 1, 0, none⟩ = some (.string ⟨#[43]⟩) ∧ wr.cell? ⟨B + 2, 0, none⟩ = some (.int .i64 0) ∧ Hid (spl s.data.toList = pre ++ spl r.data.toList) ∧ J pre wr)
    (fun _ wr => match wr.cell? ⟨B, 0, none⟩ with | some (.string r) => r.size | _ => 0)
  case atStart => exact ⟨s, [], hs, hc, hf, hc1, hc2, Lib.hid rfl, h0⟩
  case round =>
    obtain ⟨r, pre, hr, hcr, hfr, hc1r, hc2r, He, hJ⟩ := hrel
    have hlen : pre.length < (spl s.data.toList).length := by
      rw [He.out, List.length_append]
      have := List.length_pos_iff.2 (spl_ne r.data.toList)
      omega
    have hge := Lib.indexByte_ge r.data.toList 43
    by_cases hi : Lib.indexByte r.data.toList 43 = -1
    · have hb : bstr r.data.toList = r := bstr_toList r
      have HSP := Lib.hid (spl_index_none hi)
      obtain ⟨fn, tmps, assign, body, hy, hR⟩ := hY pre r.data.toList wr hJ hlen
      rw [hb] at hy
      have hix := fun W => index_plus r W
      simp only [hi] at hix
      have HI := Lib.hid hix
      clear hY hC hi hb hix hge
      gi_wp2_with (gi_at_call 59; refine (callsIn_wide.2 (HI.out _)).mono ?_; rintro e w' ⟨rfl, rfl⟩)
      refine hR.mono ?_
      rintro e W3 (⟨rfl, hJ3, hk3⟩ | ⟨rfl, hJx3⟩)
      · gi_wp2
        go_end0
        exact ⟨⟨_, rfl⟩, .inl ⟨_, by rw [He.out, HSP.out], hJ3⟩⟩
      · gi_wp2
        go_end0
        exact ⟨⟨_, rfl⟩, .inr ⟨_, ⟨[], by rw [He.out, HSP.out]; simp⟩, hJx3⟩⟩
    · obtain ⟨o, ho⟩ := Int.eq_ofNat_of_zero_le (show 0 ≤ Lib.indexByte r.data.toList 43 by omega)
      obtain ⟨hor, hsp⟩ := spl_index_some ho
      have HSP := Lib.hid hsp
      have hb : bstr (r.extract 0 o).data.toList = r.extract 0 o := bstr_toList _
      obtain ⟨fn, tmps, assign, body, hy, hR⟩ := hY pre (r.extract 0 o).data.toList wr hJ hlen
      rw [hb] at hy
      have hix := fun W => index_plus r W
      simp only [ho] at hix
      have HI := Lib.hid hix
      clear hi hb hix hge ho hsp
      have HC := Lib.hid hC
      clear hY hC
      gi_wp2_with (gi_at_call 59; refine (callsIn_wide.2 (HI.out _)).mono ?_; rintro e w' ⟨rfl, rfl⟩)
      refine hR.mono ?_
      rintro e W3 (⟨rfl, hJ3, hk3⟩ | ⟨rfl, hJx3⟩)
      · have k0 := hk3 B (by omega) (by omega)
        have k1 := hk3 (B + 1) (by omega) (by omega)
        have k2 := hk3 (B + 2) (by omega) (by omega)
        have c0 : W3.cell? ⟨B, 0, none⟩ = some (.string r) := k0.1.trans hcr
        have f0 : W3.frozen? ⟨B, 0, none⟩ = false := k0.2.trans hfr
        have c1 : W3.cell? ⟨B + 1, 0, none⟩ = some (.string ⟨#[43]⟩) := k1.1.trans hc1r
        have c2 : W3.cell? ⟨B + 2, 0, none⟩ = some (.int .i64 0) := k2.1.trans hc2r
        clear hk3 k0 k1 k2 hR
        gi_wp2
        have hcn : (W3.setCell ⟨B, 0, none⟩ (.string (r.extract (o + 1) r.size))).cell? ⟨B, 0, none⟩ = some (.string (r.extract (o + 1) r.size)) := World.cell?_setCell_same' _ _ _ (by rw [c0]; rfl)
        have hsz : (r.extract (o + 1) r.size).size < r.size := by rw [ByteArray.size_extract]; omega
        refine ⟨⟨r.extract (o + 1) r.size, pre ++ [(r.extract 0 o).data.toList], by omega, hcn, (World.frozen?_setCell _ _ _ _).trans f0, (World.cell?_setCell_other _ _ _ _ (by simp)).trans c1, (World.cell?_setCell_other _ _ _ _ (by simp)).trans c2, Lib.hid (by rw [He.out, HSP.out]; simp), HC.out _ _ _ hJ3 ⟨_, rfl⟩⟩, ?_⟩
        rw [hcn, hcr]
        exact hsz
      · gi_wp2
        refine bodyPost_ret (results_none rfl _ _ _) rfl ?_
        exact ⟨⟨_, rfl⟩, .inr ⟨_, ⟨spl (r.extract (o + 1) r.size).data.toList, by rw [He.out, HSP.out]; simp⟩, hJx3⟩⟩
theorem split_stops (n : Nat) (hn : 1 ≤ n) (B : Nat) (s : ByteArray) (hs : s.size ≤ 1000000) (w : World) (hc : w.cell? ⟨B, 0, none⟩ = some (.string s)) (hf : w.frozen? ⟨B, 0, none⟩ = false) (hc1 : w.cell? ⟨B + 1, 0, none⟩ = some (.string ⟨#[43]⟩)) (hc2 : w.cell? ⟨B + 2, 0, none⟩ = some (.int .i64 0)) :
    SeqStopsC Fence.wide n Tryd.prog 57 #[.pointer (some ⟨B + 1, 0, none⟩), .pointer (some ⟨B, 0, none⟩), .pointer (some ⟨B + 2, 0, none⟩)] (fun x : List UInt8 => #[Value.string (bstr x)]) (KeepBox B) (fun A C => ∃ v, C = A.setCell ⟨B, 0, none⟩ v)
      (fun xs => xs = spl s.data.toList) (fun pre => pre <+: spl s.data.toList) (spl s.data.toList).length w := by
  intro l J Jx W hW hC hY h0
  have hB := cell_lt hc
  have hB1 := cell_lt hc1
  have hB2 := cell_lt hc2
  exact split_inC n hn l B s hs J Jx hC hY W ((hW.cell (p := ⟨B, 0, none⟩) hB).trans hc) ((hW.frozen (p := ⟨B, 0, none⟩) hB).trans hf) ((hW.cell (p := ⟨B + 1, 0, none⟩) hB1).trans hc1) ((hW.cell (p := ⟨B + 2, 0, none⟩) hB2).trans hc2) h0
end Go.Proofs.YtidkjcflppbpdaaDoor
