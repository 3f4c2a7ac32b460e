/- Masks of CPUs: the walk of mask.Text. -/
import Derived.Test.YtjpkldndeakkkaaDoorMskD
import Derived.Test.YtjpkldndeakkkaaDoorShelfM
namespace Go.Proofs.YtjpkldndeakkkaaDoor
open Go Go.RowKit Go.Shelf

def bstr (l : List UInt8) : ByteArray := ⟨l.toArray⟩
theorem bstr_append (a b : List UInt8) : bstr a ++ bstr b = bstr (a ++ b) := by
  apply ByteArray.ext
  simp [bstr]
def OwnsS (w : World) (base : Nat) (v : Value) (xs : List (List UInt8)) : Prop := w.ownsRow base 9 1 v xs.length (xs.map fun x => Value.string (bstr x))
theorem info_string : (Tryd.prog.info? 9).map (fun i => (i.zero, i.size, i.bytes)) = some (some (.string ByteArray.empty), 1, 16) := by kernel_rfl
theorem join_len (m : Nat) (l : List (List UInt8)) (sep : List UInt8) (h : ∀ x ∈ l, x.length ≤ m) : (Lib.join l sep).length ≤ l.length * (m + sep.length) := by
  cases l with
  | nil => rw [Lib.join_nil]; exact Nat.zero_le _
  | cons x r =>
    rw [Lib.join_cons, List.length_append, List.length_cons]
    have hx := h x List.mem_cons_self
    have ht : (Lib.joinTail sep r).length ≤ r.length * (m + sep.length) := by
      have hr : ∀ y ∈ r, y.length ≤ m := fun y hy => h y (List.mem_cons_of_mem _ hy)
      clear h hx
      induction r with
      | nil => exact Nat.zero_le _
      | cons y r ih =>
        have h1 := ih (fun z hz => hr z (List.mem_cons_of_mem _ hz))
        have h2 := hr y List.mem_cons_self
        unfold Lib.joinTail at h1 ⊢
        rw [List.map_cons, List.flatten_cons, List.length_append, List.length_append, List.length_cons, Nat.succ_mul]
        omega
    rw [Nat.succ_mul]
    omega
theorem dec_len : ∀ i, i < 64 → (Lib.decDigits i).length ≤ 2 := by decide +kernel
theorem dec_pos : ∀ i, i < 64 → 0 < (Lib.decDigits i).length := by decide +kernel

/-- The last CPU of the run that c is in. -/
def runTo (m c : Nat) : Nat → Nat
  | 0 => c
  | f + 1 => if m.testBit (c + 1) then runTo m (c + 1) f else c
def rtext (a b : Nat) : List UInt8 := if a < b then Lib.decDigits a ++ ([45] ++ Lib.decDigits b) else Lib.decDigits a
def runs (m : Nat) : Nat → Nat → List (List UInt8)
  | 0, _ => []
  | f + 1, c => if 64 ≤ c then [] else if m.testBit c then rtext c (runTo m c 64) :: runs m f (runTo m c 64 + 1) else runs m f (c + 1)
def mtextB (m : Nat) : List UInt8 := if m = 0 then [45] else Lib.join (runs m 65 0) [44]

theorem runTo_eq (m : Nat) : ∀ f c l, c ≤ l → l - c < f → (∀ i, c < i → i ≤ l → m.testBit i = true) → m.testBit (l + 1) = false → runTo m c f = l
  | 0, _, _, _, h, _, _ => by omega
  | f + 1, c, l, h1, h2, h3, h4 => by
    unfold runTo
    by_cases e : c = l
    · subst e
      rw [h4]; rfl
    · rw [h3 (c + 1) (by omega) (by omega), if_pos rfl]
      exact runTo_eq m f (c + 1) l (by omega) (by omega) (fun i a b => h3 i (by omega) b) h4
theorem runTo_ge (m : Nat) : ∀ f c, c ≤ runTo m c f
  | 0, _ => Nat.le_refl _
  | f + 1, c => by
    unfold runTo
    split
    · exact Nat.le_trans (by omega) (runTo_ge m f (c + 1))
    · exact Nat.le_refl _
theorem runs_fuel (m : Nat) : ∀ f g c, 64 - c < f → 64 - c < g → runs m f c = runs m g c
  | 0, _, _, h, _ => by omega
  | _, 0, _, _, h => by omega
  | f + 1, g + 1, c, h1, h2 => by
    unfold runs
    by_cases h : 64 ≤ c
    · rw [if_pos h, if_pos h]
    · rw [if_neg h, if_neg h]
      have := runTo_ge m 64 c
      split
      · rw [runs_fuel m f g _ (by omega) (by omega)]
      · exact runs_fuel m f g _ (by omega) (by omega)
theorem runs_end (m c : Nat) (h : 64 ≤ c) : runs m 65 c = [] := by unfold runs; rw [if_pos h]
theorem runs_no (m c : Nat) (h : c < 64) (hb : m.testBit c = false) : runs m 65 c = runs m 65 (c + 1) := by
  conv => lhs; unfold runs
  rw [if_neg (by omega), hb]
  exact runs_fuel m 64 65 _ (by omega) (by omega)
theorem runs_yes (m c l : Nat) (h : c < 64) (hb : m.testBit c = true) (hl : runTo m c 64 = l) (_hcl : c ≤ l) : runs m 65 c = rtext c l :: runs m 65 (l + 1) := by
  conv => lhs; unfold runs
  rw [if_neg (by omega), hb, if_pos rfl, hl]
  rw [runs_fuel m 64 65 _ (by omega) (by omega)]
theorem runs_len (m : Nat) : ∀ f c, (runs m f c).length ≤ f
  | 0, _ => Nat.le_refl _
  | f + 1, c => by
    unfold runs
    split
    · simp
    · split
      · have := runs_len m f (runTo m c 64 + 1)
        simp; omega
      · exact Nat.le_trans (runs_len m f _) (by omega)
theorem rtext_len (a b : Nat) (ha : a < 64) (hb : b < 64) : (rtext a b).length ≤ 5 := by
  have h1 := dec_len a ha
  have h2 := dec_len b hb
  unfold rtext
  split
  · simp only [List.length_append, List.length_cons, List.length_nil]; omega
  · omega
theorem runTo_lt {m : Nat} (hm : m < 18446744073709551616) : ∀ f c, c < 64 → runTo m c f < 64
  | 0, c, h => h
  | f + 1, c, h => by
    unfold runTo
    by_cases hb : m.testBit (c + 1) = true
    · rw [if_pos hb]
      refine runTo_lt hm f (c + 1) ?_
      rcases Nat.lt_or_ge (c + 1) 64 with h1 | h1
      · exact h1
      · rw [Gf.bit_ge (n := 64) hm h1] at hb; cases hb
    · rw [if_neg hb]; exact h
theorem runs_short {m : Nat} (hm : m < 18446744073709551616) : ∀ f c, ∀ x ∈ runs m f c, x.length ≤ 5
  | 0, _ => fun x h => by cases h
  | f + 1, c => by
    intro x hx
    unfold runs at hx
    split at hx
    · cases hx
    · split at hx
      · rcases List.mem_cons.1 hx with rfl | hx
        · exact rtext_len _ _ (by omega) (runTo_lt hm 64 c (by omega))
        · exact runs_short hm f _ x hx
      · exact runs_short hm f _ x hx
theorem runs_nil {m : Nat} : ∀ f c, runs m f c = [] → 64 - c < f → ∀ i, c ≤ i → i < 64 → m.testBit i = false
  | 0, _, _, h => by omega
  | f + 1, c, h, hf => by
    intro i h1 h2
    unfold runs at h
    rw [if_neg (by omega)] at h
    by_cases hb : m.testBit c = true
    · rw [if_pos hb] at h; cases h
    · rw [if_neg hb] at h
      by_cases e : c = i
      · subst e; simpa using hb
      · exact runs_nil f (c + 1) h (by omega) i (by omega) h2
theorem runs_ne {m : Nat} (hm : m < 18446744073709551616) (h : m ≠ 0) : runs m 65 0 ≠ [] := fun e => by
  have h1 := Gf.plen_top h
  have h2 : Gf.plen m ≤ 64 := plen_le64 hm
  have h3 := Gf.plen_pos h
  rw [runs_nil 65 0 e (by omega) (Gf.plen m - 1) (by omega) (by omega)] at h1
  cases h1

theorem hasB_nat {m : Nat} (hm : m < 18446744073709551616) (k : Nat) : hasB m (k : Int) = m.testBit k := by
  unfold hasB
  by_cases h : k < 64
  · rw [decide_eq_true (by omega), Bool.true_and, Int.toNat_natCast]
  · rw [decide_eq_false (by omega), Bool.false_and, Gf.bit_ge (n := 64) hm (by omega)]
/-- append(out, s) of one string. -/
theorem wpl_app1S {ops : Array Oper} {rest : List Oper} {o : Oper} {a : Act} {Q : Exit → Act → World → Prop} (hgd : o.guard = none) (s x : Operand) (t : TypeId)
    (ho : o.op = .call { callee := .builtin .append, args := #[s, x], argTypes := #[t, t] }) (ht : Tryd.prog.underlying t = some (.slice 9))
    (base : Nat) (v : Value) (xs : List (List UInt8)) (wr : World) (hown : OwnsS wr base v xs) (hs : a.eval s = v) (c : ByteArray) (y : List UInt8) (hx : a.eval x = .slice (some ⟨wr.heap.size, 0, none⟩) 1 1)
    (hc : c = bstr y) (hlen : xs.length < 1000000) (hbase : base ≤ wr.heap.size)
    (h : ∀ v' w', OwnsS w' base v' (xs ++ [y]) → Below base wr w' → wpList Tryd.prog ops Q rest (a.put o.dst v') w') :
    wpList Tryd.prog ops Q (o :: rest) a (wr.alloc (.cells #[.string c] 9)) := by
  subst hc
  obtain ⟨i0, hi0, hz0, hz1, hz2⟩ := info_parts info_string
  refine wpList_append_own _ hgd s x t ho base 9 i0 (.string ByteArray.empty) 1 16 ht hi0 hz0 hz1 hz2 rfl (by decide) v xs.length (xs.map fun x => Value.string (bstr x)) hs (World.ownsRow.alloc hown _) ⟨wr.heap.size, 0, none⟩ 1 1 [.string (bstr y)] hx rfl
    (cell_one_new _ _ _) (by simp [Value.oneCell']) (by unfold maxLen; omega) (by omega) (by simp; omega) ?_
  intro v' w' hown' hg _
  refine h v' w' ?_ (((Below.refl base wr).alloc hbase _).grown hg (by simp; omega) (fun j hj => (World.ownsRow.lt hown j hj).1))
  unfold OwnsS
  simpa using hown'
theorem OwnsS.keep {w w' : World} {base n : Nat} {v : Value} {xs : List (List UInt8)} (h : OwnsS w base v xs) (hB : Below n w w') (hn : w.heap.size ≤ n) : OwnsS w' base v xs := by
  obtain ⟨h1, h⟩ := h
  refine ⟨h1, ?_⟩
  rcases h with h | ⟨g, cap, cur, rfl, hb, hg, rest⟩
  · exact .inl h
  · have hlt := (Array.getElem?_eq_some_iff.1 hg).1
    exact .inr ⟨g, cap, cur, rfl, hb, (hB.block g (by omega)).trans hg, rest⟩

set_option maxRecDepth 100000 in
set_option maxHeartbeats 4000000 in
theorem mtext_any (m : Nat) (hm : m < 18446744073709551616) (w : World) :
    Calls Tryd.prog 15 #[.int .u64 m] w fun e w' => e = .returned (.string (bstr (mtextB m))) ∧ Below w.heap.size w w' := by
  by_cases h0 : m = 0
  · have e : mtextB m = [45] := if_pos h0
    rw [e]
    have q1 : ((m : Int) == 0) = true := by simp [h0]
    clear e h0
    go_enter Tryd.func15, Tryd.ntmps15
    go_wp2_with fail
    go_ret
    exact ⟨rfl, bel_refl _⟩
  have q1 : ((m : Int) == 0) = false := beq_false_of_ne (by omega)
  have hT : mtextB m = Lib.join (runs m 65 0) [44] := if_neg h0
  have hne := runs_ne hm h0
  have hln := runs_len m 65 0
  have hsh := runs_short hm 65 0
  have HT := Lib.hid hT
  obtain ⟨X, HX⟩ := nm (runs m 65 0)
  rw [HX.out] at HT hne hln hsh
  obtain ⟨T, HTT⟩ := nm (mtextB m)
  rw [HTT.out] at HT ⊢
  have HNE := Lib.hid hne
  have HSH := Lib.hid hsh
  clear hT hne hsh h0
  go_enter Tryd.func15, Tryd.ntmps15
  go_wp2_with fail
  go_loopw [3, 4] (fun vr vc wr => ∃ (c : Nat) (pre : List (List UInt8)), c ≤ 64 ∧ vc = .int .i64 (c : Int) ∧ OwnsS wr w.heap.size vr pre ∧ Hid (X = pre ++ runs m 65 c) ∧ Below w.heap.size w wr) (fun _ vc _ => 64 - (intOf vc).toNat)
  case atStart => exact ⟨0, [], by omega, rfl, World.ownsRow_nil _ _ _ _, Lib.hid (by rw [HX.out]; rfl), bel_refl _⟩
  case round =>
    obtain ⟨c, pre, hc, rfl, hor, HE, hBr⟩ := hrel
    have hpl : pre.length ≤ 65 := by have := congrArg List.length HE.out; rw [List.length_append] at this; omega
    obtain ⟨wo, rfl⟩ : ∃ wo : World, wo = wr := ⟨_, rfl⟩
    by_cases hlt : c < 64
    · have hha := fun W => has_any m hm (c : Int) (by omega) W
      have hhb : hasB m (c : Int) = m.testBit c := by unfold hasB; rw [decide_eq_true (by omega), Bool.true_and, Int.toNat_natCast]
      simp only [hhb] at hha
      cases hb : m.testBit c with
      | false =>
        have hr := runs_no m c hlt hb
        simp only [hb] at hha
        have HHA := Lib.hid hha
        have HR := Lib.hid hr
        have HOR := Lib.hid hor
        clear hha hhb hr hb hor
        go_wp2_with fail
        refine (HHA.out _).mono ?_
        rintro e w1 ⟨rfl, rfl⟩
        go_wp2_with fail
        go_roundw
        case rel => exact ⟨c + 1, pre, by omega, by go_num, HOR.out, Lib.hid (by rw [HE.out, HR.out]), hBr⟩
        case measure => simp [intOf]; omega
      | true =>
        simp only [hb] at hha
        have HHA := Lib.hid hha
        have HBT := Lib.hid hb
        have HOR := Lib.hid hor
        clear hha hhb hb hor
        go_wp2_with fail
        refine (HHA.out _).mono ?_
        rintro e w1 ⟨rfl, rfl⟩
        go_wp2_with fail
        refine (Tryd.strconv_Itoa_small c (by omega) _).mono ?_
        rintro e w1 ⟨rfl, rfl⟩
        go_wp2_with fail
        go_loopw [6] (fun vl wr => ∃ l : Nat, c ≤ l ∧ l < 64 ∧ vl = .int .i64 (l : Int) ∧ Hid (∀ i, c < i → i ≤ l → m.testBit i = true) ∧ w1 = wr) (fun vl _ => 64 - (intOf vl).toNat)
        case atStart => exact ⟨c, Nat.le_refl _, hlt, rfl, Lib.hid (fun i h1 h2 => by omega), rfl⟩
        case round =>
          obtain ⟨l, hcl, hl64, rfl, HL, rfl⟩ := hrel
          have hh2 := fun W => has_any m hm ((l : Int) + 1) (by omega) W
          have hhv : hasB m ((l : Int) + 1) = m.testBit (l + 1) := hasB_nat hm (l + 1)
          simp only [hhv] at hh2
          have hw1 : IntKind.i64.wrap ((l : Int) + 1) = (l : Int) + 1 := IntWalk.i64_in _ (by omega)
          cases hb2 : m.testBit (l + 1) with
          | true =>
            simp only [hb2] at hh2
            have HH2 := Lib.hid hh2
            have hl65 : l + 1 < 64 := by
              rcases Nat.lt_or_ge (l + 1) 64 with h | h
              · exact h
              · rw [Gf.bit_ge (n := 64) hm h] at hb2; cases hb2
            have HL2 := Lib.hid (show ∀ i, c < i → i ≤ l + 1 → m.testBit i = true from fun i h1 h2 => by
              by_cases e : i = l + 1
              · rw [e]; exact hb2
              · exact HL.out i h1 (by omega))
            clear hh2 hhv hb2
            go_wp2_with fail
            refine (HH2.out _).mono ?_
            rintro e w2 ⟨rfl, rfl⟩
            go_wp2_with fail
            go_roundw
            case rel => exact ⟨l + 1, by omega, hl65, by go_num, HL2, trivial⟩
            case measure => simp [intOf]; omega
          | false =>
            simp only [hb2] at hh2
            have HH2 := Lib.hid hh2
            have hrt := runTo_eq m 64 c l hcl (by omega) HL.out hb2
            have hry := runs_yes m c l hlt HBT.out hrt hcl
            have HRY := Lib.hid hry
            have hsz := hBr.size
            obtain ⟨ar, nr, kr, rfl, hnr⟩ : ∃ a n c', u3 = .slice a n c' ∧ True := by
              rcases HOR.out.2 with ⟨rfl, _⟩ | ⟨g, cap, cur, rfl, _⟩
              · exact ⟨_, _, _, rfl, trivial⟩
              · exact ⟨_, _, _, rfl, trivial⟩
            clear hh2 hhv hb2 hrt hry hnr
            by_cases hgt : c < l
            · have hrx : rtext c l = Lib.decDigits c ++ ([45] ++ Lib.decDigits l) := if_pos hgt
              have HRX := Lib.hid hrx
              clear hrx
              go_wp2_with fail
              refine (HH2.out _).mono ?_
              rintro e w2 ⟨rfl, rfl⟩
              go_wp2_with fail
              refine (Tryd.strconv_Itoa_small l (by omega) _).mono ?_
              rintro e w2 ⟨rfl, rfl⟩
              have d1 := dec_len c hlt
              have d2 := dec_len l hl64
              go_wp2_with (at_builtin; refine wpl_app1S rfl (.tmp 34) (.tmp 36) 40 rfl Tryd.underlying40 w.heap.size _ pre _ HOR.out rfl _ (rtext c l) rfl ?_ ?_ ?_ ?_; (rw [HRX.out, ← bstr_append, ← bstr_append]; rfl); (omega); (exact hsz); intro vr2 w5 hor5 hb5)
              go_roundw
              case rel => exact ⟨l + 1, pre ++ [rtext c l], by omega, by go_num, hor5, Lib.hid (by rw [HE.out, HRY.out]; simp), hBr.trans hb5⟩
              case measure => simp [intOf]; omega
            · obtain rfl : c = l := by omega
              have hrx : rtext c c = Lib.decDigits c := if_neg (by omega)
              have HRX := Lib.hid hrx
              clear hrx hgt
              go_wp2_with fail
              refine (HH2.out _).mono ?_
              rintro e w2 ⟨rfl, rfl⟩
              have d1 := dec_len c hlt
              go_wp2_with (at_builtin; refine wpl_app1S rfl (.tmp 34) (.tmp 36) 40 rfl Tryd.underlying40 w.heap.size _ pre _ HOR.out rfl _ (rtext c c) rfl ?_ ?_ ?_ ?_; (rw [HRX.out]; rfl); (omega); (exact hsz); intro vr2 w5 hor5 hb5)
              go_roundw
              case rel => exact ⟨c + 1, pre ++ [rtext c c], by omega, by go_num, hor5, Lib.hid (by rw [HE.out, HRY.out]; simp), hBr.trans hb5⟩
              case measure => simp [intOf]; omega
    · obtain rfl : c = 64 := by omega
      have hx : X = pre := by rw [HE.out, runs_end m 64 (Nat.le_refl _), List.append_nil]
      subst hx
      rcases hor.2 with ⟨rfl, h0⟩ | ⟨g, cap, cur, rfl, hbg, hgc, hnc, hcap, hcs, htk⟩
      · exact absurd (List.length_eq_zero_iff.1 h0) HNE.out
      · have hcl := fun j hj => World.ownsRow.cellAt hor j hj
        have HCL := Lib.hid hcl
        have hgl : g < wo.heap.size := (Array.getElem?_eq_some_iff.1 hgc).1
        clear hor hcs htk hgc hcl hpl
        obtain ⟨Y, HY⟩ := nm (X.map bstr)
        have hYl : Y.length = X.length := by rw [← HY.out]; simp
        have hYd : Y.map (fun s => s.data.toList) = X := by
          rw [← HY.out, List.map_map]
          conv => rhs; rw [← List.map_id X]
          apply List.map_congr_left
          intro x _
          simp [bstr]
        have hjl : (Lib.join (Y.map fun s => s.data.toList) (⟨#[44]⟩ : ByteArray).data.toList).length ≤ 140737488355328 := by
          rw [hYd]
          refine Nat.le_trans (join_len 5 _ [44] HSH.out) ?_
          simp; omega
        have hcells : ∀ (j : Nat) s, Y[j]? = some s → wo.cell? ⟨g, 0 + j, none⟩ = some (.string s) := by
          intro j s hs
          have hj : j < Y.length := (List.getElem?_eq_some_iff.1 hs).1
          rw [Nat.zero_add, HCL.out j (by omega)]
          rw [← HY.out] at hs
          simp at hs ⊢
          obtain ⟨x, hx, rfl⟩ := hs
          exact ⟨x, hx, rfl⟩
        have hjc := Tryd.strings_Join g 0 cap Y ⟨#[44]⟩ wo hcells hgl (by rw [hYl]; omega) (by rw [hYl]; exact hnc) hjl
        rw [hYl, hYd] at hjc
        obtain ⟨L, HL⟩ := nm X.length
        rw [HL.out] at hjc hln hnc ⊢
        have HJC := Lib.hid hjc
        clear hYl hYd hjl hcells hjc HCL
        go_wp2_with fail
        refine HJC.out.mono ?_
        rintro e w3 ⟨rfl, hb3⟩
        rw [← HT.out]
        have hB3 := bel_trans hBr hb3 hBr.size
        clear hb3
        go_wp2_with fail
        go_ret
        exact ⟨rfl, hB3⟩
end Go.Proofs.YtjpkldndeakkkaaDoor
