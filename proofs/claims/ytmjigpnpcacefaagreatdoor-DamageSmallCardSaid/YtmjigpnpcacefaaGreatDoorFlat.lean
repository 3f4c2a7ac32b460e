/- The walk of quantumkit.flatBytes: rows of bytes that lie apart are told to lie apart. -/
import Derived.Test.YtmjigpnpcacefaaGreatDoorApart
import Derived.Test.YtmjigpnpcacefaaGreatDoorLentB
import Derived.Deep.DeepCutAuto
namespace Go.Proofs.YtmjigpnpcacefaaGreatDoor
open Go Go.RowKit Go.Shelf

/-- The first m marks of row k, as bytes. -/
def markL (k m : Nat) : List Nat := (List.range m).map (mkB k)
theorem markL_length (k m : Nat) : (markL k m).length = m := by simp [markL]
theorem markL_succ (k m : Nat) : markL k (m + 1) = markL k m ++ [mkB k m] := by unfold markL; rw [List.range_succ, List.map_append]; rfl
theorem markL_get (k m j : Nat) (h : j < m) : (markL k m)[j]?.getD 0 = mkB k j := by unfold markL; rw [List.getElem?_map, List.getElem?_range h, Option.map_some, Option.getD_some]
theorem markL_of {k m : Nat} {X : List Nat} (hx : X.length = m) (h : ∀ j, j < m → X[j]?.getD 0 = mkB k j) : X = markL k m := by
  apply List.ext_getElem
  · rw [hx, markL_length]
  · intro j h1 h2
    have := h j (by omega)
    rw [List.getElem?_eq_getElem h1, Option.getD_some] at this
    simp [markL, this]
theorem markL_add (k m i : Nat) : markL k (m + i) = markL k m ++ (List.range i).map fun (j : Nat) => mkB k (m + j) := by
  unfold markL; rw [List.range_add, List.map_append, List.map_map]; rfl
theorem owns_block {k : IntKind} {e : TypeId} {w : World} {base : Nat} {v : Value} {xs : List Nat} (h : Owns k e w base v xs) : ∀ b, v.ownBlock = some b → base ≤ b ∧ b < w.heap.size := World.ownsRow.lt h
theorem owns_caps {k : IntKind} {e e' : TypeId} {w : World} {base base' g n c n' c' : Nat} {xs ys : List Nat} (h : Owns k e w base (.slice (some ⟨g, 0, none⟩) n c) xs) (h' : Owns k e' w base' (.slice (some ⟨g, 0, none⟩) n' c') ys) : c = c' := by
  obtain ⟨_, h⟩ := h
  obtain ⟨_, h'⟩ := h'
  rcases h with ⟨h, _⟩ | ⟨g1, c1, cur, hv, _, hg, _, _, hs, _⟩
  · cases h
  rcases h' with ⟨h', _⟩ | ⟨g2, c2, cur2, hv', _, hg', _, _, hs', _⟩
  · cases h'
  cases hv; cases hv'
  rw [hg] at hg'
  cases hg'
  omega
/-- A row grown out of s (in its own block, or in a newer one) grows once more. -/
theorem grow_step {k : IntKind} {e : TypeId} {w0 wr w' : World} {base : Nat} {s g g' : Value} {xs ys : List Nat} (hs : Owns k e wr base s xs) (hg : Owns k e wr base g (xs ++ ys)) (hl : g.ownBlock = s.ownBlock ∨ ∀ b, g.ownBlock = some b → w0.heap.size ≤ b)
    (hss : ∀ b, s.ownBlock = some b → b < w0.heap.size) (hO : Oth s.ownBlock w0.heap.size w0 wr) (hw : w0.heap.size ≤ wr.heap.size) (h2 : Owns k e w' base g (xs ++ ys)) (hgr : wr.grownBy w' g.ownBlock)
    (hl' : g'.ownBlock = g.ownBlock ∨ ∀ b, g'.ownBlock = some b → wr.heap.size ≤ b) :
    Oth s.ownBlock w0.heap.size w0 w' ∧ Owns k e w' base s xs ∧ (g'.ownBlock = s.ownBlock ∨ ∀ b, g'.ownBlock = some b → w0.heap.size ≤ b) := by
  refine ⟨hO.trans (Oth.of_grown hgr hw ?_), ?_, ?_⟩
  · exact hl
  · rcases hl with hl | hl
    · rcases hs.form with ⟨rfl, rfl⟩ | ⟨b, c, rfl, -⟩
      · exact Owns.nil _ _ _ _
      · rcases hg.form with ⟨rfl, -⟩ | ⟨b', c', rfl, -⟩
        · cases hl
        · obtain rfl : b' = b := by cases hl; rfl
          obtain rfl := owns_caps hs hg
          rw [List.length_append] at h2
          exact owns_pre h2 rfl rfl
    · refine hs.oth (R := g.ownBlock) (n := wr.heap.size) (fun b hb hne => hgr.block b hb (fun e => hne e.symm)) (fun b hb => ?_)
      have h1 := hss b hb
      exact ⟨by omega, fun e => by have := hl b e; omega⟩
  · rcases hl' with hl' | hl'
    · rcases hl with hl | hl
      · exact .inl (hl'.trans hl)
      · exact .inr fun b hb => hl b (hl' ▸ hb)
    · exact .inr fun b hb => Nat.le_trans hw (hl' b hb)
/-- The rows lie in blocks of their own. -/
def Dis (n : Nat) (S : Nat → Value) : Prop := ∀ i j, i < n → j < n → i ≠ j → ∀ b, (S i).ownBlock = some b → (S j).ownBlock ≠ some b

/-- What has grown out of a row lies in that row's block, or behind H. -/
def Loc (H : Nat) (s t : Value) : Prop := t.ownBlock = s.ownBlock ∨ ∀ b, t.ownBlock = some b → H < b
/-- The list of rows at G is as it was, and so is block B0. -/
def Gs (G n : Nat) (S : Nat → Value) (B0 : Nat) (o0 : Option Obj) (w : World) : Prop := (∀ j, j < n → w.cell? ⟨G, j, none⟩ = some (S j)) ∧ B0 < w.heap.size ∧ w.heap[B0]? = o0
theorem Gs.keep {G n : Nat} {S : Nat → Value} {B0 : Nat} {o0 : Option Obj} {w w' : World} (h : Gs G n S B0 o0 w) (hB : Below w.heap.size w w') : Gs G n S B0 o0 w' :=
  ⟨fun j hj => cell_keep hB (h.1 j hj) (cell_lt (h.1 j hj)), Nat.lt_of_lt_of_le h.2.1 hB.size, (hB.block B0 h.2.1).trans h.2.2⟩
theorem Gs.oth {G n : Nat} {S : Nat → Value} {B0 : Nat} {o0 : Option Obj} {w w' : World} {R : Option Nat} (h : Gs G n S B0 o0 w) (hO : Oth R w.heap.size w w') (hG : R ≠ some G) (hB : R ≠ some B0) (hs : B0 < w'.heap.size) : Gs G n S B0 o0 w' :=
  ⟨fun j hj => oth_cell hO (h.1 j hj) (cell_lt (h.1 j hj)) hG, hs, (hO B0 h.2.1 hB).trans h.2.2⟩
theorem Gs.set {G n : Nat} {S : Nat → Value} {B0 : Nat} {o0 : Option Obj} {w : World} (h : Gs G n S B0 o0 w) {H k : Nat} {t : Value} (hG : G ≠ H) (hB : B0 ≠ H) : Gs G n S B0 o0 (w.setCell ⟨H, k, none⟩ t) :=
  ⟨fun j hj => (World.cell?_of_block (w := w) (Below.heap_setCell w ⟨H, k, none⟩ t G hG)).trans (h.1 j hj), by rw [World.size_setCell]; exact h.2.1, (Below.heap_setCell w ⟨H, k, none⟩ t B0 hB).trans h.2.2⟩
/-- The rows S hold their marks, the list of rows at G is as it was, and the first k rows of the list at H hold what P asks. -/
def Fam (G n : Nat) (S : Nat → Value) (M : Nat → Nat) (base B0 : Nat) (o0 : Option Obj) (H k : Nat) (P : Nat → List Nat → Prop) (w : World) : Prop :=
  Gs G n S B0 o0 w ∧ (∀ j, j < n → Owns .u8 5 w base (S j) (markL j (M j))) ∧ H < w.heap.size ∧
  ∃ ts : List Value, ts.length = n ∧ OwnsS 22 w base (.slice (some ⟨H, 0, none⟩) n n) ts ∧
    ∀ j, j < k → ∃ t X, ts[j]? = some t ∧ P j X ∧ Owns .u8 5 w base t X ∧ Loc H (S j) t
theorem Fam.zero {G n : Nat} {S : Nat → Value} {M : Nat → Nat} {base B0 : Nat} {o0 : Option Obj} {H k : Nat} {P P' : Nat → List Nat → Prop} {w : World} (h : Fam G n S M base B0 o0 H k P w) : Fam G n S M base B0 o0 H 0 P' w := by
  obtain ⟨h1, h2, h3, ts, h4, h5, -⟩ := h
  exact ⟨h1, h2, h3, ts, h4, h5, fun j hj => absurd hj (Nat.not_lt_zero _)⟩
theorem Fam.keep {G n : Nat} {S : Nat → Value} {M : Nat → Nat} {base B0 : Nat} {o0 : Option Obj} {H k : Nat} {P : Nat → List Nat → Prop} {w w' : World} (h : Fam G n S M base B0 o0 H k P w) (hB : Below w.heap.size w w') : Fam G n S M base B0 o0 H k P w' := by
  obtain ⟨h1, h2, h3, ts, h4, h5, h6⟩ := h
  refine ⟨h1.keep hB, fun j hj => (h2 j hj).keep hB (Nat.le_refl _), Nat.lt_of_lt_of_le h3 hB.size, ts, h4, h5.oth (Oth.of_below (R := none) hB (Nat.le_refl _)) (fun g hg => ?_), fun j hj => ?_⟩
  · cases hg
    exact ⟨h3, by simp⟩
  · obtain ⟨t, X, a1, a2, a3, a4⟩ := h6 j hj
    exact ⟨t, X, a1, a2, a3.keep hB (Nat.le_refl _), a4⟩
theorem Fam.step {G n : Nat} {S : Nat → Value} {M : Nat → Nat} {base B0 : Nat} {o0 : Option Obj} {H k : Nat} {P : Nat → List Nat → Prop} {w0 w' : World} {t : Value} {X : List Nat} (h : Fam G n S M base B0 o0 H k P w0) (hk : k < n)
    (hd : Dis n S) (hGS : ∀ j, j < n → (S j).ownBlock ≠ some G) (hBS : ∀ j, j < n → (S j).ownBlock ≠ some B0) (hGH : G < H) (hBH : B0 < H) (hSH : ∀ j, j < n → ∀ b, (S j).ownBlock = some b → b < H)
    (hO : Oth (S k).ownBlock w0.heap.size w0 w') (hs : Owns .u8 5 w' base (S k) (markL k (M k))) (ht : Owns .u8 5 w' base t X)
    (hl : t.ownBlock = (S k).ownBlock ∨ ∀ b, t.ownBlock = some b → w0.heap.size ≤ b) (hP : P k X) (hsz : w0.heap.size ≤ w'.heap.size) : Fam G n S M base B0 o0 H (k + 1) P (w'.setCell ⟨H, k, none⟩ t) := by
  obtain ⟨h1, h2, h3, ts, h4, h5, h6⟩ := h
  have hRH : (S k).ownBlock ≠ some H := fun e => Nat.lt_irrefl _ (hSH k hk H e)
  have hw : (w'.setCell ⟨H, k, none⟩ t).heap.size = w'.heap.size := World.size_setCell _ _ _
  have hother : ∀ {v : Value} {Y : List Nat}, Owns .u8 5 w' base v Y → (∀ b, v.ownBlock = some b → b ≠ H) → Owns .u8 5 (w'.setCell ⟨H, k, none⟩ t) base v Y := fun hv hb => Owns.other hv hb
  refine ⟨?_, fun j hj => ?_, by rw [hw]; omega, ts.set k t, by rw [List.length_set]; exact h4, ?_, fun j hj => ?_⟩
  · exact (h1.oth hO (hGS k hk) (hBS k hk) (by have := h1.2.1; omega)).set (by omega) (by omega)
  · refine hother ?_ (fun b hb => by have := hSH j hj b hb; omega)
    by_cases e : j = k
    · subst e; exact hs
    · exact (h2 j hj).oth hO (fun b hb => ⟨(owns_block (h2 j hj) b hb).2, fun e2 => hd k j hk hj (Ne.symm e) b e2 hb⟩)
  · exact (h5.oth hO (fun b hb => by cases hb; exact ⟨h3, hRH⟩)).set h4.symm k t
  · by_cases e : j = k
    · subst e
      refine ⟨t, X, by rw [List.getElem?_set_self (by omega)], hP, hother ht (fun b hb => ?_), ?_⟩
      · rcases hl with hl | hl
        · have := hSH j hk b (hl ▸ hb); omega
        · have := hl b hb; omega
      · rcases hl with hl | hl
        · exact .inl hl
        · exact .inr fun b hb => by have := hl b hb; omega
    · have hjn : j < n := by omega
      obtain ⟨t', Y, a1, a2, a3, a4⟩ := h6 j (by omega)
      have hne : ∀ b, t'.ownBlock = some b → (S k).ownBlock ≠ some b := fun b hb e2 => by
        rcases a4 with a4 | a4
        · exact hd k j hk hjn (Ne.symm e) b e2 (a4 ▸ hb)
        · have := a4 b hb; have := hSH k hk b e2; omega
      refine ⟨t', Y, by rw [List.getElem?_set_ne (Ne.symm e)]; exact a1, a2, hother (a3.oth hO (fun b hb => ⟨(owns_block a3 b hb).2, hne b hb⟩)) (fun b hb => ?_), a4⟩
      rcases a4 with a4 | a4
      · have := hSH j hjn b (a4 ▸ hb); omega
      · have := a4 b hb; omega
theorem info_sl : (Tryz.prog.info? 22).map (fun i => (i.zero, i.size, i.bytes)) = some (some (.slice none 0 0), 1, 24) := by kernel_rfl

set_option maxRecDepth 100000 in
set_option maxHeartbeats 16000000 in
theorem flatBytes_any (G n cG : Nat) (S : Nat → Value) (L : Nat → List Nat) (M : Nat → Nat) (w : World) (base : Nat) (hn : n < 400) (hncG : n ≤ cG) (hcGm : cG ≤ 9223372036854775807) (hM : ∀ j, (L j).length = M j) (hM2 : ∀ j, M j < 800000)
    (hG : ∀ j, j < n → w.cell? ⟨G, j, none⟩ = some (S j)) (hGw : G < w.heap.size) (B0 : Nat) (o0 : Option Obj) (hB0 : B0 < w.heap.size) (ho0 : w.heap[B0]? = o0) (hBS : ∀ j, j < n → (S j).ownBlock ≠ some B0) (hS : ∀ j, j < n → Owns .u8 5 w base (S j) (L j)) (hd : Dis n S) (hGS : ∀ j, j < n → (S j).ownBlock ≠ some G) (hbase : base ≤ w.heap.size) :
    Calls Tryz.prog 65 #[.slice (some ⟨G, 0, none⟩) n cG] w fun e w' => e = .returned (.bool true) ∧ Below base w w' ∧ w'.heap[B0]? = o0 := by
  have HG := Lib.hid (show Gs G n S B0 o0 w from ⟨hG, hB0, ho0⟩)
  have HBS := Lib.hid hBS
  have HS := Lib.hid hS
  have HD := Lib.hid hd
  have HGS := Lib.hid hGS
  have HML := Lib.hid hM
  have HM2 := Lib.hid hM2
  clear hG hS hd hGS hM hM2 hBS ho0
  go_enter Tryz.func65, Tryz.ntmps65
  go_wp2_with fail
  go_loopw [3] (fun vk wr => ∃ k : Nat, k ≤ n ∧ vk = .int .i64 (k : Int) ∧ Below base w wr ∧ Gs G n S B0 o0 wr ∧ (∀ j, j < k → Owns .u8 5 wr base (S j) (markL j (M j))) ∧ (∀ j, k ≤ j → j < n → Owns .u8 5 wr base (S j) (L j))) (fun vk _ => n - (intOf vk).toNat)
  case atStart => exact ⟨0, Nat.zero_le _, rfl, Below.refl _ _, HG.out, fun j hj => absurd hj (Nat.not_lt_zero _), fun j _ hj => HS.out j hj⟩
  case round =>
    obtain ⟨k, hk, rfl, hB, hG, hlo, hhi⟩ := hrel
    by_cases hlt : k < n
    · have hSk := hhi k (Nat.le_refl _) hlt
      obtain ⟨ao, m, c, hSv, hm, -⟩ := hSk.slice
      have ck := hG.1 k hlt
      have hgk := HGS.out k hlt
      rw [hSv] at ck hSk hgk
      have hmM : m = M k := hm.trans (HML.out k)
      have hm8 : m < 800000 := by have := HM2.out k; omega
      have HGA := Lib.hid hG
      have HLO := Lib.hid hlo
      have HHI := Lib.hid hhi
      have HSK := Lib.hid hSk
      have HB := Lib.hid hB
      have HMM := Lib.hid hmM
      have HSV := Lib.hid hSv
      have HGK := Lib.hid hgk
      have HMl := Lib.hid hm
      have hk1 : (k : Int) < (n : Int) := by omega
      clear hG hlo hhi hSk hB hmM hSv hgk hm
      obtain ⟨wo, rfl⟩ : ∃ wo : World, wo = wr := ⟨_, rfl⟩
      go_wp2_with fail
      go_loopw [4] (fun vi wr => ∃ i : Nat, i ≤ m ∧ vi = .int .i64 (i : Int) ∧ Below base w wr ∧ Oth (Value.slice ao m c).ownBlock wo.heap.size wo wr ∧ ∃ X : List Nat, X.length = m ∧ (∀ j, j < i → X[j]?.getD 0 = mkB k j) ∧ Owns .u8 5 wr base (.slice ao m c) X) (fun vi _ => m - (intOf vi).toNat)
      case atStart => exact ⟨0, Nat.zero_le _, rfl, HB.out, Oth.refl _ _ _, L k, HMl.out.symm, fun j hj => absurd hj (Nat.not_lt_zero _), HSK.out⟩
      case round =>
        obtain ⟨i, hi, rfl, hBi, hOi, X, hXl, hX, hoX⟩ := hrel
        have ck2 := oth_cell hOi ck (cell_lt ck) HGK.out
        by_cases hlti : i < m
        · obtain ⟨g, rfl⟩ : ∃ g, ao = some ⟨g, 0, none⟩ := by
            rcases hoX.form with ⟨-, hx⟩ | ⟨g, c', hv, -⟩
            · rw [hx] at hXl; simp at hXl; omega
            · exact ⟨g, by cases hv; rfl⟩
          have hgb := (owns_block hoX g rfl).1
          have hGg : G ≠ g := fun e => HGK.out (by rw [e]; rfl)
          have c1 := hoX.cellAt hXl.symm i hlti
          have f1 := hoX.frozenAt hXl.symm i
          have HM := Lib.hid (fun W => markByte_any k i (by omega) (by omega) W)
          have HO := Lib.hid hoX
          have HX := Lib.hid hX
          have HXl := Lib.hid hXl
          have HOI := Lib.hid hOi
          have HBI := Lib.hid hBi
          obtain ⟨x, HXX⟩ := nm (mkB k i)
          simp only [HXX.out] at HM
          have hi1 : (i : Int) < (m : Int) := by omega
          clear hoX hX hXl hOi hBi
          go_wp2_with fail
          have HK := Lib.hid (fun (W : World) (hW : W.heap = wr.heap) => (show W.cell? ⟨G, k, none⟩ = some (.slice (some ⟨g, 0, none⟩) m c) from (World.cell?_of_block (w := wr) (by rw [hW])).trans ck2))
          refine wp_region_held_drew (S := fun W => W.cell? ⟨G, k, none⟩ = some (.slice (some ⟨g, 0, none⟩) m c)) (by kernel_rfl) (HK.out _ rfl) (fun hS => ?_)
          refine wpAnyH_takeD (i := 0) (d := some 31) (v := ?_) rfl rfl (by kernel_rfl) (by kernel_rfl) (by kernel_rfl) (fun _ _ _ h => h) (Or.inl ⟨by rfl, fun w hSw => ?_⟩) (by assumption) ?_
          rotate_left
          · first | (go_simp; done) | (go_simp; with_reducible rfl)
          simp only [Act.put, List.setIfInBounds_toArray, List.set_cons_zero, List.set_cons_succ]
          refine wpAnyH_takeD (i := 1) (d := some 32) (v := ?_) rfl rfl (by kernel_rfl) (by kernel_rfl) (by kernel_rfl) (fun _ _ _ h => h) (Or.inl ⟨by rfl, fun w hSw => ?_⟩) (by assumption) ?_
          rotate_left
          · first | (go_simp; done) | (go_simp; with_reducible rfl)
          simp only [Act.put, List.setIfInBounds_toArray, List.set_cons_zero, List.set_cons_succ]
          refine wpAnyH_takeD (i := 2) (d := some 33) (v := ?_) rfl rfl (by kernel_rfl) (by kernel_rfl) (by kernel_rfl) (fun _ _ _ h => h) (Or.inl ⟨by rfl, fun w hSw => ?_⟩) (by assumption) ?_
          rotate_left
          · first | (go_simp; done) | (go_simp; with_reducible rfl)
          simp only [Act.put, List.setIfInBounds_toArray, List.set_cons_zero, List.set_cons_succ]
          refine wpAnyH_takeD (i := 3) (d := some 34) (v := ?_) rfl rfl (by kernel_rfl) (by kernel_rfl) (by kernel_rfl) (fun _ _ _ h => h) (Or.inl ⟨by rfl, fun w hSw => ?_⟩) (by assumption) ?_
          rotate_left
          · first | (go_simp; done) | (go_simp; with_reducible rfl)
          simp only [Act.put, List.setIfInBounds_toArray, List.set_cons_zero, List.set_cons_succ]
          refine wpAnyH_takeD (i := 4) (d := some 35) (v := ?_) rfl rfl (by kernel_rfl) (by kernel_rfl) (by kernel_rfl) (fun _ _ _ h => h) (Or.inl ⟨by rfl, fun w hSw => ?_⟩) (by assumption) ?_
          rotate_left
          · first | (go_simp; done) | (go_simp; with_reducible rfl)
          simp only [Act.put, List.setIfInBounds_toArray, List.set_cons_zero, List.set_cons_succ]
          refine wpAnyH_takeD (i := 5) (d := some 36) (v := ?_) rfl rfl (by kernel_rfl) (by kernel_rfl) (by kernel_rfl) (fun _ _ _ h => h) (Or.inl ⟨by rfl, fun w hSw => ?_⟩) (by assumption) ?_
          rotate_left
          · first | (go_simp; done) | (go_simp; with_reducible rfl)
          simp only [Act.put, List.setIfInBounds_toArray, List.set_cons_zero, List.set_cons_succ]
          refine wpAnyH_takeD (i := 6) (d := some 37) (v := ?_) rfl rfl (by kernel_rfl) (by kernel_rfl) (by kernel_rfl) (fun _ _ _ h => h) (Or.inl ⟨by rfl, fun w hSw => ?_⟩) (by assumption) ?_
          rotate_left
          · first | (go_simp; done) | (go_simp; with_reducible rfl)
          simp only [Act.put, List.setIfInBounds_toArray, List.set_cons_zero, List.set_cons_succ]
          refine wpAnyH_ready (rs := [7]) (by kernel_rfl) (by simp) ?_
          refine AllReadyH.cons rfl (fun K hK => ?_) AllReadyH.nil
          go_simp
          refine (HM.out _).mono ?_
          rintro e wb ⟨rfl, rfl⟩
          refine hK _ _ (HK.out _ rfl) (fun hS' => ?_)
          clear hK K hS
          have hS := hS'
          clear hS'
          try simp only [Act.put, List.setIfInBounds_toArray, List.set_cons_zero, List.set_cons_succ]
          refine wpAnyH_takeD (i := 8) (d := some 39) (v := ?_) rfl rfl (by kernel_rfl) (by kernel_rfl) (by kernel_rfl) (fun _ _ _ h => h) (Or.inl ⟨by rfl, fun w hSw => ?_⟩) (by assumption) ?_
          rotate_left
          · first | (go_simp; done) | (go_simp; with_reducible rfl)
          simp only [Act.put, List.setIfInBounds_toArray, List.set_cons_zero, List.set_cons_succ]
          refine wpAnyH_ready (rs := [9]) (by kernel_rfl) (by simp) ?_
          refine AllReadyH.cons rfl (fun K hK => ?_) AllReadyH.nil
          go_simp
          refine hK _ _ ((World.cell?_of_block (w := wr) (Below.heap_setCell wr.drew ⟨g, i, none⟩ _ G hGg)).trans ck2) (fun _ => ?_)
          clear hK K
          try simp only [Act.put, List.setIfInBounds_toArray, List.set_cons_zero, List.set_cons_succ]
          refine wpAnyH_done (by kernel_rfl) ?_ _
          go_wp2_with fail
          go_roundw
          case rel =>
            refine ⟨i + 1, by omega, by go_num, HBI.out.drew.setCell (p := ⟨g, i, none⟩) hgb _, HOI.out.trans (Oth.trans (b := wr.drew) (fun b _ _ => rfl) (Oth.setCell wr.drew g i _ (.inl rfl))), X.set i x, by rw [List.length_set]; exact HXl.out, fun j hj => ?_, (Owns.drew HO.out).set HXl.out.symm i x _ rfl (by rw [HXl.out]; exact hlti)⟩
            by_cases e : j = i
            · subst e
              rw [List.getElem?_set_self (by rw [HXl.out]; exact hlti), Option.getD_some]
              exact HXX.out.symm
            · rw [List.getElem?_set_ne (Ne.symm e)]
              exact HX.out j (by omega)
          case measure => simp [intOf]; omega
        · obtain rfl : i = m := by omega
          have hXM := markL_of hXl hX
          subst hXM
          have hOi' : Oth (S k).ownBlock wo.heap.size wo wr := by rw [HSV.out]; exact hOi
          have H1 := Lib.hid (HGA.out.oth hOi' (HGS.out k hlt) (HBS.out k hlt) (Nat.lt_of_lt_of_le hB0 hBi.size))
          have H2 := Lib.hid (show ∀ j, j < k + 1 → Owns .u8 5 wr base (S j) (markL j (M j)) from fun j hj => by
            by_cases e : j = k
            · subst e
              rw [HSV.out, ← HMM.out]
              exact hoX
            · exact (HLO.out j (by omega)).oth hOi' (fun b hb => ⟨(owns_block (HLO.out j (by omega)) b hb).2, fun e2 => HD.out k j hlt (by omega) (Ne.symm e) b e2 hb⟩))
          have H3 := Lib.hid (show ∀ j, k + 1 ≤ j → j < n → Owns .u8 5 wr base (S j) (L j) from fun j hj hjn =>
            (HHI.out j (by omega) hjn).oth hOi' (fun b hb => ⟨(owns_block (HHI.out j (by omega) hjn) b hb).2, fun e2 => HD.out k j hlt hjn (by omega) b e2 hb⟩))
          have HBI := Lib.hid hBi
          clear hOi hOi' hoX hXl hX hBi
          go_wp2_with fail
          go_roundw
          case rel => exact ⟨k + 1, by omega, by go_num, HBI.out, H1.out, H2.out, H3.out⟩
          case measure => simp [intOf]; omega
    · obtain rfl : k = n := by omega
      have HGA := Lib.hid hG
      have HSA := Lib.hid hlo
      have HB := Lib.hid hB
      clear hG hlo hhi hB hlt hk HG HS HML
      go_wp2_with (refine wpl_makeS rfl (.tmp 41) (.tmp 41) 54 rfl 22 24 Tryz.underlying54 info_sl (by decide) base wr k _ _ rfl rfl rfl rfl (by omega) (Nat.le_trans hbase HB.out.size) ?_; intro w2 ho2 hb2 hs2)
      obtain ⟨H, HH⟩ := nm wr.heap.size
      have hGH : G < H := by rw [← HH.out]; exact Nat.lt_of_lt_of_le hGw HB.out.size
      have hBH : B0 < H := by rw [← HH.out]; exact Nat.lt_of_lt_of_le hB0 HB.out.size
      have hSH : ∀ j, j < k → ∀ b, (S j).ownBlock = some b → b < H := fun j hj b hb => by rw [← HH.out]; exact (owns_block (HSA.out j hj) b hb).2
      have hF : Fam G k S M base B0 o0 H 0 (fun j X => X = markL j (M j + 64)) w2 := by
        refine ⟨HGA.out.keep hb2, fun j hj => (HSA.out j hj).keep hb2 (Nat.le_refl _), by rw [← HH.out]; exact hs2, _, List.length_replicate, by rw [← HH.out]; exact ho2, fun j hj => absurd hj (Nat.not_lt_zero _)⟩
      rw [HH.out] at hb2 ⊢
      have HF := Lib.hid hF
      have HBw := Lib.hid (HB.out.trans (hb2.mono (by rw [← HH.out]; exact Nat.le_trans hbase HB.out.size)))
      have hbH : base ≤ H := by rw [← HH.out]; exact Nat.le_trans hbase HB.out.size
      have HSH := Lib.hid hSH
      clear ho2 hb2 hs2 hF hSH HB HGA HSA HH
      go_loopw [6] (fun vk wr => ∃ i : Nat, i ≤ k ∧ vk = .int .i64 (i : Int) ∧ Below base w wr ∧ Fam G k S M base B0 o0 H i (fun j X => X = markL j (M j + 64)) wr) (fun vk _ => k - (intOf vk).toNat)
      case atStart => exact ⟨0, Nat.zero_le _, rfl, HBw.out, HF.out⟩
      case round =>
        obtain ⟨i, hi, rfl, hB, hF⟩ := hrel
        by_cases hlt : i < k
        · have hSk := hF.2.1 i hlt
          obtain ⟨ao, m, c, hSv, hm, -⟩ := hSk.slice
          rw [markL_length] at hm
          have ck := hF.1.1 i hlt
          have hgk := HGS.out i hlt
          rw [hSv] at ck hSk hgk
          have hm8 : m < 800000 := by have := HM2.out i; omega
          have hk1 : (i : Int) < (k : Int) := by omega
          have HSK := Lib.hid hSk
          have HSV := Lib.hid hSv
          have HMl := Lib.hid hm
          have HB := Lib.hid hB
          have HFB := Lib.hid hF
          have HGK := Lib.hid hgk
          clear hSk hSv hm hB hF hgk
          obtain ⟨wo, rfl⟩ : ∃ wo : World, wo = wr := ⟨_, rfl⟩
          go_wp2_with fail
          go_loopw [7, 8] (fun vg vi wr => ∃ q : Nat, q ≤ 64 ∧ vi = .int .i64 (q : Int) ∧ Below base w wr ∧ wo.heap.size ≤ wr.heap.size ∧ Oth (Value.slice ao m c).ownBlock wo.heap.size wo wr ∧ Owns .u8 5 wr base (.slice ao m c) (markL i m) ∧ Owns .u8 5 wr base vg (markL i (m + q)) ∧ (vg.ownBlock = (Value.slice ao m c).ownBlock ∨ ∀ b, vg.ownBlock = some b → wo.heap.size ≤ b)) (fun _ vi _ => 64 - (intOf vi).toNat)
          case atStart => exact ⟨0, Nat.zero_le _, rfl, HB.out, Nat.le_refl _, Oth.refl _ _ _, by have h := HSK.out; rw [← HMl.out] at h; exact h, by have h := HSK.out; rw [← HMl.out] at h; exact h, .inl rfl⟩
          case round =>
            obtain ⟨q, hq, rfl, hBq, hsq, hOq, hoS, hoG, hlq⟩ := hrel
            have ck2 := oth_cell hOq ck (cell_lt ck) HGK.out
            by_cases hltq : q < 64
            · have hgl : (markL i (m + q)).length < 17592186044415 := by rw [markL_length]; omega
              have hqi : (q : Int) < 64 := by omega
              have hw1 : IntKind.i64.wrap ((m : Int) + (q : Int)) = ((m + q : Nat) : Int) := by rw [IntWalk.i64_in _ (by omega)]; omega
              have hw2 : (m : Int) + (q : Int) = ((m + q : Nat) : Int) := by omega
              have HM := Lib.hid (fun W => markByte_any i (m + q) (by omega) (by omega) W)
              have HQS := Lib.hid (markL_succ i (m + q))
              obtain ⟨x, HXX⟩ := nm (mkB i (m + q))
              simp only [HXX.out] at HM HQS
              have HQA := Lib.hid (markL_add i m q)
              obtain ⟨z, HZ⟩ := nm (m + q)
              rw [HZ.out] at hw1 hw2 HQS HQA hgl hoG
              simp only [HZ.out] at HM
              have HGL := Lib.hid hgl
              have HBQ := Lib.hid hBq
              have HOQ := Lib.hid hOq
              have HOS := Lib.hid hoS
              have HOG := Lib.hid hoG
              have HLQ := Lib.hid hlq
              have HSQ := Lib.hid hsq
              obtain ⟨vg, rfl⟩ : ∃ vg : Value, vg = u7 := ⟨_, rfl⟩
              clear hBq hOq hoS hoG hlq hsq hgl
              go_wp2_with fail
              refine (HM.out _).mono ?_
              rintro e wb ⟨rfl, rfl⟩
              go_wp2_with (at_builtin; refine wpl_app1L rfl (.tmp 57) (.tmp 67) 22 rfl .u8 5 1 Tryz.underlying22 info_u8 (by decide) base vg (markL i z) wr HOG.out rfl _ x rfl rfl HGL.out (Nat.le_trans hbase HBQ.out.size) ?_; intro v3 w3 ho3 ho4 hg3 hl3)
              have hgs := grow_step HOS.out (by rw [← HQA.out]; exact HOG.out) HLQ.out (fun b hb => (owns_block HSK.out b hb).2) HOQ.out HSQ.out (by rw [← HQA.out]; exact ho4) hg3 hl3
              have hbn := HBQ.out.grown hg3 (Nat.le_trans hbase HBQ.out.size) (fun b hb => (owns_block HOG.out b hb).1)
              go_roundw
              case rel => exact ⟨q + 1, by omega, by go_num, hbn, Nat.le_trans HSQ.out hg3.size, hgs.1, hgs.2.1, by rw [show m + (q + 1) = z + 1 by have := HZ.out; omega, HQS.out]; exact ho3, hgs.2.2⟩
              case measure => simp [intOf]; omega
            · obtain rfl : q = 64 := by omega
              have hmM : m = M i := HMl.out
              have hR := HSV.out
              obtain ⟨ga, gn, gc, rfl, -⟩ := hoG.slice
              have hst := fun (W : World) (hW : W = wr) => HFB.out.step (w0 := wo) (w' := wr) (t := .slice ga gn gc) (X := markL i (M i + 64)) hlt HD.out HGS.out HBS.out hGH hBH HSH.out (by rw [hR]; exact hOq) (by rw [hR, ← hmM]; exact hoS) (by rw [← hmM]; exact hoG) (by rw [hR]; exact hlq) rfl hsq
              have HST := Lib.hid (hst wr rfl)
              obtain ⟨hF1, hF2, hF3, ts, hF4, hF5, -⟩ := HFB.out
              have hHR : (Value.slice ao m c).ownBlock ≠ some H := fun e => Nat.lt_irrefl _ (HSH.out i hlt H (by rw [hR]; exact e))
              have fH := oth_frozen hOq (hF5.frozenAt hF4.symm i) hF3 hHR
              have ⟨t0, ht0⟩ : ∃ t0, ts[i]? = some t0 := ⟨_, List.getElem?_eq_getElem (by omega)⟩
              have cH := oth_cell hOq (hF5.cellAt hF4.symm ht0) hF3 hHR
              have HBQ := Lib.hid hBq
              rw [show ((64 : Nat) : Int) = 64 from rfl]
              clear hOq hoS hoG hlq hsq hBq hmM hR hst hF1 hF2 hF3 hF4 hF5 ht0
              go_wp2_with fail
              go_roundw
              case rel => exact ⟨i + 1, by omega, by go_num, HBQ.out.setCell (p := ⟨H, i, none⟩) hbH _, HST.out⟩
              case measure => simp [intOf]; omega
        · obtain rfl : k = i := by omega
          clear HF HBw
          have HF := Lib.hid hF
          have HBw := Lib.hid hB
          clear hF hB hi hlt
          go_wp2_with fail
          go_loopw [9] (fun vk wr => ∃ i : Nat, i ≤ k ∧ vk = .int .i64 (i : Int) ∧ Below base w wr ∧ Fam G k S M base B0 o0 H k (fun j X => X = markL j (M j + 64)) wr) (fun vk _ => k - (intOf vk).toNat)
          case atStart => exact ⟨0, Nat.zero_le _, rfl, HBw.out, HF.out⟩
          case round =>
            obtain ⟨i, hi, rfl, hB, hF⟩ := hrel
            by_cases hlt : i < k
            · have hSk := hF.2.1 i hlt
              obtain ⟨ao, m, c, hSv, hm, -⟩ := hSk.slice
              rw [markL_length] at hm
              have ck := hF.1.1 i hlt
              rw [hSv] at ck hSk
              have hm8 : m < 800000 := by have := HM2.out i; omega
              have hk1 : (i : Int) < (k : Int) := by omega
              have HFC := Lib.hid hF
              obtain ⟨-, -, -, ts, hts, hrow, hT⟩ := hF
              obtain ⟨t, X, ht1, ht2, ht3, -⟩ := hT i hlt
              have cH := hrow.cellAt hts.symm ht1
              rw [ht2, ← hm] at ht3
              rw [← hm] at hSk
              obtain ⟨tb, tc, rfl⟩ : ∃ tb tc, t = .slice (some ⟨tb, 0, none⟩) (m + 64) tc := by
                rcases ht3.form with ⟨-, hx⟩ | ⟨tb, tc, rfl, -⟩
                · have := congrArg List.length hx
                  rw [markL_length] at this
                  simp at this
                · rw [markL_length]
                  exact ⟨tb, tc, rfl⟩
              obtain ⟨N, HN⟩ := nm (m + 64)
              rw [HN.out] at cH ht3
              have HCT := Lib.hid (fun q (hq : q < N) => (show wr.cell? ⟨tb, q, none⟩ = some (.int .u8 (mkB i q : Nat)) from by rw [ht3.cellAt (markL_length _ _).symm q hq, markL_get _ _ _ hq]))
              have HCS := Lib.hid (fun q (hq : q < m) => (show ∃ g, ao = some ⟨g, 0, none⟩ ∧ wr.cell? ⟨g, q, none⟩ = some (.int .u8 (mkB i q : Nat)) from by
                rcases hSk.form with ⟨-, hx⟩ | ⟨g, c', hv, -⟩
                · have := congrArg List.length hx
                  rw [markL_length] at this
                  simp at this; omega
                · obtain rfl : ao = some ⟨g, 0, none⟩ := (Value.slice.inj hv).1
                  exact ⟨g, rfl, by rw [hSk.cellAt (markL_length _ _).symm q hq, markL_get _ _ _ hq]⟩))
              have HB := Lib.hid hB
              have hN8 : N < 900000 := by have := HN.out; omega
              clear hSk hSv hm hB hrow hT ht1 ht2 ht3 hts
              obtain ⟨wo, rfl⟩ : ∃ wo : World, wo = wr := ⟨_, rfl⟩
              go_wp2_with fail
              go_loopw [10] (fun vi wr => ∃ q : Nat, q ≤ N ∧ vi = .int .i64 (q : Int) ∧ Below wo.heap.size wo wr) (fun vi _ => N - (intOf vi).toNat)
              case atStart => exact ⟨0, Nat.zero_le _, rfl, Below.refl _ _⟩
              case round =>
                obtain ⟨q, hq, rfl, hBq⟩ := hrel
                have ck2 := cell_keep hBq ck (cell_lt ck)
                have cH2 := cell_keep hBq cH (cell_lt cH)
                by_cases hltq : q < N
                · have cT := cell_keep hBq (HCT.out q hltq) (cell_lt (HCT.out q hltq))
                  have hq1 : (q : Int) < (N : Int) := by omega
                  have HM := Lib.hid (fun W => markByte_any i q (by omega) (by omega) W)
                  by_cases hqm : q < m
                  · obtain ⟨g, rfl, cS⟩ := HCS.out q hqm
                    have cS2 := cell_keep hBq cS (cell_lt cS)
                    obtain ⟨x, HXX⟩ := nm (mkB i q)
                    rw [HXX.out] at cT cS2
                    simp only [HXX.out] at HM
                    have hq2 : (q : Int) < (m : Int) := by omega
                    have HBQ := Lib.hid hBq
                    clear hBq cS
                    go_wp2_with fail
                    have HK := Lib.hid (fun (W : World) (hW : W.heap = wr.heap) => (show W.cell? ⟨H, i, none⟩ = some (.slice (some ⟨tb, 0, none⟩) N tc) ∧ W.cell? ⟨tb, q, none⟩ = some (.int .u8 (x : Int)) ∧ W.cell? ⟨G, i, none⟩ = some (.slice (some ⟨g, 0, none⟩) m c) ∧ W.cell? ⟨g, q, none⟩ = some (.int .u8 (x : Int)) from
                      ⟨(World.cell?_of_block (w := wr) (by rw [hW])).trans cH2, (World.cell?_of_block (w := wr) (by rw [hW])).trans cT, (World.cell?_of_block (w := wr) (by rw [hW])).trans ck2, (World.cell?_of_block (w := wr) (by rw [hW])).trans cS2⟩))
                    refine wp_region_held_drew (S := fun W => W.cell? ⟨H, i, none⟩ = some (.slice (some ⟨tb, 0, none⟩) N tc) ∧ W.cell? ⟨tb, q, none⟩ = some (.int .u8 (x : Int)) ∧ W.cell? ⟨G, i, none⟩ = some (.slice (some ⟨g, 0, none⟩) m c) ∧ W.cell? ⟨g, q, none⟩ = some (.int .u8 (x : Int))) (by kernel_rfl) (HK.out _ rfl) (fun hS => ?_)
                    refine wpAnyH_takeD (i := 0) (d := some 88) (v := ?_) rfl rfl (by kernel_rfl) (by kernel_rfl) (by kernel_rfl) (fun _ _ _ h => h) (Or.inl ⟨by rfl, fun w hSw => ?_⟩) (by assumption) ?_
                    rotate_left
                    · first | (go_simp; done) | (go_simp; with_reducible rfl)
                    simp only [Act.put, List.setIfInBounds_toArray, List.set_cons_zero, List.set_cons_succ]
                    refine wpAnyH_takeD (i := 1) (d := some 89) (v := ?_) rfl rfl (by kernel_rfl) (by kernel_rfl) (by kernel_rfl) (fun _ _ _ h => h) (Or.inl ⟨by rfl, fun w hSw => ?_⟩) (by assumption) ?_
                    rotate_left
                    · first | (go_simp; done) | (go_simp; with_reducible rfl)
                    simp only [Act.put, List.setIfInBounds_toArray, List.set_cons_zero, List.set_cons_succ]
                    refine wpAnyH_takeD (i := 2) (d := some 90) (v := ?_) rfl rfl (by kernel_rfl) (by kernel_rfl) (by kernel_rfl) (fun _ _ _ h => h) (Or.inl ⟨by rfl, fun w hSw => ?_⟩) (by assumption) ?_
                    rotate_left
                    · first | (go_simp; done) | (go_simp; with_reducible rfl)
                    simp only [Act.put, List.setIfInBounds_toArray, List.set_cons_zero, List.set_cons_succ]
                    refine wpAnyH_takeD (i := 3) (d := some 91) (v := ?_) rfl rfl (by kernel_rfl) (by kernel_rfl) (by kernel_rfl) (fun _ _ _ h => h) (Or.inl ⟨by rfl, fun w hSw => ?_⟩) (by assumption) ?_
                    rotate_left
                    · first | (go_simp; done) | (go_simp; with_reducible rfl)
                    simp only [Act.put, List.setIfInBounds_toArray, List.set_cons_zero, List.set_cons_succ]
                    refine wpAnyH_takeD (i := 4) (d := some 92) (v := ?_) rfl rfl (by kernel_rfl) (by kernel_rfl) (by kernel_rfl) (fun _ _ _ h => h) (Or.inl ⟨by rfl, fun w hSw => ?_⟩) (by assumption) ?_
                    rotate_left
                    · first | (go_simp; done) | (go_simp; with_reducible rfl)
                    simp only [Act.put, List.setIfInBounds_toArray, List.set_cons_zero, List.set_cons_succ]
                    refine wpAnyH_takeD (i := 5) (d := some 93) (v := ?_) rfl rfl (by kernel_rfl) (by kernel_rfl) (by kernel_rfl) (fun _ _ _ h => h) (Or.inl ⟨by rfl, fun w hSw => ?_⟩) (by assumption) ?_
                    rotate_left
                    · first | (go_simp; done) | (go_simp; with_reducible rfl)
                    simp only [Act.put, List.setIfInBounds_toArray, List.set_cons_zero, List.set_cons_succ]
                    refine wpAnyH_takeD (i := 6) (d := some 94) (v := ?_) rfl rfl (by kernel_rfl) (by kernel_rfl) (by kernel_rfl) (fun _ _ _ h => h) (Or.inl ⟨by rfl, fun w hSw => ?_⟩) (by assumption) ?_
                    rotate_left
                    · first | (go_simp; done) | (go_simp; with_reducible rfl)
                    simp only [Act.put, List.setIfInBounds_toArray, List.set_cons_zero, List.set_cons_succ]
                    refine wpAnyH_takeD (i := 7) (d := some 95) (v := ?_) rfl rfl (by kernel_rfl) (by kernel_rfl) (by kernel_rfl) (fun _ _ _ h => h) (Or.inl ⟨by rfl, fun w hSw => ?_⟩) (by assumption) ?_
                    rotate_left
                    · first | (go_simp; done) | (go_simp; with_reducible rfl)
                    simp only [Act.put, List.setIfInBounds_toArray, List.set_cons_zero, List.set_cons_succ]
                    refine wpAnyH_takeD (i := 8) (d := some 96) (v := ?_) rfl rfl (by kernel_rfl) (by kernel_rfl) (by kernel_rfl) (fun _ _ _ h => h) (Or.inl ⟨by rfl, fun w hSw => ?_⟩) (by assumption) ?_
                    rotate_left
                    · first | (go_simp; done) | (go_simp; with_reducible rfl)
                    simp only [Act.put, List.setIfInBounds_toArray, List.set_cons_zero, List.set_cons_succ]
                    refine wpAnyH_ready (rs := [9]) (by kernel_rfl) (by simp) ?_
                    refine AllReadyH.cons rfl (fun K hK => ?_) AllReadyH.nil
                    go_simp
                    refine (HM.out _).mono ?_
                    rintro e wb ⟨rfl, rfl⟩
                    refine hK _ _ (HK.out _ rfl) (fun hS' => ?_)
                    clear hK K hS
                    have hS := hS'
                    clear hS'
                    try simp only [Act.put, List.setIfInBounds_toArray, List.set_cons_zero, List.set_cons_succ]
                    refine wpAnyH_takeD (i := 10) (d := some 98) (v := ?_) rfl rfl (by kernel_rfl) (by kernel_rfl) (by kernel_rfl) (fun _ _ _ h => h) (Or.inl ⟨by rfl, fun w hSw => ?_⟩) (by assumption) ?_
                    rotate_left
                    · first | (go_simp; done) | (go_simp; with_reducible rfl)
                    simp only [Act.put, List.setIfInBounds_toArray, List.set_cons_zero, List.set_cons_succ]
                    refine wpAnyH_takeD (i := 11) (d := some 99) (v := ?_) rfl rfl (by kernel_rfl) (by kernel_rfl) (by kernel_rfl) (fun _ _ _ h => h) (Or.inl ⟨by rfl, fun w hSw => ?_⟩) (by assumption) ?_
                    rotate_left
                    · first | (go_simp; done) | (go_simp; with_reducible rfl)
                    simp only [Act.put, List.setIfInBounds_toArray, List.set_cons_zero, List.set_cons_succ]
                    refine wpAnyH_takeD (i := 12) (d := some 100) (v := ?_) rfl rfl (by kernel_rfl) (by kernel_rfl) (by kernel_rfl) (fun _ _ _ h => h) (Or.inl ⟨by rfl, fun w hSw => ?_⟩) (by assumption) ?_
                    rotate_left
                    · first | (go_simp; done) | (go_simp; with_reducible rfl)
                    simp only [Act.put, List.setIfInBounds_toArray, List.set_cons_zero, List.set_cons_succ]
                    refine wpAnyH_takeD (i := 13) (d := some 101) (v := ?_) rfl rfl (by kernel_rfl) (by kernel_rfl) (by kernel_rfl) (fun _ _ _ h => h) (Or.inl ⟨by rfl, fun w hSw => ?_⟩) (by assumption) ?_
                    rotate_left
                    · first | (go_simp; done) | (go_simp; with_reducible rfl)
                    simp only [Act.put, List.setIfInBounds_toArray, List.set_cons_zero, List.set_cons_succ]
                    refine wpAnyH_takeD (i := 14) (d := some 102) (v := ?_) rfl rfl (by kernel_rfl) (by kernel_rfl) (by kernel_rfl) (fun _ _ _ h => h) (Or.inl ⟨by rfl, fun w hSw => ?_⟩) (by assumption) ?_
                    rotate_left
                    · first | (go_simp; done) | (go_simp; with_reducible rfl)
                    simp only [Act.put, List.setIfInBounds_toArray, List.set_cons_zero, List.set_cons_succ]
                    refine wpAnyH_takeD (i := 15) (d := some 103) (v := ?_) rfl rfl (by kernel_rfl) (by kernel_rfl) (by kernel_rfl) (fun _ _ _ h => h) (Or.inl ⟨by rfl, fun w hSw => ?_⟩) (by assumption) ?_
                    rotate_left
                    · first | (go_simp; done) | (go_simp; with_reducible rfl)
                    simp only [Act.put, List.setIfInBounds_toArray, List.set_cons_zero, List.set_cons_succ]
                    refine wpAnyH_takeD (i := 16) (d := some 104) (v := ?_) rfl rfl (by kernel_rfl) (by kernel_rfl) (by kernel_rfl) (fun _ _ _ h => h) (Or.inl ⟨by rfl, fun w hSw => ?_⟩) (by assumption) ?_
                    rotate_left
                    · first | (go_simp; done) | (go_simp; with_reducible rfl)
                    simp only [Act.put, List.setIfInBounds_toArray, List.set_cons_zero, List.set_cons_succ]
                    refine wpAnyH_takeD (i := 17) (d := some 105) (v := ?_) rfl rfl (by kernel_rfl) (by kernel_rfl) (by kernel_rfl) (fun _ _ _ h => h) (Or.inl ⟨by rfl, fun w hSw => ?_⟩) (by assumption) ?_
                    rotate_left
                    · first | (go_simp; done) | (go_simp; with_reducible rfl)
                    simp only [Act.put, List.setIfInBounds_toArray, List.set_cons_zero, List.set_cons_succ]
                    refine wpAnyH_takeD (i := 18) (d := some 106) (v := ?_) rfl rfl (by kernel_rfl) (by kernel_rfl) (by kernel_rfl) (fun _ _ _ h => h) (Or.inl ⟨by rfl, fun w hSw => ?_⟩) (by assumption) ?_
                    rotate_left
                    · first | (go_simp; done) | (go_simp; with_reducible rfl)
                    simp only [Act.put, List.setIfInBounds_toArray, List.set_cons_zero, List.set_cons_succ]
                    refine wpAnyH_takeD (i := 19) (d := some 107) (v := ?_) rfl rfl (by kernel_rfl) (by kernel_rfl) (by kernel_rfl) (fun _ _ _ h => h) (Or.inl ⟨by rfl, fun w hSw => ?_⟩) (by assumption) ?_
                    rotate_left
                    · first | (go_simp; done) | (go_simp; with_reducible rfl)
                    simp only [Act.put, List.setIfInBounds_toArray, List.set_cons_zero, List.set_cons_succ]
                    refine wpAnyH_takeD (i := 20) (d := some 108) (v := ?_) rfl rfl (by kernel_rfl) (by kernel_rfl) (by kernel_rfl) (fun _ _ _ h => h) (Or.inl ⟨by rfl, fun w hSw => ?_⟩) (by assumption) ?_
                    rotate_left
                    · first | (go_simp; done) | (go_simp; with_reducible rfl)
                    simp only [Act.put, List.setIfInBounds_toArray, List.set_cons_zero, List.set_cons_succ]
                    refine wpAnyH_takeD (i := 21) (d := some 109) (v := ?_) rfl rfl (by kernel_rfl) (by kernel_rfl) (by kernel_rfl) (fun _ _ _ h => h) (Or.inl ⟨by rfl, fun w hSw => ?_⟩) (by assumption) ?_
                    rotate_left
                    · first | (go_simp; done) | (go_simp; with_reducible rfl)
                    simp only [Act.put, List.setIfInBounds_toArray, List.set_cons_zero, List.set_cons_succ]
                    refine wpAnyH_takeD (i := 22) (d := some 110) (v := ?_) rfl rfl (by kernel_rfl) (by kernel_rfl) (by kernel_rfl) (fun _ _ _ h => h) (Or.inl ⟨by rfl, fun w hSw => ?_⟩) (by assumption) ?_
                    rotate_left
                    · first | (go_simp; done) | (go_simp; with_reducible rfl)
                    simp only [Act.put, List.setIfInBounds_toArray, List.set_cons_zero, List.set_cons_succ]
                    refine wpAnyH_takeD (i := 23) (d := some 111) (v := ?_) rfl rfl (by kernel_rfl) (by kernel_rfl) (by kernel_rfl) (fun _ _ _ h => h) (Or.inl ⟨by rfl, fun w hSw => ?_⟩) (by assumption) ?_
                    rotate_left
                    · first | (go_simp; done) | (go_simp; with_reducible rfl)
                    simp only [Act.put, List.setIfInBounds_toArray, List.set_cons_zero, List.set_cons_succ]
                    refine wpAnyH_takeD (i := 24) (d := some 112) (v := ?_) rfl rfl (by kernel_rfl) (by kernel_rfl) (by kernel_rfl) (fun _ _ _ h => h) (Or.inl ⟨by rfl, fun w hSw => ?_⟩) (by assumption) ?_
                    rotate_left
                    · first | (go_simp; done) | (go_simp; with_reducible rfl)
                    simp only [Act.put, List.setIfInBounds_toArray, List.set_cons_zero, List.set_cons_succ]
                    refine wpAnyH_takeD (i := 25) (d := some 113) (v := ?_) rfl rfl (by kernel_rfl) (by kernel_rfl) (by kernel_rfl) (fun _ _ _ h => h) (Or.inl ⟨by rfl, fun w hSw => ?_⟩) (by assumption) ?_
                    rotate_left
                    · first | (go_simp; done) | (go_simp; with_reducible rfl)
                    simp only [Act.put, List.setIfInBounds_toArray, List.set_cons_zero, List.set_cons_succ]
                    refine wpAnyH_takeD (i := 26) (d := some 114) (v := ?_) rfl rfl (by kernel_rfl) (by kernel_rfl) (by kernel_rfl) (fun _ _ _ h => h) (Or.inl ⟨by rfl, fun w hSw => ?_⟩) (by assumption) ?_
                    rotate_left
                    · first | (go_simp; done) | (go_simp; with_reducible rfl)
                    simp only [Act.put, List.setIfInBounds_toArray, List.set_cons_zero, List.set_cons_succ]
                    refine wpAnyH_takeD (i := 27) (d := some 115) (v := ?_) rfl rfl (by kernel_rfl) (by kernel_rfl) (by kernel_rfl) (fun _ _ _ h => h) (Or.inl ⟨by rfl, fun w hSw => ?_⟩) (by assumption) ?_
                    rotate_left
                    · first | (go_simp; done) | (go_simp; with_reducible rfl)
                    simp only [Act.put, List.setIfInBounds_toArray, List.set_cons_zero, List.set_cons_succ]
                    refine wpAnyH_takeD (i := 28) (d := some 116) (v := ?_) rfl rfl (by kernel_rfl) (by kernel_rfl) (by kernel_rfl) (fun _ _ _ h => h) (Or.inl ⟨by rfl, fun w hSw => ?_⟩) (by assumption) ?_
                    rotate_left
                    · first | (go_simp; done) | (go_simp; with_reducible rfl)
                    simp only [Act.put, List.setIfInBounds_toArray, List.set_cons_zero, List.set_cons_succ]
                    refine wpAnyH_takeD (i := 29) (d := some 117) (v := ?_) rfl rfl (by kernel_rfl) (by kernel_rfl) (by kernel_rfl) (fun _ _ _ h => h) (Or.inl ⟨by rfl, fun w hSw => ?_⟩) (by assumption) ?_
                    rotate_left
                    · first | (go_simp; done) | (go_simp; with_reducible rfl)
                    simp only [Act.put, List.setIfInBounds_toArray, List.set_cons_zero, List.set_cons_succ]
                    refine wpAnyH_ready (rs := [30]) (by kernel_rfl) (by simp) ?_
                    refine AllReadyH.cons rfl (fun K hK => ?_) AllReadyH.nil
                    go_simp
                    refine (HM.out _).mono ?_
                    rintro e wb ⟨rfl, rfl⟩
                    refine hK _ _ (HK.out _ rfl) (fun hS' => ?_)
                    clear hK K hS
                    have hS := hS'
                    clear hS'
                    try simp only [Act.put, List.setIfInBounds_toArray, List.set_cons_zero, List.set_cons_succ]
                    refine wpAnyH_takeD (i := 31) (d := some 119) (v := ?_) rfl rfl (by kernel_rfl) (by kernel_rfl) (by kernel_rfl) (fun _ _ _ h => h) (Or.inl ⟨by rfl, fun w hSw => ?_⟩) (by assumption) ?_
                    rotate_left
                    · first | (go_simp; done) | (go_simp; with_reducible rfl)
                    simp only [Act.put, List.setIfInBounds_toArray, List.set_cons_zero, List.set_cons_succ]
                    refine wpAnyH_takeD (i := 32) (d := some 120) (v := ?_) rfl rfl (by kernel_rfl) (by kernel_rfl) (by kernel_rfl) (fun _ _ _ h => h) (Or.inl ⟨by rfl, fun w hSw => ?_⟩) (by assumption) ?_
                    rotate_left
                    · first | (go_simp; done) | (go_simp; with_reducible rfl)
                    simp only [Act.put, List.setIfInBounds_toArray, List.set_cons_zero, List.set_cons_succ]
                    refine wpAnyH_takeD (i := 33) (d := some 121) (v := ?_) rfl rfl (by kernel_rfl) (by kernel_rfl) (by kernel_rfl) (fun _ _ _ h => h) (Or.inl ⟨by rfl, fun w hSw => ?_⟩) (by assumption) ?_
                    rotate_left
                    · first | (go_simp; done) | (go_simp; with_reducible rfl)
                    simp only [Act.put, List.setIfInBounds_toArray, List.set_cons_zero, List.set_cons_succ]
                    refine wpAnyH_takeD (i := 34) (d := some 122) (v := ?_) rfl rfl (by kernel_rfl) (by kernel_rfl) (by kernel_rfl) (fun _ _ _ h => h) (Or.inl ⟨by rfl, fun w hSw => ?_⟩) (by assumption) ?_
                    rotate_left
                    · first | (go_simp; done) | (go_simp; with_reducible rfl)
                    simp only [Act.put, List.setIfInBounds_toArray, List.set_cons_zero, List.set_cons_succ]
                    refine wpAnyH_done (by kernel_rfl) ?_ _
                    go_wp2_with fail
                    go_roundw
                    case rel => exact ⟨q + 1, by omega, by go_num, HBQ.out.drew⟩
                    case measure => simp [intOf]; omega
                  · obtain ⟨x, HXX⟩ := nm (mkB i q)
                    rw [HXX.out] at cT
                    simp only [HXX.out] at HM
                    have hq2 : ¬ (q : Int) < (m : Int) := by omega
                    have hq3 : m ≤ q := by omega
                    have hq4 : ¬ q < m := by omega
                    have HBQ := Lib.hid hBq
                    clear hBq
                    go_wp2_with fail
                    have HK := Lib.hid (fun (W : World) (hW : W.heap = wr.heap) => (show W.cell? ⟨H, i, none⟩ = some (.slice (some ⟨tb, 0, none⟩) N tc) ∧ W.cell? ⟨tb, q, none⟩ = some (.int .u8 (x : Int)) ∧ W.cell? ⟨G, i, none⟩ = some (.slice ao m c) from
                      ⟨(World.cell?_of_block (w := wr) (by rw [hW])).trans cH2, (World.cell?_of_block (w := wr) (by rw [hW])).trans cT, (World.cell?_of_block (w := wr) (by rw [hW])).trans ck2⟩))
                    refine wp_region_held_drew (S := fun W => W.cell? ⟨H, i, none⟩ = some (.slice (some ⟨tb, 0, none⟩) N tc) ∧ W.cell? ⟨tb, q, none⟩ = some (.int .u8 (x : Int)) ∧ W.cell? ⟨G, i, none⟩ = some (.slice ao m c)) (by kernel_rfl) (HK.out _ rfl) (fun hS => ?_)
                    refine wpAnyH_takeD (i := 0) (d := some 88) (v := ?_) rfl rfl (by kernel_rfl) (by kernel_rfl) (by kernel_rfl) (fun _ _ _ h => h) (Or.inl ⟨by rfl, fun w hSw => ?_⟩) (by assumption) ?_
                    rotate_left
                    · first | (go_simp; done) | (go_simp; with_reducible rfl)
                    simp only [Act.put, List.setIfInBounds_toArray, List.set_cons_zero, List.set_cons_succ]
                    refine wpAnyH_takeD (i := 1) (d := some 89) (v := ?_) rfl rfl (by kernel_rfl) (by kernel_rfl) (by kernel_rfl) (fun _ _ _ h => h) (Or.inl ⟨by rfl, fun w hSw => ?_⟩) (by assumption) ?_
                    rotate_left
                    · first | (go_simp; done) | (go_simp; with_reducible rfl)
                    simp only [Act.put, List.setIfInBounds_toArray, List.set_cons_zero, List.set_cons_succ]
                    refine wpAnyH_takeD (i := 2) (d := some 90) (v := ?_) rfl rfl (by kernel_rfl) (by kernel_rfl) (by kernel_rfl) (fun _ _ _ h => h) (Or.inl ⟨by rfl, fun w hSw => ?_⟩) (by assumption) ?_
                    rotate_left
                    · first | (go_simp; done) | (go_simp; with_reducible rfl)
                    simp only [Act.put, List.setIfInBounds_toArray, List.set_cons_zero, List.set_cons_succ]
                    refine wpAnyH_takeD (i := 3) (d := some 91) (v := ?_) rfl rfl (by kernel_rfl) (by kernel_rfl) (by kernel_rfl) (fun _ _ _ h => h) (Or.inl ⟨by rfl, fun w hSw => ?_⟩) (by assumption) ?_
                    rotate_left
                    · first | (go_simp; done) | (go_simp; with_reducible rfl)
                    simp only [Act.put, List.setIfInBounds_toArray, List.set_cons_zero, List.set_cons_succ]
                    refine wpAnyH_takeD (i := 4) (d := some 92) (v := ?_) rfl rfl (by kernel_rfl) (by kernel_rfl) (by kernel_rfl) (fun _ _ _ h => h) (Or.inl ⟨by rfl, fun w hSw => ?_⟩) (by assumption) ?_
                    rotate_left
                    · first | (go_simp; done) | (go_simp; with_reducible rfl)
                    simp only [Act.put, List.setIfInBounds_toArray, List.set_cons_zero, List.set_cons_succ]
                    refine wpAnyH_takeD (i := 5) (d := some 93) (v := ?_) rfl rfl (by kernel_rfl) (by kernel_rfl) (by kernel_rfl) (fun _ _ _ h => h) (Or.inl ⟨by rfl, fun w hSw => ?_⟩) (by assumption) ?_
                    rotate_left
                    · first | (go_simp; done) | (go_simp; with_reducible rfl)
                    simp only [Act.put, List.setIfInBounds_toArray, List.set_cons_zero, List.set_cons_succ]
                    refine wpAnyH_takeD (i := 6) (d := some 94) (v := ?_) rfl rfl (by kernel_rfl) (by kernel_rfl) (by kernel_rfl) (fun _ _ _ h => h) (Or.inl ⟨by rfl, fun w hSw => ?_⟩) (by assumption) ?_
                    rotate_left
                    · first | (go_simp; done) | (go_simp; with_reducible rfl)
                    simp only [Act.put, List.setIfInBounds_toArray, List.set_cons_zero, List.set_cons_succ]
                    refine wpAnyH_takeD (i := 7) (d := some 95) (v := ?_) rfl rfl (by kernel_rfl) (by kernel_rfl) (by kernel_rfl) (fun _ _ _ h => h) (Or.inl ⟨by rfl, fun w hSw => ?_⟩) (by assumption) ?_
                    rotate_left
                    · first | (go_simp; done) | (go_simp; with_reducible rfl)
                    simp only [Act.put, List.setIfInBounds_toArray, List.set_cons_zero, List.set_cons_succ]
                    refine wpAnyH_takeD (i := 8) (d := some 96) (v := ?_) rfl rfl (by kernel_rfl) (by kernel_rfl) (by kernel_rfl) (fun _ _ _ h => h) (Or.inl ⟨by rfl, fun w hSw => ?_⟩) (by assumption) ?_
                    rotate_left
                    · first | (go_simp; done) | (go_simp; with_reducible rfl)
                    simp only [Act.put, List.setIfInBounds_toArray, List.set_cons_zero, List.set_cons_succ]
                    refine wpAnyH_ready (rs := [9]) (by kernel_rfl) (by simp) ?_
                    refine AllReadyH.cons rfl (fun K hK => ?_) AllReadyH.nil
                    go_simp
                    refine (HM.out _).mono ?_
                    rintro e wb ⟨rfl, rfl⟩
                    refine hK _ _ (HK.out _ rfl) (fun hS' => ?_)
                    clear hK K hS
                    have hS := hS'
                    clear hS'
                    try simp only [Act.put, List.setIfInBounds_toArray, List.set_cons_zero, List.set_cons_succ]
                    refine wpAnyH_takeD (i := 10) (d := some 98) (v := ?_) rfl rfl (by kernel_rfl) (by kernel_rfl) (by kernel_rfl) (fun _ _ _ h => h) (Or.inl ⟨by rfl, fun w hSw => ?_⟩) (by assumption) ?_
                    rotate_left
                    · first | (go_simp; done) | (go_simp; with_reducible rfl)
                    simp only [Act.put, List.setIfInBounds_toArray, List.set_cons_zero, List.set_cons_succ]
                    refine wpAnyH_takeD (i := 11) (d := some 99) (v := ?_) rfl rfl (by kernel_rfl) (by kernel_rfl) (by kernel_rfl) (fun _ _ _ h => h) (Or.inl ⟨by rfl, fun w hSw => ?_⟩) (by assumption) ?_
                    rotate_left
                    · first | (go_simp; done) | (go_simp; with_reducible rfl)
                    simp only [Act.put, List.setIfInBounds_toArray, List.set_cons_zero, List.set_cons_succ]
                    refine wpAnyH_takeD (i := 12) (d := some 100) (v := ?_) rfl rfl (by kernel_rfl) (by kernel_rfl) (by kernel_rfl) (fun _ _ _ h => h) (Or.inl ⟨by rfl, fun w hSw => ?_⟩) (by assumption) ?_
                    rotate_left
                    · first | (go_simp; done) | (go_simp; with_reducible rfl)
                    simp only [Act.put, List.setIfInBounds_toArray, List.set_cons_zero, List.set_cons_succ]
                    refine wpAnyH_takeD (i := 13) (d := some 101) (v := ?_) rfl rfl (by kernel_rfl) (by kernel_rfl) (by kernel_rfl) (fun _ _ _ h => h) (Or.inl ⟨by rfl, fun w hSw => ?_⟩) (by assumption) ?_
                    rotate_left
                    · first | (go_simp; done) | (go_simp; with_reducible rfl)
                    simp only [Act.put, List.setIfInBounds_toArray, List.set_cons_zero, List.set_cons_succ]
                    refine wpAnyH_takeD (i := 14) (d := some 102) (v := ?_) rfl rfl (by kernel_rfl) (by kernel_rfl) (by kernel_rfl) (fun _ _ _ h => h) (Or.inl ⟨by rfl, fun w hSw => ?_⟩) (by assumption) ?_
                    rotate_left
                    · first | (go_simp; done) | (go_simp; with_reducible rfl)
                    simp only [Act.put, List.setIfInBounds_toArray, List.set_cons_zero, List.set_cons_succ]
                    refine wpAnyH_takeD (i := 15) (d := some 103) (v := ?_) rfl rfl (by kernel_rfl) (by kernel_rfl) (by kernel_rfl) (fun _ _ _ h => h) (Or.inl ⟨by rfl, fun w hSw => ?_⟩) (by assumption) ?_
                    rotate_left
                    · first | (go_simp; done) | (go_simp; with_reducible rfl)
                    simp only [Act.put, List.setIfInBounds_toArray, List.set_cons_zero, List.set_cons_succ]
                    refine wpAnyH_takeD (i := 16) (d := some 104) (v := ?_) rfl rfl (by kernel_rfl) (by kernel_rfl) (by kernel_rfl) (fun _ _ _ h => h) (Or.inl ⟨by rfl, fun w hSw => ?_⟩) (by assumption) ?_
                    rotate_left
                    · first | (go_simp; done) | (go_simp; with_reducible rfl)
                    simp only [Act.put, List.setIfInBounds_toArray, List.set_cons_zero, List.set_cons_succ]
                    refine wpAnyH_takeD (i := 17) (d := some 105) (v := ?_) rfl rfl (by kernel_rfl) (by kernel_rfl) (by kernel_rfl) (fun _ _ _ h => h) (Or.inl ⟨by rfl, fun w hSw => ?_⟩) (by assumption) ?_
                    rotate_left
                    · first | (go_simp; done) | (go_simp; with_reducible rfl)
                    simp only [Act.put, List.setIfInBounds_toArray, List.set_cons_zero, List.set_cons_succ]
                    refine wpAnyH_takeD (i := 18) (d := some 106) (v := ?_) rfl rfl (by kernel_rfl) (by kernel_rfl) (by kernel_rfl) (fun _ _ _ h => h) (Or.inl ⟨by rfl, fun w hSw => ?_⟩) (by assumption) ?_
                    rotate_left
                    · first | (go_simp; done) | (go_simp; with_reducible rfl)
                    simp only [Act.put, List.setIfInBounds_toArray, List.set_cons_zero, List.set_cons_succ]
                    refine wpAnyH_takeD (i := 19) (d := some 107) (v := ?_) rfl rfl (by kernel_rfl) (by kernel_rfl) (by kernel_rfl) (fun _ _ _ h => h) (Or.inl ⟨by rfl, fun w hSw => ?_⟩) (by assumption) ?_
                    rotate_left
                    · first | (go_simp; done) | (go_simp; with_reducible rfl)
                    simp only [Act.put, List.setIfInBounds_toArray, List.set_cons_zero, List.set_cons_succ]
                    refine wpAnyH_takeD (i := 20) (d := some 108) (v := ?_) rfl rfl (by kernel_rfl) (by kernel_rfl) (by kernel_rfl) (fun _ _ _ h => h) (Or.inl ⟨by rfl, fun w hSw => ?_⟩) (by assumption) ?_
                    rotate_left
                    · first | (go_simp; done) | (go_simp; with_reducible rfl)
                    simp only [Act.put, List.setIfInBounds_toArray, List.set_cons_zero, List.set_cons_succ]
                    refine wpAnyH_takeD (i := 21) (d := some 109) rfl rfl (by kernel_rfl) (by kernel_rfl) (by kernel_rfl) (fun _ _ _ h => h) (Or.inr ⟨by rfl, rfl⟩) (by assumption) ?_
                    simp only [Act.put, List.setIfInBounds_toArray, List.set_cons_zero, List.set_cons_succ]
                    refine wpAnyH_takeD (i := 22) (d := some 110) rfl rfl (by kernel_rfl) (by kernel_rfl) (by kernel_rfl) (fun _ _ _ h => h) (Or.inr ⟨by rfl, rfl⟩) (by assumption) ?_
                    simp only [Act.put, List.setIfInBounds_toArray, List.set_cons_zero, List.set_cons_succ]
                    refine wpAnyH_takeD (i := 23) (d := some 111) rfl rfl (by kernel_rfl) (by kernel_rfl) (by kernel_rfl) (fun _ _ _ h => h) (Or.inr ⟨by rfl, rfl⟩) (by assumption) ?_
                    simp only [Act.put, List.setIfInBounds_toArray, List.set_cons_zero, List.set_cons_succ]
                    refine wpAnyH_takeD (i := 24) (d := some 112) rfl rfl (by kernel_rfl) (by kernel_rfl) (by kernel_rfl) (fun _ _ _ h => h) (Or.inr ⟨by rfl, rfl⟩) (by assumption) ?_
                    simp only [Act.put, List.setIfInBounds_toArray, List.set_cons_zero, List.set_cons_succ]
                    refine wpAnyH_takeD (i := 25) (d := some 113) rfl rfl (by kernel_rfl) (by kernel_rfl) (by kernel_rfl) (fun _ _ _ h => h) (Or.inr ⟨by rfl, rfl⟩) (by assumption) ?_
                    simp only [Act.put, List.setIfInBounds_toArray, List.set_cons_zero, List.set_cons_succ]
                    refine wpAnyH_takeD (i := 26) (d := some 114) rfl rfl (by kernel_rfl) (by kernel_rfl) (by kernel_rfl) (fun _ _ _ h => h) (Or.inr ⟨by rfl, rfl⟩) (by assumption) ?_
                    simp only [Act.put, List.setIfInBounds_toArray, List.set_cons_zero, List.set_cons_succ]
                    refine wpAnyH_takeD (i := 27) (d := some 115) rfl rfl (by kernel_rfl) (by kernel_rfl) (by kernel_rfl) (fun _ _ _ h => h) (Or.inr ⟨by rfl, rfl⟩) (by assumption) ?_
                    simp only [Act.put, List.setIfInBounds_toArray, List.set_cons_zero, List.set_cons_succ]
                    refine wpAnyH_takeD (i := 28) (d := some 116) rfl rfl (by kernel_rfl) (by kernel_rfl) (by kernel_rfl) (fun _ _ _ h => h) (Or.inr ⟨by rfl, rfl⟩) (by assumption) ?_
                    simp only [Act.put, List.setIfInBounds_toArray, List.set_cons_zero, List.set_cons_succ]
                    refine wpAnyH_takeD (i := 29) (d := some 117) rfl rfl (by kernel_rfl) (by kernel_rfl) (by kernel_rfl) (fun _ _ _ h => h) (Or.inr ⟨by rfl, rfl⟩) (by assumption) ?_
                    simp only [Act.put, List.setIfInBounds_toArray, List.set_cons_zero, List.set_cons_succ]
                    refine wpAnyH_takeD (i := 30) (d := some 118) rfl rfl (by kernel_rfl) (by kernel_rfl) (by kernel_rfl) (fun _ _ _ h => h) (Or.inr ⟨by rfl, rfl⟩) (by assumption) ?_
                    simp only [Act.put, List.setIfInBounds_toArray, List.set_cons_zero, List.set_cons_succ]
                    refine wpAnyH_takeD (i := 31) (d := some 119) rfl rfl (by kernel_rfl) (by kernel_rfl) (by kernel_rfl) (fun _ _ _ h => h) (Or.inr ⟨by rfl, rfl⟩) (by assumption) ?_
                    simp only [Act.put, List.setIfInBounds_toArray, List.set_cons_zero, List.set_cons_succ]
                    refine wpAnyH_takeD (i := 32) (d := some 120) rfl rfl (by kernel_rfl) (by kernel_rfl) (by kernel_rfl) (fun _ _ _ h => h) (Or.inr ⟨by rfl, rfl⟩) (by assumption) ?_
                    simp only [Act.put, List.setIfInBounds_toArray, List.set_cons_zero, List.set_cons_succ]
                    refine wpAnyH_takeD (i := 33) (d := some 121) (v := ?_) rfl rfl (by kernel_rfl) (by kernel_rfl) (by kernel_rfl) (fun _ _ _ h => h) (Or.inl ⟨by rfl, fun w hSw => ?_⟩) (by assumption) ?_
                    rotate_left
                    · first | (go_simp; done) | (go_simp; with_reducible rfl)
                    simp only [Act.put, List.setIfInBounds_toArray, List.set_cons_zero, List.set_cons_succ]
                    refine wpAnyH_takeD (i := 34) (d := some 122) (v := ?_) rfl rfl (by kernel_rfl) (by kernel_rfl) (by kernel_rfl) (fun _ _ _ h => h) (Or.inl ⟨by rfl, fun w hSw => ?_⟩) (by assumption) ?_
                    rotate_left
                    · first | (go_simp; done) | (go_simp; with_reducible rfl)
                    simp only [Act.put, List.setIfInBounds_toArray, List.set_cons_zero, List.set_cons_succ]
                    refine wpAnyH_done (by kernel_rfl) ?_ _
                    go_wp2_with fail
                    go_roundw
                    case rel => exact ⟨q + 1, by omega, by go_num, HBQ.out.drew⟩
                    case measure => simp [intOf]; omega
                · obtain rfl : q = N := by omega
                  have HBQ := Lib.hid hBq
                  clear hBq
                  go_wp2_with fail
                  go_roundw
                  case rel => exact ⟨i + 1, by omega, by go_num, HB.out.trans (HBQ.out.mono (Nat.le_trans hbase HB.out.size)), HFC.out.keep HBQ.out⟩
                  case measure => simp [intOf]; omega
            · obtain rfl : k = i := by omega
              clear HF HBw
              have HF := Lib.hid (Fam.zero (P' := fun j X => ∃ zs : List Nat, X = markL j (M j) ++ zs) hF)
              have HBw := Lib.hid hB
              clear hF hB hi hlt
              go_wp2_with fail
              go_loopw [11] (fun vk wr => ∃ i : Nat, i ≤ k ∧ vk = .int .i64 (i : Int) ∧ Below base w wr ∧ Fam G k S M base B0 o0 H i (fun j X => ∃ zs : List Nat, X = markL j (M j) ++ zs) wr) (fun vk _ => k - (intOf vk).toNat)
              case atStart => exact ⟨0, Nat.zero_le _, rfl, HBw.out, HF.out⟩
              case round =>
                obtain ⟨i, hi, rfl, hB, hF⟩ := hrel
                by_cases hlt : i < k
                · have hSk := hF.2.1 i hlt
                  obtain ⟨ao, m, c, hSv, hm, -⟩ := hSk.slice
                  rw [markL_length] at hm
                  have ck := hF.1.1 i hlt
                  have hgk := HGS.out i hlt
                  rw [hSv] at ck hSk hgk
                  rw [← hm] at hSk
                  have hm8 : m < 800000 := by have := HM2.out i; omega
                  have hk1 : (i : Int) < (k : Int) := by omega
                  have HSK := Lib.hid hSk
                  have HSV := Lib.hid hSv
                  have HMl := Lib.hid hm
                  have HB := Lib.hid hB
                  have HFB := Lib.hid hF
                  have HGK := Lib.hid hgk
                  clear hSk hSv hm hB hF hgk
                  obtain ⟨wo, rfl⟩ : ∃ wo : World, wo = wr := ⟨_, rfl⟩
                  go_wp2_with (refine wpl_makeE rfl (.const (.int .i64 64)) (.const (.int .i64 64)) 22 rfl .u8 5 1 Tryz.underlying22 info_u8 (by decide) wo.heap.size wo 64 _ _ rfl rfl rfl rfl (by decide) (Nat.le_refl _) ?_; intro w2 ho2 hb2)
                  have HO2 := Lib.hid ho2
                  have HB2 := Lib.hid hb2
                  clear ho2 hb2
                  obtain ⟨U, HU⟩ := nm wo.heap.size
                  rw [HU.out] at HO2 HB2 ⊢
                  go_loopw [13] (fun vi wr => ∃ q : Nat, q ≤ 64 ∧ vi = .int .i64 (q : Int) ∧ Below U wo wr ∧ ∃ Y : List Nat, Y.length = 64 ∧ Owns .u8 5 wr U (.slice (some ⟨U, 0, none⟩) 64 64) Y) (fun vi _ => 64 - (intOf vi).toNat)
                  case atStart => exact ⟨0, Nat.zero_le _, rfl, HB2.out, _, List.length_replicate, HO2.out⟩
                  case round =>
                    obtain ⟨q, hq, rfl, hBq, Y, hY, hoY⟩ := hrel
                    by_cases hltq : q < 64
                    · have c1 := hoY.cellAt hY.symm q hltq
                      have f1 := hoY.frozenAt hY.symm q
                      have hqi : (q : Int) < 64 := by omega
                      have hw1 : IntKind.i64.wrap ((i : Int) + (k : Int)) = ((i + k : Nat) : Int) := by rw [IntWalk.i64_in _ (by omega)]; omega
                      have hw2 : (i : Int) + (k : Int) = ((i + k : Nat) : Int) := by omega
                      have HM := Lib.hid (fun W => markByte_any (i + k) q (by omega) (by omega) W)
                      obtain ⟨x, HXX⟩ := nm (mkB (i + k) q)
                      simp only [HXX.out] at HM
                      obtain ⟨z, HZ⟩ := nm (i + k)
                      rw [HZ.out] at hw1 hw2
                      simp only [HZ.out] at HM
                      have HBQ := Lib.hid hBq
                      have HOY := Lib.hid hoY
                      have HY := Lib.hid hY
                      clear hBq hoY hY
                      go_wp2_with fail
                      refine (HM.out _).mono ?_
                      rintro e wb ⟨rfl, rfl⟩
                      go_wp2_with fail
                      go_roundw
                      case rel => exact ⟨q + 1, by omega, by go_num, HBQ.out.setCell (p := ⟨U, q, none⟩) (Nat.le_refl _) _, Y.set q x, by rw [List.length_set]; exact HY.out, HOY.out.set HY.out.symm q x _ rfl (by rw [HY.out]; exact hltq)⟩
                      case measure => simp [intOf]; omega
                    · obtain rfl : q = 64 := by omega
                      rw [show ((64 : Nat) : Int) = 64 from rfl]
                      have hOq : Oth (Value.slice ao m c).ownBlock wo.heap.size wo wr := Oth.of_below hBq (by rw [HU.out]; exact Nat.le_refl _)
                      have hoS := HSK.out.keep hBq (by rw [HU.out]; exact Nat.le_refl _)
                      have hR := HSV.out
                      have hsz := hBq.size
                      have HFW := Lib.hid (HFB.out.keep (by rw [HU.out]; exact hBq))
                      have ck2 := oth_cell hOq ck (cell_lt ck) HGK.out
                      have hHR : (Value.slice ao m c).ownBlock ≠ some H := fun e => Nat.lt_irrefl _ (HSH.out i hlt H (by rw [hR]; exact e))
                      have HHR := Lib.hid hHR
                      have hbs : base ≤ wr.heap.size := Nat.le_trans hbase (Nat.le_trans HB.out.size hsz)
                      have HBQ := Lib.hid (HB.out.trans (hBq.mono (by rw [← HU.out]; exact Nat.le_trans hbase HB.out.size)))
                      have HOY := Lib.hid hoY
                      have HOS := Lib.hid hoS
                      have HY := Lib.hid hY
                      clear hOq hoS hR hsz hBq hY hoY hHR
                      go_wp2_with (at_builtin; refine wpl_appL rfl (.tmp 148) (.tmp 149) 22 rfl .u8 5 1 Tryz.underlying22 info_u8 (by decide) base (.slice ao m c) (markL i m) wr HOS.out rfl U 64 64 U Y rfl HY.out.symm HOY.out (by rw [markL_length, HY.out]; omega) hbs ?_; intro v3 w3 ho3 ho4 hg3 hl3; obtain ⟨ga, gn, gc, rfl, -⟩ := ho3.slice; obtain ⟨-, -, hF3, ts, hF4, hF5, -⟩ := HFW.out; have hO3 : Oth (Value.slice ao m c).ownBlock wr.heap.size wr w3 := Oth.of_grown hg3 (Nat.le_refl _) (.inl rfl); have fH := oth_frozen hO3 (hF5.frozenAt hF4.symm i) hF3 HHR.out; have ⟨t0, ht0⟩ : ∃ t0, ts[i]? = some t0 := ⟨_, List.getElem?_eq_getElem (by omega)⟩; have cH := oth_cell hO3 (hF5.cellAt hF4.symm ht0) hF3 HHR.out; have HO3 := Lib.hid ho3; have HO4 := Lib.hid ho4; have HG3 := Lib.hid hg3; have HL3 := Lib.hid hl3; have HO3' := Lib.hid hO3; clear ho3 ho4 hg3 hl3 hO3 ht0 hF3 hF4 hF5)
                      have hmM : m = M i := HMl.out
                      have hR := HSV.out
                      have hst := HFW.out.step (w0 := wr) (w' := w3) (t := .slice ga gn gc) (X := markL i (M i) ++ Y) hlt HD.out HGS.out HBS.out hGH hBH HSH.out (by rw [hR]; exact HO3'.out) (by rw [hR, ← hmM]; exact HO4.out) (by rw [← hmM]; exact HO3.out) (by rw [hR]; exact HL3.out) ⟨Y, rfl⟩ HG3.out.size
                      have hbn := HBQ.out.grown HG3.out hbs (fun b hb => (owns_block HOS.out b hb).1)
                      go_roundw
                      case rel => exact ⟨i + 1, by omega, by go_num, hbn.setCell (p := ⟨H, i, none⟩) hbH _, hst⟩
                      case measure => simp [intOf]; omega
                · obtain rfl : k = i := by omega
                  clear HF HBw
                  have HF := Lib.hid hF
                  have HBw := Lib.hid hB
                  clear hF hB hi hlt
                  go_wp2_with fail
                  go_loopw [14] (fun vk wr => ∃ i : Nat, i ≤ k ∧ vk = .int .i64 (i : Int) ∧ Below base w wr ∧ Fam G k S M base B0 o0 H k (fun j X => ∃ zs : List Nat, X = markL j (M j) ++ zs) wr) (fun vk _ => k - (intOf vk).toNat)
                  case atStart => exact ⟨0, Nat.zero_le _, rfl, HBw.out, HF.out⟩
                  case round =>
                    obtain ⟨i, hi, rfl, hB, hF⟩ := hrel
                    by_cases hlt : i < k
                    · have hSk := hF.2.1 i hlt
                      obtain ⟨ao, m, c, hSv, hm, -⟩ := hSk.slice
                      rw [markL_length] at hm
                      have ck := hF.1.1 i hlt
                      rw [hSv] at ck hSk
                      have hm8 : m < 800000 := by have := HM2.out i; omega
                      have hk1 : (i : Int) < (k : Int) := by omega
                      have HFC := Lib.hid hF
                      obtain ⟨-, -, -, ts, hts, hrow, hT⟩ := hF
                      obtain ⟨t, X, ht1, ⟨zs, ht2⟩, ht3, -⟩ := hT i hlt
                      have cH := hrow.cellAt hts.symm ht1
                      rw [ht2, ← hm] at ht3
                      rw [← hm] at hSk
                      obtain ⟨ta, tn, tc, rfl, htn, -⟩ := ht3.slice
                      have hmt : m ≤ tn := by rw [htn, List.length_append, markL_length]; omega
                      have HCT := Lib.hid (fun q (hq : q < m) => (show ∃ g, ta = some ⟨g, 0, none⟩ ∧ wr.cell? ⟨g, q, none⟩ = some (.int .u8 (mkB i q : Nat)) from by
                        rcases ht3.form with ⟨-, hx⟩ | ⟨g, c', hv, -⟩
                        · have := congrArg List.length hx
                          rw [List.length_append, markL_length] at this
                          simp at this; omega
                        · obtain rfl : ta = some ⟨g, 0, none⟩ := (Value.slice.inj hv).1
                          exact ⟨g, rfl, by rw [ht3.cellAt htn q (by omega), List.getElem?_append_left (by rw [markL_length]; exact hq), markL_get _ _ _ hq]⟩))
                      have HCS := Lib.hid (fun q (hq : q < m) => (show ∃ g, ao = some ⟨g, 0, none⟩ ∧ wr.cell? ⟨g, q, none⟩ = some (.int .u8 (mkB i q : Nat)) from by
                        rcases hSk.form with ⟨-, hx⟩ | ⟨g, c', hv, -⟩
                        · have := congrArg List.length hx
                          rw [markL_length] at this
                          simp at this; omega
                        · obtain rfl : ao = some ⟨g, 0, none⟩ := (Value.slice.inj hv).1
                          exact ⟨g, rfl, by rw [hSk.cellAt (markL_length _ _).symm q hq, markL_get _ _ _ hq]⟩))
                      have HB := Lib.hid hB
                      clear hSk hSv hm hB hrow hT ht1 ht2 ht3 hts htn
                      obtain ⟨wo, rfl⟩ : ∃ wo : World, wo = wr := ⟨_, rfl⟩
                      go_wp2_with fail
                      go_loopw [15] (fun vi wr => ∃ q : Nat, q ≤ m ∧ vi = .int .i64 (q : Int) ∧ Below wo.heap.size wo wr) (fun vi _ => m - (intOf vi).toNat)
                      case atStart => exact ⟨0, Nat.zero_le _, rfl, Below.refl _ _⟩
                      case round =>
                        obtain ⟨q, hq, rfl, hBq⟩ := hrel
                        have ck2 := cell_keep hBq ck (cell_lt ck)
                        have cH2 := cell_keep hBq cH (cell_lt cH)
                        by_cases hltq : q < m
                        · obtain ⟨b, rfl, cT⟩ := HCT.out q hltq
                          obtain ⟨g, rfl, cS⟩ := HCS.out q hltq
                          have cT2 := cell_keep hBq cT (cell_lt cT)
                          have cS2 := cell_keep hBq cS (cell_lt cS)
                          have hq1 : (q : Int) < (m : Int) := by omega
                          have hq2 : (q : Int) < (tn : Int) := by omega
                          have hq3 : q < tn := by omega
                          have HM := Lib.hid (fun W => markByte_any i q (by omega) (by omega) W)
                          obtain ⟨x, HXX⟩ := nm (mkB i q)
                          rw [HXX.out] at cT2 cS2
                          simp only [HXX.out] at HM
                          have HBQ := Lib.hid hBq
                          clear hBq cS cT
                          go_wp2_with fail
                          have HK := Lib.hid (fun (W : World) (hW : W.heap = wr.heap) => (show W.cell? ⟨H, i, none⟩ = some (.slice (some ⟨b, 0, none⟩) tn tc) ∧ W.cell? ⟨b, q, none⟩ = some (.int .u8 (x : Int)) ∧ W.cell? ⟨G, i, none⟩ = some (.slice (some ⟨g, 0, none⟩) m c) ∧ W.cell? ⟨g, q, none⟩ = some (.int .u8 (x : Int)) from
                            ⟨(World.cell?_of_block (w := wr) (by rw [hW])).trans cH2, (World.cell?_of_block (w := wr) (by rw [hW])).trans cT2, (World.cell?_of_block (w := wr) (by rw [hW])).trans ck2, (World.cell?_of_block (w := wr) (by rw [hW])).trans cS2⟩))
                          refine wp_region_held_drew (S := fun W => W.cell? ⟨H, i, none⟩ = some (.slice (some ⟨b, 0, none⟩) tn tc) ∧ W.cell? ⟨b, q, none⟩ = some (.int .u8 (x : Int)) ∧ W.cell? ⟨G, i, none⟩ = some (.slice (some ⟨g, 0, none⟩) m c) ∧ W.cell? ⟨g, q, none⟩ = some (.int .u8 (x : Int))) (by kernel_rfl) (HK.out _ rfl) (fun hS => ?_)
                          refine wpAnyH_takeD (i := 0) (d := some 167) (v := ?_) rfl rfl (by kernel_rfl) (by kernel_rfl) (by kernel_rfl) (fun _ _ _ h => h) (Or.inl ⟨by rfl, fun w hSw => ?_⟩) (by assumption) ?_
                          rotate_left
                          · first | (go_simp; done) | (go_simp; with_reducible rfl)
                          simp only [Act.put, List.setIfInBounds_toArray, List.set_cons_zero, List.set_cons_succ]
                          refine wpAnyH_takeD (i := 1) (d := some 168) (v := ?_) rfl rfl (by kernel_rfl) (by kernel_rfl) (by kernel_rfl) (fun _ _ _ h => h) (Or.inl ⟨by rfl, fun w hSw => ?_⟩) (by assumption) ?_
                          rotate_left
                          · first | (go_simp; done) | (go_simp; with_reducible rfl)
                          simp only [Act.put, List.setIfInBounds_toArray, List.set_cons_zero, List.set_cons_succ]
                          refine wpAnyH_takeD (i := 2) (d := some 169) (v := ?_) rfl rfl (by kernel_rfl) (by kernel_rfl) (by kernel_rfl) (fun _ _ _ h => h) (Or.inl ⟨by rfl, fun w hSw => ?_⟩) (by assumption) ?_
                          rotate_left
                          · first | (go_simp; done) | (go_simp; with_reducible rfl)
                          simp only [Act.put, List.setIfInBounds_toArray, List.set_cons_zero, List.set_cons_succ]
                          refine wpAnyH_takeD (i := 3) (d := some 170) (v := ?_) rfl rfl (by kernel_rfl) (by kernel_rfl) (by kernel_rfl) (fun _ _ _ h => h) (Or.inl ⟨by rfl, fun w hSw => ?_⟩) (by assumption) ?_
                          rotate_left
                          · first | (go_simp; done) | (go_simp; with_reducible rfl)
                          simp only [Act.put, List.setIfInBounds_toArray, List.set_cons_zero, List.set_cons_succ]
                          refine wpAnyH_takeD (i := 4) (d := some 171) (v := ?_) rfl rfl (by kernel_rfl) (by kernel_rfl) (by kernel_rfl) (fun _ _ _ h => h) (Or.inl ⟨by rfl, fun w hSw => ?_⟩) (by assumption) ?_
                          rotate_left
                          · first | (go_simp; done) | (go_simp; with_reducible rfl)
                          simp only [Act.put, List.setIfInBounds_toArray, List.set_cons_zero, List.set_cons_succ]
                          refine wpAnyH_takeD (i := 5) (d := some 172) (v := ?_) rfl rfl (by kernel_rfl) (by kernel_rfl) (by kernel_rfl) (fun _ _ _ h => h) (Or.inl ⟨by rfl, fun w hSw => ?_⟩) (by assumption) ?_
                          rotate_left
                          · first | (go_simp; done) | (go_simp; with_reducible rfl)
                          simp only [Act.put, List.setIfInBounds_toArray, List.set_cons_zero, List.set_cons_succ]
                          refine wpAnyH_takeD (i := 6) (d := some 173) (v := ?_) rfl rfl (by kernel_rfl) (by kernel_rfl) (by kernel_rfl) (fun _ _ _ h => h) (Or.inl ⟨by rfl, fun w hSw => ?_⟩) (by assumption) ?_
                          rotate_left
                          · first | (go_simp; done) | (go_simp; with_reducible rfl)
                          simp only [Act.put, List.setIfInBounds_toArray, List.set_cons_zero, List.set_cons_succ]
                          refine wpAnyH_takeD (i := 7) (d := some 174) (v := ?_) rfl rfl (by kernel_rfl) (by kernel_rfl) (by kernel_rfl) (fun _ _ _ h => h) (Or.inl ⟨by rfl, fun w hSw => ?_⟩) (by assumption) ?_
                          rotate_left
                          · first | (go_simp; done) | (go_simp; with_reducible rfl)
                          simp only [Act.put, List.setIfInBounds_toArray, List.set_cons_zero, List.set_cons_succ]
                          refine wpAnyH_takeD (i := 8) (d := some 175) (v := ?_) rfl rfl (by kernel_rfl) (by kernel_rfl) (by kernel_rfl) (fun _ _ _ h => h) (Or.inl ⟨by rfl, fun w hSw => ?_⟩) (by assumption) ?_
                          rotate_left
                          · first | (go_simp; done) | (go_simp; with_reducible rfl)
                          simp only [Act.put, List.setIfInBounds_toArray, List.set_cons_zero, List.set_cons_succ]
                          refine wpAnyH_ready (rs := [9]) (by kernel_rfl) (by simp) ?_
                          refine AllReadyH.cons rfl (fun K hK => ?_) AllReadyH.nil
                          go_simp
                          refine (HM.out _).mono ?_
                          rintro e wb ⟨rfl, rfl⟩
                          refine hK _ _ (HK.out _ rfl) (fun hS' => ?_)
                          clear hK K hS
                          have hS := hS'
                          clear hS'
                          try simp only [Act.put, List.setIfInBounds_toArray, List.set_cons_zero, List.set_cons_succ]
                          refine wpAnyH_takeD (i := 10) (d := some 177) (v := ?_) rfl rfl (by kernel_rfl) (by kernel_rfl) (by kernel_rfl) (fun _ _ _ h => h) (Or.inl ⟨by rfl, fun w hSw => ?_⟩) (by assumption) ?_
                          rotate_left
                          · first | (go_simp; done) | (go_simp; with_reducible rfl)
                          simp only [Act.put, List.setIfInBounds_toArray, List.set_cons_zero, List.set_cons_succ]
                          refine wpAnyH_takeD (i := 11) (d := some 178) (v := ?_) rfl rfl (by kernel_rfl) (by kernel_rfl) (by kernel_rfl) (fun _ _ _ h => h) (Or.inl ⟨by rfl, fun w hSw => ?_⟩) (by assumption) ?_
                          rotate_left
                          · first | (go_simp; done) | (go_simp; with_reducible rfl)
                          simp only [Act.put, List.setIfInBounds_toArray, List.set_cons_zero, List.set_cons_succ]
                          refine wpAnyH_takeD (i := 12) (d := some 179) (v := ?_) rfl rfl (by kernel_rfl) (by kernel_rfl) (by kernel_rfl) (fun _ _ _ h => h) (Or.inl ⟨by rfl, fun w hSw => ?_⟩) (by assumption) ?_
                          rotate_left
                          · first | (go_simp; done) | (go_simp; with_reducible rfl)
                          simp only [Act.put, List.setIfInBounds_toArray, List.set_cons_zero, List.set_cons_succ]
                          refine wpAnyH_takeD (i := 13) (d := some 180) (v := ?_) rfl rfl (by kernel_rfl) (by kernel_rfl) (by kernel_rfl) (fun _ _ _ h => h) (Or.inl ⟨by rfl, fun w hSw => ?_⟩) (by assumption) ?_
                          rotate_left
                          · first | (go_simp; done) | (go_simp; with_reducible rfl)
                          simp only [Act.put, List.setIfInBounds_toArray, List.set_cons_zero, List.set_cons_succ]
                          refine wpAnyH_takeD (i := 14) (d := some 181) (v := ?_) rfl rfl (by kernel_rfl) (by kernel_rfl) (by kernel_rfl) (fun _ _ _ h => h) (Or.inl ⟨by rfl, fun w hSw => ?_⟩) (by assumption) ?_
                          rotate_left
                          · first | (go_simp; done) | (go_simp; with_reducible rfl)
                          simp only [Act.put, List.setIfInBounds_toArray, List.set_cons_zero, List.set_cons_succ]
                          refine wpAnyH_takeD (i := 15) (d := some 182) (v := ?_) rfl rfl (by kernel_rfl) (by kernel_rfl) (by kernel_rfl) (fun _ _ _ h => h) (Or.inl ⟨by rfl, fun w hSw => ?_⟩) (by assumption) ?_
                          rotate_left
                          · first | (go_simp; done) | (go_simp; with_reducible rfl)
                          simp only [Act.put, List.setIfInBounds_toArray, List.set_cons_zero, List.set_cons_succ]
                          refine wpAnyH_takeD (i := 16) (d := some 183) (v := ?_) rfl rfl (by kernel_rfl) (by kernel_rfl) (by kernel_rfl) (fun _ _ _ h => h) (Or.inl ⟨by rfl, fun w hSw => ?_⟩) (by assumption) ?_
                          rotate_left
                          · first | (go_simp; done) | (go_simp; with_reducible rfl)
                          simp only [Act.put, List.setIfInBounds_toArray, List.set_cons_zero, List.set_cons_succ]
                          refine wpAnyH_takeD (i := 17) (d := some 184) (v := ?_) rfl rfl (by kernel_rfl) (by kernel_rfl) (by kernel_rfl) (fun _ _ _ h => h) (Or.inl ⟨by rfl, fun w hSw => ?_⟩) (by assumption) ?_
                          rotate_left
                          · first | (go_simp; done) | (go_simp; with_reducible rfl)
                          simp only [Act.put, List.setIfInBounds_toArray, List.set_cons_zero, List.set_cons_succ]
                          refine wpAnyH_takeD (i := 18) (d := some 185) (v := ?_) rfl rfl (by kernel_rfl) (by kernel_rfl) (by kernel_rfl) (fun _ _ _ h => h) (Or.inl ⟨by rfl, fun w hSw => ?_⟩) (by assumption) ?_
                          rotate_left
                          · first | (go_simp; done) | (go_simp; with_reducible rfl)
                          simp only [Act.put, List.setIfInBounds_toArray, List.set_cons_zero, List.set_cons_succ]
                          refine wpAnyH_takeD (i := 19) (d := some 186) (v := ?_) rfl rfl (by kernel_rfl) (by kernel_rfl) (by kernel_rfl) (fun _ _ _ h => h) (Or.inl ⟨by rfl, fun w hSw => ?_⟩) (by assumption) ?_
                          rotate_left
                          · first | (go_simp; done) | (go_simp; with_reducible rfl)
                          simp only [Act.put, List.setIfInBounds_toArray, List.set_cons_zero, List.set_cons_succ]
                          refine wpAnyH_takeD (i := 20) (d := some 187) (v := ?_) rfl rfl (by kernel_rfl) (by kernel_rfl) (by kernel_rfl) (fun _ _ _ h => h) (Or.inl ⟨by rfl, fun w hSw => ?_⟩) (by assumption) ?_
                          rotate_left
                          · first | (go_simp; done) | (go_simp; with_reducible rfl)
                          simp only [Act.put, List.setIfInBounds_toArray, List.set_cons_zero, List.set_cons_succ]
                          refine wpAnyH_takeD (i := 21) (d := some 188) (v := ?_) rfl rfl (by kernel_rfl) (by kernel_rfl) (by kernel_rfl) (fun _ _ _ h => h) (Or.inl ⟨by rfl, fun w hSw => ?_⟩) (by assumption) ?_
                          rotate_left
                          · first | (go_simp; done) | (go_simp; with_reducible rfl)
                          simp only [Act.put, List.setIfInBounds_toArray, List.set_cons_zero, List.set_cons_succ]
                          refine wpAnyH_ready (rs := [22]) (by kernel_rfl) (by simp) ?_
                          refine AllReadyH.cons rfl (fun K hK => ?_) AllReadyH.nil
                          go_simp
                          refine (HM.out _).mono ?_
                          rintro e wb ⟨rfl, rfl⟩
                          refine hK _ _ (HK.out _ rfl) (fun hS' => ?_)
                          clear hK K hS
                          have hS := hS'
                          clear hS'
                          try simp only [Act.put, List.setIfInBounds_toArray, List.set_cons_zero, List.set_cons_succ]
                          refine wpAnyH_takeD (i := 23) (d := some 190) (v := ?_) rfl rfl (by kernel_rfl) (by kernel_rfl) (by kernel_rfl) (fun _ _ _ h => h) (Or.inl ⟨by rfl, fun w hSw => ?_⟩) (by assumption) ?_
                          rotate_left
                          · first | (go_simp; done) | (go_simp; with_reducible rfl)
                          simp only [Act.put, List.setIfInBounds_toArray, List.set_cons_zero, List.set_cons_succ]
                          refine wpAnyH_takeD (i := 24) (d := some 191) (v := ?_) rfl rfl (by kernel_rfl) (by kernel_rfl) (by kernel_rfl) (fun _ _ _ h => h) (Or.inl ⟨by rfl, fun w hSw => ?_⟩) (by assumption) ?_
                          rotate_left
                          · first | (go_simp; done) | (go_simp; with_reducible rfl)
                          simp only [Act.put, List.setIfInBounds_toArray, List.set_cons_zero, List.set_cons_succ]
                          refine wpAnyH_takeD (i := 25) (d := some 192) (v := ?_) rfl rfl (by kernel_rfl) (by kernel_rfl) (by kernel_rfl) (fun _ _ _ h => h) (Or.inl ⟨by rfl, fun w hSw => ?_⟩) (by assumption) ?_
                          rotate_left
                          · first | (go_simp; done) | (go_simp; with_reducible rfl)
                          simp only [Act.put, List.setIfInBounds_toArray, List.set_cons_zero, List.set_cons_succ]
                          refine wpAnyH_done (by kernel_rfl) ?_ _
                          go_wp2_with fail
                          go_roundw
                          case rel => exact ⟨q + 1, by omega, by go_num, HBQ.out.drew⟩
                          case measure => simp [intOf]; omega
                        · obtain rfl : q = m := by omega
                          have HBQ := Lib.hid hBq
                          clear hBq
                          go_wp2_with fail
                          go_roundw
                          case rel => exact ⟨i + 1, by omega, by go_num, HB.out.trans (HBQ.out.mono (Nat.le_trans hbase HB.out.size)), HFC.out.keep HBQ.out⟩
                          case measure => simp [intOf]; omega
                    · obtain rfl : k = i := by omega
                      have HBE := Lib.hid (And.intro hB hF.1.2.2)
                      clear hB hF
                      go_wp2_with fail
                      go_ret
                      exact ⟨rfl, HBE.out.1, HBE.out.2⟩
end Go.Proofs.YtmjigpnpcacefaaGreatDoor
