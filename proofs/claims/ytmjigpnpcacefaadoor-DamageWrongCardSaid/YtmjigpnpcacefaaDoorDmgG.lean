/- The walks of damage.Drop, Double, Swap. The walks of slices.Reverse at bytes, damage.Turn. -/
import Derived.Test.YtmjigpnpcacefaaDoorDmgE
namespace Go.Proofs.YtmjigpnpcacefaaDoor
open Go Go.RowKit Go.Shelf

/-- A slice of a slice. -/
def subS (a : Option Addr) (c lo hi : Nat) : Value := .slice (if c = lo then a else a.map fun x => x.add lo) (hi - lo) (c - lo)
theorem reads_sub {k : IntKind} {w : World} {a : Option Addr} {n c lo hi : Nat} {xs : List Nat} (h : Reads k w (.slice a n c) xs) (h1 : lo ≤ hi) (h2 : hi ≤ n) : Reads k w (subS a c lo hi) ((xs.drop lo).take (hi - lo)) := by
  obtain ⟨a', c', e, hl, hm, hc⟩ := h
  cases e
  unfold subS
  have hlen : ((xs.drop lo).take (hi - lo)).length = hi - lo := by simp; omega
  by_cases hcl : c = lo
  · rw [if_pos hcl]
    refine ⟨a, c - lo, by rw [hlen], by rw [hlen]; omega, by omega, .inl (by omega)⟩
  · rw [if_neg hcl]
    rcases hc with h0 | ⟨b, off, rfl, hcell⟩
    · omega
    · refine ⟨some ⟨b, off + lo, none⟩, c - lo, by rw [hlen]; simp [Addr.add], by rw [hlen]; omega, by omega, .inr ⟨b, off + lo, rfl, fun i hi' => ?_⟩⟩
      rw [hlen] at hi'
      rw [show off + lo + i = off + (lo + i) by omega, hcell (lo + i) (by omega), List.getElem?_take, if_pos hi', List.getElem?_drop]
theorem subS_slice (a : Option Addr) (c lo hi : Nat) : ∃ ao m d, subS a c lo hi = .slice ao m d := ⟨_, _, _, rfl⟩

theorem joined_any (B n : Nat) (f : Nat → List Nat) (hl : (cat f n).length ≤ 1000000) (hn : n ≤ 1000) (w : World)
    (hc : ∀ i, i < n → ∃ ao c, w.cell? ⟨B, 0 + i, none⟩ = some (.slice ao (f i).length c) ∧ Reads .u8 w (.slice ao (f i).length c) (f i)) :
    Calls Tryd.prog 49 #[.slice (some ⟨B, 0, none⟩) n n] w fun e w' => ∃ v', e = .returned v' ∧ Owns .u8 5 w' w.heap.size v' (cat f n) ∧ Below w.heap.size w w' := by
  have c1 := concat_any B 0 n n f hl (Nat.le_refl _) hn w hc
  have C1 := Lib.hid c1
  clear c1 hc
  go_enter Tryd.func49, Tryd.ntmps49
  go_wp2_with fail
  refine C1.out.mono ?_
  rintro e w1 ⟨v1, rfl, ho1, hb1⟩
  have HO := Lib.hid ho1
  clear ho1
  go_wp2_with fail
  go_ret
  exact ⟨_, rfl, HO.out, hb1⟩
/-- Rows of bytes, whatever their slices are. -/
theorem row_at {w : World} {v : Value} {ys : List Nat} (h : Reads .u8 w v ys) : ∃ ao c, v = .slice ao ys.length c ∧ Reads .u8 w (.slice ao ys.length c) ys := by
  obtain ⟨ao, c, rfl, h1⟩ := h
  exact ⟨ao, c, rfl, ao, c, rfl, h1⟩
def two (a b : List Nat) : Nat → List Nat
  | 0 => a
  | _ => b
def four' (a b c d : List Nat) : Nat → List Nat
  | 0 => a
  | 1 => b
  | 2 => c
  | _ => d
/-- The call of joined behind the making of its list of two slices. -/
theorem joined_two (v0 v1 : Value) (a b : List Nat) (w : World) (h0 : Reads .u8 w v0 a) (h1 : Reads .u8 w v1 b) (hl : a.length + b.length ≤ 1000000) :
    Calls Tryd.prog 49 #[.slice (some ⟨w.heap.size, 0, none⟩) 2 2] (w.alloc (.cells #[v0, v1] 28)).drew fun e w' => ∃ v', e = .returned v' ∧ Owns .u8 5 w' w.heap.size v' (a ++ b) ∧ Below w.heap.size w w' := by
  have hA := (bel_alloc w (.cells #[v0, v1] 28)).drew
  have hcells := fun i => cell_of_row (w.alloc (.cells #[v0, v1] 28)).drew w.heap.size i #[v0, v1] 28 (0, 0) (World.alloc_heap_new w _)
  have k0 := h0.keep hA (Nat.le_refl _)
  have k1 := h1.keep hA (Nat.le_refl _)
  refine (joined_any w.heap.size 2 (two a b) (by simp [cat, two]; omega) (by decide) _ ?_).mono ?_
  · intro i hi
    rw [Nat.zero_add, hcells i]
    match i, hi with
    | 0, _ => obtain ⟨ao, c, e, hr⟩ := row_at k0; exact ⟨ao, c, by rw [e]; rfl, hr⟩
    | 1, _ => obtain ⟨ao, c, e, hr⟩ := row_at k1; exact ⟨ao, c, by rw [e]; rfl, hr⟩
    | i + 2, h => exact absurd h (by omega)
  · rintro e w' ⟨v', rfl, ho, hb⟩
    refine ⟨v', rfl, ?_, bel_trans hA hb (by simp)⟩
    have := ho.mono (base' := w.heap.size) (by simp)
    simpa [cat, two] using this
theorem joined_four (v0 v1 v2 v3 : Value) (a b c d : List Nat) (w : World) (h0 : Reads .u8 w v0 a) (h1 : Reads .u8 w v1 b) (h2 : Reads .u8 w v2 c) (h3 : Reads .u8 w v3 d) (hl : a.length + b.length + c.length + d.length ≤ 1000000) :
    Calls Tryd.prog 49 #[.slice (some ⟨w.heap.size, 0, none⟩) 4 4] (w.alloc (.cells #[v0, v1, v2, v3] 28)).drew fun e w' => ∃ v', e = .returned v' ∧ Owns .u8 5 w' w.heap.size v' (a ++ b ++ c ++ d) ∧ Below w.heap.size w w' := by
  have hA := (bel_alloc w (.cells #[v0, v1, v2, v3] 28)).drew
  have hcells := fun i => cell_of_row (w.alloc (.cells #[v0, v1, v2, v3] 28)).drew w.heap.size i #[v0, v1, v2, v3] 28 (0, 0) (World.alloc_heap_new w _)
  have k0 := h0.keep hA (Nat.le_refl _)
  have k1 := h1.keep hA (Nat.le_refl _)
  have k2 := h2.keep hA (Nat.le_refl _)
  have k3 := h3.keep hA (Nat.le_refl _)
  refine (joined_any w.heap.size 4 (four' a b c d) (by simp [cat, four']; omega) (by decide) _ ?_).mono ?_
  · intro i hi
    rw [Nat.zero_add, hcells i]
    match i, hi with
    | 0, _ => obtain ⟨ao, c, e, hr⟩ := row_at k0; exact ⟨ao, c, by rw [e]; rfl, hr⟩
    | 1, _ => obtain ⟨ao, c, e, hr⟩ := row_at k1; exact ⟨ao, c, by rw [e]; rfl, hr⟩
    | 2, _ => obtain ⟨ao, c, e, hr⟩ := row_at k2; exact ⟨ao, c, by rw [e]; rfl, hr⟩
    | 3, _ => obtain ⟨ao, c, e, hr⟩ := row_at k3; exact ⟨ao, c, by rw [e]; rfl, hr⟩
    | i + 4, h => exact absurd h (by omega)
  · rintro e w' ⟨v', rfl, ho, hb⟩
    refine ⟨v', rfl, ?_, bel_trans hA hb (by simp)⟩
    have := ho.mono (base' := w.heap.size) (by simp)
    simpa [cat, four'] using this

set_option maxRecDepth 100000 in
set_option maxHeartbeats 2000000 in
theorem drop_any (v : Value) (xs : List Nat) (f t : Nat) (hft : f ≤ t) (htn : t ≤ xs.length) (w : World) (hv : Reads .u8 w v xs) (hxl : xs.length < 400000) :
    Calls Tryd.prog 23 #[v, .int .i64 f, .int .i64 t] w fun e w' => ∃ v', e = .returned (.tuple #[v', .int .i64 0]) ∧ Owns .u8 5 w' w.heap.size v' (xs.take f ++ xs.drop t) ∧ Below w.heap.size w w' := by
  have hv0 := hv
  obtain ⟨ab, cb, rfl, hnc, hcm, hcs⟩ := hv
  have hp := piece_any ab xs.length cb f t
  rw [show pieceB xs.length f t = true from decide_eq_true (by omega)] at hp
  have s0 := reads_sub hv0 (Nat.zero_le f) (show f ≤ xs.length by omega)
  have s1 := reads_sub hv0 (show t ≤ xs.length by omega) (Nat.le_refl xs.length)
  rw [List.drop_zero, Nat.sub_zero] at s0
  rw [List.take_of_length_le (by rw [List.length_drop]; exact Nat.le_refl _)] at s1
  have hl0 : (xs.take f).length + (xs.drop t).length ≤ 1000000 := by rw [List.length_take, List.length_drop]; omega
  obtain ⟨n, HN⟩ := nm xs.length
  rw [HN.out] at htn hnc hxl s1 ⊢
  simp only [HN.out] at hp
  have jn := joined_two _ _ _ _ w s0 s1 hl0
  have e0 : subS ab cb 0 f = .slice ab f cb := by unfold subS; by_cases h : cb = 0 <;> simp [h] <;> (cases ab <;> rfl)
  rw [e0] at jn
  unfold subS at jn
  have JN := Lib.hid jn
  have h1 : f ≤ cb := by omega
  have h2 : t ≤ cb := by omega
  have h3 : n ≤ cb := by omega
  have h4 : t ≤ n := by omega
  have HP := Lib.hid hp
  clear hp hcs s0 s1 hl0 jn e0
  go_enter Tryd.func23, Tryd.ntmps23
  go_wp2_with fail
  refine (HP.out _).mono ?_
  rintro e w1 ⟨rfl, rfl⟩
  go_wp2_with fail
  have hD : Below w.heap.size w w.drew := (bel_refl w).drew
  refine wp_region_held_drew (S := fun W => Below w.heap.size w W) (by kernel_rfl) hD (fun hS => ?_)
  refine wpAnyH_takeD (i := 0) (d := some 13) (v := ?_) rfl rfl (by kernel_rfl) (by kernel_rfl) (by kernel_rfl) (fun _ _ _ h => h) (Or.inl ⟨by rfl, fun w hSw => ?_⟩) (by assumption) ?_
  rotate_left
  · first | (go_simp; done) | (go_simp; with_reducible rfl)
  simp only [Act.put, List.setIfInBounds_toArray, List.set_cons_zero, List.set_cons_succ]
  refine wpAnyH_takeD (i := 1) (d := some 14) (v := ?_) rfl rfl (by kernel_rfl) (by kernel_rfl) (by kernel_rfl) (fun _ _ _ h => h) (Or.inl ⟨by rfl, fun w hSw => ?_⟩) (by assumption) ?_
  rotate_left
  · first | (go_simp; done) | (go_simp; with_reducible rfl)
  simp only [Act.put, List.setIfInBounds_toArray, List.set_cons_zero, List.set_cons_succ]
  refine wpAnyH_takeD (i := 2) (d := some 15) (v := ?_) rfl rfl (by kernel_rfl) (by kernel_rfl) (by kernel_rfl) (fun _ _ _ h => h) (Or.inl ⟨by rfl, fun w hSw => ?_⟩) (by assumption) ?_
  rotate_left
  · first | (go_simp; done) | (go_simp; with_reducible rfl)
  simp only [Act.put, List.setIfInBounds_toArray, List.set_cons_zero, List.set_cons_succ]
  refine wpAnyH_takeD (i := 3) (d := some 16) (v := ?_) rfl rfl (by kernel_rfl) (by kernel_rfl) (by kernel_rfl) (fun _ _ _ h => h) (Or.inl ⟨by rfl, fun w hSw => ?_⟩) (by assumption) ?_
  rotate_left
  · first | (go_simp; done) | (go_simp; with_reducible rfl)
  simp only [Act.put, List.setIfInBounds_toArray, List.set_cons_zero, List.set_cons_succ]
  refine wpAnyH_takeD (i := 4) (d := some 17) (v := ?_) rfl rfl (by kernel_rfl) (by kernel_rfl) (by kernel_rfl) (fun _ _ _ h => h) (Or.inl ⟨by rfl, fun w hSw => ?_⟩) (by assumption) ?_
  rotate_left
  · first | (go_simp; done) | (go_simp; with_reducible rfl)
  simp only [Act.put, List.setIfInBounds_toArray, List.set_cons_zero, List.set_cons_succ]
  refine wpAnyH_takeD (i := 5) (d := some 18) (v := ?_) rfl rfl (by kernel_rfl) (by kernel_rfl) (by kernel_rfl) (fun _ _ _ h => h) (Or.inl ⟨by rfl, fun w hSw => ?_⟩) (by assumption) ?_
  rotate_left
  · first | (go_simp; done) | (go_simp; with_reducible rfl)
  simp only [Act.put, List.setIfInBounds_toArray, List.set_cons_zero, List.set_cons_succ]
  refine wpAnyH_ready (rs := [6]) (by kernel_rfl) (by simp) ?_
  refine AllReadyH.cons rfl (fun K hK => ?_) AllReadyH.nil
  go_simp
  refine hK _ _ (hD.alloc (by simp) _) (fun _ => ?_)
  clear hK K hS
  try simp only [Act.put, List.setIfInBounds_toArray, List.set_cons_zero, List.set_cons_succ]
  refine wpAnyH_ready (rs := [7]) (by kernel_rfl) (by simp) ?_
  refine AllReadyH.cons rfl (fun K hK => ?_) AllReadyH.nil
  go_simp
  refine (JN.out).mono ?_
  rintro e w2 ⟨v2, rfl, ho2, hb2⟩
  have hB2 := hb2
  have HO2 := Lib.hid ho2
  clear ho2 hb2
  refine hK _ _ hB2 (fun _ => ?_)
  clear hK K
  have hS := hB2
  try simp only [Act.put, List.setIfInBounds_toArray, List.set_cons_zero, List.set_cons_succ]
  refine wpAnyH_takeD (i := 8) (d := some 6) (v := ?_) rfl rfl (by kernel_rfl) (by kernel_rfl) (by kernel_rfl) (fun _ _ _ h => h) (Or.inl ⟨by rfl, fun w hSw => ?_⟩) (by assumption) ?_
  rotate_left
  · first | (go_simp; done) | (go_simp; with_reducible rfl)
  simp only [Act.put, List.setIfInBounds_toArray, List.set_cons_zero, List.set_cons_succ]
  refine wpAnyH_takeD (i := 9) (d := some 7) (v := ?_) rfl rfl (by kernel_rfl) (by kernel_rfl) (by kernel_rfl) (fun _ _ _ h => h) (Or.inl ⟨by rfl, fun w hSw => ?_⟩) (by assumption) ?_
  rotate_left
  · first | (go_simp; done) | (go_simp; with_reducible rfl)
  simp only [Act.put, List.setIfInBounds_toArray, List.set_cons_zero, List.set_cons_succ]
  refine wpAnyH_done (by kernel_rfl) ?_ _
  go_wp2_with fail
  all_goals
    go_ret2
    exact ⟨_, rfl, HO2.out, hS⟩

set_option maxRecDepth 100000 in
set_option maxHeartbeats 2000000 in
theorem double_any (v : Value) (xs : List Nat) (f t : Nat) (hft : f ≤ t) (htn : t ≤ xs.length) (w : World) (hv : Reads .u8 w v xs) (hxl : xs.length < 400000) :
    Calls Tryd.prog 22 #[v, .int .i64 f, .int .i64 t] w fun e w' => ∃ v', e = .returned (.tuple #[v', .int .i64 0]) ∧ Owns .u8 5 w' w.heap.size v' (xs.take t ++ xs.drop f) ∧ Below w.heap.size w w' := by
  have hv0 := hv
  obtain ⟨ab, cb, rfl, hnc, hcm, hcs⟩ := hv
  have hp := piece_any ab xs.length cb f t
  rw [show pieceB xs.length f t = true from decide_eq_true (by omega)] at hp
  have s0 := reads_sub hv0 (Nat.zero_le t) (show t ≤ xs.length by omega)
  have s1 := reads_sub hv0 (show f ≤ xs.length by omega) (Nat.le_refl xs.length)
  rw [List.drop_zero, Nat.sub_zero] at s0
  rw [List.take_of_length_le (by rw [List.length_drop]; exact Nat.le_refl _)] at s1
  have hl0 : (xs.take t).length + (xs.drop f).length ≤ 1000000 := by rw [List.length_take, List.length_drop]; omega
  obtain ⟨n, HN⟩ := nm xs.length
  rw [HN.out] at htn hnc hxl s1 ⊢
  simp only [HN.out] at hp
  have jn := joined_two _ _ _ _ w s0 s1 hl0
  have e0 : subS ab cb 0 t = .slice ab t cb := by unfold subS; by_cases h : cb = 0 <;> simp [h] <;> (cases ab <;> rfl)
  rw [e0] at jn
  unfold subS at jn
  have JN := Lib.hid jn
  have h1 : t ≤ cb := by omega
  have h2 : f ≤ cb := by omega
  have h3 : n ≤ cb := by omega
  have h4 : f ≤ n := by omega
  have HP := Lib.hid hp
  clear hp hcs s0 s1 hl0 jn e0
  go_enter Tryd.func22, Tryd.ntmps22
  go_wp2_with fail
  refine (HP.out _).mono ?_
  rintro e w1 ⟨rfl, rfl⟩
  go_wp2_with fail
  have hD : Below w.heap.size w w.drew := (bel_refl w).drew
  refine wp_region_held_drew (S := fun W => Below w.heap.size w W) (by kernel_rfl) hD (fun hS => ?_)
  refine wpAnyH_takeD (i := 0) (d := some 13) (v := ?_) rfl rfl (by kernel_rfl) (by kernel_rfl) (by kernel_rfl) (fun _ _ _ h => h) (Or.inl ⟨by rfl, fun w hSw => ?_⟩) (by assumption) ?_
  rotate_left
  · first | (go_simp; done) | (go_simp; with_reducible rfl)
  simp only [Act.put, List.setIfInBounds_toArray, List.set_cons_zero, List.set_cons_succ]
  refine wpAnyH_takeD (i := 1) (d := some 14) (v := ?_) rfl rfl (by kernel_rfl) (by kernel_rfl) (by kernel_rfl) (fun _ _ _ h => h) (Or.inl ⟨by rfl, fun w hSw => ?_⟩) (by assumption) ?_
  rotate_left
  · first | (go_simp; done) | (go_simp; with_reducible rfl)
  simp only [Act.put, List.setIfInBounds_toArray, List.set_cons_zero, List.set_cons_succ]
  refine wpAnyH_takeD (i := 2) (d := some 15) (v := ?_) rfl rfl (by kernel_rfl) (by kernel_rfl) (by kernel_rfl) (fun _ _ _ h => h) (Or.inl ⟨by rfl, fun w hSw => ?_⟩) (by assumption) ?_
  rotate_left
  · first | (go_simp; done) | (go_simp; with_reducible rfl)
  simp only [Act.put, List.setIfInBounds_toArray, List.set_cons_zero, List.set_cons_succ]
  refine wpAnyH_takeD (i := 3) (d := some 16) (v := ?_) rfl rfl (by kernel_rfl) (by kernel_rfl) (by kernel_rfl) (fun _ _ _ h => h) (Or.inl ⟨by rfl, fun w hSw => ?_⟩) (by assumption) ?_
  rotate_left
  · first | (go_simp; done) | (go_simp; with_reducible rfl)
  simp only [Act.put, List.setIfInBounds_toArray, List.set_cons_zero, List.set_cons_succ]
  refine wpAnyH_takeD (i := 4) (d := some 17) (v := ?_) rfl rfl (by kernel_rfl) (by kernel_rfl) (by kernel_rfl) (fun _ _ _ h => h) (Or.inl ⟨by rfl, fun w hSw => ?_⟩) (by assumption) ?_
  rotate_left
  · first | (go_simp; done) | (go_simp; with_reducible rfl)
  simp only [Act.put, List.setIfInBounds_toArray, List.set_cons_zero, List.set_cons_succ]
  refine wpAnyH_takeD (i := 5) (d := some 18) (v := ?_) rfl rfl (by kernel_rfl) (by kernel_rfl) (by kernel_rfl) (fun _ _ _ h => h) (Or.inl ⟨by rfl, fun w hSw => ?_⟩) (by assumption) ?_
  rotate_left
  · first | (go_simp; done) | (go_simp; with_reducible rfl)
  simp only [Act.put, List.setIfInBounds_toArray, List.set_cons_zero, List.set_cons_succ]
  refine wpAnyH_ready (rs := [6]) (by kernel_rfl) (by simp) ?_
  refine AllReadyH.cons rfl (fun K hK => ?_) AllReadyH.nil
  go_simp
  refine hK _ _ (hD.alloc (by simp) _) (fun _ => ?_)
  clear hK K hS
  try simp only [Act.put, List.setIfInBounds_toArray, List.set_cons_zero, List.set_cons_succ]
  refine wpAnyH_ready (rs := [7]) (by kernel_rfl) (by simp) ?_
  refine AllReadyH.cons rfl (fun K hK => ?_) AllReadyH.nil
  go_simp
  refine (JN.out).mono ?_
  rintro e w2 ⟨v2, rfl, ho2, hb2⟩
  have hB2 := hb2
  have HO2 := Lib.hid ho2
  clear ho2 hb2
  refine hK _ _ hB2 (fun _ => ?_)
  clear hK K
  have hS := hB2
  try simp only [Act.put, List.setIfInBounds_toArray, List.set_cons_zero, List.set_cons_succ]
  refine wpAnyH_takeD (i := 8) (d := some 6) (v := ?_) rfl rfl (by kernel_rfl) (by kernel_rfl) (by kernel_rfl) (fun _ _ _ h => h) (Or.inl ⟨by rfl, fun w hSw => ?_⟩) (by assumption) ?_
  rotate_left
  · first | (go_simp; done) | (go_simp; with_reducible rfl)
  simp only [Act.put, List.setIfInBounds_toArray, List.set_cons_zero, List.set_cons_succ]
  refine wpAnyH_takeD (i := 9) (d := some 7) (v := ?_) rfl rfl (by kernel_rfl) (by kernel_rfl) (by kernel_rfl) (fun _ _ _ h => h) (Or.inl ⟨by rfl, fun w hSw => ?_⟩) (by assumption) ?_
  rotate_left
  · first | (go_simp; done) | (go_simp; with_reducible rfl)
  simp only [Act.put, List.setIfInBounds_toArray, List.set_cons_zero, List.set_cons_succ]
  refine wpAnyH_done (by kernel_rfl) ?_ _
  go_wp2_with fail
  all_goals
    go_ret2
    exact ⟨_, rfl, HO2.out, hS⟩

set_option maxRecDepth 100000 in
set_option maxHeartbeats 2000000 in
theorem swap_any (v : Value) (xs : List Nat) (f m t : Nat) (hfm : f ≤ m) (hmt : m ≤ t) (htn : t ≤ xs.length) (w : World) (hv : Reads .u8 w v xs) (hxl : xs.length < 400000) :
    Calls Tryd.prog 25 #[v, .int .i64 f, .int .i64 m, .int .i64 t] w fun e w' => ∃ v', e = .returned (.tuple #[v', .int .i64 0]) ∧ Owns .u8 5 w' w.heap.size v' (xs.take f ++ (xs.drop m).take (t - m) ++ (xs.drop f).take (m - f) ++ xs.drop t) ∧ Below w.heap.size w w' := by
  have hv0 := hv
  obtain ⟨ab, cb, rfl, hnc, hcm, hcs⟩ := hv
  have hp := piece_any ab xs.length cb f m
  rw [show pieceB xs.length f m = true from decide_eq_true (by omega)] at hp
  have hp2 := piece_any ab xs.length cb m t
  rw [show pieceB xs.length m t = true from decide_eq_true (by omega)] at hp2
  have s0 := reads_sub hv0 (Nat.zero_le f) (show f ≤ xs.length by omega)
  have s1 := reads_sub hv0 hmt htn
  have s2 := reads_sub hv0 hfm (show m ≤ xs.length by omega)
  have s3 := reads_sub hv0 htn (Nat.le_refl xs.length)
  rw [List.drop_zero, Nat.sub_zero] at s0
  rw [List.take_of_length_le (by rw [List.length_drop]; exact Nat.le_refl _)] at s3
  have hl0 : (xs.take f).length + ((xs.drop m).take (t - m)).length + ((xs.drop f).take (m - f)).length + (xs.drop t).length ≤ 1000000 := by
    simp only [List.length_take, List.length_drop]; omega
  obtain ⟨n, HN⟩ := nm xs.length
  rw [HN.out] at htn hnc hxl s3 ⊢
  simp only [HN.out] at hp hp2
  have jn := joined_four _ _ _ _ _ _ _ _ w s0 s1 s2 s3 hl0
  have e0 : subS ab cb 0 f = .slice ab f cb := by unfold subS; by_cases h : cb = 0 <;> simp [h] <;> (cases ab <;> rfl)
  rw [e0] at jn
  unfold subS at jn
  obtain ⟨Am, HAm⟩ := nm (if cb = m then ab else ab.map fun x => x.add m)
  obtain ⟨Af, HAf⟩ := nm (if cb = f then ab else ab.map fun x => x.add f)
  obtain ⟨At, HAt⟩ := nm (if cb = t then ab else ab.map fun x => x.add t)
  rw [HAm.out, HAf.out, HAt.out] at jn
  have JN := Lib.hid jn
  have h1 : f ≤ cb := by omega
  have h2 : m ≤ cb := by omega
  have h3 : n ≤ cb := by omega
  have h4 : t ≤ cb := by omega
  have HP := Lib.hid hp
  have HP2 := Lib.hid hp2
  clear hp hp2 hcs s0 s1 s2 s3 hl0 jn e0
  go_enter Tryd.func25, Tryd.ntmps25
  go_wp2_with fail
  refine (HP.out _).mono ?_
  rintro e w1 ⟨rfl, rfl⟩
  go_wp2_with fail
  refine (HP2.out _).mono ?_
  rintro e w1 ⟨rfl, rfl⟩
  go_wp2_with fail
  have hD : Below w.heap.size w w.drew := (bel_refl w).drew
  refine wp_region_held_drew (S := fun W => Below w.heap.size w W) (by kernel_rfl) hD (fun hS => ?_)
  refine wpAnyH_takeD (i := 0) (d := some 22) (v := ?_) rfl rfl (by kernel_rfl) (by kernel_rfl) (by kernel_rfl) (fun _ _ _ h => h) (Or.inl ⟨by rfl, fun w hSw => ?_⟩) (by assumption) ?_
  rotate_left
  · first | (go_simp; done) | (go_simp; with_reducible rfl)
  simp only [Act.put, List.setIfInBounds_toArray, List.set_cons_zero, List.set_cons_succ]
  refine wpAnyH_takeD (i := 1) (d := some 23) (v := ?_) rfl rfl (by kernel_rfl) (by kernel_rfl) (by kernel_rfl) (fun _ _ _ h => h) (Or.inl ⟨by rfl, fun w hSw => ?_⟩) (by assumption) ?_
  rotate_left
  · first | (go_simp; done) | (go_simp; with_reducible rfl)
  simp only [Act.put, List.setIfInBounds_toArray, List.set_cons_zero, List.set_cons_succ]
  refine wpAnyH_takeD (i := 2) (d := some 24) (v := ?_) rfl rfl (by kernel_rfl) (by kernel_rfl) (by kernel_rfl) (fun _ _ _ h => h) (Or.inl ⟨by rfl, fun w hSw => ?_⟩) (by assumption) ?_
  rotate_left
  · first | (go_simp; done) | (go_simp; with_reducible rfl)
  simp only [Act.put, List.setIfInBounds_toArray, List.set_cons_zero, List.set_cons_succ]
  refine wpAnyH_takeD (i := 3) (d := some 25) (v := ?_) rfl rfl (by kernel_rfl) (by kernel_rfl) (by kernel_rfl) (fun _ _ _ h => h) (Or.inl ⟨by rfl, fun w hSw => ?_⟩) (by assumption) ?_
  rotate_left
  · first | (go_simp; done) | (go_simp; with_reducible rfl)
  simp only [Act.put, List.setIfInBounds_toArray, List.set_cons_zero, List.set_cons_succ]
  refine wpAnyH_takeD (i := 4) (d := some 26) (v := ?_) rfl rfl (by kernel_rfl) (by kernel_rfl) (by kernel_rfl) (fun _ _ _ h => h) (Or.inl ⟨by rfl, fun w hSw => ?_⟩) (by assumption) ?_
  rotate_left
  · first | (go_simp; done) | (go_simp; with_reducible rfl)
  simp only [Act.put, List.setIfInBounds_toArray, List.set_cons_zero, List.set_cons_succ]
  refine wpAnyH_takeD (i := 5) (d := some 27) (v := ?_) rfl rfl (by kernel_rfl) (by kernel_rfl) (by kernel_rfl) (fun _ _ _ h => h) (Or.inl ⟨by rfl, fun w hSw => ?_⟩) (by assumption) ?_
  rotate_left
  · first | (go_simp; done) | (go_simp; with_reducible rfl)
  simp only [Act.put, List.setIfInBounds_toArray, List.set_cons_zero, List.set_cons_succ]
  refine wpAnyH_takeD (i := 6) (d := some 28) (v := ?_) rfl rfl (by kernel_rfl) (by kernel_rfl) (by kernel_rfl) (fun _ _ _ h => h) (Or.inl ⟨by rfl, fun w hSw => ?_⟩) (by assumption) ?_
  rotate_left
  · first | (go_simp; done) | (go_simp; with_reducible rfl)
  simp only [Act.put, List.setIfInBounds_toArray, List.set_cons_zero, List.set_cons_succ]
  rw [HAm.out]
  refine wpAnyH_takeD (i := 7) (d := some 29) (v := ?_) rfl rfl (by kernel_rfl) (by kernel_rfl) (by kernel_rfl) (fun _ _ _ h => h) (Or.inl ⟨by rfl, fun w hSw => ?_⟩) (by assumption) ?_
  rotate_left
  · first | (go_simp; done) | (go_simp; with_reducible rfl)
  simp only [Act.put, List.setIfInBounds_toArray, List.set_cons_zero, List.set_cons_succ]
  refine wpAnyH_takeD (i := 8) (d := some 30) (v := ?_) rfl rfl (by kernel_rfl) (by kernel_rfl) (by kernel_rfl) (fun _ _ _ h => h) (Or.inl ⟨by rfl, fun w hSw => ?_⟩) (by assumption) ?_
  rotate_left
  · first | (go_simp; done) | (go_simp; with_reducible rfl)
  simp only [Act.put, List.setIfInBounds_toArray, List.set_cons_zero, List.set_cons_succ]
  refine wpAnyH_takeD (i := 9) (d := some 31) (v := ?_) rfl rfl (by kernel_rfl) (by kernel_rfl) (by kernel_rfl) (fun _ _ _ h => h) (Or.inl ⟨by rfl, fun w hSw => ?_⟩) (by assumption) ?_
  rotate_left
  · first | (go_simp; done) | (go_simp; with_reducible rfl)
  simp only [Act.put, List.setIfInBounds_toArray, List.set_cons_zero, List.set_cons_succ]
  refine wpAnyH_takeD (i := 10) (d := some 32) (v := ?_) rfl rfl (by kernel_rfl) (by kernel_rfl) (by kernel_rfl) (fun _ _ _ h => h) (Or.inl ⟨by rfl, fun w hSw => ?_⟩) (by assumption) ?_
  rotate_left
  · first | (go_simp; done) | (go_simp; with_reducible rfl)
  simp only [Act.put, List.setIfInBounds_toArray, List.set_cons_zero, List.set_cons_succ]
  rw [HAf.out]
  refine wpAnyH_takeD (i := 11) (d := some 33) (v := ?_) rfl rfl (by kernel_rfl) (by kernel_rfl) (by kernel_rfl) (fun _ _ _ h => h) (Or.inl ⟨by rfl, fun w hSw => ?_⟩) (by assumption) ?_
  rotate_left
  · first | (go_simp; done) | (go_simp; with_reducible rfl)
  simp only [Act.put, List.setIfInBounds_toArray, List.set_cons_zero, List.set_cons_succ]
  refine wpAnyH_takeD (i := 12) (d := some 34) (v := ?_) rfl rfl (by kernel_rfl) (by kernel_rfl) (by kernel_rfl) (fun _ _ _ h => h) (Or.inl ⟨by rfl, fun w hSw => ?_⟩) (by assumption) ?_
  rotate_left
  · first | (go_simp; done) | (go_simp; with_reducible rfl)
  simp only [Act.put, List.setIfInBounds_toArray, List.set_cons_zero, List.set_cons_succ]
  refine wpAnyH_takeD (i := 13) (d := some 35) (v := ?_) rfl rfl (by kernel_rfl) (by kernel_rfl) (by kernel_rfl) (fun _ _ _ h => h) (Or.inl ⟨by rfl, fun w hSw => ?_⟩) (by assumption) ?_
  rotate_left
  · first | (go_simp; done) | (go_simp; with_reducible rfl)
  simp only [Act.put, List.setIfInBounds_toArray, List.set_cons_zero, List.set_cons_succ]
  rw [HAt.out]
  refine wpAnyH_ready (rs := [14]) (by kernel_rfl) (by simp) ?_
  refine AllReadyH.cons rfl (fun K hK => ?_) AllReadyH.nil
  go_simp
  refine hK _ _ (hD.alloc (by simp) _) (fun _ => ?_)
  clear hK K hS
  try simp only [Act.put, List.setIfInBounds_toArray, List.set_cons_zero, List.set_cons_succ]
  refine wpAnyH_ready (rs := [15]) (by kernel_rfl) (by simp) ?_
  refine AllReadyH.cons rfl (fun K hK => ?_) AllReadyH.nil
  go_simp
  refine (JN.out).mono ?_
  rintro e w2 ⟨v2, rfl, ho2, hb2⟩
  have HO2 := Lib.hid ho2
  clear ho2
  refine hK _ _ hb2 (fun _ => ?_)
  clear hK K
  have hS := hb2
  try simp only [Act.put, List.setIfInBounds_toArray, List.set_cons_zero, List.set_cons_succ]
  refine wpAnyH_takeD (i := 16) (d := some 8) (v := ?_) rfl rfl (by kernel_rfl) (by kernel_rfl) (by kernel_rfl) (fun _ _ _ h => h) (Or.inl ⟨by rfl, fun w hSw => ?_⟩) (by assumption) ?_
  rotate_left
  · first | (go_simp; done) | (go_simp; with_reducible rfl)
  simp only [Act.put, List.setIfInBounds_toArray, List.set_cons_zero, List.set_cons_succ]
  refine wpAnyH_takeD (i := 17) (d := some 9) (v := ?_) rfl rfl (by kernel_rfl) (by kernel_rfl) (by kernel_rfl) (fun _ _ _ h => h) (Or.inl ⟨by rfl, fun w hSw => ?_⟩) (by assumption) ?_
  rotate_left
  · first | (go_simp; done) | (go_simp; with_reducible rfl)
  simp only [Act.put, List.setIfInBounds_toArray, List.set_cons_zero, List.set_cons_succ]
  refine wpAnyH_done (by kernel_rfl) ?_ _
  go_wp2_with fail
  all_goals
    go_ret2
    exact ⟨_, rfl, HO2.out, hS⟩

/-- What is no piece. -/
theorem drop_bad (v : Value) (xs : List Nat) (f t : Int) (h : pieceB xs.length f t = false) (w : World) (hv : Reads .u8 w v xs) :
    Calls Tryd.prog 23 #[v, .int .i64 f, .int .i64 t] w fun e w' => e = .returned (.tuple #[.slice none 0 0, .int .i64 2]) ∧ w = w' := by
  obtain ⟨ab, cb, rfl, hnc, hcm, hcs⟩ := hv
  have hp := piece_any ab xs.length cb f t
  rw [h] at hp
  have HP := Lib.hid hp
  clear hp hcs h
  go_enter Tryd.func23, Tryd.ntmps23
  go_wp2_with fail
  refine (HP.out _).mono ?_
  rintro e w1 ⟨rfl, rfl⟩
  go_wp2_with fail
  go_ret2
  exact ⟨rfl, rfl⟩
theorem double_bad (v : Value) (xs : List Nat) (f t : Int) (h : pieceB xs.length f t = false) (w : World) (hv : Reads .u8 w v xs) :
    Calls Tryd.prog 22 #[v, .int .i64 f, .int .i64 t] w fun e w' => e = .returned (.tuple #[.slice none 0 0, .int .i64 2]) ∧ w = w' := by
  obtain ⟨ab, cb, rfl, hnc, hcm, hcs⟩ := hv
  have hp := piece_any ab xs.length cb f t
  rw [h] at hp
  have HP := Lib.hid hp
  clear hp hcs h
  go_enter Tryd.func22, Tryd.ntmps22
  go_wp2_with fail
  refine (HP.out _).mono ?_
  rintro e w1 ⟨rfl, rfl⟩
  go_wp2_with fail
  go_ret2
  exact ⟨rfl, rfl⟩
theorem turn_bad (v : Value) (xs : List Nat) (f t : Int) (h : pieceB xs.length f t = false) (w : World) (hv : Reads .u8 w v xs) :
    Calls Tryd.prog 24 #[v, .int .i64 f, .int .i64 t] w fun e w' => e = .returned (.tuple #[.slice none 0 0, .int .i64 2]) ∧ w = w' := by
  obtain ⟨ab, cb, rfl, hnc, hcm, hcs⟩ := hv
  have hp := piece_any ab xs.length cb f t
  rw [h] at hp
  have HP := Lib.hid hp
  clear hp hcs h
  go_enter Tryd.func24, Tryd.ntmps24
  go_wp2_with fail
  refine (HP.out _).mono ?_
  rintro e w1 ⟨rfl, rfl⟩
  go_wp2_with fail
  go_ret2
  exact ⟨rfl, rfl⟩
theorem swap_bad (v : Value) (xs : List Nat) (f m t : Int) (h : pieceB xs.length f m = false ∨ pieceB xs.length m t = false) (w : World) (hv : Reads .u8 w v xs) :
    Calls Tryd.prog 25 #[v, .int .i64 f, .int .i64 m, .int .i64 t] w fun e w' => e = .returned (.tuple #[.slice none 0 0, .int .i64 2]) ∧ w = w' := by
  obtain ⟨ab, cb, rfl, hnc, hcm, hcs⟩ := hv
  have hp := piece_any ab xs.length cb f m
  have hp2 := piece_any ab xs.length cb m t
  by_cases h1 : pieceB xs.length f m = false
  · rw [h1] at hp
    have HP := Lib.hid hp
    clear hp hp2 hcs h h1
    go_enter Tryd.func25, Tryd.ntmps25
    go_wp2_with fail
    refine (HP.out _).mono ?_
    rintro e w1 ⟨rfl, rfl⟩
    go_wp2_with fail
    go_ret2
    exact ⟨rfl, rfl⟩
  · rw [h.resolve_left h1] at hp2
    rw [show pieceB xs.length f m = true by simpa using h1] at hp
    have HP := Lib.hid hp
    have HP2 := Lib.hid hp2
    clear hp hp2 hcs h h1
    go_enter Tryd.func25, Tryd.ntmps25
    go_wp2_with fail
    refine (HP.out _).mono ?_
    rintro e w1 ⟨rfl, rfl⟩
    go_wp2_with fail
    refine (HP2.out _).mono ?_
    rintro e w1 ⟨rfl, rfl⟩
    go_wp2_with fail
    go_ret2
    exact ⟨rfl, rfl⟩
end Go.Proofs.YtmjigpnpcacefaaDoor
namespace Go.Proofs.YtmjigpnpcacefaaDoor
open Go Go.RowKit Go.Shelf

/-- A piece turned round, as far as i steps from both ends. -/
def mixT (ys : List Nat) (f t i : Nat) : List Nat := (List.range ys.length).map fun p => if (f ≤ p ∧ p < f + i) ∨ (t ≤ p + i ∧ p < t) then ys[f + t - 1 - p]?.getD 0 else ys[p]?.getD 0
/-- A piece turned round. -/
def turnV (ys : List Nat) (f t : Nat) : List Nat := (List.range ys.length).map fun p => if f ≤ p ∧ p < t then ys[f + t - 1 - p]?.getD 0 else ys[p]?.getD 0
theorem mixT_length (ys : List Nat) (f t i : Nat) : (mixT ys f t i).length = ys.length := by simp [mixT]
theorem turnV_length (ys : List Nat) (f t : Nat) : (turnV ys f t).length = ys.length := by simp [turnV]
theorem mixT_get (ys : List Nat) (f t i p : Nat) (h : p < ys.length) : (mixT ys f t i)[p]?.getD 0 = if (f ≤ p ∧ p < f + i) ∨ (t ≤ p + i ∧ p < t) then ys[f + t - 1 - p]?.getD 0 else ys[p]?.getD 0 := by
  simp [mixT, h]
theorem list_ext_getD {a b : List Nat} (h : a.length = b.length) (he : ∀ p, p < a.length → a[p]?.getD 0 = b[p]?.getD 0) : a = b := by
  apply List.ext_getElem h
  intro p h1 h2
  have := he p h1
  simpa [h1, h2] using this
theorem mixT_zero (ys : List Nat) (f t : Nat) : mixT ys f t 0 = ys := by
  refine list_ext_getD (mixT_length _ _ _ _) fun p hp => ?_
  rw [mixT_length] at hp
  rw [mixT_get _ _ _ _ _ hp, if_neg (by omega)]
theorem mixT_succ (ys : List Nat) (f t i : Nat) (h : f + i < t - 1 - i) (_ht : t ≤ ys.length) :
    ((mixT ys f t i).set (f + i) (ys[t - 1 - i]?.getD 0)).set (t - 1 - i) (ys[f + i]?.getD 0) = mixT ys f t (i + 1) := by
  refine list_ext_getD (by simp [mixT_length]) fun p hp => ?_
  rw [List.length_set, List.length_set, mixT_length] at hp
  rw [mixT_get _ _ _ _ _ hp, List.getElem?_set, List.getElem?_set]
  simp only [List.length_set, mixT_length]
  by_cases e1 : t - 1 - i = p
  · subst e1
    rw [if_pos rfl, if_pos hp, if_pos (by omega), show f + t - 1 - (t - 1 - i) = f + i by omega]
    rfl
  · rw [if_neg e1]
    by_cases e2 : f + i = p
    · subst e2
      rw [if_pos rfl, if_pos hp, if_pos (by omega), show f + t - 1 - (f + i) = t - 1 - i by omega]
      rfl
    · rw [if_neg e2, mixT_get _ _ _ _ _ hp]
      by_cases h1 : (f ≤ p ∧ p < f + i) ∨ (t ≤ p + i ∧ p < t)
      · rw [if_pos h1, if_pos (by omega)]
      · rw [if_neg h1, if_neg (by omega)]
theorem mixT_end (ys : List Nat) (f t i : Nat) (h : t - 1 - i ≤ f + i) (hft : f < t) (hi : i ≤ t - f) : mixT ys f t i = turnV ys f t := by
  refine list_ext_getD (by rw [mixT_length, turnV_length]) fun p hp => ?_
  rw [mixT_length] at hp
  rw [mixT_get _ _ _ _ _ hp]
  have e : (turnV ys f t)[p]?.getD 0 = if f ≤ p ∧ p < t then ys[f + t - 1 - p]?.getD 0 else ys[p]?.getD 0 := by simp [turnV, hp]
  rw [e]
  by_cases h1 : f ≤ p ∧ p < t
  · rw [if_pos h1]
    by_cases h2 : (f ≤ p ∧ p < f + i) ∨ (t ≤ p + i ∧ p < t)
    · rw [if_pos h2]
    · have h3 : ¬ p < f + i := fun e => h2 (.inl ⟨h1.1, e⟩)
      have h4 : ¬ t ≤ p + i := fun e => h2 (.inr ⟨e, h1.2⟩)
      have h6 : p = f + i := by omega
      have h7 : t = f + i + i + 1 := by omega
      have h5 : f + t - 1 - p = p := by rw [h6, h7]; omega
      rw [if_neg h2, h5]
  · rw [if_neg h1, if_neg (by omega)]
theorem turnV_none (ys : List Nat) (f t : Nat) (h : t ≤ f) : turnV ys f t = ys := by
  refine list_ext_getD (turnV_length _ _ _) fun p hp => ?_
  rw [turnV_length] at hp
  have e : (turnV ys f t)[p]?.getD 0 = if f ≤ p ∧ p < t then ys[f + t - 1 - p]?.getD 0 else ys[p]?.getD 0 := by simp [turnV, hp]
  rw [e, if_neg (by omega)]
theorem mixT_keep1 (ys : List Nat) (f t i : Nat) (h : f + i < t - 1 - i) (ht : t ≤ ys.length) : (mixT ys f t i)[f + i]?.getD 0 = ys[f + i]?.getD 0 := by
  rw [mixT_get _ _ _ _ _ (by omega), if_neg (by omega)]
theorem mixT_keep2 (ys : List Nat) (f t i : Nat) (h : f + i < t - 1 - i) (ht : t ≤ ys.length) : (mixT ys f t i)[t - 1 - i]?.getD 0 = ys[t - 1 - i]?.getD 0 := by
  rw [mixT_get _ _ _ _ _ (by omega), if_neg (by omega)]

theorem reverse_none (a : Option Addr) (c : Nat) (w : World) :
    Calls Tryd.prog 50 #[.slice a 0 c] w fun e w' => e = .returned (.tuple #[]) ∧ w = w' := by
  go_enter Tryd.func50, Tryd.ntmps50
  go_wp2_with fail
  refine wp_loop_rounds 1 ?_
  rw [rounds_succ]
  go_wp2
  go_end0
  exact ⟨rfl, rfl⟩

set_option maxRecDepth 100000 in
set_option maxHeartbeats 2000000 in
theorem reverse_part (g n c c2 f t base : Nat) (ys : List Nat) (hft : f < t) (htn : t ≤ n) (hn1 : n < 400000) (w : World) (ho : Owns .u8 5 w base (.slice (some ⟨g, 0, none⟩) n c) ys) :
    Calls Tryd.prog 50 #[.slice (some ⟨g, f, none⟩) (t - f) c2] w fun e w' => e = .returned (.tuple #[]) ∧ Owns .u8 5 w' base (.slice (some ⟨g, 0, none⟩) n c) (turnV ys f t) ∧ Below base w w' := by
  obtain ⟨hnl, hnc, _⟩ := ho.len
  have hst := fun i h => mixT_succ ys f t i h (by omega)
  have hen := fun i h hi => mixT_end ys f t i h hft hi
  have hk1 := fun i h => mixT_keep1 ys f t i h (by omega)
  have hk2 := fun i h => mixT_keep2 ys f t i h (by omega)
  have hml := mixT_length ys f t
  have h0 := mixT_zero ys f t
  have hgb : base ≤ g := by
    obtain ⟨g', e, hb, _⟩ := ho.at (show 0 < n by omega)
    cases e
    exact hb
  have HST := Lib.hid hst
  have HEN := Lib.hid hen
  have HK1 := Lib.hid hk1
  have HK2 := Lib.hid hk2
  have HML := Lib.hid hml
  have HO := Lib.hid ho
  have H0 := Lib.hid h0
  obtain ⟨d, hd⟩ : ∃ d : Nat, t = f + d := ⟨t - f, by omega⟩
  subst hd
  rw [show f + d - f = d by omega]
  have hdp : 0 < d := by omega
  have HNL := Lib.hid hnl
  clear hst hen hk1 hk2 hml ho h0 hnl
  go_enter Tryd.func50, Tryd.ntmps50
  go_wp2_with fail
  go_loopw [2, 3] (fun vi vj wr => ∃ i : Nat, i ≤ d ∧ vi = .int .i64 (i : Int) ∧ vj = .int .i64 ((d : Int) - 1 - (i : Int)) ∧ Owns .u8 5 wr base (.slice (some ⟨g, 0, none⟩) n c) (mixT ys f (f + d) i) ∧ Below base w wr) (fun vi _ _ => d - (intOf vi).toNat)
  case atStart => exact ⟨0, Nat.zero_le _, rfl, by simp, by rw [H0.out]; exact HO.out, Below.refl _ _⟩
  case round =>
    obtain ⟨i, hi, rfl, rfl, hown, hBr⟩ := hrel
    have HW := Lib.hid hown
    clear hown
    by_cases hlt : f + i < f + d - 1 - i
    · have hst := HST.out i hlt
      have hk1 := HK1.out i hlt
      have hk2 := HK2.out i hlt
      obtain ⟨g1, e1, _, _, hl1, _, _, hc1, hf1, hs1⟩ := HW.out.at (show f + i < n by omega)
      cases e1
      obtain ⟨j, hj⟩ : ∃ j, f + d - 1 - i = f + j ∧ i < j ∧ j < d ∧ j = d - 1 - i := ⟨d - 1 - i, by omega, by omega, by omega, rfl⟩
      obtain ⟨hj1, hj2, hj3, hj4⟩ := hj
      rw [hj1] at hst hk2
      obtain ⟨g2, e2, _, _, hl2, _, _, hc2, hf2, _⟩ := HW.out.at (show f + j < n by omega)
      cases e2
      rw [hk1] at hc1
      rw [hk2] at hc2
      have hji : ((d : Int) - 1 - (i : Int)) = (j : Int) := by omega
      have o1 := hs1 ((ys[f + j]?.getD 0 : Nat) : Int) (Int.natCast_nonneg _)
      obtain ⟨g3, e3, _, _, hl3, _, _, _, hf3, hs3⟩ := o1.at (show f + j < n by omega)
      cases e3
      have o2 := hs3 ((ys[f + i]?.getD 0 : Nat) : Int) (Int.natCast_nonneg _)
      rw [Int.toNat_natCast, Int.toNat_natCast, hst] at o2
      obtain ⟨x, HX⟩ := nm (ys[f + i]?.getD 0)
      obtain ⟨y, HY⟩ := nm (ys[f + j]?.getD 0)
      rw [HX.out] at hc1 o2
      rw [HY.out] at hc2 o2
      have HO2 := Lib.hid o2
      have hB2 := ((hBr.setCell (p := ⟨g, f + i, none⟩) hgb (.int .u8 (y : Int))).setCell (p := ⟨g, f + j, none⟩) hgb (.int .u8 (x : Int))).drew
      have HJ4 := Lib.hid hj4
      have hneg : ((j : Int) - 1) = (d : Int) - 1 - ((i + 1 : Nat) : Int) := by omega
      have HNG := Lib.hid hneg
      clear hst hk1 hk2 hl1 hs1 hl2 hl3 hs3 o1 o2 HW hj4 hneg hBr
      rw [hji]
      clear hji hj1
      go_wp2_with fail
      go_region
      all_goals
        go_wp2
        go_roundw
        case rel => exact ⟨i + 1, by omega, by go_num, by rw [← HNG.out], HO2.out, hB2⟩
        case measure => simp [intOf]; omega
    · have hen := HEN.out i (by omega) (by omega)
      have HE := Lib.hid hen
      clear hen
      go_wp2_with fail
      go_end0
      exact ⟨rfl, by rw [← HE.out]; exact HW.out, hBr⟩

set_option maxRecDepth 100000 in
set_option maxHeartbeats 1000000 in
theorem turn_any (v : Value) (xs : List Nat) (f t : Nat) (hft : f ≤ t) (htn : t ≤ xs.length) (w : World) (hv : Reads .u8 w v xs) (hxl : xs.length < 400000) :
    Calls Tryd.prog 24 #[v, .int .i64 f, .int .i64 t] w fun e w' => ∃ v', e = .returned (.tuple #[v', .int .i64 0]) ∧ Owns .u8 5 w' w.heap.size v' (turnV xs f t) ∧ Below w.heap.size w w' := by
  have hcl := clone_bytes v xs w hv (by omega)
  obtain ⟨ab, cb, rfl, hnc, hcm, hcs⟩ := hv
  have hp := piece_any ab xs.length cb f t
  rw [show pieceB xs.length f t = true from decide_eq_true (by omega)] at hp
  have hnone := turnV_none xs f t
  obtain ⟨n, HN⟩ := nm xs.length
  rw [HN.out] at htn hnc hxl
  simp only [HN.out] at hp hcl ⊢
  have HP := Lib.hid hp
  have HC := Lib.hid hcl
  have HNO := Lib.hid hnone
  clear hp hcs hcl hnone
  go_enter Tryd.func24, Tryd.ntmps24
  go_wp2_with fail
  refine (HP.out _).mono ?_
  rintro e w1 ⟨rfl, rfl⟩
  go_wp2_with fail
  refine HC.out.mono ?_
  rintro e w1 ⟨v1, rfl, ho1, hb1⟩
  obtain ⟨a1, n1, c1, rfl, hn1, _⟩ := ho1.slice
  rw [HN.out] at hn1
  subst hn1
  obtain ⟨hz, hc1, hc2⟩ := ho1.len
  clear hz
  have HO1 := Lib.hid ho1
  clear ho1
  by_cases he : f < t
  · obtain ⟨g, rfl⟩ : ∃ g, a1 = some ⟨g, 0, none⟩ := by
      obtain ⟨g, e, _⟩ := HO1.out.at (show 0 < n1 by omega)
      exact ⟨g, e⟩
    have hcf : ¬ c1 = f := by omega
    have h1 : f ≤ c1 := by omega
    have h2 : t ≤ c1 := by omega
    have rp := reverse_part g n1 c1 (c1 - f) f t w.heap.size xs he htn (by omega) w1 HO1.out
    have RP := Lib.hid rp
    clear rp
    go_wp2_with fail
    refine RP.out.mono ?_
    rintro e w2 ⟨rfl, ho2, hb2⟩
    have hB2 := hb1.trans hb2
    have HO2 := Lib.hid ho2
    clear ho2 hb1 hb2
    go_wp2_with fail
    go_ret2
    exact ⟨_, rfl, HO2.out, hB2⟩
  · obtain rfl : f = t := by omega
    have hn := HNO.out (Nat.le_refl _)
    have HNE := Lib.hid hn
    have h1 : f ≤ c1 := by omega
    clear hn
    by_cases hcf : c1 = f
    · subst hcf
      go_wp2_with fail
      refine (reverse_none _ _ _).mono ?_
      rintro e w2 ⟨rfl, rfl⟩
      go_wp2_with fail
      go_ret2
      exact ⟨_, rfl, by rw [HNE.out]; exact HO1.out, hb1⟩
    · go_wp2_with fail
      refine (reverse_none _ _ _).mono ?_
      rintro e w2 ⟨rfl, rfl⟩
      go_wp2_with fail
      go_ret2
      exact ⟨_, rfl, by rw [HNE.out]; exact HO1.out, hb1⟩
end Go.Proofs.YtmjigpnpcacefaaDoor
