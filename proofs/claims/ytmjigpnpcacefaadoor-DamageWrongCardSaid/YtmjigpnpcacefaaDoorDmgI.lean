/- The walk of damage.differing's iterator. damage.differing's iterator as a law for ranges over it. -/
import Derived.Test.YtmjigpnpcacefaaDoorDmgH
import Derived.Stop.RegionWithIn
namespace Go.Proofs.YtmjigpnpcacefaaDoor
open Go Go.RowKit Go.Shelf
attribute [local go_sem] Oper.semAt_some
attribute [local go_sem] wide_fn

def diffB (xs ys : List Nat) (t : Nat) : Bool := ((xs[t / 8]?.getD 0) ^^^ (ys[t / 8]?.getD 0)).testBit (t % 8)
def diffTo (xs ys : List Nat) (m : Nat) : List Nat := (List.range m).filter (diffB xs ys)
theorem diffTo_succ (xs ys : List Nat) (m : Nat) : diffTo xs ys (m + 1) = if diffB xs ys m then diffTo xs ys m ++ [m] else diffTo xs ys m := by
  unfold diffTo
  rw [List.range_succ, List.filter_append]
  by_cases h : diffB xs ys m = true <;> simp [h]
theorem diffTo_le (xs ys : List Nat) (m : Nat) : (diffTo xs ys m).length ≤ m := by
  have := List.length_filter_le (diffB xs ys) (List.range m)
  simpa [diffTo] using this
theorem diffTo_pre (xs ys : List Nat) (m k : Nat) (h : m ≤ k) : diffTo xs ys m <+: diffTo xs ys k := by
  unfold diffTo
  refine List.IsPrefix.filter _ ?_
  rw [show List.range m = (List.range k).take m by rw [List.take_range]; congr 1; omega]
  exact List.take_prefix _ _
theorem diffB_at (xs ys : List Nat) (i k : Nat) (hk : k < 8) : diffB xs ys (8 * i + k) = ((xs[i]?.getD 0) ^^^ (ys[i]?.getD 0)).testBit k := by
  unfold diffB
  rw [show (8 * i + k) / 8 = i by omega, show (8 * i + k) % 8 = k by omega]

theorem yield_both {J Jx Kp : World → Prop} {e : Ending} {W : World} (h : (e = .returned (.bool true) ∧ J W ∧ Kp W) ∨ (e = .returned (.bool false) ∧ Jx W)) : ∃ b : Bool, e = .returned (.bool b) ∧ Hid ((b = true ∧ J W ∧ Kp W) ∨ (b = false ∧ Jx W)) := by
  rcases h with ⟨rfl, h⟩ | ⟨rfl, h⟩
  · exact ⟨true, rfl, Lib.hid (.inl ⟨rfl, h⟩)⟩
  · exact ⟨false, rfl, Lib.hid (.inr ⟨rfl, h⟩)⟩

theorem u8_bit_beq (z t : Nat) (h : z < 256) : (bits BinOp.and IntKind.u8 ((z : Int) / 2 ^ t) 1 == 1) = z.testBit t := by
  have e : ((z : Int) / 2 ^ t) = ((z / 2 ^ t : Nat) : Int) := by simp
  rw [e, show (1 : Int) = ((1 : Nat) : Int) from rfl, u8_and_nat _ _ (Nat.lt_of_le_of_lt (Nat.div_le_self _ _) h) (by decide), nat_mask1, Nat.testBit_eq_decide_div_mod_eq]
  rcases Nat.mod_two_eq_zero_or_one (z / 2 ^ t) with h | h <;> rw [h] <;> rfl
theorem drew_gb {w w' : World} (row : Option Nat) (h : w.grownBy w' row) : w.grownBy w'.drew row := ⟨h.os, h.tape, h.output, h.size, h.block⟩
theorem cutG {G C : Prop} (g : G) (f : G → C) : C := f g
def boxK (n₀ B1 B2 : Nat) (W W' : World) : Prop := W'.cell? ⟨B1, 0, none⟩ = W.cell? ⟨B1, 0, none⟩ ∧ W'.cell? ⟨B2, 0, none⟩ = W.cell? ⟨B2, 0, none⟩ ∧ Below n₀ W W'

set_option maxRecDepth 100000 in
set_option maxHeartbeats 4000000 in
theorem differing_in (n : Nat) (hn : 1 ≤ n) (l B1 B2 n₀ : Nat) (xs ys : List Nat) (va vb : Value) (hxl : xs.length < 400000) (hxy : ys.length = xs.length) (hxs : ∀ i : Nat, xs[i]?.getD 0 < 256) (hys : ∀ i : Nat, ys[i]?.getD 0 < 256) (J Jx : List Nat → World → Prop)
    (hY : ∀ (pre : List Nat) (x : Nat) (W : World), J pre W → pre.length < 8 * xs.length → YieldAt Fence.wide (n - 1) Tryd.prog l #[.int .i64 (x : Int)] W fun e W' =>
      (e = .returned (.bool true) ∧ J (pre ++ [x]) W' ∧ boxK n₀ B1 B2 W W') ∨ (e = .returned (.bool false) ∧ Jx (pre ++ [x]) W'))
    (w0 W : World) (h00 : w0.heap.size ≤ n₀) (hB0 : Below n₀ w0 W) (ha : Reads .u8 w0 va xs) (hb : Reads .u8 w0 vb ys) (hc1 : W.cell? ⟨B1, 0, none⟩ = some va) (hc2 : W.cell? ⟨B2, 0, none⟩ = some vb) (hJ : AbidesFrom W.heap.size J) (h0 : J [] W) :
    CallsIn Fence.wide n Tryd.prog 59 #[.func (.yield l) #[] #[], .pointer (some ⟨B1, 0, none⟩), .pointer (some ⟨B2, 0, none⟩)] W fun e W' => (∃ v, e = .returned v) ∧
      ((∃ zs, zs = diffTo xs ys (8 * xs.length) ∧ J zs W') ∨ (∃ pre, pre <+: diffTo xs ys (8 * xs.length) ∧ Jx pre W')) := by
  obtain ⟨aa, ca, rfl, hlca, hcma, hcsa⟩ := ha
  obtain ⟨ab, cb, rfl, hlcb, hcmb, hcsb⟩ := hb
  rw [hxy] at hlcb hcsb hc2
  obtain ⟨m, HM⟩ := nm xs.length
  rw [HM.out] at hlca hlcb hcsa hcsb hc1 hc2 hxl hY
  rw [HM.out]
  clear hxy
  refine callsIn_of_wp Tryd.func59 rfl trivial ?_ rfl
  simp only [Tryd.ntmps59, List.size_toArray, List.length_cons, List.length_nil, Nat.reduceAdd, Nat.reduceSub, Array.replicate_succ, Array.replicate_zero, List.push_toArray, List.append_toArray, List.nil_append, List.cons_append]
  gi_wp2_with fail
  gi_loopw [8] (fun i wr => ∃ (k : Nat), k ≤ m ∧ i = .int .i64 (k : Int) ∧ J (diffTo xs ys (8 * k)) wr ∧ Below n₀ w0 wr ∧ wr.cell? ⟨B1, 0, none⟩ = some (.slice aa m ca) ∧ wr.cell? ⟨B2, 0, none⟩ = some (.slice ab m cb) ∧ AbidesFrom wr.heap.size J)
    (fun i _ => m - (intOf i).toNat)
  case atStart => exact ⟨0, by omega, rfl, h0, hB0, hc1, hc2, hJ⟩
  case round =>
    obtain ⟨k, hk, rfl, hJr, hBr, hr1, hr2, hAb⟩ := hrel
    by_cases hlt : k < m
    · clear hc1 hc2 hB0 h0 hJ
      gi_wp2_with fail
      obtain ⟨wo, rfl⟩ : ∃ wo : World, wo = wr := ⟨_, rfl⟩
      gi_loopw [11] (fun i wr => ∃ (t : Nat), t ≤ 8 ∧ i = .int .i64 (t : Int) ∧ J (diffTo xs ys (8 * k + t)) wr ∧ Below n₀ w0 wr ∧ wr.cell? ⟨B1, 0, none⟩ = some (.slice aa m ca) ∧ wr.cell? ⟨B2, 0, none⟩ = some (.slice ab m cb) ∧ AbidesFrom wr.heap.size J)
        (fun i _ => 8 - (intOf i).toNat)
      case atStart => exact ⟨0, by omega, rfl, hJr, hBr, hr1, hr2, hAb⟩
      case round =>
        clear hJr hBr hr1 hr2 hAb
        obtain ⟨t, ht, rfl, hJr, hBr, hr1, hr2, hAb⟩ := hrel
        by_cases ht8 : t < 8
        · obtain ⟨b1, o1, e1, hd1⟩ := hcsa.resolve_left (fun h => by omega)
          obtain ⟨b2, o2, e2, hd2⟩ := hcsb.resolve_left (fun h => by omega)
          have c1 := cell_keep hBr (hd1 k hlt) (Nat.lt_of_lt_of_le (cell_lt (hd1 k hlt)) h00)
          have c2 := cell_keep hBr (hd2 k hlt) (Nat.lt_of_lt_of_le (cell_lt (hd2 k hlt)) h00)
          have hdb := diffB_at xs ys k t ht8
          have hds := diffTo_succ xs ys (8 * k + t)
          obtain ⟨x, HX⟩ := nm (xs[k]?.getD 0)
          obtain ⟨y, HY⟩ := nm (ys[k]?.getD 0)
          have hxb := hxs k
          have hyb := hys k
          rw [HX.out] at c1 hdb hxb
          rw [HY.out] at c2 hdb hyb
          have hz : bits BinOp.xor IntKind.u8 (x : Int) (y : Int) = ((x ^^^ y : Nat) : Int) := u8_xor_nat x y hxb hyb
          have hzb : x ^^^ y < 256 := Nat.xor_lt_two_pow (n := 8) hxb hyb
          obtain ⟨z, HZ⟩ := nm (x ^^^ y)
          rw [HZ.out] at hz hzb hdb
          have hgd : (bits BinOp.and IntKind.u8 ((z : Int) / 2 ^ t) 1 == 1) = diffB xs ys (8 * k + t) := (u8_bit_beq z t hzb).trans hdb.symm
          have hq1 : IntKind.i64.wrap (8 * (k : Int)) = ((8 * k : Nat) : Int) := by rw [IntWalk.i64_in _ (by omega)]; omega
          have hq2 : IntKind.i64.wrap (((8 * k : Nat) : Int) + (t : Int)) = ((8 * k + t : Nat) : Int) := by rw [IntWalk.i64_in _ (by omega)]; omega
          obtain ⟨p, HP⟩ := nm ((8 * k : Nat) : Int)
          obtain ⟨q, HQ⟩ := nm ((8 * k + t : Nat) : Int)
          rw [HP.out] at hq1 hq2
          rw [HQ.out] at hq2
          obtain ⟨fn, tmps, assign, body, hy, hR⟩ := hY (diffTo xs ys (8 * k + t)) (8 * k + t) wr.drew (hAb _ _ _ none hJr (drew_gb _ (World.grownBy.refl _ _)) (fun r e => by cases e)) (Nat.lt_of_le_of_lt (diffTo_le _ _ _) (by omega))
          rw [HQ.out] at hy
          have HDS := Lib.hid hds
          have HDB := Lib.hid hdb
          clear hds hdb hd1 hd2 hcsa hcsb hY
          subst e1 e2
          gi_wp2_with fail
          by_cases hbit : diffB xs ys (8 * k + t) = true
          · have hg := hgd.trans hbit
            have HE := Lib.hid (HDS.out.trans (if_pos hbit))
            clear hgd hbit HDS HDB
            refine wpIn_region_any (by kernel_rfl) ?_
            change wpAnyIn _ _ _ _ _ _ _ _ _ (World.drew _)
            refine wpAnyIn_take (i := 1) (v := ?_) rfl rfl (by kernel_rfl) (by kernel_rfl) (by kernel_rfl) (fun _ _ _ h => h) ⟨Or.inl ⟨by kernel_rfl, ?_⟩, fun _ => by kernel_rfl⟩ ?_
            rotate_left
            · intro w; first | (go_simp; done) | (go_simp; with_reducible rfl)
            try simp only [Act.put]
            refine wpAnyIn_take (i := 5) (v := ?_) rfl rfl (by kernel_rfl) (by kernel_rfl) (by kernel_rfl) (fun _ _ _ h => h) ⟨Or.inl ⟨by kernel_rfl, ?_⟩, fun _ => by kernel_rfl⟩ ?_
            rotate_left
            · intro w; first | (go_simp; done) | (go_simp; with_reducible rfl)
            try simp only [Act.put]
            refine wpAnyIn_take (i := 9) (v := ?_) rfl rfl (by kernel_rfl) (by kernel_rfl) (by kernel_rfl) (fun _ _ _ h => h) ⟨Or.inl ⟨by kernel_rfl, ?_⟩, fun _ => by kernel_rfl⟩ ?_
            rotate_left
            · intro w; first | (go_simp; done) | (go_simp; with_reducible rfl)
            try simp only [Act.put]
            apply cutG
            rotate_left
            · intro key
              refine wpAnyIn_ready (rs := [0, 4]) (by kernel_rfl) (by simp) ?_
              refine AllReadyIn.cons rfl (fun K hK => ?_) (AllReadyIn.cons rfl (fun K hK => ?_) AllReadyIn.nil)
              · go_simp
                refine hK _ _ ?_
                clear hK K
                refine wpAnyIn_take (i := 2) (v := ?_) rfl rfl (by kernel_rfl) (by kernel_rfl) (by kernel_rfl) (fun _ _ _ h => h) ⟨Or.inl ⟨by kernel_rfl, ?_⟩, fun _ => by kernel_rfl⟩ ?_
                rotate_left
                · intro w; first | (go_simp; done) | (go_simp; with_reducible rfl)
                try simp only [Act.put]
                refine wpAnyIn_ready (rs := [3, 4]) (by kernel_rfl) (by simp) ?_
                refine AllReadyIn.cons rfl (fun K hK => ?_) (AllReadyIn.cons rfl (fun K hK => ?_) AllReadyIn.nil)
                · go_simp
                  refine hK _ _ ?_
                  clear hK K
                  refine wpAnyIn_ready (rs := [4]) (by kernel_rfl) (by simp) ?_
                  refine AllReadyIn.cons rfl (fun K hK => ?_) AllReadyIn.nil
                  · go_simp
                    refine hK _ _ ?_
                    clear hK K
                    refine wpAnyIn_take (i := 6) (v := ?_) rfl rfl (by kernel_rfl) (by kernel_rfl) (by kernel_rfl) (fun _ _ _ h => h) ⟨Or.inl ⟨by kernel_rfl, ?_⟩, fun _ => by kernel_rfl⟩ ?_
                    rotate_left
                    · intro w; first | (go_simp; done) | (go_simp; with_reducible rfl)
                    try simp only [Act.put]
                    refine wpAnyIn_ready (rs := [7]) (by kernel_rfl) (by simp) ?_
                    refine AllReadyIn.cons rfl (fun K hK => ?_) AllReadyIn.nil
                    · go_simp
                      refine hK _ _ ?_
                      clear hK K
                      exact key
                · go_simp
                  refine hK _ _ ?_
                  clear hK K
                  refine wpAnyIn_take (i := 6) (v := ?_) rfl rfl (by kernel_rfl) (by kernel_rfl) (by kernel_rfl) (fun _ _ _ h => h) ⟨Or.inl ⟨by kernel_rfl, ?_⟩, fun _ => by kernel_rfl⟩ ?_
                  rotate_left
                  · intro w; first | (go_simp; done) | (go_simp; with_reducible rfl)
                  try simp only [Act.put]
                  refine wpAnyIn_ready (rs := [3, 7]) (by kernel_rfl) (by simp) ?_
                  refine AllReadyIn.cons rfl (fun K hK => ?_) (AllReadyIn.cons rfl (fun K hK => ?_) AllReadyIn.nil)
                  · go_simp
                    refine hK _ _ ?_
                    clear hK K
                    refine wpAnyIn_ready (rs := [7]) (by kernel_rfl) (by simp) ?_
                    refine AllReadyIn.cons rfl (fun K hK => ?_) AllReadyIn.nil
                    · go_simp
                      refine hK _ _ ?_
                      clear hK K
                      exact key
                  · go_simp
                    refine hK _ _ ?_
                    clear hK K
                    refine wpAnyIn_ready (rs := [3]) (by kernel_rfl) (by simp) ?_
                    refine AllReadyIn.cons rfl (fun K hK => ?_) AllReadyIn.nil
                    · go_simp
                      refine hK _ _ ?_
                      clear hK K
                      exact key
              · go_simp
                refine hK _ _ ?_
                clear hK K
                refine wpAnyIn_take (i := 6) (v := ?_) rfl rfl (by kernel_rfl) (by kernel_rfl) (by kernel_rfl) (fun _ _ _ h => h) ⟨Or.inl ⟨by kernel_rfl, ?_⟩, fun _ => by kernel_rfl⟩ ?_
                rotate_left
                · intro w; first | (go_simp; done) | (go_simp; with_reducible rfl)
                try simp only [Act.put]
                refine wpAnyIn_ready (rs := [0, 7]) (by kernel_rfl) (by simp) ?_
                refine AllReadyIn.cons rfl (fun K hK => ?_) (AllReadyIn.cons rfl (fun K hK => ?_) AllReadyIn.nil)
                · go_simp
                  refine hK _ _ ?_
                  clear hK K
                  refine wpAnyIn_take (i := 2) (v := ?_) rfl rfl (by kernel_rfl) (by kernel_rfl) (by kernel_rfl) (fun _ _ _ h => h) ⟨Or.inl ⟨by kernel_rfl, ?_⟩, fun _ => by kernel_rfl⟩ ?_
                  rotate_left
                  · intro w; first | (go_simp; done) | (go_simp; with_reducible rfl)
                  try simp only [Act.put]
                  refine wpAnyIn_ready (rs := [3, 7]) (by kernel_rfl) (by simp) ?_
                  refine AllReadyIn.cons rfl (fun K hK => ?_) (AllReadyIn.cons rfl (fun K hK => ?_) AllReadyIn.nil)
                  · go_simp
                    refine hK _ _ ?_
                    clear hK K
                    refine wpAnyIn_ready (rs := [7]) (by kernel_rfl) (by simp) ?_
                    refine AllReadyIn.cons rfl (fun K hK => ?_) AllReadyIn.nil
                    · go_simp
                      refine hK _ _ ?_
                      clear hK K
                      exact key
                  · go_simp
                    refine hK _ _ ?_
                    clear hK K
                    refine wpAnyIn_ready (rs := [3]) (by kernel_rfl) (by simp) ?_
                    refine AllReadyIn.cons rfl (fun K hK => ?_) AllReadyIn.nil
                    · go_simp
                      refine hK _ _ ?_
                      clear hK K
                      exact key
                · go_simp
                  refine hK _ _ ?_
                  clear hK K
                  refine wpAnyIn_ready (rs := [0]) (by kernel_rfl) (by simp) ?_
                  refine AllReadyIn.cons rfl (fun K hK => ?_) AllReadyIn.nil
                  · go_simp
                    refine hK _ _ ?_
                    clear hK K
                    refine wpAnyIn_take (i := 2) (v := ?_) rfl rfl (by kernel_rfl) (by kernel_rfl) (by kernel_rfl) (fun _ _ _ h => h) ⟨Or.inl ⟨by kernel_rfl, ?_⟩, fun _ => by kernel_rfl⟩ ?_
                    rotate_left
                    · intro w; first | (go_simp; done) | (go_simp; with_reducible rfl)
                    try simp only [Act.put]
                    refine wpAnyIn_ready (rs := [3]) (by kernel_rfl) (by simp) ?_
                    refine AllReadyIn.cons rfl (fun K hK => ?_) AllReadyIn.nil
                    · go_simp
                      refine hK _ _ ?_
                      clear hK K
                      exact key
            refine wpAnyIn_take (i := 8) (v := ?_) rfl rfl (by kernel_rfl) (by kernel_rfl) (by kernel_rfl) (fun _ _ _ h => h) ⟨Or.inl ⟨by kernel_rfl, ?_⟩, fun _ => by kernel_rfl⟩ ?_
            rotate_left
            · intro w; first | (go_simp; done) | (go_simp; with_reducible rfl)
            try simp only [Act.put]
            refine wpAnyIn_take (i := 10) (v := ?_) rfl rfl (by kernel_rfl) (by kernel_rfl) (by kernel_rfl) (fun _ _ _ h => h) ⟨Or.inl ⟨by kernel_rfl, ?_⟩, fun _ => by kernel_rfl⟩ ?_
            rotate_left
            · intro w; first | (go_simp; done) | (go_simp; with_reducible rfl)
            try simp only [Act.put]
            refine wpAnyIn_take (i := 11) (v := ?_) rfl rfl (by kernel_rfl) (by kernel_rfl) (by kernel_rfl) (fun _ _ _ h => h) ⟨Or.inl ⟨by kernel_rfl, ?_⟩, fun _ => by kernel_rfl⟩ ?_
            rotate_left
            · intro w; first | (go_simp; done) | (go_simp; with_reducible rfl)
            try simp only [Act.put]
            refine wpAnyIn_take (i := 12) (v := ?_) rfl rfl (by kernel_rfl) (by kernel_rfl) (by kernel_rfl) (fun _ _ _ h => h) ⟨Or.inl ⟨by kernel_rfl, ?_⟩, fun _ => by kernel_rfl⟩ ?_
            rotate_left
            · intro w; first | (go_simp; done) | (go_simp; with_reducible rfl)
            try simp only [Act.put]
            refine wpAnyIn_take (i := 13) (v := ?_) rfl rfl (by kernel_rfl) (by kernel_rfl) (by kernel_rfl) (fun _ _ _ h => h) ⟨Or.inl ⟨by kernel_rfl, ?_⟩, fun _ => by kernel_rfl⟩ ?_
            rotate_left
            · intro w; first | (go_simp; done) | (go_simp; with_reducible rfl)
            try simp only [Act.put]
            refine wpAnyIn_take (i := 14) (v := ?_) rfl rfl (by kernel_rfl) (by kernel_rfl) (by kernel_rfl) (fun _ _ _ h => h) ⟨Or.inl ⟨by kernel_rfl, ?_⟩, fun _ => by kernel_rfl⟩ ?_
            rotate_left
            · intro w; first | (go_simp; done) | (go_simp; with_reducible rfl)
            try simp only [Act.put]
            refine wpAnyIn_take (i := 15) (v := ?_) rfl rfl (by kernel_rfl) (by kernel_rfl) (by kernel_rfl) (fun _ _ _ h => h) ⟨Or.inl ⟨by kernel_rfl, ?_⟩, fun _ => by kernel_rfl⟩ ?_
            rotate_left
            · intro w; first | (go_simp; done) | (go_simp; with_reducible rfl)
            try simp only [Act.put]
            refine wpAnyIn_take (i := 16) (v := ?_) rfl rfl (by kernel_rfl) (by kernel_rfl) (by kernel_rfl) (fun _ _ _ h => h) ⟨Or.inl ⟨by kernel_rfl, ?_⟩, fun _ => by kernel_rfl⟩ ?_
            rotate_left
            · intro w; first | (go_simp; done) | (go_simp; with_reducible rfl)
            try simp only [Act.put]
            refine wpAnyIn_take (i := 17) (v := ?_) rfl rfl (by kernel_rfl) (by kernel_rfl) (by kernel_rfl) (fun _ _ _ h => h) ⟨Or.inl ⟨by kernel_rfl, ?_⟩, fun _ => by kernel_rfl⟩ ?_
            rotate_left
            · intro w; first | (go_simp; done) | (go_simp; with_reducible rfl)
            try simp only [Act.put]
            refine wpAnyIn_take (i := 18) (v := ?_) rfl rfl (by kernel_rfl) (by kernel_rfl) (by kernel_rfl) (fun _ _ _ h => h) ⟨Or.inl ⟨by kernel_rfl, ?_⟩, fun _ => by kernel_rfl⟩ ?_
            rotate_left
            · intro w; first | (go_simp; done) | (go_simp; with_reducible rfl)
            try simp only [Act.put]
            refine wpAnyIn_ready (rs := [19]) (by kernel_rfl) (by simp) ?_
            refine AllReadyIn.cons rfl (fun K hK => ?_) AllReadyIn.nil
            go_simp
            gi_wp2_with fail
            refine hR.mono ?_
            rintro e W3 he
            obtain ⟨bb, rfl, hbb⟩ := yield_both he
            clear he hR
            gi_wp2_with fail
            refine wpAnyIn_take (i := 20) (v := ?_) rfl rfl (by kernel_rfl) (by kernel_rfl) (by kernel_rfl) (fun _ _ _ h => h) ⟨Or.inl ⟨by kernel_rfl, ?_⟩, fun _ => by kernel_rfl⟩ ?_
            rotate_left
            · intro w; first | (go_simp; done) | (go_simp; with_reducible rfl)
            try simp only [Act.put]
            refine wpAnyIn_take (i := 21) (v := ?_) rfl rfl (by kernel_rfl) (by kernel_rfl) (by kernel_rfl) (fun _ _ _ h => h) ⟨Or.inl ⟨by kernel_rfl, ?_⟩, fun _ => by kernel_rfl⟩ ?_
            rotate_left
            · intro w; first | (go_simp; done) | (go_simp; with_reducible rfl)
            try simp only [Act.put]
            refine wpAnyIn_done (by kernel_rfl) ?_ _
            simp only [List.getElem_toArray, List.getElem_cons_succ, List.getElem_cons_zero, List.setIfInBounds_toArray, List.set_cons_zero, List.set_cons_succ]
            rcases hbb.out with ⟨rfl, hJ3, hK3⟩ | ⟨rfl, hJx3⟩
            · have hle : wr.heap.size ≤ W3.heap.size := hK3.2.2.size
              gi_wp2_with fail
              go_roundw
              case rel => exact ⟨t + 1, by omega, by go_num, by rw [show 8 * k + (t + 1) = 8 * k + t + 1 by omega, HE.out]; exact hJ3, hBr.drew.trans hK3.2.2, hK3.1.trans hr1, hK3.2.1.trans hr2, fun s W W' row hs hg hr => hAb s W W' row hs hg (fun r e => ⟨Nat.le_trans hle (hr r e).1, (hr r e).2⟩)⟩
              case measure => simp [intOf]; omega
            · gi_wp2
              refine bodyPost_ret (results_none rfl _ _ _) rfl ?_
              exact ⟨⟨_, rfl⟩, .inr ⟨_, by rw [← HE.out]; exact diffTo_pre _ _ _ _ (by omega), hJx3⟩⟩
          · have hg := hgd.trans (Bool.eq_false_iff.mpr hbit)
            have HE := Lib.hid (HDS.out.trans (if_neg hbit))
            clear hgd hbit HDS HDB
            refine wpIn_region_any (by kernel_rfl) ?_
            change wpAnyIn _ _ _ _ _ _ _ _ _ (World.drew _)
            refine wpAnyIn_take (i := 1) (v := ?_) rfl rfl (by kernel_rfl) (by kernel_rfl) (by kernel_rfl) (fun _ _ _ h => h) ⟨Or.inl ⟨by kernel_rfl, ?_⟩, fun _ => by kernel_rfl⟩ ?_
            rotate_left
            · intro w; first | (go_simp; done) | (go_simp; with_reducible rfl)
            try simp only [Act.put]
            refine wpAnyIn_take (i := 5) (v := ?_) rfl rfl (by kernel_rfl) (by kernel_rfl) (by kernel_rfl) (fun _ _ _ h => h) ⟨Or.inl ⟨by kernel_rfl, ?_⟩, fun _ => by kernel_rfl⟩ ?_
            rotate_left
            · intro w; first | (go_simp; done) | (go_simp; with_reducible rfl)
            try simp only [Act.put]
            refine wpAnyIn_take (i := 9) (v := ?_) rfl rfl (by kernel_rfl) (by kernel_rfl) (by kernel_rfl) (fun _ _ _ h => h) ⟨Or.inl ⟨by kernel_rfl, ?_⟩, fun _ => by kernel_rfl⟩ ?_
            rotate_left
            · intro w; first | (go_simp; done) | (go_simp; with_reducible rfl)
            try simp only [Act.put]
            apply cutG
            rotate_left
            · intro key
              refine wpAnyIn_ready (rs := [0, 4]) (by kernel_rfl) (by simp) ?_
              refine AllReadyIn.cons rfl (fun K hK => ?_) (AllReadyIn.cons rfl (fun K hK => ?_) AllReadyIn.nil)
              · go_simp
                refine hK _ _ ?_
                clear hK K
                refine wpAnyIn_take (i := 2) (v := ?_) rfl rfl (by kernel_rfl) (by kernel_rfl) (by kernel_rfl) (fun _ _ _ h => h) ⟨Or.inl ⟨by kernel_rfl, ?_⟩, fun _ => by kernel_rfl⟩ ?_
                rotate_left
                · intro w; first | (go_simp; done) | (go_simp; with_reducible rfl)
                try simp only [Act.put]
                refine wpAnyIn_ready (rs := [3, 4]) (by kernel_rfl) (by simp) ?_
                refine AllReadyIn.cons rfl (fun K hK => ?_) (AllReadyIn.cons rfl (fun K hK => ?_) AllReadyIn.nil)
                · go_simp
                  refine hK _ _ ?_
                  clear hK K
                  refine wpAnyIn_ready (rs := [4]) (by kernel_rfl) (by simp) ?_
                  refine AllReadyIn.cons rfl (fun K hK => ?_) AllReadyIn.nil
                  · go_simp
                    refine hK _ _ ?_
                    clear hK K
                    refine wpAnyIn_take (i := 6) (v := ?_) rfl rfl (by kernel_rfl) (by kernel_rfl) (by kernel_rfl) (fun _ _ _ h => h) ⟨Or.inl ⟨by kernel_rfl, ?_⟩, fun _ => by kernel_rfl⟩ ?_
                    rotate_left
                    · intro w; first | (go_simp; done) | (go_simp; with_reducible rfl)
                    try simp only [Act.put]
                    refine wpAnyIn_ready (rs := [7]) (by kernel_rfl) (by simp) ?_
                    refine AllReadyIn.cons rfl (fun K hK => ?_) AllReadyIn.nil
                    · go_simp
                      refine hK _ _ ?_
                      clear hK K
                      exact key
                · go_simp
                  refine hK _ _ ?_
                  clear hK K
                  refine wpAnyIn_take (i := 6) (v := ?_) rfl rfl (by kernel_rfl) (by kernel_rfl) (by kernel_rfl) (fun _ _ _ h => h) ⟨Or.inl ⟨by kernel_rfl, ?_⟩, fun _ => by kernel_rfl⟩ ?_
                  rotate_left
                  · intro w; first | (go_simp; done) | (go_simp; with_reducible rfl)
                  try simp only [Act.put]
                  refine wpAnyIn_ready (rs := [3, 7]) (by kernel_rfl) (by simp) ?_
                  refine AllReadyIn.cons rfl (fun K hK => ?_) (AllReadyIn.cons rfl (fun K hK => ?_) AllReadyIn.nil)
                  · go_simp
                    refine hK _ _ ?_
                    clear hK K
                    refine wpAnyIn_ready (rs := [7]) (by kernel_rfl) (by simp) ?_
                    refine AllReadyIn.cons rfl (fun K hK => ?_) AllReadyIn.nil
                    · go_simp
                      refine hK _ _ ?_
                      clear hK K
                      exact key
                  · go_simp
                    refine hK _ _ ?_
                    clear hK K
                    refine wpAnyIn_ready (rs := [3]) (by kernel_rfl) (by simp) ?_
                    refine AllReadyIn.cons rfl (fun K hK => ?_) AllReadyIn.nil
                    · go_simp
                      refine hK _ _ ?_
                      clear hK K
                      exact key
              · go_simp
                refine hK _ _ ?_
                clear hK K
                refine wpAnyIn_take (i := 6) (v := ?_) rfl rfl (by kernel_rfl) (by kernel_rfl) (by kernel_rfl) (fun _ _ _ h => h) ⟨Or.inl ⟨by kernel_rfl, ?_⟩, fun _ => by kernel_rfl⟩ ?_
                rotate_left
                · intro w; first | (go_simp; done) | (go_simp; with_reducible rfl)
                try simp only [Act.put]
                refine wpAnyIn_ready (rs := [0, 7]) (by kernel_rfl) (by simp) ?_
                refine AllReadyIn.cons rfl (fun K hK => ?_) (AllReadyIn.cons rfl (fun K hK => ?_) AllReadyIn.nil)
                · go_simp
                  refine hK _ _ ?_
                  clear hK K
                  refine wpAnyIn_take (i := 2) (v := ?_) rfl rfl (by kernel_rfl) (by kernel_rfl) (by kernel_rfl) (fun _ _ _ h => h) ⟨Or.inl ⟨by kernel_rfl, ?_⟩, fun _ => by kernel_rfl⟩ ?_
                  rotate_left
                  · intro w; first | (go_simp; done) | (go_simp; with_reducible rfl)
                  try simp only [Act.put]
                  refine wpAnyIn_ready (rs := [3, 7]) (by kernel_rfl) (by simp) ?_
                  refine AllReadyIn.cons rfl (fun K hK => ?_) (AllReadyIn.cons rfl (fun K hK => ?_) AllReadyIn.nil)
                  · go_simp
                    refine hK _ _ ?_
                    clear hK K
                    refine wpAnyIn_ready (rs := [7]) (by kernel_rfl) (by simp) ?_
                    refine AllReadyIn.cons rfl (fun K hK => ?_) AllReadyIn.nil
                    · go_simp
                      refine hK _ _ ?_
                      clear hK K
                      exact key
                  · go_simp
                    refine hK _ _ ?_
                    clear hK K
                    refine wpAnyIn_ready (rs := [3]) (by kernel_rfl) (by simp) ?_
                    refine AllReadyIn.cons rfl (fun K hK => ?_) AllReadyIn.nil
                    · go_simp
                      refine hK _ _ ?_
                      clear hK K
                      exact key
                · go_simp
                  refine hK _ _ ?_
                  clear hK K
                  refine wpAnyIn_ready (rs := [0]) (by kernel_rfl) (by simp) ?_
                  refine AllReadyIn.cons rfl (fun K hK => ?_) AllReadyIn.nil
                  · go_simp
                    refine hK _ _ ?_
                    clear hK K
                    refine wpAnyIn_take (i := 2) (v := ?_) rfl rfl (by kernel_rfl) (by kernel_rfl) (by kernel_rfl) (fun _ _ _ h => h) ⟨Or.inl ⟨by kernel_rfl, ?_⟩, fun _ => by kernel_rfl⟩ ?_
                    rotate_left
                    · intro w; first | (go_simp; done) | (go_simp; with_reducible rfl)
                    try simp only [Act.put]
                    refine wpAnyIn_ready (rs := [3]) (by kernel_rfl) (by simp) ?_
                    refine AllReadyIn.cons rfl (fun K hK => ?_) AllReadyIn.nil
                    · go_simp
                      refine hK _ _ ?_
                      clear hK K
                      exact key
            refine wpAnyIn_take (i := 8) (v := ?_) rfl rfl (by kernel_rfl) (by kernel_rfl) (by kernel_rfl) (fun _ _ _ h => h) ⟨Or.inl ⟨by kernel_rfl, ?_⟩, fun _ => by kernel_rfl⟩ ?_
            rotate_left
            · intro w; first | (go_simp; done) | (go_simp; with_reducible rfl)
            try simp only [Act.put]
            refine wpAnyIn_take (i := 10) (v := ?_) rfl rfl (by kernel_rfl) (by kernel_rfl) (by kernel_rfl) (fun _ _ _ h => h) ⟨Or.inl ⟨by kernel_rfl, ?_⟩, fun _ => by kernel_rfl⟩ ?_
            rotate_left
            · intro w; first | (go_simp; done) | (go_simp; with_reducible rfl)
            try simp only [Act.put]
            refine wpAnyIn_take (i := 11) (v := ?_) rfl rfl (by kernel_rfl) (by kernel_rfl) (by kernel_rfl) (fun _ _ _ h => h) ⟨Or.inl ⟨by kernel_rfl, ?_⟩, fun _ => by kernel_rfl⟩ ?_
            rotate_left
            · intro w; first | (go_simp; done) | (go_simp; with_reducible rfl)
            try simp only [Act.put]
            refine wpAnyIn_take (i := 12) (v := ?_) rfl rfl (by kernel_rfl) (by kernel_rfl) (by kernel_rfl) (fun _ _ _ h => h) ⟨Or.inl ⟨by kernel_rfl, ?_⟩, fun _ => by kernel_rfl⟩ ?_
            rotate_left
            · intro w; first | (go_simp; done) | (go_simp; with_reducible rfl)
            try simp only [Act.put]
            refine wpAnyIn_take (i := 13) (v := ?_) rfl rfl (by kernel_rfl) (by kernel_rfl) (by kernel_rfl) (fun _ _ _ h => h) ⟨Or.inl ⟨by kernel_rfl, ?_⟩, fun _ => by kernel_rfl⟩ ?_
            rotate_left
            · intro w; first | (go_simp; done) | (go_simp; with_reducible rfl)
            try simp only [Act.put]
            refine wpAnyIn_take (i := 14) (v := undef) rfl rfl (by kernel_rfl) (by kernel_rfl) (by kernel_rfl) (fun _ _ _ h => h) ⟨Or.inr ⟨by kernel_rfl, rfl⟩, fun _ => by kernel_rfl⟩ ?_
            try simp only [Act.put]
            refine wpAnyIn_take (i := 15) (v := undef) rfl rfl (by kernel_rfl) (by kernel_rfl) (by kernel_rfl) (fun _ _ _ h => h) ⟨Or.inr ⟨by kernel_rfl, rfl⟩, fun _ => by kernel_rfl⟩ ?_
            try simp only [Act.put]
            refine wpAnyIn_take (i := 16) (v := undef) rfl rfl (by kernel_rfl) (by kernel_rfl) (by kernel_rfl) (fun _ _ _ h => h) ⟨Or.inr ⟨by kernel_rfl, rfl⟩, fun _ => by kernel_rfl⟩ ?_
            try simp only [Act.put]
            refine wpAnyIn_take (i := 17) (v := undef) rfl rfl (by kernel_rfl) (by kernel_rfl) (by kernel_rfl) (fun _ _ _ h => h) ⟨Or.inr ⟨by kernel_rfl, rfl⟩, fun _ => by kernel_rfl⟩ ?_
            try simp only [Act.put]
            refine wpAnyIn_take (i := 18) (v := undef) rfl rfl (by kernel_rfl) (by kernel_rfl) (by kernel_rfl) (fun _ _ _ h => h) ⟨Or.inr ⟨by kernel_rfl, rfl⟩, fun _ => by kernel_rfl⟩ ?_
            try simp only [Act.put]
            refine wpAnyIn_take (i := 19) (v := undef) rfl rfl (by kernel_rfl) (by kernel_rfl) (by kernel_rfl) (fun _ _ _ h => h) ⟨Or.inr ⟨by kernel_rfl, rfl⟩, fun _ => by kernel_rfl⟩ ?_
            try simp only [Act.put]
            refine wpAnyIn_take (i := 20) (v := undef) rfl rfl (by kernel_rfl) (by kernel_rfl) (by kernel_rfl) (fun _ _ _ h => h) ⟨Or.inr ⟨by kernel_rfl, rfl⟩, fun _ => by kernel_rfl⟩ ?_
            try simp only [Act.put]
            refine wpAnyIn_take (i := 21) (v := ?_) rfl rfl (by kernel_rfl) (by kernel_rfl) (by kernel_rfl) (fun _ _ _ h => h) ⟨Or.inl ⟨by kernel_rfl, ?_⟩, fun _ => by kernel_rfl⟩ ?_
            rotate_left
            · intro w; first | (go_simp; done) | (go_simp; with_reducible rfl)
            try simp only [Act.put]
            refine wpAnyIn_done (by kernel_rfl) ?_ _
            simp only [List.getElem_toArray, List.getElem_cons_succ, List.getElem_cons_zero, List.setIfInBounds_toArray, List.set_cons_zero, List.set_cons_succ]
            gi_wp2_with fail
            go_roundw
            case rel => exact ⟨t + 1, by omega, by go_num, by rw [show 8 * k + (t + 1) = 8 * k + t + 1 by omega, HE.out]; exact hAb _ _ _ none hJr (drew_gb _ (World.grownBy.refl _ _)) (fun r e => by cases e), hBr.drew, hr1, hr2, hAb⟩
            case measure => simp [intOf]; omega
        · obtain rfl : t = 8 := by omega
          gi_wp2_with fail
          go_roundw
          case rel => exact ⟨k + 1, by omega, by go_num, by rw [show 8 * (k + 1) = 8 * k + 8 by omega]; exact hJr, hBr, hr1, hr2, hAb⟩
          case measure => simp [intOf]; omega
    · obtain rfl : k = m := by omega
      gi_wp2_with fail
      go_end0
      exact ⟨⟨_, rfl⟩, .inl ⟨_, rfl, hJr⟩⟩
end Go.Proofs.YtmjigpnpcacefaaDoor
namespace Go.Proofs.YtmjigpnpcacefaaDoor
open Go Go.RowKit Go.Shelf
theorem differing_stops (n : Nat) (hn : 1 ≤ n) (B1 B2 : Nat) (xs ys : List Nat) (va vb : Value) (hxl : xs.length < 400000) (hxy : ys.length = xs.length) (hxs : ∀ i : Nat, xs[i]?.getD 0 < 256) (hys : ∀ i : Nat, ys[i]?.getD 0 < 256)
    (w0 w : World) (hB0 : Below w0.heap.size w0 w) (ha : Reads .u8 w0 va xs) (hb : Reads .u8 w0 vb ys) (hc1 : w.cell? ⟨B1, 0, none⟩ = some va) (hc2 : w.cell? ⟨B2, 0, none⟩ = some vb) :
    SeqStopsK Fence.wide n Tryd.prog 59 #[.pointer (some ⟨B1, 0, none⟩), .pointer (some ⟨B2, 0, none⟩)] (fun x : Nat => #[Value.int .i64 (x : Int)]) (boxK w0.heap.size B1 B2)
      (fun zs => zs = diffTo xs ys (8 * xs.length)) (fun pre => pre <+: diffTo xs ys (8 * xs.length)) (8 * xs.length) w := by
  intro l J Jx W hW hJ hJx hY h0
  exact differing_in n hn l B1 B2 w0.heap.size xs ys va vb hxl hxy hxs hys J Jx hY w0 W (Nat.le_refl _) (hB0.trans (hW.mono hB0.size)) ha hb
    ((hW.cell (p := ⟨B1, 0, none⟩) (by have := cell_lt hc1; exact this)).trans hc1) ((hW.cell (p := ⟨B2, 0, none⟩) (by have := cell_lt hc2; exact this)).trans hc2) hJ h0
theorem differing_any (aa ab : Option Addr) (na ca nb cb : Nat) (w : World) :
    Calls Tryd.prog 43 #[.slice aa na ca, .slice ab nb cb] w fun e w' => e = .returned (.func (.func 59) #[] #[.pointer (some ⟨w.heap.size, 0, none⟩), .pointer (some ⟨w.heap.size + 1, 0, none⟩)]) ∧ (w.alloc (.cells #[.slice aa na ca] 28)).alloc (.cells #[.slice ab nb cb] 28) = w' := by
  go_enter Tryd.func43, Tryd.ntmps43
  go_wp2
  go_ret
  exact ⟨by simp, rfl⟩
end Go.Proofs.YtmjigpnpcacefaaDoor
