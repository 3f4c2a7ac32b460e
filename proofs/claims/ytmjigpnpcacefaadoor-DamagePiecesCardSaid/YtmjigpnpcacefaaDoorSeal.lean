/- The walks of crc.Seal, Sealed, Open. -/
import Derived.Test.YtmjigpnpcacefaaDoorOwn
import Derived.Test.YtmjigpnpcacefaaDoorRefA
import Derived.Test.YtmjigpnpcacefaaDoorShift
import Derived.Deep.QuietTactic
import Derived.BigQuiet
import Derived.WalkSmall
import Derived.IntWalk
import Derived.Deep.Cut
namespace Go.Proofs.YtmjigpnpcacefaaDoor
open Go Go.RowKit Go.Shelf

theorem Bytes.append {a b : List Nat} (ha : Bytes a) (hb : Bytes b) : Bytes (a ++ b) := fun x hx => (List.mem_append.1 hx).elim (ha x) (hb x)
theorem Bytes.take {a : List Nat} (ha : Bytes a) (n : Nat) : Bytes (a.take n) := fun x hx => ha x (List.mem_of_mem_take hx)
theorem bytes_four (c : Nat) : Bytes (Gf.four c) := by
  intro x hx
  simp only [Gf.four, List.mem_cons, List.not_mem_nil, or_false] at hx
  omega
theorem reads_four (w : World) (c : Nat) (t : TypeId) (z0 z1 z2 z3 : Int) (h0 : z0 = ((c % 256 : Nat) : Int)) (h1 : z1 = ((c / 256 % 256 : Nat) : Int)) (h2 : z2 = ((c / 65536 % 256 : Nat) : Int)) (h3 : z3 = ((c / 16777216 % 256 : Nat) : Int)) :
    Reads .u8 (w.alloc (.cells #[.int .u8 z0, .int .u8 z1, .int .u8 z2, .int .u8 z3] t)) (.slice (some ⟨w.heap.size, 0, none⟩) 4 4) (Gf.four c) := by
  refine ⟨_, 4, rfl, by simp [Gf.four], by decide, .inr ⟨_, _, rfl, fun i hi => ?_⟩⟩
  subst h0 h1 h2 h3
  have hi4 : i < 4 := by simpa [Gf.four] using hi
  rw [Nat.zero_add, World.cell?_alloc_at _ _ _ _ rfl]
  match i, hi4 with
  | 0, _ => rfl
  | 1, _ => rfl
  | 2, _ => rfl
  | 3, _ => rfl

theorem seal_long (v : Value) (xs : List Nat) (w : World) (hv : Reads .u8 w v xs) (hl : 16777216 < xs.length) :
    Calls Tryd.prog 51 #[v] w fun e w' => e = .returned (.tuple #[.slice none 0 0, .int .i64 3]) ∧ w = w' := by
  obtain ⟨a, cap, rfl, hlc, hcm, hcs⟩ := hv
  clear hcs
  go_enter Tryd.func51, Tryd.ntmps51
  go_wp2_with fail
  go_ret2
  exact ⟨rfl, rfl⟩

set_option maxRecDepth 100000 in
set_option maxHeartbeats 1000000 in
theorem seal_any (v : Value) (xs : List Nat) (w : World) (hv : Reads .u8 w v xs) (hx : Bytes xs) (hT : Tab w) (hl : xs.length ≤ 16777216) :
    Calls Tryd.prog 51 #[v] w fun e w' => ∃ v', e = .returned (.tuple #[v', .int .i64 0]) ∧ Owns .u8 5 w' w.heap.size v' (Gf.sealB xs) ∧ Below w.heap.size w w' := by
  have hv0 := hv
  have hs := sum_any v xs hx w hT hv
  have hul := Gf.update_lt 0 xs
  have hd : decide (16777216 < (xs.length : Int)) = false := decide_eq_false (by omega)
  obtain ⟨a, cap, rfl, hlc, hcm, hcs⟩ := hv
  clear hcs
  have HS := Lib.hid hs
  clear hs
  go_enter Tryd.func51, Tryd.ntmps51
  go_wp2_with fail
  refine HS.out.mono ?_
  rintro e w1 ⟨rfl, rfl⟩
  obtain ⟨c, HC⟩ := nm (Gf.sum xs)
  have hc : c < 4294967296 := by rw [← HC.out]; exact hul
  rw [HC.out]
  clear hul
  have HR := Lib.hid hv0
  clear hv0
  go_upto_region 5 with first | (refine wpl_make0 rfl (.const (.int .i64 0)) (.tmp 13) 28 rfl .u8 5 1 Tryd.underlying28 info_u8 (by decide) w.heap.size w (xs.length + 4) _ rfl rfl ?_ ?_ (Nat.le_refl _) ?_; (omega); (omega); intro v1 w1 hown hB1) | (at_builtin; refine wpl_app rfl (.tmp 14) (.tmp 15) 28 rfl .u8 5 1 Tryd.underlying28 info_u8 (by decide) w.heap.size _ [] w1 hown rfl _ xs rfl ?_ ?_ hB1.size ?_; (exact HR.out.keep hB1 (Nat.le_refl _)); (simp; omega); intro v2 w2 hown2 hB2)
  have hR4 := reads_four w2 c 5 ((c : Int) % 256) ((c : Int) / 256 % 256) ((c : Int) / 65536 % 256) ((c : Int) / 16777216) (by simp) (by simp) (by simp) (by omega)
  have hB3 : Below w.heap.size w w2 := hB1.trans hB2
  have hA4 : Below w2.heap.size w2 (w2.alloc (.cells #[.int .u8 ((c : Int) % 256), .int .u8 ((c : Int) / 256 % 256), .int .u8 ((c : Int) / 65536 % 256), .int .u8 ((c : Int) / 16777216)] 5)) := (bel_refl _).alloc (Nat.le_refl _) _
  have hO3 := hown2.keep hA4 (Nat.le_refl _)
  have hsz3 := hB3.size
  go_wp2_with (at_builtin; refine wpl_app rfl (.tmp 17) (.tmp 29) 28 rfl .u8 5 1 Tryd.underlying28 info_u8 (by decide) w.heap.size _ ([] ++ xs) _ hO3 rfl _ (Gf.four c) rfl hR4 ?_ ?_ ?_; (simp [Gf.four]; omega); (simp; omega); intro v3 w3 hown3 hB4)
  go_ret2
  refine ⟨v3, rfl, ?_, hB3.trans ((hA4.mono hB3.size).trans hB4)⟩
  unfold Gf.sealB
  rw [HC.out]
  exact hown3

/-- The bytes end with the checksum of those before them. -/
def le4 (xs : List Nat) (n : Nat) : Nat := xs[n]?.getD 0 + 256 * xs[n + 1]?.getD 0 + 65536 * xs[n + 2]?.getD 0 + 16777216 * xs[n + 3]?.getD 0
def sealedB (xs : List Nat) : Bool := decide (4 ≤ xs.length) && decide (Gf.sum (xs.take (xs.length - 4)) = le4 xs (xs.length - 4))

theorem sealed_short (v : Value) (xs : List Nat) (w : World) (hv : Reads .u8 w v xs) (hl : xs.length < 4) :
    Calls Tryd.prog 29 #[v] w fun e w' => e = .returned (.bool (sealedB xs)) ∧ Below w.heap.size w w' := by
  have hr : sealedB xs = false := by unfold sealedB; simp; omega
  rw [hr]
  clear hr
  obtain ⟨a, cap, rfl, hlc, hcm, hcs⟩ := hv
  clear hcs
  go_enter Tryd.func29, Tryd.ntmps29
  go_wp2_with fail
  go_ret
  exact ⟨rfl, Below.refl _ _⟩

theorem reads_take {k : IntKind} {w : World} {b off cap : Nat} {xs : List Nat} {n : Nat} (hn : n ≤ xs.length) (hlc : xs.length ≤ cap) (hcm : cap ≤ 9223372036854775807)
    (hc : ∀ i, i < xs.length → w.cell? ⟨b, off + i, none⟩ = some (.int k ((xs[i]?.getD 0 : Nat) : Int))) : Reads k w (.slice (some ⟨b, off, none⟩) n cap) (xs.take n) := by
  refine ⟨_, cap, by simp [Nat.min_eq_left hn], by simp; omega, hcm, .inr ⟨b, off, rfl, fun i hi => ?_⟩⟩
  have hi2 : i < n := by simp at hi; omega
  rw [hc i (by omega), List.getElem?_take, if_pos hi2]

theorem or_bytes (x0 x1 x2 x3 : Nat) (h0 : x0 < 256) (h1 : x1 < 256) (h2 : x2 < 256) (h3 : x3 < 256) :
    bits BinOp.or IntKind.u32 (x0 : Int) ((x1 : Int) * 256) = ((x0 + 256 * x1 : Nat) : Int) ∧
    bits BinOp.or IntKind.u32 ((x0 + 256 * x1 : Nat) : Int) ((x2 : Int) * 65536) = ((x0 + 256 * x1 + 65536 * x2 : Nat) : Int) ∧
    bits BinOp.or IntKind.u32 ((x0 + 256 * x1 + 65536 * x2 : Nat) : Int) ((x3 : Int) * 16777216) = ((x0 + 256 * x1 + 65536 * x2 + 16777216 * x3 : Nat) : Int) := by
  refine ⟨?_, ?_, ?_⟩
  · rw [show ((x1 : Int) * 256) = ((256 * x1 : Nat) : Int) by omega, u32_or_nat _ _ (by omega) (by omega), Nat.or_comm, nat_join 8 (256 * x1) x0 (by omega) (by omega)]; omega
  · rw [show ((x2 : Int) * 65536) = ((65536 * x2 : Nat) : Int) by omega, u32_or_nat _ _ (by omega) (by omega), Nat.or_comm, nat_join 16 (65536 * x2) _ (by omega) (by omega)]; omega
  · rw [show ((x3 : Int) * 16777216) = ((16777216 * x3 : Nat) : Int) by omega, u32_or_nat _ _ (by omega) (by omega), Nat.or_comm, nat_join 24 (16777216 * x3) _ (by omega) (by omega)]; omega

set_option maxRecDepth 100000 in
set_option maxHeartbeats 2000000 in
theorem sealed_long (v : Value) (xs : List Nat) (w : World) (hv : Reads .u8 w v xs) (hx : Bytes xs) (hT : Tab w) (hl : 4 ≤ xs.length) :
    Calls Tryd.prog 29 #[v] w fun e w' => e = .returned (.bool (sealedB xs)) ∧ Below w.heap.size w w' := by
  have hlen := hv.len
  obtain ⟨a, cap, rfl, hlc, hcm, hcs⟩ := hv
  obtain ⟨b, off, rfl, hcell⟩ := hcs.resolve_left (fun h => by omega)
  obtain ⟨n, hn⟩ : ∃ n, xs.length = n + 4 := ⟨xs.length - 4, by omega⟩
  have c0 := hcell n (by omega)
  have c1 := hcell (n + 1) (by omega)
  have c2 := hcell (n + 2) (by omega)
  have c3 := hcell (n + 3) (by omega)
  have b0 := hx.get n
  have b1 := hx.get (n + 1)
  have b2 := hx.get (n + 2)
  have b3 := hx.get (n + 3)
  have hs : ∀ m, Calls Tryd.prog 52 #[.slice (some ⟨b, off, none⟩) n cap] (w.drewN m) fun e w' => e = .returned (.int .u32 ((Gf.sum (xs.take n) : Nat) : Int)) ∧ w' = w.drewN m := by
    intro m
    have hB : Below w.heap.size w (w.drewN m) := below_drewN (Below.refl _ _) m
    refine (sum_any _ (xs.take n) (hx.take n) (w.drewN m) (hT.keep hB (Nat.le_refl _)) ((reads_take (by omega) hlc hcm hcell).keep hB (Nat.le_refl _))).mono ?_
    rintro e w' ⟨rfl, rfl⟩
    exact ⟨rfl, rfl⟩
  have hfin : sealedB xs = decide (Gf.sum (xs.take n) = le4 xs n) := by
    unfold sealedB
    rw [show xs.length - 4 = n by omega]
    simp [hl]
  rw [hfin]
  unfold le4
  generalize xs[n]?.getD 0 = x0 at *
  generalize xs[n + 1]?.getD 0 = x1 at *
  generalize xs[n + 2]?.getD 0 = x2 at *
  generalize xs[n + 3]?.getD 0 = x3 at *
  obtain ⟨o1, o2, o3⟩ := or_bytes x0 x1 x2 x3 b0 b1 b2 b3
  have l3 : x0 + 256 * x1 + 65536 * x2 + 16777216 * x3 < 4294967296 := by omega
  obtain ⟨y1, Y1⟩ := nm (x0 + 256 * x1)
  obtain ⟨y2, Y2⟩ := nm (x0 + 256 * x1 + 65536 * x2)
  obtain ⟨y3, Y3⟩ := nm (x0 + 256 * x1 + 65536 * x2 + 16777216 * x3)
  obtain ⟨s, S⟩ := nm (Gf.sum (xs.take n))
  rw [Y3.out, S.out]
  rw [Y3.out] at o3 l3
  rw [Y2.out] at o2 o3
  rw [Y1.out] at o1 o2
  rw [S.out] at hs
  have HS := Lib.hid hs
  have hni : (xs.length : Int) - 4 = (n : Int) := by omega
  obtain ⟨L, HL⟩ := nm xs.length
  rw [HL.out] at hn hni hlc hlen ⊢
  have HN := Lib.hid hn
  have HNI := Lib.hid hni
  clear hs hcs hcell hfin hn hni hl
  have hnL : n < L := by have := HN.out; omega
  have hn1 : n + 1 < L := by have := HN.out; omega
  have hn2 : n + 2 < L := by have := HN.out; omega
  have hn3 : n + 3 < L := by have := HN.out; omega
  go_enter Tryd.func29, Tryd.ntmps29
  go_wp2_with fail
  rw [HNI.out]
  have i0 : (n : Int) < (L : Int) := by omega
  have i1 : (n : Int) + 1 < (L : Int) := by omega
  have i2 : (n : Int) + 2 < (L : Int) := by omega
  have i3 : (n : Int) + 3 < (L : Int) := by omega
  have p1 : (0 : Int) ≤ (n : Int) + 1 := by omega
  have p2 : (0 : Int) ≤ (n : Int) + 2 := by omega
  have p3 : (0 : Int) ≤ (n : Int) + 3 := by omega
  have w1 : IntKind.i64.wrap ((n : Int) + 1) = (n : Int) + 1 := IntWalk.i64_in _ (by omega)
  have w2 : IntKind.i64.wrap ((n : Int) + 2) = (n : Int) + 2 := IntWalk.i64_in _ (by omega)
  have w3 : IntKind.i64.wrap ((n : Int) + 3) = (n : Int) + 3 := IntWalk.i64_in _ (by omega)
  have t1 : ((n : Int) + 1).toNat = n + 1 := by omega
  have t2 : ((n : Int) + 2).toNat = n + 2 := by omega
  have t3 : ((n : Int) + 3).toNat = n + 3 := by omega
  have hn0 : (n : Int) ≤ (cap : Int) := by omega
  go_quiet ((go_at_call 52; exact Calls.quiet_of_same (HS.out _)))
  clear w1 w2 w3 t1 t2 t3 o1 o2 o3
  go_wp2_with fail
  go_ret
  refine ⟨?_, below_drewN (Below.refl _ _) _⟩
  have hb : ((s : Int) == (y3 : Int)) = decide (s = y3) := by
    rw [Bool.eq_iff_iff]; simp; omega
  rw [← hb]; rfl
theorem sealed_any (v : Value) (xs : List Nat) (w : World) (hv : Reads .u8 w v xs) (hx : Bytes xs) (hT : Tab w) :
    Calls Tryd.prog 29 #[v] w fun e w' => e = .returned (.bool (sealedB xs)) ∧ Below w.heap.size w w' := by
  by_cases h : xs.length < 4
  · exact sealed_short v xs w hv h
  · exact sealed_long v xs w hv hx hT (by omega)
end Go.Proofs.YtmjigpnpcacefaaDoor
