/- The table of the checksum; the walks of crc.run, Update, Sum, Linear. -/
import Derived.Test.YtmjigpnpcacefaaDoorReads
namespace Go.Proofs.YtmjigpnpcacefaaDoor
open Go Go.RowKit Go.Shelf

/-- The table of crc. -/
def Tab (w : World) : Prop := ∀ i, i < 16 → w.cell? ⟨0, i, none⟩ = some (.int .u32 ((Gf.half i : Nat) : Int))
theorem Tab.keep {w w' : World} {n : Nat} (h : Tab w) (hB : Below n w w') (hn : w.heap.size ≤ n) : Tab w' := fun i hi => cell_keep hB (h i hi) (Nat.lt_of_lt_of_le (cell_lt (h i hi)) hn)

theorem half_lt {t : Nat} (h : t < 16) : Gf.half t < 4294967296 := Gf.stepN_lt 4 (by omega)
theorem and15 (c : Nat) (h : c < 4294967296) : bits BinOp.and IntKind.u32 (c : Int) 15 = ((c % 16 : Nat) : Int) := by
  rw [show (15 : Int) = ((15 : Nat) : Int) from rfl, u32_and_nat _ _ h (by decide), nat_mask4]

theorem x16 (c g : Nat) (h : c < 4294967296) (hg : g < 4294967296) : bits BinOp.xor IntKind.u32 ((c : Int) / 16) (g : Int) = ((c / 16 ^^^ g : Nat) : Int) := by
  rw [← u32_xor_nat (c / 16) g (by omega) hg]; simp

set_option maxHeartbeats 1000000 in
theorem run_any (c : Nat) (v : Value) (xs : List Nat) (hc : c < 4294967296) (hx : Bytes xs) (w : World) (hT : Tab w) (hv : Reads .u8 w v xs) :
    Calls Tryd.prog 77 #[.int .u32 c, v] w fun e w' => e = .returned (.int .u32 (Gf.run c xs)) ∧ w = w' := by
  have hl := hv.len
  obtain ⟨a, cap, rfl, hlc, hcm, hcs⟩ := hv
  go_enter Tryd.func77, Tryd.ntmps77
  go_wp2_with fail
  go_loop [0, 9] (fun vc vi => ∃ (k : Nat), k ≤ xs.length ∧ vi = .int .i64 (k : Int) ∧ vc = .int .u32 ((Gf.run c (xs.take k) : Nat) : Int))
    (fun _ vi => xs.length - (intOf vi).toNat)
  case atStart => exact ⟨0, by omega, rfl, rfl⟩
  case round =>
    obtain ⟨k, hk, rfl, rfl⟩ := hrel
    by_cases hlt : k < xs.length
    · obtain ⟨b, off, rfl, hcell⟩ := hcs.resolve_left (fun h => by omega)
      have hck := hcell k hlt
      clear hcell hcs
      have hxk := hx.get k
      have hsn : Gf.run c (xs.take (k + 1)) = Gf.byteR (Gf.run c (xs.take k)) (xs[k]?.getD 0) := by
        rw [List.take_succ_eq_append_getElem hlt, Gf.run_snoc]
        simp [hlt]
      have hr := Gf.run_lt (bs := xs.take k) hc (fun y hy => hx y (List.mem_of_mem_take hy))
      generalize Gf.run c (xs.take k) = c0 at *
      generalize xs[k]?.getD 0 = x at *
      have h1 := u32_xor_nat c0 x hr (by omega)
      have hc1 : c0 ^^^ x < 4294967296 := Nat.xor_lt_two_pow (n := 32) hr (by omega)
      rw [Gf.byteR_halves] at hsn
      generalize c0 ^^^ x = c1 at *
      have h2 := and15 c1 hc1
      have t1 := hT (c1 % 16) (by omega)
      have h3 := x16 c1 (Gf.half (c1 % 16)) hc1 (half_lt (by omega))
      rw [← Gf.half_step] at h3
      have hc2 := Gf.stepN_lt 4 hc1
      have hm1 : c1 % 16 < 16 := by omega
      generalize Gf.half (c1 % 16) = g1 at *
      generalize c1 % 16 = m1 at *
      generalize Gf.stepN 4 c1 = c2 at *
      have h4 := and15 c2 hc2
      have t2 := hT (c2 % 16) (by omega)
      have h5 := x16 c2 (Gf.half (c2 % 16)) hc2 (half_lt (by omega))
      rw [← Gf.half_step, ← hsn] at h5
      clear hsn
      obtain ⟨c3, h3e⟩ : ∃ c3, Gf.run c (xs.take (k + 1)) = c3 := ⟨_, rfl⟩
      rw [h3e] at h5
      have HS := Lib.hid h3e
      clear h3e
      have hm2 : c2 % 16 < 16 := by omega
      generalize Gf.half (c2 % 16) = g2 at *
      generalize c2 % 16 = m2 at *
      go_wp2_with fail
      go_round
      case rel => exact ⟨k + 1, by omega, by go_num, by rw [HS.out]⟩
      case measure => simp [intOf]; omega
    · go_wp2_with fail
      go_ret
      exact ⟨by rw [show k = xs.length by omega]; simp, rfl⟩

theorem inv_u32 (c : Nat) (h : c < 4294967296) : bits BinOp.xor IntKind.u32 IntKind.u32.max (c : Int) = ((Gf.inv c : Nat) : Int) := by
  rw [show IntKind.u32.max = ((4294967295 : Nat) : Int) from rfl, u32_xor_nat _ _ (by decide) h, Nat.xor_comm, Gf.inv_eq h]

theorem update_any (c : Nat) (v : Value) (xs : List Nat) (hc : c < 4294967296) (hx : Bytes xs) (w : World) (hT : Tab w) (hv : Reads .u8 w v xs) :
    Calls Tryd.prog 64 #[.int .u32 c, v] w fun e w' => e = .returned (.int .u32 (Gf.update c xs)) ∧ w = w' := by
  have hs : IntKind.u32.signed = false := rfl
  have h1 := inv_u32 c hc
  have h2 := inv_u32 (Gf.run (Gf.inv c) xs) (Gf.run_lt (Gf.inv_lt c) hx)
  have hl := Gf.inv_lt c
  have he : Gf.inv (Gf.run (Gf.inv c) xs) = Gf.update c xs := rfl
  rw [he] at h2
  clear he
  generalize Gf.inv c = c' at *
  generalize Gf.update c xs = u at *
  go_enter Tryd.func64, Tryd.ntmps64
  go_wp2_with fail
  refine (run_any c' v xs hl hx _ hT hv).mono ?_
  rintro e w1 ⟨rfl, rfl⟩
  generalize Gf.run c' xs = r at *
  go_wp2_with fail
  go_ret
  exact ⟨rfl, rfl⟩
theorem sum_any (v : Value) (xs : List Nat) (hx : Bytes xs) (w : World) (hT : Tab w) (hv : Reads .u8 w v xs) :
    Calls Tryd.prog 52 #[v] w fun e w' => e = .returned (.int .u32 (Gf.sum xs)) ∧ w = w' := by
  go_enter Tryd.func52, Tryd.ntmps52
  go_wp2_with fail
  refine (update_any 0 v xs (by decide) hx _ hT hv).mono ?_
  rintro e w1 ⟨rfl, rfl⟩
  go_wp2_with fail
  go_ret
  exact ⟨rfl, rfl⟩
end Go.Proofs.YtmjigpnpcacefaaDoor
