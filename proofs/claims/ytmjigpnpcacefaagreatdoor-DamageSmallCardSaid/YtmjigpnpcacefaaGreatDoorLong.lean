/- The walk of crc.Damages. The walk of crc.Open. The reference of checksums: the walks of Bit and Damages. Plain mathematics of bursts; the walk of the statements' long. -/
import Derived.Test.YtmjigpnpcacefaaGreatDoorFlip
import Derived.Test.YtmjigpnpcacefaaGreatDoorFrame
import Derived.Test.YtmjigpnpcacefaaGreatDoorOwnV
import Derived.Deep.RegionHeld3
import Derived.Deep.DeepCutAuto
import Derived.Deep.RegionLaw
import Derived.WalkLawsBesides
namespace Go.Proofs.YtmjigpnpcacefaaGreatDoor
open Go Go.RowKit Go.Shelf

/-- What Damages answers: found, and the error's number. -/
def damOk (n : Int) (l : List Int) : Prop := ∀ k ∈ l, 0 ≤ k ∧ k < 8 * n
instance (n : Int) (l : List Int) : Decidable (damOk n l) := inferInstanceAs (Decidable (∀ k ∈ l, 0 ≤ k ∧ k < 8 * n))
def damB (n : Int) (l : List Int) : Bool := if n < 4 ∨ 16777216 < n ∨ ¬ damOk n l ∨ 4096 < l.length then false else !decide (Gf.bitvs n.toNat (l.map Int.toNat) = 0)
def damE (n : Int) (l : List Int) : Int := if n < 4 ∨ 16777216 < n ∨ ¬ damOk n l then 2 else if 4096 < l.length then 5 else 0

theorem ReadsI.getMem {xs : List Int} {i : Nat} (h : i < xs.length) : xs[i]?.getD 0 ∈ xs := by
  rw [List.getElem?_eq_getElem h]; exact List.getElem_mem h


end Go.Proofs.YtmjigpnpcacefaaGreatDoor
namespace Go.Proofs.YtmjigpnpcacefaaGreatDoor
open Go Go.RowKit Go.Shelf

end Go.Proofs.YtmjigpnpcacefaaGreatDoor
namespace Go.Proofs.YtmjigpnpcacefaaGreatDoor
open Go Go.RowKit Go.Shelf


theorem bytes_zeros (n : Nat) : Bytes (List.replicate n 0) := fun x hx => by rw [(List.mem_replicate.1 hx).2]; decide
theorem lin_flip (n k : Nat) (h : k / 8 < n) : Gf.lin (Gf.flip (List.replicate n 0) k) = Gf.bitv n k := by
  have h2 := Gf.run_flip 0 (List.replicate n 0) k (by simpa using h)
  rw [Gf.lin_eq _ (Gf.bytes_flip (bytes_zeros n) k), h2, Gf.run_zeros, Gf.stepN_zero, Nat.zero_xor, List.length_replicate]



theorem sealedB_zeros (m : Nat) : sealedB (Gf.sealB (List.replicate m 0)) = true := by
  have hb : Bytes (Gf.sealB (List.replicate m 0)) := Bytes.append (bytes_zeros m) (bytes_four _)
  have hl : (Gf.sealB (List.replicate m 0)).length = m + 4 := by simp [Gf.sealB, Gf.four]
  rw [← sealedB_eq _ hb (by omega), hl, show m + 4 - 4 = m by omega]
  have : (Gf.sealB (List.replicate m 0)).take m = List.replicate m 0 := by
    unfold Gf.sealB
    rw [List.take_append_of_le_length (by simp), List.take_of_length_le (by simp)]
  rw [this]; simp

end Go.Proofs.YtmjigpnpcacefaaGreatDoor
namespace Gf
theorem stepN_top (j : Nat) (h : j ≤ 31) : stepN j 2147483648 = 2 ^ (31 - j) := by
  have : 2147483648 = 2 ^ j * 2 ^ (31 - j) := by rw [← Nat.pow_add, show j + (31 - j) = 31 by omega]
  rw [this, stepN_pow]
theorem R_top : R = stepN 32 2147483648 := by decide +kernel
/-- A bit within 32 in a row. -/
theorem bitv_burst (n b i : Nat) (hi : i ≤ 31) (hk : b + i < 8 * n) : bitv n (b + i) = stepN (8 * n - b) (2 ^ i) := by
  unfold bitv
  rw [R_top, ← stepN_add, show 32 + (8 * n - 1 - (b + i)) = (31 - i) + (8 * n - b) by omega, stepN_add, stepN_top _ (by omega), show 31 - (31 - i) = i by omega]
theorem bitvs_snoc (n : Nat) (ks : List Nat) (k : Nat) : bitvs n (ks ++ [k]) = bitvs n ks ^^^ bitv n k := by simp [bitvs]
theorem flips_snoc (xs ks : List Nat) (k : Nat) : flips xs (ks ++ [k]) = flip (flips xs ks) k := by simp [flips]
/-- What a burst's bits are together: nothing, only if there are none. -/
def Bur (n b i : Nat) (ks : List Nat) : Prop := ∃ X, X < 2 ^ i ∧ bitvs n ks = stepN (8 * n - b) X ∧ (X = 0 ↔ ks = []) ∧ (∀ k ∈ ks, k < 8 * n) ∧ ks.length ≤ i
theorem bur_zero (n b : Nat) : Bur n b 0 [] := ⟨0, by decide, by rw [stepN_zero]; rfl, by simp, by simp, by simp⟩
theorem Bur.skip {n b i : Nat} {ks : List Nat} (h : Bur n b i ks) : Bur n b (i + 1) ks := by
  obtain ⟨X, h1, h2, h3, h4, h5⟩ := h
  exact ⟨X, by rw [Nat.pow_succ]; omega, h2, h3, h4, by omega⟩
theorem Bur.take {n b i : Nat} {ks : List Nat} (h : Bur n b i ks) (hi : i ≤ 31) (hk : b + i < 8 * n) : Bur n b (i + 1) (ks ++ [b + i]) := by
  obtain ⟨X, h1, h2, h3, h4, h5⟩ := h
  refine ⟨X ^^^ 2 ^ i, Nat.xor_lt_two_pow (by rw [Nat.pow_succ]; omega) (Nat.pow_lt_pow_right (by decide) (by omega)), ?_, ?_, ?_, by simp; omega⟩
  · rw [bitvs_snoc, h2, bitv_burst n b i hi hk, stepN_xor]
  · constructor
    · intro h
      have : (X ^^^ 2 ^ i).testBit i = true := by
        rw [Nat.testBit_xor, Nat.testBit_two_pow_self, Nat.testBit_lt_two_pow h1]; rfl
      rw [h] at this; simp at this
    · intro h; simp at h
  · intro k hm
    rcases List.mem_append.1 hm with h | h
    · exact h4 k h
    · simp at h; omega
theorem Bur.fin {n b : Nat} {ks : List Nat} (h : Bur n b 32 ks) : bitvs n ks = 0 ↔ ks = [] := by
  obtain ⟨X, h1, h2, h3, _⟩ := h
  rw [h2, ← h3]
  constructor
  · exact stepN_inj0 _ h1
  · rintro rfl; exact stepN_zero _
end Gf
namespace Go.Proofs.YtmjigpnpcacefaaGreatDoor
open Go Go.RowKit Go.Shelf

/-- append(out, y) behind a draw. -/
theorem wpl_app1d {ops : Array Oper} {rest : List Oper} {o : Oper} {a : Act} {Q : Exit → Act → World → Prop} (hgd : o.guard = none) (s x : Operand) (t : TypeId)
    (ho : o.op = .call { callee := .builtin .append, args := #[s, x], argTypes := #[t, t] }) (k : IntKind) (e : TypeId) (bytes : Nat) (ht : Tryz.prog.underlying t = some (.slice e))
    (hi : (Tryz.prog.info? e).map (fun i => (i.zero, i.size, i.bytes)) = some (some (.int k 0), 1, bytes)) (hb8 : bytes ≤ 8)
    (base : Nat) (v : Value) (xs : List Nat) (wr : World) (hown : Owns k e wr base v xs) (hs : a.eval s = v) (c : Int) (y : Nat) (hx : a.eval x = .slice (some ⟨wr.heap.size, 0, none⟩) 1 1)
    (hc : c = (y : Int)) (hlen : xs.length < 17592186044415) (hbase : base ≤ wr.heap.size)
    (h : ∀ v' w', Owns k e w' base v' (xs ++ [y]) → Below base wr w' → wpList Tryz.prog ops Q rest (a.put o.dst v') w') :
    wpList Tryz.prog ops Q (o :: rest) a (wr.alloc (.cells #[.int k c] e)).drew :=
  wpl_app1 (wr := wr.drew) hgd s x t ho k e bytes ht hi hb8 base v xs (World.ownsRow.drew hown) hs c y hx hc hlen hbase (fun v' w' h1 h2 => h v' w' h1 ((Below.refl base wr).drew.trans h2))
theorem mod256_lt (z : Int) : (z % 256).toNat < 256 := by omega
theorem bytes_set {xs : List Nat} (h : Bytes xs) (k x : Nat) (hx : x < 256) : Bytes (xs.set k x) := by
  intro y hy
  rcases List.mem_or_eq_of_mem_set hy with h' | rfl
  · exact h y h'
  · exact hx
end Go.Proofs.YtmjigpnpcacefaaGreatDoor
