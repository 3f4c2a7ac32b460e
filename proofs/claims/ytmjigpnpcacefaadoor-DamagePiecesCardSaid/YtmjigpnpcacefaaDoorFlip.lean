/- Changes of bits: what they do to the register; when bytes are sealed. -/
import Derived.Test.YtmjigpnpcacefaaDoorRefE
namespace Gf
open Go.Proofs.YtmjigpnpcacefaaDoor

/-- One bit changed: bit k % 8 of byte k / 8. -/
def flip (xs : List Nat) (k : Nat) : List Nat := xs.set (k / 8) (xs[k / 8]?.getD 0 ^^^ 2 ^ (k % 8))
def flips (xs : List Nat) (ks : List Nat) : List Nat := ks.foldl flip xs
/-- What the change of bit k of n bytes does to the register. -/
def bitv (n k : Nat) : Nat := stepN (8 * n - 1 - k) R
def bitvs (n : Nat) (ks : List Nat) : Nat := ks.foldl (fun c k => c ^^^ bitv n k) 0

theorem flip_length (xs : List Nat) (k : Nat) : (flip xs k).length = xs.length := by simp [flip]
theorem flips_length (ks : List Nat) : ∀ xs : List Nat, (flips xs ks).length = xs.length := by
  induction ks with
  | nil => exact fun _ => rfl
  | cons k ks ih => exact fun xs => by rw [show flips xs (k :: ks) = flips (flip xs k) ks from rfl, ih, flip_length]
theorem bitv_lt (n k : Nat) : bitv n k < 4294967296 := stepN_lt _ (by decide)
theorem run_xor_start (c d : Nat) (a : List Nat) : run (c ^^^ d) a = run c a ^^^ stepN (8 * a.length) d := by
  rw [run_start, run_start c, stepN_xor, Nat.xor_assoc, Nat.xor_assoc, Nat.xor_comm (run 0 a)]
theorem pow_lt8 {j : Nat} (h : j < 8) : 2 ^ j < 256 := by
  calc 2 ^ j < 2 ^ 8 := Nat.pow_lt_pow_right (by decide) h
    _ = 256 := by decide
theorem bytes_flip {xs : List Nat} (hx : Bytes xs) (k : Nat) : Bytes (flip xs k) := by
  intro x hxm
  rcases List.mem_or_eq_of_mem_set hxm with h | rfl
  · exact hx x h
  · exact Nat.xor_lt_two_pow (n := 8) (hx.get _) (pow_lt8 (Nat.mod_lt _ (by decide)))
theorem bytes_flips (ks : List Nat) : ∀ {xs : List Nat}, Bytes xs → Bytes (flips xs ks) := by
  induction ks with
  | nil => exact fun h => h
  | cons k ks ih => exact fun h => ih (bytes_flip h k)
theorem run_flip (c : Nat) (xs : List Nat) (k : Nat) (h : k / 8 < xs.length) : run c (flip xs k) = run c xs ^^^ bitv xs.length k := by
  obtain ⟨i, hi⟩ : ∃ i, k / 8 = i := ⟨_, rfl⟩
  unfold flip
  rw [hi] at h ⊢
  have e1 : xs = xs.take i ++ xs[i] :: xs.drop (i + 1) := by
    rw [List.getElem_cons_drop, List.take_append_drop]
  have e2 : xs.set i (xs[i]?.getD 0 ^^^ 2 ^ (k % 8)) = xs.take i ++ (xs[i] ^^^ 2 ^ (k % 8)) :: xs.drop (i + 1) := by
    rw [List.set_eq_take_append_cons_drop, if_pos h]
    simp [h]
  rw [e2]
  conv => rhs; arg 1; rw [e1]
  rw [run_append, run_append]
  obtain ⟨r, _⟩ : ∃ r, r = run c (xs.take i) := ⟨_, rfl⟩
  show run (byteR _ (xs[i] ^^^ 2 ^ (k % 8))) _ = run (byteR _ xs[i]) _ ^^^ _
  have e3 := byteR_xor (run c (xs.take i)) 0 xs[i] (2 ^ (k % 8))
  rw [Nat.xor_zero] at e3
  rw [e3, run_xor_start]
  congr 1
  have e4 : byteR 0 (2 ^ (k % 8)) = stepN 8 (2 ^ (k % 8)) := by simp [byteR]
  rw [e4, List.length_drop, bit_val _ _ (Nat.mod_lt _ (by decide))]
  unfold bitv
  congr 1
  omega
theorem foldl_xor (n : Nat) (ks : List Nat) : ∀ c, ks.foldl (fun c k => c ^^^ bitv n k) c = c ^^^ bitvs n ks := by
  induction ks with
  | nil => exact fun c => by simp [bitvs]
  | cons k ks ih =>
    intro c
    have h0 := ih (0 ^^^ bitv n k)
    rw [List.foldl_cons, ih]
    show _ = c ^^^ ks.foldl (fun c k => c ^^^ bitv n k) (0 ^^^ bitv n k)
    rw [h0, Nat.zero_xor, Nat.xor_assoc]
theorem run_flips (ks : List Nat) : ∀ (c : Nat) (xs : List Nat), (∀ k ∈ ks, k / 8 < xs.length) → run c (flips xs ks) = run c xs ^^^ bitvs xs.length ks := by
  induction ks with
  | nil => exact fun c xs _ => by simp [flips, bitvs]
  | cons k ks ih =>
    intro c xs h
    rw [show flips xs (k :: ks) = flips (flip xs k) ks from rfl, ih c (flip xs k) (fun j hj => by rw [flip_length]; exact h j (List.mem_cons_of_mem _ hj)), flip_length, run_flip c xs k (h k List.mem_cons_self)]
    show _ = run c xs ^^^ ks.foldl (fun c k => c ^^^ bitv xs.length k) (0 ^^^ bitv xs.length k)
    rw [foldl_xor _ _ (0 ^^^ bitv xs.length k), Nat.zero_xor, Nat.xor_assoc]
theorem bitvs_lt (n : Nat) (ks : List Nat) : bitvs n ks < 4294967296 := by
  have : ∀ (ks : List Nat) (c : Nat), c < 4294967296 → ks.foldl (fun c k => c ^^^ bitv n k) c < 4294967296 := by
    intro ks
    induction ks with
    | nil => exact fun c h => h
    | cons k ks ih => exact fun c h => ih _ (Nat.xor_lt_two_pow (n := 32) h (bitv_lt n k))
  exact this ks 0 (by decide)

theorem step8_xor (c d : Nat) : stepN 8 (c ^^^ d) = byteR c (d % 256) ^^^ d / 256 := by
  have h : d % 256 < 256 := Nat.mod_lt _ (by decide)
  rw [byteR_split h, stepN_split 8 (c ^^^ d)]
  have h1 : (c ^^^ d) / 2 ^ 8 = c / 256 ^^^ d / 256 := Nat.xor_div_two_pow (n := 8)
  have h2 : (c ^^^ d) % 2 ^ 8 = c % 256 ^^^ d % 256 := Nat.xor_mod_two_pow (n := 8)
  rw [h1, h2, Nat.xor_assoc, Nat.xor_assoc, Nat.xor_comm (d / 256)]
theorem run_four (r d : Nat) (hd : d < 4294967296) : run r (four d) = stepN 32 (r ^^^ d) := by
  show byteR (byteR (byteR (byteR r (d % 256)) (d / 256 % 256)) (d / 65536 % 256)) (d / 16777216 % 256) = _
  rw [show 32 = 8 + (8 + (8 + 8)) by rfl, stepN_add, stepN_add, stepN_add, step8_xor, step8_xor, step8_xor, step8_xor,
    Nat.div_div_eq_div_mul, Nat.div_div_eq_div_mul, Nat.div_div_eq_div_mul, show d / (256 * 256 * 256 * 256) = 0 by omega, Nat.xor_zero]
end Gf
namespace Go.Proofs.YtmjigpnpcacefaaDoor
open Go Go.RowKit Go.Shelf

/-- Bytes are sealed when the register ends in one value. -/
theorem sealedB_run (xs : List Nat) (hx : Bytes xs) (hl : 4 ≤ xs.length) : sealedB xs = decide (Gf.run (Gf.inv 0) xs = Gf.stepN 32 4294967295) := by
  obtain ⟨n, hn⟩ : ∃ n, xs.length = n + 4 := ⟨xs.length - 4, by omega⟩
  have h4 := take_four xs n hn
  obtain ⟨d, hd⟩ : ∃ d, le4 xs n = d := ⟨_, rfl⟩
  have b0 := hx.get n
  have b1 := hx.get (n + 1)
  have b2 := hx.get (n + 2)
  have b3 := hx.get (n + 3)
  have hdl : d < 4294967296 := by rw [← hd]; unfold le4; omega
  have hf : Gf.four d = [xs[n]?.getD 0, xs[n + 1]?.getD 0, xs[n + 2]?.getD 0, xs[n + 3]?.getD 0] :=
    (four_eq d _ _ _ _ hdl b0 b1 b2 b3).2 (by rw [← hd]; rfl)
  rw [← hf] at h4
  unfold sealedB
  rw [show xs.length - 4 = n by omega, hd]
  simp only [hl, decide_true, Bool.true_and]
  rw [decide_eq_decide]
  conv => rhs; lhs; rw [h4]
  rw [Gf.run_append, Gf.run_four _ _ hdl]
  have hr : Gf.run (Gf.inv 0) (xs.take n) < 4294967296 := Gf.run_lt (Gf.inv_lt _) (hx.take n)
  show Gf.inv (Gf.run (Gf.inv 0) (xs.take n)) = d ↔ _
  rw [Gf.inv_eq hr]
  obtain ⟨r, hre⟩ : ∃ r, Gf.run (Gf.inv 0) (xs.take n) = r := ⟨_, rfl⟩
  rw [hre] at hr ⊢
  constructor
  · rintro rfl
    rw [← Nat.xor_assoc, Nat.xor_self, Nat.zero_xor]
  · intro h
    have h0 : Gf.stepN 32 (r ^^^ d ^^^ 4294967295) = 0 := by rw [Gf.stepN_xor, h, Nat.xor_self]
    have h1 := Gf.stepN_inj0 32 (Nat.xor_lt_two_pow (n := 32) (Nat.xor_lt_two_pow (n := 32) hr hdl) (by decide)) h0
    have h2 : r ^^^ d = 4294967295 := Gf.xor_eq_zero.1 h1
    rw [← h2, ← Nat.xor_assoc, Nat.xor_self, Nat.zero_xor]
/-- Sealed bytes, some bits of them changed. -/
theorem sealedB_flips (xs : List Nat) (hx : Bytes xs) (hl : 4 ≤ xs.length) (hs : sealedB xs = true) (ks : List Nat) (hk : ∀ k ∈ ks, k / 8 < xs.length) :
    sealedB (Gf.flips xs ks) = decide (Gf.bitvs xs.length ks = 0) := by
  rw [sealedB_run xs hx hl] at hs
  rw [sealedB_run _ (Gf.bytes_flips ks hx) (by rw [Gf.flips_length]; exact hl), decide_eq_decide, Gf.run_flips ks _ xs hk, of_decide_eq_true hs]
  constructor
  · intro h
    have := congrArg (fun z => Gf.stepN 32 4294967295 ^^^ z) h
    simpa [← Nat.xor_assoc] using this
  · intro h; rw [h, Nat.xor_zero]
theorem sealedB_seal (xs : List Nat) (hx : Bytes xs) : sealedB (Gf.sealB xs) = true := by
  have hl : (Gf.sealB xs).length = xs.length + 4 := by simp [Gf.sealB, Gf.four]
  rw [← sealedB_eq (Gf.sealB xs) (Bytes.append hx (bytes_four _)) (by omega), hl, show xs.length + 4 - 4 = xs.length by omega]
  have : (Gf.sealB xs).take xs.length = xs := by unfold Gf.sealB; exact List.take_left
  rw [this]; simp
end Go.Proofs.YtmjigpnpcacefaaDoor
