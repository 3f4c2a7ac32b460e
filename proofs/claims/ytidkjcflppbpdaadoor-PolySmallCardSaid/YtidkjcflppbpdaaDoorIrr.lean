/- Irreducible polynomials: Euclid's lemma and Fermat's theorem: plain mathematics. -/
import Derived.Test.YtidkjcflppbpdaaDoorGcdP
namespace Gf
theorem bezoutF (f : Nat) : ∀ a b, plen b ≤ f → ∃ s t, pgcdF f a b = pmul s a ^^^ pmul t b := by
  induction f with
  | zero => exact fun a b _ => ⟨1, 0, by rw [pmul_one_left, pmul_zero_left, Nat.xor_zero]; rfl⟩
  | succ f ih =>
    intro a b hl
    rw [pgcdF]
    by_cases hb : b = 0
    · rw [if_pos hb]; exact ⟨1, 0, by rw [pmul_one_left, pmul_zero_left, Nat.xor_zero]⟩
    · rw [if_neg hb]
      obtain ⟨s, t, e⟩ := ih b (pmod a b) (by have := plen_pmod a hb; omega)
      have hm : pmod a b = a ^^^ pmul (pdiv a b) b := by
        have h := pdiv_pmod a hb
        have : a ^^^ pmul (pdiv a b) b = pmul (pdiv a b) b ^^^ pmod a b ^^^ pmul (pdiv a b) b := by rw [← h]
        rw [this, xor_right_comm, Nat.xor_self, Nat.zero_xor]
      refine ⟨t, s ^^^ pmul t (pdiv a b), ?_⟩
      rw [e, hm, pmul_xor_right, pmul_xor_left, pmul_assoc]
      exact xor_left_comm _ _ _
theorem bezout (a b : Nat) : ∃ s t, pgcd a b = pmul s a ^^^ pmul t b := bezoutF _ a b (Nat.le_refl _)
def Irr (f : Nat) : Prop := 2 ≤ plen f ∧ ∀ a, a ≠ 0 → pmod f a = 0 → plen a = 1 ∨ plen a = plen f
theorem plen_one {a : Nat} (h : plen a = 1) : a = 1 := by
  have hlt := plen_le.1 (Nat.le_of_eq h)
  have hn : a ≠ 0 := fun e => by rw [e, plen_zero] at h; omega
  omega
theorem dvd_same {f g : Nat} (hf : f ≠ 0) (hg : g ≠ 0) (h : pmod f g = 0) (hl : plen g = plen f) : f = g := by
  have e := pdiv_pmod f hg
  rw [h, Nat.xor_zero] at e
  have hq : pdiv f g ≠ 0 := fun e' => by rw [e', pmul_zero_left] at e; exact hf e
  have l := plen_pmul hq hg
  rw [← e] at l
  have p1 := plen_pos hq
  have p2 := plen_pos hg
  have : plen (pdiv f g) = 1 := by omega
  rw [e, plen_one this, pmul_one_left]
theorem Irr.ne {f : Nat} (h : Irr f) : f ≠ 0 := fun e => by have := h.1; rw [e, plen_zero] at this; omega
theorem Irr.gcd1 {f c : Nat} (h : Irr f) (hc : pmod c f ≠ 0) : pgcd f c = 1 := by
  have hg := pgcd_ne (a := f) (b := c) (.inl h.ne)
  obtain ⟨h1, h2⟩ := pgcd_dvd hg
  rcases h.2 _ hg h1 with h3 | h3
  · exact plen_one h3
  · have := dvd_same h.ne hg h1 h3
    exact absurd (by rw [← this] at h2; exact h2) hc
theorem Irr.euclid {f c a : Nat} (h : Irr f) (hc : pmod c f ≠ 0) (hp : pmod (pmul c a) f = 0) : pmod a f = 0 := by
  obtain ⟨s, t, e⟩ := bezout f c
  rw [h.gcd1 hc] at e
  have ea : a = pmul (pmul s a) f ^^^ pmul t (pmul c a) := by
    have : a = pmul (pmul s f ^^^ pmul t c) a := by rw [← e, pmul_one_left]
    rw [pmul_xor_left, pmul_assoc, pmul_assoc, pmul_comm f a, ← pmul_assoc] at this
    exact this
  rw [ea, pmod_xor _ _ h.ne, pmod_mul_self _ h.ne, Nat.zero_xor, ← pmod_mul_right _ _ h.ne, hp, pmul_zero_right, pmod_zero h.ne]
theorem perm_of_nodup : ∀ (l' l : List Nat), l'.Nodup → (∀ x ∈ l', x ∈ l) → l.length ≤ l'.length → l.Perm l'
  | [], l, _, _, hl => by
    have : l = [] := List.eq_nil_of_length_eq_zero (by simpa using hl)
    subst this; exact List.Perm.nil
  | a :: t, l, hn, hs, hl => by
    have ha : a ∈ l := hs a (List.mem_cons_self ..)
    have hp := List.perm_cons_erase ha
    rw [List.nodup_cons] at hn
    have hlen : (l.erase a).length = l.length - 1 := by rw [List.length_erase]; simp [ha]
    have h2 : l.length ≤ t.length + 1 := hl
    refine hp.trans ((perm_of_nodup t (l.erase a) hn.2 (fun x hx => ?_) (by omega)).cons a)
    have hxa : x ≠ a := fun e => hn.1 (e ▸ hx)
    exact (List.mem_erase_of_ne hxa).2 (hs x (List.mem_cons_of_mem _ hx))
def prodP (l : List Nat) : Nat := l.foldr pmul 1
theorem prodP_perm {l l' : List Nat} (h : l.Perm l') : prodP l = prodP l' := by
  induction h with
  | nil => rfl
  | cons a _ ih => show pmul a _ = pmul a _; exact congrArg _ ih
  | swap a b l => exact pmul_left_comm _ _ _
  | trans _ _ h1 h2 => exact h1.trans h2
theorem prodP_ne {f : Nat} (h : Irr f) : ∀ l : List Nat, (∀ a ∈ l, pmod a f ≠ 0) → pmod (prodP l) f ≠ 0
  | [], _ => by
    show pmod 1 f ≠ 0
    rw [pmod_small h.ne (by have := h.1; show 1 < plen f; omega)]
    decide
  | a :: t, hl => fun e => prodP_ne h t (fun x hx => hl x (List.mem_cons_of_mem _ hx)) (h.euclid (hl a (List.mem_cons_self ..)) e)
theorem prodP_map {f : Nat} (hf : f ≠ 0) : ∀ l : List Nat, pmod (prodP (l.map fun a => pmod (a <<< 1) f)) f = pmod (pmul (xpow l.length) (prodP l)) f
  | [] => by rfl
  | a :: t => by
    show pmod (pmul (pmod (a <<< 1) f) (prodP (t.map fun a => pmod (a <<< 1) f))) f = pmod (pmul (xpow (t.length + 1)) (pmul a (prodP t))) f
    rw [pmod_mul_left _ _ hf, ← pmod_mul_right _ _ hf, prodP_map hf t, pmod_mul_right _ _ hf]
    congr 1
    have hx : xpow (t.length + 1) = xpow t.length <<< 1 := by unfold xpow; rw [← Nat.shiftLeft_add]
    rw [hx, pmul_shl_left, pmul_shl_left, pmul_left_comm]
/-- Fermat's theorem for x. -/
theorem Irr.fermat {f : Nat} (h : Irr f) (hx : pmod 2 f ≠ 0) : pmod (xpow (2 ^ (plen f - 1) - 1)) f = 1 := by
  have hf := h.ne
  have h1 : pmod 1 f = 1 := pmod_small hf (by have := h.1; show 1 < plen f; omega)
  have e2 : ∀ a, a <<< 1 = pmul 2 a := fun a => by rw [pmul_comm, show (2 : Nat) = 1 <<< 1 from rfl, pmul_shl_eq]
  obtain ⟨N, HN⟩ : ∃ N, 2 ^ (plen f - 1) = N := ⟨_, rfl⟩
  have hNp : 0 < N := by rw [← HN]; exact Nat.two_pow_pos _
  have small : ∀ a, a < N → pmod a f = a := fun a ha => pmod_small hf (by
    have h3 : plen a ≤ plen f - 1 := plen_le.2 (by rw [HN]; exact ha)
    have := h.1; omega)
  have hmem : ∀ a, a ∈ List.range' 1 (N - 1) ↔ 1 ≤ a ∧ a < N := fun a => by rw [List.mem_range'_1]; omega
  have hperm : (List.range' 1 (N - 1)).Perm ((List.range' 1 (N - 1)).map fun a => pmod (a <<< 1) f) := by
    refine perm_of_nodup _ _ ?_ ?_ (by simp)
    · rw [List.nodup_iff_pairwise_ne, List.pairwise_map]
      refine List.Pairwise.imp_of_mem ?_ (List.nodup_iff_pairwise_ne.1 (List.nodup_range' (step := 1)))
      intro a b ha hb hne he
      have hz : pmod (pmul 2 (a ^^^ b)) f = 0 := by rw [pmul_xor_right, pmod_xor _ _ hf, ← e2, ← e2, he, Nat.xor_self]
      have := h.euclid hx hz
      rw [pmod_xor _ _ hf, small a ((hmem a).1 ha).2, small b ((hmem b).1 hb).2] at this
      exact hne (xor_eq_zero.1 this)
    · intro x hxm
      obtain ⟨a, ha, rfl⟩ := List.mem_map.1 hxm
      rw [hmem]
      refine ⟨Nat.pos_of_ne_zero fun e => ?_, by rw [← HN]; exact pmod_lt hf⟩
      rw [e2] at e
      have := h.euclid hx e
      rw [small a ((hmem a).1 ha).2] at this
      have := ((hmem a).1 ha).1
      omega
  have hP := prodP_map hf (List.range' 1 (N - 1))
  rw [← prodP_perm hperm, List.length_range'] at hP
  have hne := prodP_ne h (List.range' 1 (N - 1)) (fun a ha => by
    rw [small a ((hmem a).1 ha).2]; have := ((hmem a).1 ha).1; omega)
  obtain ⟨P, HP⟩ : ∃ P, prodP (List.range' 1 (N - 1)) = P := ⟨_, rfl⟩
  rw [HP] at hP hne
  have hz : pmod (pmul P (xpow (N - 1) ^^^ 1)) f = 0 := by
    rw [pmul_xor_right, pmul_one_right, pmod_xor _ _ hf, pmul_comm, ← hP, Nat.xor_self]
  have := h.euclid hne hz
  rw [pmod_xor _ _ hf, h1] at this
  rw [HN]
  exact xor_eq_zero.1 this
end Gf
