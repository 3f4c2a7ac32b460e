/- The plain fact behind CrcFacts: the registers of all bits of 4096 bytes are different, none is 0, and none of them together with the last bit's is one of them. -/
import Derived.Test.YthplekkigkalhaaDoorTri
namespace Gf
def facts (n : Nat) : List Nat := (List.range n).map fun i => stepN i R
theorem facts_length (n : Nat) : (facts n).length = n := by simp [facts]
theorem facts_succ (n : Nat) : facts (n + 1) = facts n ++ [stepN n R] := by simp [facts, List.range_succ]
theorem stepN_succ' (n c : Nat) : stepN (n + 1) c = step (stepN n c) := by
  rw [stepN_add n 1 c]; rfl
theorem R_lt : R < 4294967296 := by decide
theorem reg_lt (i : Nat) : stepN i R < 4294967296 := stepN_lt i R_lt
theorem reg_ne0 (i : Nat) : stepN i R ≠ 0 := fun h => absurd (stepN_inj0 i R_lt h) (by decide)
theorem reg_inj {i j : Nat} (hij : i < j) (hj : j < 32768) : stepN i R ≠ stepN j R := by
  intro h
  have e : stepN j R = stepN i (stepN (j - i) R) := by rw [← stepN_add]; congr 1; omega
  have h0 : stepN i (R ^^^ stepN (j - i) R) = 0 := by rw [stepN_xor, ← e, h, Nat.xor_self]
  have hz := stepN_inj0 i (Nat.xor_lt_two_pow (n := 32) R_lt (reg_lt (j - i))) h0
  have hz := xor_eq_zero.1 hz
  exact duo (j - i) (by omega) (by omega) hz.symm
theorem facts_nodup : (facts 32768).Nodup := by
  unfold facts
  rw [List.nodup_iff_pairwise_ne, List.pairwise_map]
  refine List.Pairwise.imp_of_mem ?_ (List.pairwise_lt_range (n := 32768))
  intro a b ha hb hab
  exact reg_inj hab (by simpa using hb)
theorem facts_free {x : Nat} (hx : x ∈ facts 32768) : x ^^^ R ∉ facts 32768 := by
  intro hy
  obtain ⟨i, hi, rfl⟩ := List.mem_map.1 hx
  obtain ⟨j, hj, h⟩ := List.mem_map.1 hy
  have hi : i < 32768 := by simpa using hi
  have hj : j < 32768 := by simpa using hj
  have h : stepN j R = stepN i R ^^^ R := h
  have e0 : stepN 0 R = R := rfl
  by_cases i0 : i = 0
  · subst i0
    rw [e0, Nat.xor_self] at h
    exact reg_ne0 j h
  · by_cases j0 : j = 0
    · subst j0
      rw [e0] at h
      have : stepN i R = 0 := by
        have h2 : R ^^^ R = stepN i R ^^^ R ^^^ R := congrArg (· ^^^ R) h
        rw [Nat.xor_self, xor_cancel] at h2
        exact h2.symm
      exact reg_ne0 i this
    · refine tri j i (by omega) (by omega) (by omega) (by omega) h
/-- The same of the numbers as integers, in whatever order. -/
def factsI : List Int := (facts 32768).map fun (x : Nat) => (x : Int)
theorem factsI_perm {ys : List Int} (h : ys.Perm factsI) : ys.length = 32768 ∧ ys.Nodup ∧ ∀ y ∈ ys, ∃ x : Nat, y = (x : Int) ∧ x < 4294967296 ∧ ((x ^^^ R : Nat) : Int) ∉ ys := by
  have hn : factsI.Nodup := by
    unfold factsI
    rw [List.nodup_iff_pairwise_ne, List.pairwise_map]
    exact (List.nodup_iff_pairwise_ne.1 facts_nodup).imp fun h e => h (by omega)
  refine ⟨by rw [h.length_eq]; simp [factsI, facts_length], h.nodup_iff.2 hn, fun y hy => ?_⟩
  obtain ⟨x, hx, rfl⟩ := List.mem_map.1 (h.mem_iff.1 hy)
  refine ⟨x, rfl, ?_, fun hm => ?_⟩
  · obtain ⟨i, _, rfl⟩ := List.mem_map.1 hx
    exact reg_lt i
  · obtain ⟨z, hz, e⟩ := List.mem_map.1 (h.mem_iff.1 hm)
    have e : z = x ^^^ R := by omega
    exact facts_free hx (e ▸ hz)
end Gf
