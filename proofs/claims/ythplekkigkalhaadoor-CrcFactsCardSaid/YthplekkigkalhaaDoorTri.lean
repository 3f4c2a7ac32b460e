/- No three different bits of 4096 bytes are nothing together: reckoned by the kernel, over the registers of all of them. -/
import Derived.Test.YthplekkigkalhaaDoorReads
namespace Gf
/-- A number is reckoned before it is handed on. -/
def force {α : Type} (n : Nat) (f : Nat → α) : α := Nat.rec (f 0) (fun k _ => f (k + 1)) n
theorem force_eq {α : Type} (n : Nat) (f : Nat → α) : force n f = f n := by cases n <;> rfl
def stepF (c : Nat) : Nat := Nat.xor (Nat.div c 2) (Nat.mul (Nat.mod c 2) 3988292384)
theorem stepF_eq (c : Nat) : stepF c = step c := by
  show c / 2 ^^^ (c % 2) * 3988292384 = step c
  unfold step R
  rcases Nat.mod_two_eq_zero_or_one c with h | h <;> rw [h] <;> simp
def low (b v : Nat) : Bool := Nat.beq (Nat.land (Nat.shiftRight v b) 1) 0
noncomputable def part (b : Nat) (l : List Nat) : List Nat → List Nat → (List Nat → List Nat → Bool) → Bool :=
  List.rec (fun a c k => k a c) (fun v _ ih a c k => Bool.rec (ih a (v :: c) k) (ih (v :: a) c k) (low b v)) l
theorem part_nil (b : Nat) (a c : List Nat) (k : List Nat → List Nat → Bool) : part b [] a c k = k a c := rfl
theorem part_cons (b v : Nat) (l a c : List Nat) (k : List Nat → List Nat → Bool) : part b (v :: l) a c k = if low b v then part b l (v :: a) c k else part b l a (v :: c) k := by
  show Bool.rec (motive := fun _ => Bool) (part b l a (v :: c) k) (part b l (v :: a) c k) (low b v) = _
  cases low b v <;> rfl
theorem part_ok (b : Nat) (l : List Nat) : ∀ (a c : List Nat) (k : List Nat → List Nat → Bool), part b l a c k = true →
    ∃ a' c', k a' c' = true ∧ (∀ x, x ∈ a → x ∈ a') ∧ (∀ x, x ∈ c → x ∈ c') ∧ ∀ x, x ∈ l → (low b x = true → x ∈ a') ∧ (low b x = false → x ∈ c') := by
  induction l with
  | nil => intro a c k h; exact ⟨a, c, h, fun _ h => h, fun _ h => h, fun x hx => by cases hx⟩
  | cons v l ih =>
    intro a c k h
    rw [part_cons] at h
    cases hv : low b v
    · rw [hv] at h
      obtain ⟨a', c', h1, h2, h3, h4⟩ := ih a (v :: c) k h
      refine ⟨a', c', h1, h2, fun x hx => h3 x (List.mem_cons_of_mem _ hx), fun x hx => ?_⟩
      rcases List.mem_cons.1 hx with rfl | hx
      · exact ⟨fun h => (by rw [hv] at h; cases h), fun _ => h3 _ List.mem_cons_self⟩
      · exact h4 x hx
    · rw [hv] at h
      obtain ⟨a', c', h1, h2, h3, h4⟩ := ih (v :: a) c k h
      refine ⟨a', c', h1, fun x hx => h2 x (List.mem_cons_of_mem _ hx), h3, fun x hx => ?_⟩
      rcases List.mem_cons.1 hx with rfl | hx
      · exact ⟨fun _ => h2 _ List.mem_cons_self, fun h => (by rw [hv] at h; cases h)⟩
      · exact h4 x hx
noncomputable def disj : Nat → List Nat → List Nat → Bool := fun n => Nat.rec (fun A B => List.rec true (fun _ _ _ => List.rec true (fun _ _ _ => false) B) A)
  (fun b ih A B => List.rec true (fun _ _ _ => List.rec true (fun _ _ _ =>
     part b A [] [] (fun A0 A1 => part b B [] [] (fun B0 B1 => Bool.rec false (ih A1 B1) (ih A0 B0)))) B) A) n
theorem disj_ok (n : Nat) : ∀ (A B : List Nat), disj n A B = true → ∀ x, x ∈ A → x ∈ B → False := by
  induction n with
  | zero =>
    intro A B h x hA hB
    cases A with
    | nil => cases hA
    | cons a A =>
      cases B with
      | nil => cases hB
      | cons b B => cases h
  | succ n ih =>
    intro A B h x hA hB
    cases A with
    | nil => cases hA
    | cons a A =>
      cases B with
      | nil => cases hB
      | cons b B =>
        have h' : part n (a :: A) [] [] (fun A0 A1 => part n (b :: B) [] [] (fun B0 B1 => Bool.rec (motive := fun _ => Bool) false (disj n A1 B1) (disj n A0 B0))) = true := h
        obtain ⟨A0, A1, h1, _, _, hp⟩ := part_ok _ _ _ _ _ h'
        obtain ⟨B0, B1, h2, _, _, hq⟩ := part_ok _ _ _ _ _ h1
        have h0 : disj n A0 B0 = true := by
          cases e : disj n A0 B0
          · rw [e] at h2; cases h2
          · rfl
        rw [h0] at h2
        have h3 : disj n A1 B1 = true := h2
        cases e : low n x
        · exact ih _ _ h3 x ((hp x hA).2 e) ((hq x hB).2 e)
        · exact ih _ _ h0 x ((hp x hA).1 e) ((hq x hB).1 e)
noncomputable def both (n : Nat) (k : List Nat → List Nat → Bool) : Nat → List Nat → List Nat → Bool :=
  Nat.rec (motive := fun _ => Nat → List Nat → List Nat → Bool) (fun _ a b => k a b) (fun _ ih c a b => force (stepF c) (fun c' => force (Nat.xor c' 3988292384) (fun d => ih c' (c' :: a) (d :: b)))) n
theorem both_ok (k : List Nat → List Nat → Bool) (n : Nat) : ∀ (c : Nat) (a b : List Nat), both n k c a b = true →
    ∃ A B, k A B = true ∧ (∀ x, x ∈ a → x ∈ A) ∧ (∀ x, x ∈ b → x ∈ B) ∧ ∀ j, 1 ≤ j → j ≤ n → stepN j c ∈ A ∧ stepN j c ^^^ R ∈ B := by
  induction n with
  | zero => intro c a b h; exact ⟨a, b, h, fun _ h => h, fun _ h => h, fun j h1 h2 => by omega⟩
  | succ n ih =>
    intro c a b h
    have h' : force (stepF c) (fun c' => force (Nat.xor c' 3988292384) (fun d => both n k c' (c' :: a) (d :: b))) = true := h
    rw [force_eq, force_eq, stepF_eq] at h'
    obtain ⟨A, B, h1, h2, h3, h4⟩ := ih _ _ _ h'
    refine ⟨A, B, h1, fun x hx => h2 x (List.mem_cons_of_mem _ hx), fun x hx => h3 x (List.mem_cons_of_mem _ hx), fun j hj1 hj2 => ?_⟩
    cases j with
    | zero => omega
    | succ j =>
      show stepN j (step c) ∈ A ∧ stepN j (step c) ^^^ R ∈ B
      by_cases hj : j = 0
      · subst hj; exact ⟨h2 _ List.mem_cons_self, h3 _ List.mem_cons_self⟩
      · exact h4 j (by omega) (by omega)
set_option maxRecDepth 1000000 in
theorem reckoned : both 32767 (fun a b => disj 32 a b) 3988292384 [] [3988292384] = true := by decide +kernel
theorem tri (i j : Nat) (hi : 1 ≤ i) (hi2 : i ≤ 32767) (hj : 1 ≤ j) (hj2 : j ≤ 32767) : stepN i R ≠ stepN j R ^^^ R := by
  obtain ⟨A, B, h1, _, _, h4⟩ := both_ok _ _ _ _ _ reckoned
  intro h
  have hB := (h4 j hj hj2).2
  exact disj_ok 32 A B h1 (stepN i R) (h4 i hi hi2).1 (h.symm ▸ hB)
theorem duo (i : Nat) (hi : 1 ≤ i) (hi2 : i ≤ 32767) : stepN i R ≠ R := by
  obtain ⟨A, B, h1, _, h3, h4⟩ := both_ok _ _ _ _ _ reckoned
  intro h
  exact disj_ok 32 A B h1 (stepN i R) (h4 i hi hi2).1 (h.symm ▸ h3 R List.mem_cons_self)
end Gf
