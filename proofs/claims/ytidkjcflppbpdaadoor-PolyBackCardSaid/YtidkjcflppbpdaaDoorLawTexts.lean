/- The walks of the laws PolyTexts, PolyBack. -/
import Derived.Test.YtidkjcflppbpdaaDoorRead
import Derived.Test.YtidkjcflppbpdaaDoorReadR
import Derived.Test.YtidkjcflppbpdaaDoorAwakeC
namespace Go.Proofs.YtidkjcflppbpdaaDoor
open Go Go.RowKit Go.Shelf

set_option maxRecDepth 100000 in
set_option maxHeartbeats 2000000 in
theorem polyTexts_all (p : Nat) (hp : p < 18446744073709551616) (s : ByteArray) (w : World) :
    Calls Tryd.prog 10 #[.int .u64 p, .string s] w fun e w' => e = .returned (.bool true) ∧ Below w.heap.size w w' := by
  by_cases hl : s.size ≤ 500
  · have r1 := read_any s
    have r2 := rread_any s
    have t1 := text_any p hp
    have t2 := rtext_any p hp
    obtain ⟨V, HV⟩ := nm (readV s.data.toList)
    obtain ⟨E, HE⟩ := nm (readE s.data.toList)
    obtain ⟨T, HT⟩ := nm (bstr (textB p))
    simp only [HV.out, HE.out] at r1 r2
    simp only [HT.out] at t1 t2
    have R1 := Lib.hid r1
    have R2 := Lib.hid r2
    have T1 := Lib.hid t1
    have T2 := Lib.hid t2
    clear r1 r2 t1 t2
    go_enter Tryd.func10, Tryd.ntmps10
    go_wp2_with fail
    refine (R1.out _).mono ?_
    rintro e w1 ⟨rfl, hb1⟩
    have hB1 := hb1
    clear hb1
    go_wp2_with fail
    refine (R2.out _).mono ?_
    rintro e w2 ⟨rfl, hb2⟩
    have hB2 := hB1.trans (hb2.mono hB1.size)
    clear hB1 hb2
    go_wp2_with fail
    refine (T1.out _).mono ?_
    rintro e w3 ⟨rfl, hb3⟩
    have hB3 := hB2.trans (hb3.mono hB2.size)
    clear hB2 hb3
    go_wp2_with fail
    refine (T2.out _).mono ?_
    rintro e w4 ⟨rfl, hb4⟩
    have hB4 := hB3.trans (hb4.mono hB3.size)
    clear hB3 hb4
    go_wp2_with fail
    refine (awake_any _).mono ?_
    rintro e w5 ⟨rfl, hb5⟩
    have hB5 := hB4.trans (hb5.mono hB4.size)
    clear hB4 hb5
    go_wp2_with fail
    go_ret
    exact ⟨rfl, hB5⟩
  · have hl2 : 500 < (s.size : Int) := by omega
    clear hl
    go_enter Tryd.func10, Tryd.ntmps10
    go_wp2_with fail
    refine (awake_any _).mono ?_
    rintro e w1 ⟨rfl, hb1⟩
    go_wp2_with fail
    go_ret
    exact ⟨rfl, hb1⟩

theorem rev_low (a k : Nat) : Gf.rev (Gf.rev a k) k = a % 2 ^ k := by
  apply Nat.eq_of_testBit_eq
  intro i
  rw [Gf.rev_bit, Gf.rev_bit, Nat.testBit_mod_two_pow]
  by_cases h : i < k
  · rw [decide_eq_true h, decide_eq_true (show k - 1 - i < k by omega), Bool.true_and, Bool.true_and, Bool.true_and]
    congr 1
    omega
  · rw [decide_eq_false h, Bool.false_and, Bool.false_and]

set_option maxRecDepth 100000 in
set_option maxHeartbeats 4000000 in
theorem polyBack_all (a : Nat) (ha : a < 18446744073709551616) (b : Nat) (hb : b < 18446744073709551616) (s : ByteArray) (n : Nat) (hn : n < 256) (w : World) :
    Calls Tryd.prog 11 #[.int .u64 a, .int .u64 b, .string s, .int .u8 n] w fun e w' => e = .returned (.bool true) ∧ Below w.heap.size w w' := by
  have t1 := text_any a ha
  have t2 := text_any b hb
  have r1 := read_any (bstr (textB a))
  rw [show (bstr (textB a)).data.toList = textB a by simp [bstr], (read_text ha).1, (read_text ha).2] at r1
  have heq : ((bstr (textB a)).toList == (bstr (textB b)).toList) = decide (a = b) := by
    rw [ByteArray.toList_eq, ByteArray.toList_eq, show (bstr (textB a)).data.toList = textB a by simp [bstr], show (bstr (textB b)).data.toList = textB b by simp [bstr]]
    by_cases h : a = b
    · rw [h]; simp
    · rw [decide_eq_false h]; exact beq_false_of_ne (fun e => h (textB_inj ha hb e))
  have hab : ((a : Int) == (b : Int)) = decide (a = b) := by
    by_cases h : a = b
    · rw [h]; simp
    · rw [decide_eq_false h]; exact beq_false_of_ne (by omega)
  obtain ⟨T, HT⟩ := nm (bstr (textB a))
  obtain ⟨U, HU⟩ := nm (bstr (textB b))
  simp only [HT.out] at t1 r1
  simp only [HU.out] at t2
  rw [HT.out, HU.out] at heq
  have r2 := read_any s
  have hlt := readV_lt s.data.toList
  have tv := text_any _ hlt
  have hsV : readE s.data.toList = 0 → ((bstr (textB (readV s.data.toList))).toList == s.toList) = true := fun h => by
    rw [ByteArray.toList_eq, ByteArray.toList_eq, show (bstr (textB (readV s.data.toList))).data.toList = textB (readV s.data.toList) by simp [bstr], text_read h]
    simp
  have hnV := @read_none s.data.toList
  obtain ⟨V, HV⟩ := nm (readV s.data.toList)
  obtain ⟨E, HE⟩ := nm (readE s.data.toList)
  simp only [HV.out, HE.out] at r2
  simp only [HV.out] at tv hlt
  simp only [HV.out, HE.out] at hsV hnV
  obtain ⟨TV, HTV⟩ := nm (bstr (textB V))
  simp only [HTV.out] at tv hsV
  have hk : (n : Int) % 65 = ((n % 65 : Nat) : Int) := by omega
  have hkl : n % 65 ≤ 64 := by have := Nat.mod_lt n (show 65 > 0 by decide); omega
  obtain ⟨k, HK⟩ := nm (n % 65)
  rw [HK.out] at hk hkl
  have v1 := reverse_any a k ha hkl
  have hy := Gf.rev_lt a k
  have hlow := rev_low a k
  have hyl : Gf.rev a k < 18446744073709551616 := Nat.lt_of_lt_of_le hy (Nat.pow_le_pow_right (n := 2) (by decide) hkl)
  have v2 := reverse_any (Gf.rev a k) k hyl hkl
  rw [hlow] at v2
  obtain ⟨y, HY⟩ := nm (Gf.rev a k)
  obtain ⟨z, HZ⟩ := nm (a % 2 ^ k)
  simp only [HY.out] at v1 v2 hy hyl
  simp only [HZ.out] at v2
  have T1 := Lib.hid t1
  have T2 := Lib.hid t2
  have R1 := Lib.hid r1
  have R2 := Lib.hid r2
  have TVC := Lib.hid tv
  have V1 := Lib.hid (show ∀ w : World, _ from fun w => (v1 w).mono fun e w' h => (⟨h.1, h.2 ▸ bel_refl w⟩ : e = .returned (.tuple #[.int .u64 y, .int .i64 0]) ∧ Below w.heap.size w w'))
  have V2 := Lib.hid (show ∀ w : World, _ from fun w => (v2 w).mono fun e w' h => (⟨h.1, h.2 ▸ bel_refl w⟩ : e = .returned (.tuple #[.int .u64 z, .int .i64 0]) ∧ Below w.heap.size w w'))
  clear t1 t2 r1 r2 tv v1 v2 hlow
  go_enter Tryd.func11, Tryd.ntmps11
  go_wp2_with fail
  refine (T1.out _).mono ?_
  rintro e w1 ⟨rfl, hb1⟩
  have hB1 := hb1
  clear hb1
  go_wp2_with fail
  refine (T2.out _).mono ?_
  rintro e w2 ⟨rfl, hb2⟩
  have hB2 := hB1.trans (hb2.mono hB1.size)
  clear hB1 hb2
  go_wp2_with fail
  refine (R1.out _).mono ?_
  rintro e w3 ⟨rfl, hb3⟩
  have hB3 := hB2.trans (hb3.mono hB2.size)
  clear hB2 hb3
  have hcase : (E = 0 ∧ (TV.toList == s.toList) = true) ∨ (V = 0 ∧ E = 30) ∨ (V = 0 ∧ E = 3) := by
    by_cases h : E = 0
    · exact .inl ⟨h, hsV h⟩
    · obtain ⟨h1, h2⟩ := hnV h
      rcases h2 with h2 | h2
      · exact .inr (.inl ⟨h1, h2⟩)
      · exact .inr (.inr ⟨h1, h2⟩)
  clear hsV hnV
  have hkk : k < 64 ∨ k = 64 := by omega
  have hxl : k < 64 → IntKind.u64.wrap ((2 : Int) ^ k) = ((1 <<< k : Nat) : Int) := fun h => wrap_shl_one h
  have hxp : 0 < 1 <<< k := by rw [Nat.one_shiftLeft]; exact Nat.two_pow_pos k
  rw [← Nat.one_shiftLeft] at hy
  have hzx : a % 2 ^ k = a % (1 <<< k) := by rw [Nat.one_shiftLeft]
  rw [HZ.out] at hzx
  have hz64 : k = 64 → z = a := fun h => by rw [← HZ.out, h]; exact Nat.mod_eq_of_lt ha
  obtain ⟨X, HX⟩ := nm (1 <<< k)
  rw [HX.out] at hy hzx hxp
  simp only [HX.out] at hxl
  have HXL := Lib.hid hxl
  have HZX := Lib.hid hzx
  have HZ64 := Lib.hid hz64
  have HCASE := Lib.hid hcase
  clear hxl hzx hz64 hcase
  cases hd : decide (a = b) with
  | true =>
    rw [hd] at heq hab
    clear hd
    go_wp2_with fail
    refine (R2.out _).mono ?_
    rintro e w4 ⟨rfl, hb4⟩
    have hB4 := hB3.trans (hb4.mono hB3.size)
    clear hB3 hb4
    rcases HCASE.out with ⟨rfl, hts⟩ | ⟨rfl, rfl⟩ | ⟨rfl, rfl⟩
    · clear HCASE
      go_wp2_with fail
      refine (TVC.out _).mono ?_
      rintro e w5 ⟨rfl, hb5⟩
      have hB5 := hB4.trans (hb5.mono hB4.size)
      clear hB4 hb5
      rcases hkk with hk64 | hk64
      · have hx := HXL.out hk64
        have hxz : ((X : Int) == 0) = false := beq_false_of_ne (by omega)
        have hrm : (a : Int).tmod (X : Int) = ((a % X : Nat) : Int) := rfl
        rw [← HZX.out] at hrm
        have hk2 : (k : Int) < 64 := by omega
        have hkn : ((k : Int) == 64) = false := beq_false_of_ne (by omega)
        have hrm2 : (a : Int) % (X : Int) = (z : Int) := hrm
        have hyX : (y : Int) < (X : Int) := by omega
        go_wp2_with fail
        refine (V1.out _).mono ?_
        rintro e w6 ⟨rfl, hb6⟩
        have hB6 := hB5.trans (hb6.mono hB5.size)
        clear hB5 hb6
        go_wp2_with fail
        refine (V2.out _).mono ?_
        rintro e w7 ⟨rfl, hb7⟩
        have hB7 := hB6.trans (hb7.mono hB6.size)
        clear hB6 hb7
        go_wp2_with fail
        refine (awake_any _).mono ?_
        rintro e w8 ⟨rfl, hb8⟩
        have hB8 := hB7.trans (hb8.mono hB7.size)
        clear hB7 hb8
        go_wp2_with fail
        go_ret
        exact ⟨rfl, hB8⟩
      · have hza := HZ64.out hk64
        have hk2 : ¬ (k : Int) < 64 := by omega
        have hkn : ((k : Int) == 64) = true := by rw [hk64]; rfl
        have HZA := Lib.hid hza
        have hzb : ((z : Int) == (a : Int)) = true := by rw [hza]; simp
        clear hza hk64
        go_wp2_with fail
        refine (V1.out _).mono ?_
        rintro e w6 ⟨rfl, hb6⟩
        have hB6 := hB5.trans (hb6.mono hB5.size)
        clear hB5 hb6
        go_wp2_with fail
        refine (V2.out _).mono ?_
        rintro e w7 ⟨rfl, hb7⟩
        have hB7 := hB6.trans (hb7.mono hB6.size)
        clear hB6 hb7
        go_wp2_with fail
        refine (awake_any _).mono ?_
        rintro e w8 ⟨rfl, hb8⟩
        have hB8 := hB7.trans (hb8.mono hB7.size)
        clear hB7 hb8
        go_wp2_with fail
        go_ret
        exact ⟨rfl, hB8⟩
    · clear HCASE
      rcases hkk with hk64 | hk64
      · have hx := HXL.out hk64
        have hxz : ((X : Int) == 0) = false := beq_false_of_ne (by omega)
        have hrm : (a : Int).tmod (X : Int) = ((a % X : Nat) : Int) := rfl
        rw [← HZX.out] at hrm
        have hk2 : (k : Int) < 64 := by omega
        have hkn : ((k : Int) == 64) = false := beq_false_of_ne (by omega)
        have hrm2 : (a : Int) % (X : Int) = (z : Int) := hrm
        have hyX : (y : Int) < (X : Int) := by omega
        go_wp2_with fail
        refine (V1.out _).mono ?_
        rintro e w6 ⟨rfl, hb6⟩
        have hB6 := hB4.trans (hb6.mono hB4.size)
        clear hB4 hb6
        go_wp2_with fail
        refine (V2.out _).mono ?_
        rintro e w7 ⟨rfl, hb7⟩
        have hB7 := hB6.trans (hb7.mono hB6.size)
        clear hB6 hb7
        go_wp2_with fail
        refine (awake_any _).mono ?_
        rintro e w8 ⟨rfl, hb8⟩
        have hB8 := hB7.trans (hb8.mono hB7.size)
        clear hB7 hb8
        go_wp2_with fail
        go_ret
        exact ⟨rfl, hB8⟩
      · have hza := HZ64.out hk64
        have hk2 : ¬ (k : Int) < 64 := by omega
        have hkn : ((k : Int) == 64) = true := by rw [hk64]; rfl
        have HZA := Lib.hid hza
        have hzb : ((z : Int) == (a : Int)) = true := by rw [hza]; simp
        clear hza hk64
        go_wp2_with fail
        refine (V1.out _).mono ?_
        rintro e w6 ⟨rfl, hb6⟩
        have hB6 := hB4.trans (hb6.mono hB4.size)
        clear hB4 hb6
        go_wp2_with fail
        refine (V2.out _).mono ?_
        rintro e w7 ⟨rfl, hb7⟩
        have hB7 := hB6.trans (hb7.mono hB6.size)
        clear hB6 hb7
        go_wp2_with fail
        refine (awake_any _).mono ?_
        rintro e w8 ⟨rfl, hb8⟩
        have hB8 := hB7.trans (hb8.mono hB7.size)
        clear hB7 hb8
        go_wp2_with fail
        go_ret
        exact ⟨rfl, hB8⟩
    · clear HCASE
      rcases hkk with hk64 | hk64
      · have hx := HXL.out hk64
        have hxz : ((X : Int) == 0) = false := beq_false_of_ne (by omega)
        have hrm : (a : Int).tmod (X : Int) = ((a % X : Nat) : Int) := rfl
        rw [← HZX.out] at hrm
        have hk2 : (k : Int) < 64 := by omega
        have hkn : ((k : Int) == 64) = false := beq_false_of_ne (by omega)
        have hrm2 : (a : Int) % (X : Int) = (z : Int) := hrm
        have hyX : (y : Int) < (X : Int) := by omega
        go_wp2_with fail
        refine (V1.out _).mono ?_
        rintro e w6 ⟨rfl, hb6⟩
        have hB6 := hB4.trans (hb6.mono hB4.size)
        clear hB4 hb6
        go_wp2_with fail
        refine (V2.out _).mono ?_
        rintro e w7 ⟨rfl, hb7⟩
        have hB7 := hB6.trans (hb7.mono hB6.size)
        clear hB6 hb7
        go_wp2_with fail
        refine (awake_any _).mono ?_
        rintro e w8 ⟨rfl, hb8⟩
        have hB8 := hB7.trans (hb8.mono hB7.size)
        clear hB7 hb8
        go_wp2_with fail
        go_ret
        exact ⟨rfl, hB8⟩
      · have hza := HZ64.out hk64
        have hk2 : ¬ (k : Int) < 64 := by omega
        have hkn : ((k : Int) == 64) = true := by rw [hk64]; rfl
        have HZA := Lib.hid hza
        have hzb : ((z : Int) == (a : Int)) = true := by rw [hza]; simp
        clear hza hk64
        go_wp2_with fail
        refine (V1.out _).mono ?_
        rintro e w6 ⟨rfl, hb6⟩
        have hB6 := hB4.trans (hb6.mono hB4.size)
        clear hB4 hb6
        go_wp2_with fail
        refine (V2.out _).mono ?_
        rintro e w7 ⟨rfl, hb7⟩
        have hB7 := hB6.trans (hb7.mono hB6.size)
        clear hB6 hb7
        go_wp2_with fail
        refine (awake_any _).mono ?_
        rintro e w8 ⟨rfl, hb8⟩
        have hB8 := hB7.trans (hb8.mono hB7.size)
        clear hB7 hb8
        go_wp2_with fail
        go_ret
        exact ⟨rfl, hB8⟩
  | false =>
    rw [hd] at heq hab
    clear hd
    go_wp2_with fail
    refine (R2.out _).mono ?_
    rintro e w4 ⟨rfl, hb4⟩
    have hB4 := hB3.trans (hb4.mono hB3.size)
    clear hB3 hb4
    rcases HCASE.out with ⟨rfl, hts⟩ | ⟨rfl, rfl⟩ | ⟨rfl, rfl⟩
    · clear HCASE
      go_wp2_with fail
      refine (TVC.out _).mono ?_
      rintro e w5 ⟨rfl, hb5⟩
      have hB5 := hB4.trans (hb5.mono hB4.size)
      clear hB4 hb5
      rcases hkk with hk64 | hk64
      · have hx := HXL.out hk64
        have hxz : ((X : Int) == 0) = false := beq_false_of_ne (by omega)
        have hrm : (a : Int).tmod (X : Int) = ((a % X : Nat) : Int) := rfl
        rw [← HZX.out] at hrm
        have hk2 : (k : Int) < 64 := by omega
        have hkn : ((k : Int) == 64) = false := beq_false_of_ne (by omega)
        have hrm2 : (a : Int) % (X : Int) = (z : Int) := hrm
        have hyX : (y : Int) < (X : Int) := by omega
        go_wp2_with fail
        refine (V1.out _).mono ?_
        rintro e w6 ⟨rfl, hb6⟩
        have hB6 := hB5.trans (hb6.mono hB5.size)
        clear hB5 hb6
        go_wp2_with fail
        refine (V2.out _).mono ?_
        rintro e w7 ⟨rfl, hb7⟩
        have hB7 := hB6.trans (hb7.mono hB6.size)
        clear hB6 hb7
        go_wp2_with fail
        refine (awake_any _).mono ?_
        rintro e w8 ⟨rfl, hb8⟩
        have hB8 := hB7.trans (hb8.mono hB7.size)
        clear hB7 hb8
        go_wp2_with fail
        go_ret
        exact ⟨rfl, hB8⟩
      · have hza := HZ64.out hk64
        have hk2 : ¬ (k : Int) < 64 := by omega
        have hkn : ((k : Int) == 64) = true := by rw [hk64]; rfl
        have HZA := Lib.hid hza
        have hzb : ((z : Int) == (a : Int)) = true := by rw [hza]; simp
        clear hza hk64
        go_wp2_with fail
        refine (V1.out _).mono ?_
        rintro e w6 ⟨rfl, hb6⟩
        have hB6 := hB5.trans (hb6.mono hB5.size)
        clear hB5 hb6
        go_wp2_with fail
        refine (V2.out _).mono ?_
        rintro e w7 ⟨rfl, hb7⟩
        have hB7 := hB6.trans (hb7.mono hB6.size)
        clear hB6 hb7
        go_wp2_with fail
        refine (awake_any _).mono ?_
        rintro e w8 ⟨rfl, hb8⟩
        have hB8 := hB7.trans (hb8.mono hB7.size)
        clear hB7 hb8
        go_wp2_with fail
        go_ret
        exact ⟨rfl, hB8⟩
    · clear HCASE
      rcases hkk with hk64 | hk64
      · have hx := HXL.out hk64
        have hxz : ((X : Int) == 0) = false := beq_false_of_ne (by omega)
        have hrm : (a : Int).tmod (X : Int) = ((a % X : Nat) : Int) := rfl
        rw [← HZX.out] at hrm
        have hk2 : (k : Int) < 64 := by omega
        have hkn : ((k : Int) == 64) = false := beq_false_of_ne (by omega)
        have hrm2 : (a : Int) % (X : Int) = (z : Int) := hrm
        have hyX : (y : Int) < (X : Int) := by omega
        go_wp2_with fail
        refine (V1.out _).mono ?_
        rintro e w6 ⟨rfl, hb6⟩
        have hB6 := hB4.trans (hb6.mono hB4.size)
        clear hB4 hb6
        go_wp2_with fail
        refine (V2.out _).mono ?_
        rintro e w7 ⟨rfl, hb7⟩
        have hB7 := hB6.trans (hb7.mono hB6.size)
        clear hB6 hb7
        go_wp2_with fail
        refine (awake_any _).mono ?_
        rintro e w8 ⟨rfl, hb8⟩
        have hB8 := hB7.trans (hb8.mono hB7.size)
        clear hB7 hb8
        go_wp2_with fail
        go_ret
        exact ⟨rfl, hB8⟩
      · have hza := HZ64.out hk64
        have hk2 : ¬ (k : Int) < 64 := by omega
        have hkn : ((k : Int) == 64) = true := by rw [hk64]; rfl
        have HZA := Lib.hid hza
        have hzb : ((z : Int) == (a : Int)) = true := by rw [hza]; simp
        clear hza hk64
        go_wp2_with fail
        refine (V1.out _).mono ?_
        rintro e w6 ⟨rfl, hb6⟩
        have hB6 := hB4.trans (hb6.mono hB4.size)
        clear hB4 hb6
        go_wp2_with fail
        refine (V2.out _).mono ?_
        rintro e w7 ⟨rfl, hb7⟩
        have hB7 := hB6.trans (hb7.mono hB6.size)
        clear hB6 hb7
        go_wp2_with fail
        refine (awake_any _).mono ?_
        rintro e w8 ⟨rfl, hb8⟩
        have hB8 := hB7.trans (hb8.mono hB7.size)
        clear hB7 hb8
        go_wp2_with fail
        go_ret
        exact ⟨rfl, hB8⟩
    · clear HCASE
      rcases hkk with hk64 | hk64
      · have hx := HXL.out hk64
        have hxz : ((X : Int) == 0) = false := beq_false_of_ne (by omega)
        have hrm : (a : Int).tmod (X : Int) = ((a % X : Nat) : Int) := rfl
        rw [← HZX.out] at hrm
        have hk2 : (k : Int) < 64 := by omega
        have hkn : ((k : Int) == 64) = false := beq_false_of_ne (by omega)
        have hrm2 : (a : Int) % (X : Int) = (z : Int) := hrm
        have hyX : (y : Int) < (X : Int) := by omega
        go_wp2_with fail
        refine (V1.out _).mono ?_
        rintro e w6 ⟨rfl, hb6⟩
        have hB6 := hB4.trans (hb6.mono hB4.size)
        clear hB4 hb6
        go_wp2_with fail
        refine (V2.out _).mono ?_
        rintro e w7 ⟨rfl, hb7⟩
        have hB7 := hB6.trans (hb7.mono hB6.size)
        clear hB6 hb7
        go_wp2_with fail
        refine (awake_any _).mono ?_
        rintro e w8 ⟨rfl, hb8⟩
        have hB8 := hB7.trans (hb8.mono hB7.size)
        clear hB7 hb8
        go_wp2_with fail
        go_ret
        exact ⟨rfl, hB8⟩
      · have hza := HZ64.out hk64
        have hk2 : ¬ (k : Int) < 64 := by omega
        have hkn : ((k : Int) == 64) = true := by rw [hk64]; rfl
        have HZA := Lib.hid hza
        have hzb : ((z : Int) == (a : Int)) = true := by rw [hza]; simp
        clear hza hk64
        go_wp2_with fail
        refine (V1.out _).mono ?_
        rintro e w6 ⟨rfl, hb6⟩
        have hB6 := hB4.trans (hb6.mono hB4.size)
        clear hB4 hb6
        go_wp2_with fail
        refine (V2.out _).mono ?_
        rintro e w7 ⟨rfl, hb7⟩
        have hB7 := hB6.trans (hb7.mono hB6.size)
        clear hB6 hb7
        go_wp2_with fail
        refine (awake_any _).mono ?_
        rintro e w8 ⟨rfl, hb8⟩
        have hB8 := hB7.trans (hb8.mono hB7.size)
        clear hB7 hb8
        go_wp2_with fail
        go_ret
        exact ⟨rfl, hB8⟩
theorem polyTexts_s (p : Nat) (hp : p < 18446744073709551616) (s : ByteArray) (_ : s.size ≤ maxLen) (w : World) :
    Calls Tryd.prog 10 #[.int .u64 p, .string s] w fun e w' => e = .returned (.bool true) ∧ Below w.heap.size w w' := polyTexts_all p hp s w
theorem polyBack_s (a : Nat) (ha : a < 18446744073709551616) (b : Nat) (hb : b < 18446744073709551616) (s : ByteArray) (_ : s.size ≤ maxLen) (n : Nat) (hn : n < 256) (w : World) :
    Calls Tryd.prog 11 #[.int .u64 a, .int .u64 b, .string s, .int .u8 n] w fun e w' => e = .returned (.bool true) ∧ Below w.heap.size w w' := polyBack_all a ha b hb s n hn w
end Go.Proofs.YtidkjcflppbpdaaDoor
