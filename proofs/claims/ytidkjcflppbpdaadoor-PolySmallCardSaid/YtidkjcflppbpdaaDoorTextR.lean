/- The reference's texts of polynomials: the walks of decimal, Text. -/
import Derived.Test.YtidkjcflppbpdaaDoorSplit
import Derived.Test.YtidkjcflppbpdaaDoorStr
import Derived.Test.YtidkjcflppbpdaaDoorOwnB
import Derived.Test.YtidkjcflppbpdaaDoorRefB
namespace Go.Proofs.YtidkjcflppbpdaaDoor
open Go Go.RowKit Go.Shelf

theorem dec_one : ∀ n, n < 10 → Lib.decDigits n = [UInt8.ofNat (48 + n)] := fun n h => by rw [Lib.decDigits, dif_pos h]
theorem dec_two (n : Nat) (h : 10 ≤ n) : Lib.decDigits n = Lib.decDigits (n / 10) ++ Lib.decDigits (n % 10) := by
  conv => lhs; rw [Lib.decDigits, dif_neg (by omega)]
  rw [dec_one (n % 10) (Nat.mod_lt _ (by decide))]
theorem strOf_bstr (xs : List Nat) : strOf xs = bstr (xs.map UInt8.ofNat) := by
  apply ByteArray.ext
  apply Array.ext'
  rw [strOf_data]
  simp [bstr]

theorem bstr_size (l : List UInt8) : (bstr l).size = l.length := by simp [bstr, ByteArray.size]
set_option maxRecDepth 100000 in
set_option maxHeartbeats 1000000 in
theorem rdec1 (n : Nat) (h : n < 10) (w : World) :
    Calls Tryd.prog 44 #[.int .i64 n] w fun e w' => e = .returned (.string (bstr (Lib.decDigits n))) ∧ Below w.heap.size w w' := by
  have k1 := conv_str (.slice (some ⟨w.heap.size, 0, none⟩) 1 1) [48 + n] (w.alloc (.cells #[.int .u8 (48 + (n : Int))] 5)) (reads_one .u8 w (48 + (n : Int)) 5 (48 + n) (by omega)) (by intro x hx; simp at hx; omega)
  have hd : strOf [48 + n] = bstr (Lib.decDigits n) := by rw [strOf_bstr, dec_one n h]; rfl
  rw [hd] at k1
  obtain ⟨T, HT⟩ := nm (bstr (Lib.decDigits n))
  rw [HT.out] at k1 ⊢
  have hB := bel_alloc w (.cells #[.int .u8 (48 + (n : Int))] 5)
  clear hd
  go_enter Tryd.func44, Tryd.ntmps44
  go_wp2_with fail
  go_ret
  exact ⟨rfl, hB⟩
set_option maxRecDepth 100000 in
set_option maxHeartbeats 1000000 in
theorem rdec_any (n : Nat) (h : n < 100) (w : World) :
    Calls Tryd.prog 44 #[.int .i64 n] w fun e w' => e = .returned (.string (bstr (Lib.decDigits n))) ∧ Below w.heap.size w w' := by
  by_cases h1 : n < 10
  · exact rdec1 n h1 w
  · have hq : (n : Int) / 10 = ((n / 10 : Nat) : Int) := by omega
    have hm : (n : Int) % 10 = ((n % 10 : Nat) : Int) := by omega
    have c1 := rdec1 (n / 10) (by omega)
    have c2 := rdec1 (n % 10) (by omega)
    have hd := dec_two n (by omega)
    rw [hd, ← bstr_append]
    obtain ⟨a, HA⟩ := nm (n / 10)
    obtain ⟨b, HB⟩ := nm (n % 10)
    rw [HA.out] at hq c1 ⊢
    rw [HB.out] at hm c2 ⊢
    have l1 : (bstr (Lib.decDigits a)).size ≤ 2 := by rw [bstr_size]; exact dec_len a (by rw [← HA.out]; omega)
    have l2 : (bstr (Lib.decDigits b)).size ≤ 2 := by rw [bstr_size]; exact dec_len b (by rw [← HB.out]; omega)
    obtain ⟨s, HS⟩ := nm (bstr (Lib.decDigits a))
    obtain ⟨t, HT⟩ := nm (bstr (Lib.decDigits b))
    rw [HS.out] at c1 l1 ⊢
    rw [HT.out] at c2 l2 ⊢
    have C1 := Lib.hid c1
    have C2 := Lib.hid c2
    clear c1 c2 hd
    go_enter Tryd.func44, Tryd.ntmps44
    go_wp2_with fail
    refine (C1.out _).mono ?_
    rintro e w1 ⟨rfl, hb1⟩
    go_wp2_with fail
    refine (C2.out _).mono ?_
    rintro e w2 ⟨rfl, hb2⟩
    have hB2 := hb1.trans (hb2.mono hb1.size)
    clear hb1 hb2
    go_wp2_with fail
    go_ret
    exact ⟨rfl, hB2⟩

theorem join_snoc (x : List UInt8) : ∀ ws : List (List UInt8), ws ≠ [] → Lib.join (ws ++ [x]) [43] = Lib.join ws [43] ++ 43 :: x
  | [], h => absurd rfl h
  | [y], _ => by rw [List.singleton_append, join_cons2, Lib.join_one, Lib.join_one]
  | y :: z :: r, _ => by
    have ih := join_snoc x (z :: r) (by simp)
    rw [List.cons_append, List.cons_append, join_cons2, join_cons2, ← List.cons_append, ih]
    simp
theorem join_ne (ws : List (List UInt8)) (h : ws ≠ []) (hw : ∀ w ∈ ws, w ≠ []) : Lib.join ws [43] ≠ [] := by
  cases ws with
  | nil => exact absurd rfl h
  | cons y r =>
    rw [Lib.join_cons]
    intro e
    exact hw y List.mem_cons_self (List.append_eq_nil_iff.1 e).1

set_option maxRecDepth 100000 in
set_option maxHeartbeats 2000000 in
theorem rtext_any (p : Nat) (hp : p < 18446744073709551616) (w : World) :
    Calls Tryd.prog 28 #[.int .u64 p] w fun e w' => e = .returned (.string (bstr (textB p))) ∧ Below w.heap.size w w' := by
  go_enter Tryd.func28, Tryd.ntmps28
  go_wp2_with fail
  go_loopw [3, 4] (fun vs vi wr => ∃ (k : Nat) (pre : List (Fin 64)), k ≤ 64 ∧ vi = .int .i64 ((k : Int) - 1) ∧ vs = .string (bstr (Lib.join (pre.map fun x => termB x.val) [43])) ∧ Hid (expo p 64 = pre ++ expo p k) ∧ Below w.heap.size w wr)
    (fun _ vi _ => (intOf vi + 1).toNat)
  case atStart => exact ⟨64, [], by omega, rfl, rfl, Lib.hid rfl, bel_refl _⟩
  case round =>
    obtain ⟨k, pre, hk, rfl, rfl, He, hBr⟩ := hrel
    have hpl : pre.length ≤ 64 := by
      have h1 := expo_len p 64
      rw [He.out, List.length_append] at h1
      omega
    have hjl : (Lib.join (pre.map fun x => termB x.val) [43]).length ≤ 320 := by
      have h := join_len 4 (pre.map fun x => termB x.val) [43] (fun t ht => by
        obtain ⟨x, _, rfl⟩ := List.mem_map.1 ht
        exact term_len x.val x.isLt)
      simp at h
      omega
    have hjn : pre ≠ [] → Lib.join (pre.map fun x => termB x.val) [43] ≠ [] := fun h => join_ne _ (by simpa using h) (fun t ht => by
      obtain ⟨x, _, rfl⟩ := List.mem_map.1 ht
      exact termB_ne x.val x.isLt)
    have hjs : ∀ x : Fin 64, Lib.join ((pre ++ [x]).map fun x => termB x.val) [43] = if pre = [] then termB x.val else Lib.join (pre.map fun x => termB x.val) [43] ++ 43 :: termB x.val := fun x => by
      rw [List.map_append]
      by_cases h : pre = []
      · subst h; rw [if_pos rfl]; exact Lib.join_one _ _
      · rw [if_neg h]; exact join_snoc _ _ (by simpa using h)
    have hj0 : pre = [] → Lib.join (pre.map fun x => termB x.val) [43] = [] := fun h => by subst h; rfl
    obtain ⟨L, HL⟩ := nm (Lib.join (pre.map fun x => termB x.val) [43])
    rw [HL.out] at hjl hjn hj0 ⊢
    simp only [HL.out] at hjs
    rw [← bstr_size] at hjl
    have HJN := Lib.hid hjn
    have HJS := Lib.hid hjs
    have HJ0 := Lib.hid hj0
    clear hjn hjs hj0
    cases k with
    | zero =>
      by_cases hp0 : pre = []
      · obtain rfl := HJ0.out hp0
        have hpz : p = 0 := expo_nil p 64 (Nat.le_refl _) (by rw [He.out, hp0]; rfl) hp
        have HTX := Lib.hid (show textB p = [48] by rw [hpz]; rfl)
        rw [show bstr [] = ⟨#[]⟩ from rfl]
        clear hpz hp0 HJN HJS HJ0
        go_wp2_with fail
        go_ret
        exact ⟨by rw [HTX.out]; rfl, hBr⟩
      · have hne := HJN.out hp0
        have hpe : expo p 64 = pre := by rw [He.out]; simp [expo]
        have ht : textB p = L := by
          unfold textB
          rw [if_neg (fun e => hp0 (by rw [← hpe, e]; decide +kernel)), hpe]
          exact HL.out
        have HTX := Lib.hid ht
        clear ht hpe hp0
        have e1 : ¬ (bstr L).toList = [] := by rw [ByteArray.toList_eq]; simpa [bstr] using hne
        have e2 : ((bstr L).toList == []) = false := by simpa using e1
        have e3 : ((bstr L).toList.isEmpty) = false := by simpa using e1
        clear hne
        obtain ⟨T, HT⟩ := nm (bstr L)
        rw [HT.out] at hjl e1 e2 e3 ⊢
        go_wp2_with fail
        go_ret
        exact ⟨by rw [HTX.out, HT.out]; rfl, hBr⟩
    | succ k =>
      have h2 := rem2_u64 p k hp
      have hdc := rdec_any k (by omega)
      have hdl : (bstr (Lib.decDigits k)).size ≤ 2 := by rw [bstr_size]; exact dec_len k (by omega)
      have hT : k ≠ 0 → k ≠ 1 → bstr (termB k) = ⟨#[120, 94]⟩ ++ bstr (Lib.decDigits k) := fun h0 h1 => by
        unfold termB
        rw [if_neg h0, if_neg h1, ← bstr_append]
        rfl
      obtain ⟨d, HD⟩ := nm (bstr (Lib.decDigits k))
      rw [HD.out] at hdl hT
      simp only [HD.out] at hdc
      have HDC := Lib.hid hdc
      have HTT := Lib.hid hT
      clear hdc hT
      cases hb : p.testBit k with
      | false =>
        have HX := Lib.hid (show expo p (k + 1) = expo p k by rw [expo, dif_neg (by rw [hb]; simp)])
        rw [hb] at h2
        clear hb
        go_wp2_with fail
        go_roundw
        case rel => exact ⟨k, pre, by omega, rfl, by rw [HL.out], Lib.hid (by rw [He.out, HX.out]), hBr⟩
        case measure => simp [intOf]
      | true =>
        have HX := Lib.hid (show expo p (k + 1) = ⟨k, by omega⟩ :: expo p k by rw [expo, dif_pos ⟨by omega, hb⟩])
        rw [hb] at h2
        clear hb
        by_cases hp0 : pre = []
        · obtain rfl := HJ0.out hp0
          have hv : Value.string (bstr (termB k)) = Value.string (bstr (if pre = [] then termB k else [] ++ 43 :: termB k)) := by rw [if_pos hp0]
          rw [show bstr [] = ⟨#[]⟩ from rfl]
          clear hp0 HJN HJ0 hjl
          by_cases k0 : k = 0
          · have a1 : (k : Int) ≤ 1 := by omega
            have a2 : ((k : Int) == 1) = false := beq_false_of_ne (by omega)
            rw [show bstr (termB k) = ⟨#[49]⟩ by rw [k0]; rfl] at hv
            have HV := Lib.hid hv
            clear hv HTT k0
            go_wp2_with fail
            go_roundw
            case rel => exact ⟨k, pre ++ [⟨k, by omega⟩], by omega, rfl, by rw [HJS.out ⟨k, by omega⟩]; exact HV.out, Lib.hid (by rw [He.out, HX.out]; simp), hBr⟩
            case measure => simp [intOf]
          · by_cases k1 : k = 1
            · have a1 : (k : Int) ≤ 1 := by omega
              have a2 : ((k : Int) == 1) = true := by rw [k1]; rfl
              rw [show bstr (termB k) = ⟨#[120]⟩ by rw [k1]; rfl] at hv
              have HV := Lib.hid hv
              clear hv HTT k0 k1
              go_wp2_with fail
              go_roundw
              case rel => exact ⟨k, pre ++ [⟨k, by omega⟩], by omega, rfl, by rw [HJS.out ⟨k, by omega⟩]; exact HV.out, Lib.hid (by rw [He.out, HX.out]; simp), hBr⟩
              case measure => simp [intOf]
            · rw [HTT.out k0 k1] at hv
              have HV := Lib.hid hv
              have k2 : 1 < (k : Int) := by omega
              clear hv HTT k0 k1
              go_wp2_with fail
              refine (HDC.out _).mono ?_
              rintro e w1 ⟨rfl, hb1⟩
              have hB1 := hBr.trans (hb1.mono hBr.size)
              clear hBr hb1
              go_wp2_with fail
              go_roundw
              case rel => exact ⟨k, pre ++ [⟨k, by omega⟩], by omega, rfl, by rw [HJS.out ⟨k, by omega⟩]; exact HV.out, Lib.hid (by rw [He.out, HX.out]; simp), hB1⟩
              case measure => simp [intOf]
        · have hne := HJN.out hp0
          have hv : Value.string (bstr L ++ ⟨#[43]⟩ ++ bstr (termB k)) = Value.string (bstr (if pre = [] then termB k else L ++ 43 :: termB k)) := by
            rw [if_neg hp0, show (⟨#[43]⟩ : ByteArray) = bstr [43] from rfl, bstr_append, bstr_append]
            simp
          have e1 : ¬ (bstr L).toList = [] := by rw [ByteArray.toList_eq]; simpa [bstr] using hne
          have e2 : ((bstr L).toList == []) = false := by simpa using e1
          have e3 : ((bstr L).toList.isEmpty) = false := by simpa using e1
          obtain ⟨T, HT⟩ := nm (bstr L)
          rw [HT.out] at hjl e1 e2 e3 hv ⊢
          clear hp0 hne HJN HJ0
          by_cases k0 : k = 0
          · have a1 : (k : Int) ≤ 1 := by omega
            have a2 : ((k : Int) == 1) = false := beq_false_of_ne (by omega)
            rw [show bstr (termB k) = ⟨#[49]⟩ by rw [k0]; rfl] at hv
            have HV := Lib.hid hv
            clear hv HTT k0
            go_wp2_with fail
            go_roundw
            case rel => exact ⟨k, pre ++ [⟨k, by omega⟩], by omega, rfl, by rw [HJS.out ⟨k, by omega⟩]; exact HV.out, Lib.hid (by rw [He.out, HX.out]; simp), hBr⟩
            case measure => simp [intOf]
          · by_cases k1 : k = 1
            · have a1 : (k : Int) ≤ 1 := by omega
              have a2 : ((k : Int) == 1) = true := by rw [k1]; rfl
              rw [show bstr (termB k) = ⟨#[120]⟩ by rw [k1]; rfl] at hv
              have HV := Lib.hid hv
              clear hv HTT k0 k1
              go_wp2_with fail
              go_roundw
              case rel => exact ⟨k, pre ++ [⟨k, by omega⟩], by omega, rfl, by rw [HJS.out ⟨k, by omega⟩]; exact HV.out, Lib.hid (by rw [He.out, HX.out]; simp), hBr⟩
              case measure => simp [intOf]
            · rw [HTT.out k0 k1, ← ByteArray.append_assoc] at hv
              have HV := Lib.hid hv
              have k2 : 1 < (k : Int) := by omega
              clear hv HTT k0 k1
              go_wp2_with fail
              refine (HDC.out _).mono ?_
              rintro e w1 ⟨rfl, hb1⟩
              have hB1 := hBr.trans (hb1.mono hBr.size)
              clear hBr hb1
              go_wp2_with fail
              go_roundw
              case rel => exact ⟨k, pre ++ [⟨k, by omega⟩], by omega, rfl, by rw [HJS.out ⟨k, by omega⟩]; exact HV.out, Lib.hid (by rw [He.out, HX.out]; simp), hB1⟩
              case measure => simp [intOf]
end Go.Proofs.YtidkjcflppbpdaaDoor
