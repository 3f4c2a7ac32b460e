/- Masks of CPUs: the walks of strings.Cut at one byte, strconv.Atoi, mask.Read's inner function. -/
import Derived.Test.YtjpkldndeakkkaaDoorMskE
import Derived.Deep.QuietTactic
import Derived.BigQuiet
namespace Go.Proofs.YtjpkldndeakkkaaDoor
open Go Go.RowKit Go.Shelf

/-- What lies before the first c, and behind it. -/
def cutA (R : List UInt8) (c : UInt8) : List UInt8 := R.takeWhile fun x => x != c
def cutR (R : List UInt8) (c : UInt8) : List UInt8 := (R.dropWhile fun x => x != c).drop 1
theorem tw_all {α : Type} {p : α → Bool} : ∀ {l : List α}, (∀ x ∈ l, p x = true) → l.takeWhile p = l ∧ l.dropWhile p = []
  | [], _ => ⟨rfl, rfl⟩
  | x :: l, h => by
    have h1 := h x List.mem_cons_self
    have h2 := tw_all (fun y hy => h y (List.mem_cons_of_mem _ hy) : ∀ y ∈ l, p y = true)
    rw [List.takeWhile_cons_of_pos h1, List.dropWhile_cons_of_pos h1, h2.1, h2.2]
    exact ⟨rfl, rfl⟩
theorem cut_none {R : List UInt8} {c : UInt8} (h : Lib.indexByte R c = -1) : cutA R c = R ∧ cutR R c = [] ∧ c ∉ R := by
  have hn : ∀ x ∈ R, (x != c) = true := fun x hx => by
    obtain ⟨i, hi, he⟩ := List.mem_iff_getElem.1 hx
    have := Lib.indexByte_none h i
    rw [List.getElem?_eq_getElem hi, he] at this
    simpa using this
  refine ⟨(tw_all hn).1, ?_, fun hc => by simpa using hn c hc⟩
  unfold cutR
  rw [(tw_all hn).2]; rfl
theorem cut_some {R : List UInt8} {c : UInt8} {o : Nat} (h : Lib.indexByte R c = (o : Int)) : o < R.length ∧ cutA R c = R.take o ∧ cutR R c = R.drop (o + 1) ∧ c ∈ R := by
  obtain ⟨h1, h2⟩ := Lib.indexByte_some h
  have hlt : o < R.length := (List.getElem?_eq_some_iff.1 h1).1
  have hs : R = R.take o ++ c :: R.drop (o + 1) := by
    rw [List.getElem?_eq_getElem hlt] at h1
    have := List.drop_eq_getElem_cons hlt
    rw [Option.some.inj h1] at this
    rw [← this]
    exact (List.take_append_drop o R).symm
  have hn : ∀ x ∈ R.take o, (x != c) = true := fun x hx => by
    obtain ⟨i, hi, he⟩ := List.mem_iff_getElem.1 hx
    rw [List.length_take] at hi
    rw [List.getElem_take] at he
    have := h2 i (by omega)
    rw [List.getElem?_eq_getElem (by omega), he] at this
    simpa using this
  refine ⟨hlt, ?_, ?_, List.mem_of_getElem? h1⟩
  · unfold cutA
    conv => lhs; rw [hs]
    rw [List.takeWhile_append_of_pos hn, List.takeWhile_cons_of_neg (by simp), List.append_nil]
  · unfold cutR
    conv => lhs; rw [hs]
    rw [List.dropWhile_append_of_pos hn, List.dropWhile_cons_of_neg (by simp)]
    rfl
theorem bstr_toList (r : ByteArray) : bstr r.data.toList = r := by
  apply ByteArray.ext
  exact Array.toArray_toList
theorem bstr_size (l : List UInt8) : (bstr l).size = l.length := by simp [bstr, ByteArray.size]
theorem bstr_take (l : List UInt8) (o : Nat) : (bstr l).extract 0 o = bstr (l.take o) := by
  apply ByteArray.ext
  simp [bstr, ByteArray.data_extract]
theorem bstr_drop (l : List UInt8) (o : Nat) : (bstr l).extract o l.length = bstr (l.drop o) := by
  apply ByteArray.ext
  rw [ByteArray.data_extract]
  apply Array.toList_inj.1
  rw [Array.toList_extract]
  simp only [bstr, List.extract]
  exact List.take_of_length_le (by rw [List.length_drop]; omega)

set_option maxHeartbeats 1000000 in
theorem lcut_any (R : List UInt8) (c : UInt8) (hR : R.length < 1000000) (w : World) :
    Calls Tryd.prog 56 #[.string (bstr R), .string (bstr [c])] w fun e w' => e = .returned (.tuple #[.string (bstr (cutA R c)), .string (bstr (cutR R c)), .bool (decide (c ∈ R))]) ∧ Below w.heap.size w w' := by
  have hix := fun W => Tryd.stringslite_Index_one (bstr R) c W
  rw [show (bstr R).data.toList = R by simp [bstr]] at hix
  have hge := Lib.indexByte_ge R c
  by_cases hi : Lib.indexByte R c = -1
  · obtain ⟨h1, h2, h3⟩ := cut_none hi
    rw [h1, h2, decide_eq_false h3]
    simp only [hi] at hix
    have HI := Lib.hid hix
    obtain ⟨s, HS⟩ := nm (bstr R)
    rw [HS.out] at HI ⊢
    obtain ⟨p, HP⟩ := nm (bstr [c])
    rw [show (⟨#[c]⟩ : ByteArray) = p from HP.out] at HI
    rw [HP.out]
    clear hix hge hi h1 h2 h3
    go_enter Tryd.func56, Tryd.ntmps56
    go_wp2_with fail
    refine (HI.out _).mono ?_
    rintro e w1 ⟨rfl, rfl⟩
    go_wp2_with fail
    go_ret3
    exact ⟨rfl, bel_refl _⟩
  · obtain ⟨o, ho⟩ := Int.eq_ofNat_of_zero_le (show 0 ≤ Lib.indexByte R c by omega)
    obtain ⟨h0, h1, h2, h3⟩ := cut_some ho
    rw [h1, h2, decide_eq_true h3]
    simp only [ho] at hix
    have HI := Lib.hid hix
    have e1 := bstr_take R o
    have e2 := bstr_drop R (o + 1)
    have e3 := bstr_size R
    obtain ⟨n, HN⟩ := nm R.length
    rw [HN.out] at e2 e3 h0 hR
    obtain ⟨A, HA⟩ := nm (bstr (R.take o))
    obtain ⟨B, HB⟩ := nm (bstr (R.drop (o + 1)))
    rw [HA.out] at e1 ⊢
    rw [HB.out] at e2 ⊢
    obtain ⟨s, HS⟩ := nm (bstr R)
    rw [HS.out] at HI e1 e2 e3 ⊢
    have hw1 : IntKind.i64.wrap ((o : Int) + 1) = (o : Int) + 1 := IntWalk.i64_in _ (by omega)
    have ht1 : ((o : Int) + 1).toNat = o + 1 := by omega
    have i0 : (0 : Int) ≤ (o : Int) := by omega
    have i1 : (o : Int) ≤ (n : Int) := by omega
    have i2 : (o : Int) + 1 ≤ (n : Int) := by omega
    have i3 : (0 : Int) ≤ (o : Int) + 1 := by omega
    have hps : (bstr [c]).size = 1 := rfl
    have i4 : o ≤ n := by omega
    have i5 : o + 1 ≤ n := by omega
    obtain ⟨p, HP⟩ := nm (bstr [c])
    rw [show (⟨#[c]⟩ : ByteArray) = p from HP.out] at HI
    rw [HP.out] at hps ⊢
    clear hix hge hi h1 h2 h3 ho
    go_enter Tryd.func56, Tryd.ntmps56
    go_wp2_with fail
    refine (HI.out _).mono ?_
    rintro e w1 ⟨rfl, rfl⟩
    go_wp2_with fail
    go_quiet (fail)
    go_wp2_with fail
    go_ret3
    exact ⟨rfl, below_drewN (bel_refl _) _⟩
theorem scut_any (R : List UInt8) (c : UInt8) (hR : R.length < 1000000) (w : World) :
    Calls Tryd.prog 36 #[.string (bstr R), .string (bstr [c])] w fun e w' => e = .returned (.tuple #[.string (bstr (cutA R c)), .string (bstr (cutR R c)), .bool (decide (c ∈ R))]) ∧ Below w.heap.size w w' := by
  have H := Lib.hid (fun W => lcut_any R c hR W)
  obtain ⟨A, HA⟩ := nm (bstr (cutA R c))
  obtain ⟨B, HB⟩ := nm (bstr (cutR R c))
  obtain ⟨d, HD⟩ := nm (decide (c ∈ R))
  obtain ⟨s, HS⟩ := nm (bstr R)
  obtain ⟨p, HP⟩ := nm (bstr [c])
  rw [HA.out, HB.out, HD.out, HS.out, HP.out] at H ⊢
  clear hR
  go_enter Tryd.func36, Tryd.ntmps36
  go_wp2_with fail
  refine (H.out _).mono ?_
  rintro e w1 ⟨rfl, hb⟩
  go_wp2_with fail
  go_ret3
  exact ⟨rfl, hb⟩
end Go.Proofs.YtjpkldndeakkkaaDoor
