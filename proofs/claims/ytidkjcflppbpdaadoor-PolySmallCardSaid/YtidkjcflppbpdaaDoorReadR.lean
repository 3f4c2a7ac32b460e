/- The reference's way of reading polynomials: the walk of Read. -/
import Derived.Test.YtidkjcflppbpdaaDoorTextR
import Derived.Test.YtidkjcflppbpdaaDoorHeld
import Derived.LoopTactic
namespace Go.Proofs.YtidkjcflppbpdaaDoor
open Go Go.RowKit Go.Shelf

/-- The word that begins at one place and ends before another. -/
def wordAt (L : List UInt8) (a t : Nat) : List UInt8 := (L.drop a).take (t - a)
theorem word_clean {L : List UInt8} {a t : Nat} (h : ∀ j, a ≤ j → j < t → L[j]? ≠ some 43) : ∀ c ∈ wordAt L a t, c ≠ 43 := by
  intro c hc e
  subst e
  obtain ⟨i, hi, he⟩ := List.mem_iff_getElem.1 hc
  unfold wordAt at hi he
  rw [List.getElem_take, List.getElem_drop] at he
  rw [List.length_take, List.length_drop] at hi
  exact h (a + i) (by omega) (by omega) (by rw [List.getElem?_eq_getElem (by omega), he])
theorem spl_word {L : List UInt8} {a t : Nat} (hat : a ≤ t) (h : ∀ j, a ≤ j → j < t → L[j]? ≠ some 43) :
    (∀ (_ : L[t]? = some 43), spl (L.drop a) = wordAt L a t :: spl (L.drop (t + 1))) ∧ (t = L.length → spl (L.drop a) = [wordAt L a t]) := by
  have hc := word_clean h
  have hs : L.drop a = wordAt L a t ++ L.drop t := by
    unfold wordAt
    have := List.take_append_drop (t - a) (L.drop a)
    rw [List.drop_drop, show a + (t - a) = t by omega] at this
    exact this.symm
  refine ⟨fun h1 => ?_, fun h1 => ?_⟩
  · have hlt : t < L.length := (List.getElem?_eq_some_iff.1 h1).1
    have hd : L.drop t = 43 :: L.drop (t + 1) := by
      rw [List.drop_eq_getElem_cons hlt]
      rw [List.getElem?_eq_getElem hlt] at h1
      cases h1' : L[t] with
      | _ => rw [Option.some.inj h1] at h1'; rw [← h1']
    rw [hs, hd]
    exact spl_at _ _ hc
  · rw [hs, h1, List.drop_length, List.append_nil]
    rw [h1] at hc
    exact spl_none _ hc
theorem text_one : ∀ k, k < 64 → textB (1 <<< k) = termB k := by decide +kernel

set_option maxHeartbeats 1000000 in
theorem rread_long (s : ByteArray) (hs : 400 < s.size) (w : World) :
    Calls Tryd.prog 26 #[.string s] w fun e w' => e = .returned (.tuple #[.int .u64 (readV s.data.toList), .int .i64 (readE s.data.toList)]) ∧ Below w.heap.size w w' := by
  have hl : 400 < s.data.toList.length := hs
  have hv : readV s.data.toList = 0 := by unfold readV; rw [if_pos hl]
  have he : readE s.data.toList = 3 := by unfold readE; rw [if_pos hl]
  rw [hv, he]
  clear hv he hl
  go_enter Tryd.func26, Tryd.ntmps26
  go_wp2_with fail
  go_ret2
  exact ⟨rfl, bel_refl _⟩

set_option maxRecDepth 100000 in
set_option maxHeartbeats 2000000 in
theorem rread_short (s : ByteArray) (hs : s.size ≤ 400) (w : World) :
    Calls Tryd.prog 26 #[.string s] w fun e w' => e = .returned (.tuple #[.int .u64 (readV s.data.toList), .int .i64 (readE s.data.toList)]) ∧ Below w.heap.size w w' := by
  have hrr := read_ref (l := s.data.toList) hs
  have HR := Lib.hid hrr
  clear hrr
  go_enter Tryd.func26, Tryd.ntmps26
  go_wp2_with fail
  go_loopw [4, 5] (fun vp va wr => ∃ (a : Nat) (ws : List (List UInt8)), a ≤ s.size + 1 ∧ va = .int .i64 (a : Int) ∧ vp = .int .u64 ((orW ws 0 : Nat) : Int) ∧ Hid ((a ≤ s.size → spl s.data.toList = ws ++ spl (s.data.toList.drop a)) ∧ (s.size < a → spl s.data.toList = ws)) ∧ Below w.heap.size w wr)
    (fun _ va _ => s.size + 1 - (intOf va).toNat)
  case atStart => exact ⟨0, [], by omega, rfl, rfl, Lib.hid ⟨fun _ => rfl, fun h => absurd h (Nat.not_lt_zero _)⟩, bel_refl _⟩
  case round =>
    obtain ⟨a, ws, ha, rfl, rfl, HW, hBr⟩ := hrel
    by_cases hlt : a < s.size
    · obtain ⟨wo, rfl⟩ : ∃ wo : World, wo = wr := ⟨_, rfl⟩
      go_wp2_with fail
      go_loop [6] (fun vt => ∃ t : Nat, a ≤ t ∧ t ≤ s.size ∧ vt = .int .i64 (t : Int) ∧ Hid (∀ j, a ≤ j → j < t → s.data.toList[j]? ≠ some 43)) (fun vt => s.size - (intOf vt).toNat)
      case atStart => exact ⟨a, by omega, by omega, rfl, Lib.hid (fun j h1 h2 => absurd h2 (by omega))⟩
      case round =>
        obtain ⟨t, hat, htn, rfl, HC⟩ := hrel
        by_cases hts : t < s.size
        · have hts43 : ∀ (_ : (((s[t].toNat : Nat) : Int) != 43) = true), s.data.toList[t]? ≠ some 43 := fun h e => by
            have e1 := (List.getElem?_eq_some_iff.1 e).2
            have e2 : s[t] = 43 := by rw [← e1]; rfl
            rw [e2] at h
            cases h
          have hts43' : ∀ (_ : (((s[t].toNat : Nat) : Int) != 43) = false), s.data.toList[t]? = some 43 := fun h => by
            have e1 : s[t].toNat = 43 := by
              have := bne_eq_false_iff_eq.1 h
              omega
            have e2 : s[t] = 43 := UInt8.toNat_inj.1 e1
            rw [List.getElem?_eq_getElem (show t < s.data.toList.length from hts)]
            exact congrArg some (e2 ▸ rfl)
          have H43 := Lib.hid hts43
          have H43' := Lib.hid hts43'
          clear hts43 hts43'
          cases hb : (((s[t].toNat : Nat) : Int) != 43) with
          | true =>
            have hn := H43.out hb
            have HN := Lib.hid hn
            clear hn
            go_wp2_with fail
            go_round
            case rel =>
              refine ⟨t + 1, by omega, by omega, by go_num, Lib.hid (fun j h1 h2 => ?_)⟩
              by_cases e : j = t
              · rw [e]; exact HN.out
              · exact HC.out j h1 (by omega)
            case measure => simp [intOf]; omega
          | false =>
            have hn := H43'.out hb
            have HSP := Lib.hid (show (t < s.size → spl (s.data.toList.drop a) = wordAt s.data.toList a t :: spl (s.data.toList.drop (t + 1))) ∧ (t = s.size → spl (s.data.toList.drop a) = [wordAt s.data.toList a t]) from ⟨fun _ => (spl_word hat HC.out).1 hn, fun h => (spl_word hat HC.out).2 h⟩)
            clear hn H43 H43'
            go_wp2_with fail
            go_loopw [4, 7] (fun vp vi wr => ∃ k : Nat, k ≤ 64 ∧ vi = .int .i64 (k : Int) ∧ vp = .int .u64 ((orW ws 0 ||| orT (wordAt s.data.toList a t) k : Nat) : Int) ∧ Below w.heap.size w wr) (fun _ vi _ => 64 - (intOf vi).toNat)
            case atStart => exact ⟨0, by omega, rfl, by rw [show orT (wordAt s.data.toList a t) 0 = 0 from rfl, Nat.or_zero], hBr⟩
            case round =>
              obtain ⟨k, hk, rfl, rfl, hBi⟩ := hrel
              by_cases hk64 : k < 64
              · have hT := rtext_any (1 <<< k) (one_shl_lt hk64)
                rw [text_one k hk64] at hT
                have HTX := Lib.hid hT
                have hsh := wrap_shl_one hk64
                have hPl := Nat.or_lt_two_pow (n := 64) (orW_lt ws 0 (by decide)) (Nat.lt_of_lt_of_le (orT_lt (wordAt s.data.toList a t) k) (Nat.pow_le_pow_right (by decide) hk))
                have hor := u64_or_nat _ _ hPl (one_shl_lt hk64)
                have hst : orT (wordAt s.data.toList a t) (k + 1) = if termB k = wordAt s.data.toList a t then orT (wordAt s.data.toList a t) k ||| 1 <<< k else orT (wordAt s.data.toList a t) k := rfl
                have heq : ((s.extract a t).toList == (bstr (termB k)).toList) = decide (termB k = wordAt s.data.toList a t) := by
                  rw [ByteArray.toList_eq, ByteArray.toList_eq, show (bstr (termB k)).data.toList = termB k by simp [bstr], show (s.extract a t).data.toList = wordAt s.data.toList a t by simp [wordAt, List.extract]]
                  by_cases h : termB k = wordAt s.data.toList a t
                  · rw [h]; simp
                  · rw [decide_eq_false h]; exact beq_false_of_ne (fun e => h e.symm)
                have HST := Lib.hid hst
                obtain ⟨P, HP⟩ := nm (orW ws 0 ||| orT (wordAt s.data.toList a t) k)
                obtain ⟨X, HX⟩ := nm (1 <<< k)
                obtain ⟨T, HTK⟩ := nm (bstr (termB k))
                obtain ⟨P2, HP2⟩ := nm (P ||| X)
                rw [HP.out, HX.out, HP2.out] at hor
                rw [HP.out] at hPl ⊢
                rw [HX.out] at hsh HTX HST
                rw [HTK.out] at HTX heq
                have hD : Below wr.heap.size wr wr.drew := (bel_refl wr).drew
                clear hT hst
                cases hd : decide (termB k = wordAt s.data.toList a t) with
                | true =>
                  rw [hd] at heq
                  have HD := Lib.hid (of_decide_eq_true hd)
                  clear hd
                  go_wp2_with fail
                  refine wp_region_held_drew (S := fun W => Below wr.heap.size wr W) (by kernel_rfl) hD (fun hS => ?_)
                  refine wpAnyH_takeD (i := 0) (d := some 32) (v := ?_) rfl rfl (by kernel_rfl) (by kernel_rfl) (by kernel_rfl) (fun _ _ _ h => h) (Or.inl ⟨by rfl, fun w hSw => ?_⟩) (by assumption) ?_
                  rotate_left
                  · first | (go_simp; done) | (go_simp; with_reducible rfl)
                  simp only [Act.put, List.setIfInBounds_toArray, List.set_cons_zero, List.set_cons_succ]
                  refine wpAnyH_takeD (i := 1) (d := some 33) (v := ?_) rfl rfl (by kernel_rfl) (by kernel_rfl) (by kernel_rfl) (fun _ _ _ h => h) (Or.inl ⟨by rfl, fun w hSw => ?_⟩) (by assumption) ?_
                  rotate_left
                  · first | (go_simp; done) | (go_simp; with_reducible rfl)
                  simp only [Act.put, List.setIfInBounds_toArray, List.set_cons_zero, List.set_cons_succ]
                  refine wpAnyH_takeD (i := 2) (d := some 34) (v := ?_) rfl rfl (by kernel_rfl) (by kernel_rfl) (by kernel_rfl) (fun _ _ _ h => h) (Or.inl ⟨by rfl, fun w hSw => ?_⟩) (by assumption) ?_
                  rotate_left
                  · first | (go_simp; done) | (go_simp; with_reducible rfl)
                  simp only [Act.put, List.setIfInBounds_toArray, List.set_cons_zero, List.set_cons_succ]
                  refine wpAnyH_takeD (i := 3) (d := some 35) (v := ?_) rfl rfl (by kernel_rfl) (by kernel_rfl) (by kernel_rfl) (fun _ _ _ h => h) (Or.inl ⟨by rfl, fun w hSw => ?_⟩) (by assumption) ?_
                  rotate_left
                  · first | (go_simp; done) | (go_simp; with_reducible rfl)
                  simp only [Act.put, List.setIfInBounds_toArray, List.set_cons_zero, List.set_cons_succ]
                  refine wpAnyH_takeD (i := 4) (d := some 36) (v := ?_) rfl rfl (by kernel_rfl) (by kernel_rfl) (by kernel_rfl) (fun _ _ _ h => h) (Or.inl ⟨by rfl, fun w hSw => ?_⟩) (by assumption) ?_
                  rotate_left
                  · first | (go_simp; done) | (go_simp; with_reducible rfl)
                  simp only [Act.put, List.setIfInBounds_toArray, List.set_cons_zero, List.set_cons_succ]
                  refine wpAnyH_takeD (i := 5) (d := some 37) (v := ?_) rfl rfl (by kernel_rfl) (by kernel_rfl) (by kernel_rfl) (fun _ _ _ h => h) (Or.inl ⟨by rfl, fun w hSw => ?_⟩) (by assumption) ?_
                  rotate_left
                  · first | (go_simp; done) | (go_simp; with_reducible rfl)
                  simp only [Act.put, List.setIfInBounds_toArray, List.set_cons_zero, List.set_cons_succ]
                  refine wpAnyH_ready (rs := [6]) (by kernel_rfl) (by simp) ?_
                  refine AllReadyH.cons rfl (fun K hK => ?_) AllReadyH.nil
                  go_simp
                  refine (HTX.out _).mono ?_
                  rintro e wb ⟨rfl, hb⟩
                  have hBb := hD.trans (hb.mono (by simp))
                  clear hb
                  refine hK.out _ _ hBb (fun _ => ?_)
                  clear hK K hS
                  have hS := hBb
                  try simp only [Act.put, List.setIfInBounds_toArray, List.set_cons_zero, List.set_cons_succ]
                  refine wpAnyH_takeD (i := 7) (d := some 39) (v := ?_) rfl rfl (by kernel_rfl) (by kernel_rfl) (by kernel_rfl) (fun _ _ _ h => h) (Or.inl ⟨by rfl, fun w hSw => ?_⟩) (by assumption) ?_
                  rotate_left
                  · first | (go_simp; done) | (go_simp; with_reducible rfl)
                  simp only [Act.put, List.setIfInBounds_toArray, List.set_cons_zero, List.set_cons_succ]
                  refine wpAnyH_done (by kernel_rfl) ?_ _
                  go_wp2_with fail
                  go_roundw
                  case rel => exact ⟨k + 1, by omega, by go_num, by rw [HST.out, if_pos HD.out, ← Nat.or_assoc, HP.out, HP2.out], hBi.trans (hS.mono hBi.size)⟩
                  case measure => simp [intOf]; omega
                | false =>
                  rw [hd] at heq
                  have HD := Lib.hid (of_decide_eq_false hd)
                  clear hd
                  go_wp2_with fail
                  refine wp_region_held_drew (S := fun W => Below wr.heap.size wr W) (by kernel_rfl) hD (fun hS => ?_)
                  refine wpAnyH_takeD (i := 0) (d := some 32) (v := ?_) rfl rfl (by kernel_rfl) (by kernel_rfl) (by kernel_rfl) (fun _ _ _ h => h) (Or.inl ⟨by rfl, fun w hSw => ?_⟩) (by assumption) ?_
                  rotate_left
                  · first | (go_simp; done) | (go_simp; with_reducible rfl)
                  simp only [Act.put, List.setIfInBounds_toArray, List.set_cons_zero, List.set_cons_succ]
                  refine wpAnyH_takeD (i := 1) (d := some 33) (v := ?_) rfl rfl (by kernel_rfl) (by kernel_rfl) (by kernel_rfl) (fun _ _ _ h => h) (Or.inl ⟨by rfl, fun w hSw => ?_⟩) (by assumption) ?_
                  rotate_left
                  · first | (go_simp; done) | (go_simp; with_reducible rfl)
                  simp only [Act.put, List.setIfInBounds_toArray, List.set_cons_zero, List.set_cons_succ]
                  refine wpAnyH_takeD (i := 2) (d := some 34) (v := ?_) rfl rfl (by kernel_rfl) (by kernel_rfl) (by kernel_rfl) (fun _ _ _ h => h) (Or.inl ⟨by rfl, fun w hSw => ?_⟩) (by assumption) ?_
                  rotate_left
                  · first | (go_simp; done) | (go_simp; with_reducible rfl)
                  simp only [Act.put, List.setIfInBounds_toArray, List.set_cons_zero, List.set_cons_succ]
                  refine wpAnyH_takeD (i := 3) (d := some 35) (v := ?_) rfl rfl (by kernel_rfl) (by kernel_rfl) (by kernel_rfl) (fun _ _ _ h => h) (Or.inl ⟨by rfl, fun w hSw => ?_⟩) (by assumption) ?_
                  rotate_left
                  · first | (go_simp; done) | (go_simp; with_reducible rfl)
                  simp only [Act.put, List.setIfInBounds_toArray, List.set_cons_zero, List.set_cons_succ]
                  refine wpAnyH_takeD (i := 4) (d := some 36) (v := ?_) rfl rfl (by kernel_rfl) (by kernel_rfl) (by kernel_rfl) (fun _ _ _ h => h) (Or.inl ⟨by rfl, fun w hSw => ?_⟩) (by assumption) ?_
                  rotate_left
                  · first | (go_simp; done) | (go_simp; with_reducible rfl)
                  simp only [Act.put, List.setIfInBounds_toArray, List.set_cons_zero, List.set_cons_succ]
                  refine wpAnyH_takeD (i := 5) (d := some 37) (v := ?_) rfl rfl (by kernel_rfl) (by kernel_rfl) (by kernel_rfl) (fun _ _ _ h => h) (Or.inl ⟨by rfl, fun w hSw => ?_⟩) (by assumption) ?_
                  rotate_left
                  · first | (go_simp; done) | (go_simp; with_reducible rfl)
                  simp only [Act.put, List.setIfInBounds_toArray, List.set_cons_zero, List.set_cons_succ]
                  refine wpAnyH_ready (rs := [6]) (by kernel_rfl) (by simp) ?_
                  refine AllReadyH.cons rfl (fun K hK => ?_) AllReadyH.nil
                  go_simp
                  refine (HTX.out _).mono ?_
                  rintro e wb ⟨rfl, hb⟩
                  have hBb := hD.trans (hb.mono (by simp))
                  clear hb
                  refine hK.out _ _ hBb (fun _ => ?_)
                  clear hK K hS
                  have hS := hBb
                  try simp only [Act.put, List.setIfInBounds_toArray, List.set_cons_zero, List.set_cons_succ]
                  refine wpAnyH_takeD (i := 7) (d := some 39) (v := ?_) rfl rfl (by kernel_rfl) (by kernel_rfl) (by kernel_rfl) (fun _ _ _ h => h) (Or.inl ⟨by rfl, fun w hSw => ?_⟩) (by assumption) ?_
                  rotate_left
                  · first | (go_simp; done) | (go_simp; with_reducible rfl)
                  simp only [Act.put, List.setIfInBounds_toArray, List.set_cons_zero, List.set_cons_succ]
                  refine wpAnyH_done (by kernel_rfl) ?_ _
                  go_wp2_with fail
                  go_roundw
                  case rel => exact ⟨k + 1, by omega, by go_num, by rw [HST.out, if_neg HD.out, HP.out], hBi.trans (hS.mono hBi.size)⟩
                  case measure => simp [intOf]; omega
              · obtain rfl : k = 64 := by omega
                go_wp2_with fail
                go_roundw
                case rel =>
                  refine ⟨t + 1, ws ++ [wordAt s.data.toList a t], by omega, by go_num, by rw [orW_append]; rfl, Lib.hid ⟨fun h => ?_, fun h => ?_⟩, hBi⟩
                  · rw [(HW.out).1 (by omega), (HSP.out).1 (by omega)]; simp
                  · rw [(HW.out).1 (by omega), (HSP.out).2 (by omega)]
                case measure => simp [intOf]; omega
        · have HSP := Lib.hid (show (t < s.size → spl (s.data.toList.drop a) = wordAt s.data.toList a t :: spl (s.data.toList.drop (t + 1))) ∧ (t = s.size → spl (s.data.toList.drop a) = [wordAt s.data.toList a t]) from ⟨fun h => absurd h hts, fun h => (spl_word hat HC.out).2 h⟩)
          go_wp2_with fail
          go_loopw [4, 7] (fun vp vi wr => ∃ k : Nat, k ≤ 64 ∧ vi = .int .i64 (k : Int) ∧ vp = .int .u64 ((orW ws 0 ||| orT (wordAt s.data.toList a t) k : Nat) : Int) ∧ Below w.heap.size w wr) (fun _ vi _ => 64 - (intOf vi).toNat)
          case atStart => exact ⟨0, by omega, rfl, by rw [show orT (wordAt s.data.toList a t) 0 = 0 from rfl, Nat.or_zero], hBr⟩
          case round =>
            obtain ⟨k, hk, rfl, rfl, hBi⟩ := hrel
            by_cases hk64 : k < 64
            · have hT := rtext_any (1 <<< k) (one_shl_lt hk64)
              rw [text_one k hk64] at hT
              have HTX := Lib.hid hT
              have hsh := wrap_shl_one hk64
              have hPl := Nat.or_lt_two_pow (n := 64) (orW_lt ws 0 (by decide)) (Nat.lt_of_lt_of_le (orT_lt (wordAt s.data.toList a t) k) (Nat.pow_le_pow_right (by decide) hk))
              have hor := u64_or_nat _ _ hPl (one_shl_lt hk64)
              have hst : orT (wordAt s.data.toList a t) (k + 1) = if termB k = wordAt s.data.toList a t then orT (wordAt s.data.toList a t) k ||| 1 <<< k else orT (wordAt s.data.toList a t) k := rfl
              have heq : ((s.extract a t).toList == (bstr (termB k)).toList) = decide (termB k = wordAt s.data.toList a t) := by
                rw [ByteArray.toList_eq, ByteArray.toList_eq, show (bstr (termB k)).data.toList = termB k by simp [bstr], show (s.extract a t).data.toList = wordAt s.data.toList a t by simp [wordAt, List.extract]]
                by_cases h : termB k = wordAt s.data.toList a t
                · rw [h]; simp
                · rw [decide_eq_false h]; exact beq_false_of_ne (fun e => h e.symm)
              have HST := Lib.hid hst
              obtain ⟨P, HP⟩ := nm (orW ws 0 ||| orT (wordAt s.data.toList a t) k)
              obtain ⟨X, HX⟩ := nm (1 <<< k)
              obtain ⟨T, HTK⟩ := nm (bstr (termB k))
              obtain ⟨P2, HP2⟩ := nm (P ||| X)
              rw [HP.out, HX.out, HP2.out] at hor
              rw [HP.out] at hPl ⊢
              rw [HX.out] at hsh HTX HST
              rw [HTK.out] at HTX heq
              have hD : Below wr.heap.size wr wr.drew := (bel_refl wr).drew
              clear hT hst
              cases hd : decide (termB k = wordAt s.data.toList a t) with
              | true =>
                rw [hd] at heq
                have HD := Lib.hid (of_decide_eq_true hd)
                clear hd
                go_wp2_with fail
                refine wp_region_held_drew (S := fun W => Below wr.heap.size wr W) (by kernel_rfl) hD (fun hS => ?_)
                refine wpAnyH_takeD (i := 0) (d := some 32) (v := ?_) rfl rfl (by kernel_rfl) (by kernel_rfl) (by kernel_rfl) (fun _ _ _ h => h) (Or.inl ⟨by rfl, fun w hSw => ?_⟩) (by assumption) ?_
                rotate_left
                · first | (go_simp; done) | (go_simp; with_reducible rfl)
                simp only [Act.put, List.setIfInBounds_toArray, List.set_cons_zero, List.set_cons_succ]
                refine wpAnyH_takeD (i := 1) (d := some 33) (v := ?_) rfl rfl (by kernel_rfl) (by kernel_rfl) (by kernel_rfl) (fun _ _ _ h => h) (Or.inl ⟨by rfl, fun w hSw => ?_⟩) (by assumption) ?_
                rotate_left
                · first | (go_simp; done) | (go_simp; with_reducible rfl)
                simp only [Act.put, List.setIfInBounds_toArray, List.set_cons_zero, List.set_cons_succ]
                refine wpAnyH_takeD (i := 2) (d := some 34) (v := ?_) rfl rfl (by kernel_rfl) (by kernel_rfl) (by kernel_rfl) (fun _ _ _ h => h) (Or.inl ⟨by rfl, fun w hSw => ?_⟩) (by assumption) ?_
                rotate_left
                · first | (go_simp; done) | (go_simp; with_reducible rfl)
                simp only [Act.put, List.setIfInBounds_toArray, List.set_cons_zero, List.set_cons_succ]
                refine wpAnyH_takeD (i := 3) (d := some 35) (v := ?_) rfl rfl (by kernel_rfl) (by kernel_rfl) (by kernel_rfl) (fun _ _ _ h => h) (Or.inl ⟨by rfl, fun w hSw => ?_⟩) (by assumption) ?_
                rotate_left
                · first | (go_simp; done) | (go_simp; with_reducible rfl)
                simp only [Act.put, List.setIfInBounds_toArray, List.set_cons_zero, List.set_cons_succ]
                refine wpAnyH_takeD (i := 4) (d := some 36) (v := ?_) rfl rfl (by kernel_rfl) (by kernel_rfl) (by kernel_rfl) (fun _ _ _ h => h) (Or.inl ⟨by rfl, fun w hSw => ?_⟩) (by assumption) ?_
                rotate_left
                · first | (go_simp; done) | (go_simp; with_reducible rfl)
                simp only [Act.put, List.setIfInBounds_toArray, List.set_cons_zero, List.set_cons_succ]
                refine wpAnyH_takeD (i := 5) (d := some 37) (v := ?_) rfl rfl (by kernel_rfl) (by kernel_rfl) (by kernel_rfl) (fun _ _ _ h => h) (Or.inl ⟨by rfl, fun w hSw => ?_⟩) (by assumption) ?_
                rotate_left
                · first | (go_simp; done) | (go_simp; with_reducible rfl)
                simp only [Act.put, List.setIfInBounds_toArray, List.set_cons_zero, List.set_cons_succ]
                refine wpAnyH_ready (rs := [6]) (by kernel_rfl) (by simp) ?_
                refine AllReadyH.cons rfl (fun K hK => ?_) AllReadyH.nil
                go_simp
                refine (HTX.out _).mono ?_
                rintro e wb ⟨rfl, hb⟩
                have hBb := hD.trans (hb.mono (by simp))
                clear hb
                refine hK.out _ _ hBb (fun _ => ?_)
                clear hK K hS
                have hS := hBb
                try simp only [Act.put, List.setIfInBounds_toArray, List.set_cons_zero, List.set_cons_succ]
                refine wpAnyH_takeD (i := 7) (d := some 39) (v := ?_) rfl rfl (by kernel_rfl) (by kernel_rfl) (by kernel_rfl) (fun _ _ _ h => h) (Or.inl ⟨by rfl, fun w hSw => ?_⟩) (by assumption) ?_
                rotate_left
                · first | (go_simp; done) | (go_simp; with_reducible rfl)
                simp only [Act.put, List.setIfInBounds_toArray, List.set_cons_zero, List.set_cons_succ]
                refine wpAnyH_done (by kernel_rfl) ?_ _
                go_wp2_with fail
                go_roundw
                case rel => exact ⟨k + 1, by omega, by go_num, by rw [HST.out, if_pos HD.out, ← Nat.or_assoc, HP.out, HP2.out], hBi.trans (hS.mono hBi.size)⟩
                case measure => simp [intOf]; omega
              | false =>
                rw [hd] at heq
                have HD := Lib.hid (of_decide_eq_false hd)
                clear hd
                go_wp2_with fail
                refine wp_region_held_drew (S := fun W => Below wr.heap.size wr W) (by kernel_rfl) hD (fun hS => ?_)
                refine wpAnyH_takeD (i := 0) (d := some 32) (v := ?_) rfl rfl (by kernel_rfl) (by kernel_rfl) (by kernel_rfl) (fun _ _ _ h => h) (Or.inl ⟨by rfl, fun w hSw => ?_⟩) (by assumption) ?_
                rotate_left
                · first | (go_simp; done) | (go_simp; with_reducible rfl)
                simp only [Act.put, List.setIfInBounds_toArray, List.set_cons_zero, List.set_cons_succ]
                refine wpAnyH_takeD (i := 1) (d := some 33) (v := ?_) rfl rfl (by kernel_rfl) (by kernel_rfl) (by kernel_rfl) (fun _ _ _ h => h) (Or.inl ⟨by rfl, fun w hSw => ?_⟩) (by assumption) ?_
                rotate_left
                · first | (go_simp; done) | (go_simp; with_reducible rfl)
                simp only [Act.put, List.setIfInBounds_toArray, List.set_cons_zero, List.set_cons_succ]
                refine wpAnyH_takeD (i := 2) (d := some 34) (v := ?_) rfl rfl (by kernel_rfl) (by kernel_rfl) (by kernel_rfl) (fun _ _ _ h => h) (Or.inl ⟨by rfl, fun w hSw => ?_⟩) (by assumption) ?_
                rotate_left
                · first | (go_simp; done) | (go_simp; with_reducible rfl)
                simp only [Act.put, List.setIfInBounds_toArray, List.set_cons_zero, List.set_cons_succ]
                refine wpAnyH_takeD (i := 3) (d := some 35) (v := ?_) rfl rfl (by kernel_rfl) (by kernel_rfl) (by kernel_rfl) (fun _ _ _ h => h) (Or.inl ⟨by rfl, fun w hSw => ?_⟩) (by assumption) ?_
                rotate_left
                · first | (go_simp; done) | (go_simp; with_reducible rfl)
                simp only [Act.put, List.setIfInBounds_toArray, List.set_cons_zero, List.set_cons_succ]
                refine wpAnyH_takeD (i := 4) (d := some 36) (v := ?_) rfl rfl (by kernel_rfl) (by kernel_rfl) (by kernel_rfl) (fun _ _ _ h => h) (Or.inl ⟨by rfl, fun w hSw => ?_⟩) (by assumption) ?_
                rotate_left
                · first | (go_simp; done) | (go_simp; with_reducible rfl)
                simp only [Act.put, List.setIfInBounds_toArray, List.set_cons_zero, List.set_cons_succ]
                refine wpAnyH_takeD (i := 5) (d := some 37) (v := ?_) rfl rfl (by kernel_rfl) (by kernel_rfl) (by kernel_rfl) (fun _ _ _ h => h) (Or.inl ⟨by rfl, fun w hSw => ?_⟩) (by assumption) ?_
                rotate_left
                · first | (go_simp; done) | (go_simp; with_reducible rfl)
                simp only [Act.put, List.setIfInBounds_toArray, List.set_cons_zero, List.set_cons_succ]
                refine wpAnyH_ready (rs := [6]) (by kernel_rfl) (by simp) ?_
                refine AllReadyH.cons rfl (fun K hK => ?_) AllReadyH.nil
                go_simp
                refine (HTX.out _).mono ?_
                rintro e wb ⟨rfl, hb⟩
                have hBb := hD.trans (hb.mono (by simp))
                clear hb
                refine hK.out _ _ hBb (fun _ => ?_)
                clear hK K hS
                have hS := hBb
                try simp only [Act.put, List.setIfInBounds_toArray, List.set_cons_zero, List.set_cons_succ]
                refine wpAnyH_takeD (i := 7) (d := some 39) (v := ?_) rfl rfl (by kernel_rfl) (by kernel_rfl) (by kernel_rfl) (fun _ _ _ h => h) (Or.inl ⟨by rfl, fun w hSw => ?_⟩) (by assumption) ?_
                rotate_left
                · first | (go_simp; done) | (go_simp; with_reducible rfl)
                simp only [Act.put, List.setIfInBounds_toArray, List.set_cons_zero, List.set_cons_succ]
                refine wpAnyH_done (by kernel_rfl) ?_ _
                go_wp2_with fail
                go_roundw
                case rel => exact ⟨k + 1, by omega, by go_num, by rw [HST.out, if_neg HD.out, HP.out], hBi.trans (hS.mono hBi.size)⟩
                case measure => simp [intOf]; omega
            · obtain rfl : k = 64 := by omega
              go_wp2_with fail
              go_roundw
              case rel =>
                refine ⟨t + 1, ws ++ [wordAt s.data.toList a t], by omega, by go_num, by rw [orW_append]; rfl, Lib.hid ⟨fun h => ?_, fun h => ?_⟩, hBi⟩
                · rw [(HW.out).1 (by omega), (HSP.out).1 (by omega)]; simp
                · rw [(HW.out).1 (by omega), (HSP.out).2 (by omega)]
              case measure => simp [intOf]; omega
    · have hP : orW (spl s.data.toList) 0 = orW ws 0 := by
        by_cases h : a ≤ s.size
        · have h2 : s.data.toList.drop a = [] := List.drop_eq_nil_of_le (show s.data.toList.length ≤ a from Nat.le_of_not_lt hlt)
          rw [(HW.out).1 h, orW_append, h2]
          show orW ws 0 ||| orT [] 64 = _
          rw [orT_none [] termB_ne 64 (Nat.le_refl _), Nat.or_zero]
        · rw [(HW.out).2 (by omega)]
      have hrr := HR.out
      rw [hP] at hrr
      have hPl := orW_lt ws 0 (by decide)
      have hT := rtext_any (orW ws 0) hPl
      have heq : ((bstr (textB (orW ws 0))).toList == s.toList) = decide (textB (orW ws 0) = s.data.toList) := by
        rw [ByteArray.toList_eq, ByteArray.toList_eq, show (bstr (textB (orW ws 0))).data.toList = textB (orW ws 0) by simp [bstr]]
        by_cases h : textB (orW ws 0) = s.data.toList
        · rw [h]; simp
        · rw [decide_eq_false h]; exact beq_false_of_ne h
      obtain ⟨T, HT⟩ := nm (bstr (textB (orW ws 0)))
      simp only [HT.out] at hT
      rw [HT.out] at heq
      have HTX := Lib.hid hT
      clear hT hP hPl
      by_cases hd : textB (orW ws 0) = s.data.toList
      · have hz := hrr.1 hd
        rw [decide_eq_true hd] at heq
        have HZ := Lib.hid hz
        clear hz hrr hd
        go_wp2_with fail
        refine (HTX.out _).mono ?_
        rintro e w2 ⟨rfl, hb2⟩
        have hB2 := hBr.trans (hb2.mono hBr.size)
        clear hb2 hBr
        go_wp2_with fail
        go_ret2
        exact ⟨by rw [HZ.out.1, HZ.out.2]; rfl, hB2⟩
      · have hz := hrr.2 hd
        rw [decide_eq_false hd] at heq
        have HZ := Lib.hid hz
        clear hz hrr hd
        go_wp2_with fail
        refine (HTX.out _).mono ?_
        rintro e w2 ⟨rfl, hb2⟩
        have hB2 := hBr.trans (hb2.mono hBr.size)
        clear hb2 hBr
        go_wp2_with fail
        go_ret2
        exact ⟨by rw [HZ.out.1, HZ.out.2]; rfl, hB2⟩
theorem rread_any (s : ByteArray) (w : World) :
    Calls Tryd.prog 26 #[.string s] w fun e w' => e = .returned (.tuple #[.int .u64 (readV s.data.toList), .int .i64 (readE s.data.toList)]) ∧ Below w.heap.size w w' :=
  if h : s.size ≤ 400 then rread_short s h w else rread_long s (by omega) w
end Go.Proofs.YtidkjcflppbpdaaDoor
