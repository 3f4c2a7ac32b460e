/- The walks of quantumkit.ApartBytes and of what it calls. -/
import Derived.Test.YtmjigpnpcacefaaGreatDoorFlat
import Derived.Deep.DeepCutAuto
namespace Go.Proofs.YtmjigpnpcacefaaGreatDoor
open Go Go.RowKit Go.Shelf

set_option maxRecDepth 100000 in
set_option maxHeartbeats 4000000 in
theorem flatInts_nil (w : World) :
    Calls Tryz.prog 63 #[.slice none 0 0] w fun e w' => e = .returned (.bool true) ∧ Below w.heap.size w w' := by
  go_enter Tryz.func63, Tryz.ntmps63
  go_wp2_with fail
  go_loopw [3] (fun vk wr => vk = .int .i64 0 ∧ Below w.heap.size w wr) (fun _ _ => 0)
  case atStart => exact ⟨rfl, bel_refl _⟩
  case round =>
    obtain ⟨rfl, hB⟩ := hrel
    have HB := Lib.hid hB
    clear hB
    go_wp2_with (refine wpl_makeS rfl (.tmp 41) (.tmp 41) 82 rfl 23 24 Tryz.underlying82 (by kernel_rfl) (by decide) w.heap.size wr 0 _ _ rfl rfl rfl rfl (by decide) HB.out.size ?_; intro w2 ho2 hb2 hs2)
    have HB2 := Lib.hid (HB.out.trans (hb2.mono HB.out.size))
    obtain ⟨H, HH⟩ := nm wr.heap.size
    rw [HH.out]
    clear ho2 hb2 hs2 HB HH
    go_loopw [6] (fun vk wr => vk = .int .i64 0 ∧ Below w.heap.size w wr) (fun _ _ => 0)
    case atStart => exact ⟨rfl, HB2.out⟩
    case round =>
      obtain ⟨rfl, hB⟩ := hrel
      clear HB2
      have HB2 := Lib.hid hB
      clear hB
      go_wp2_with fail
      go_loopw [9] (fun vk wr => vk = .int .i64 0 ∧ Below w.heap.size w wr) (fun _ _ => 0)
      case atStart => exact ⟨rfl, HB2.out⟩
      case round =>
        obtain ⟨rfl, hB⟩ := hrel
        clear HB2
        have HB2 := Lib.hid hB
        clear hB
        go_wp2_with fail
        go_loopw [11] (fun vk wr => vk = .int .i64 0 ∧ Below w.heap.size w wr) (fun _ _ => 0)
        case atStart => exact ⟨rfl, HB2.out⟩
        case round =>
          obtain ⟨rfl, hB⟩ := hrel
          clear HB2
          have HB2 := Lib.hid hB
          clear hB
          go_wp2_with fail
          go_loopw [14] (fun vk wr => vk = .int .i64 0 ∧ Below w.heap.size w wr) (fun _ _ => 0)
          case atStart => exact ⟨rfl, HB2.out⟩
          case round =>
            obtain ⟨rfl, hB⟩ := hrel
            clear HB2
            have HB2 := Lib.hid hB
            clear hB
            go_wp2_with fail
            go_ret
            exact ⟨rfl, HB2.out⟩
set_option maxRecDepth 100000 in
set_option maxHeartbeats 4000000 in
theorem flatTexts_nil (w : World) :
    Calls Tryz.prog 64 #[.slice none 0 0] w fun e w' => e = .returned (.bool true) ∧ Below w.heap.size w w' := by
  go_enter Tryz.func64, Tryz.ntmps64
  go_wp2_with fail
  go_loopw [3] (fun vk wr => vk = .int .i64 0 ∧ Below w.heap.size w wr) (fun _ _ => 0)
  case atStart => exact ⟨rfl, bel_refl _⟩
  case round =>
    obtain ⟨rfl, hB⟩ := hrel
    have HB := Lib.hid hB
    clear hB
    go_wp2_with (refine wpl_makeS rfl (.tmp 41) (.tmp 41) 83 rfl 109 24 Tryz.underlying83 (by kernel_rfl) (by decide) w.heap.size wr 0 _ _ rfl rfl rfl rfl (by decide) HB.out.size ?_; intro w2 ho2 hb2 hs2)
    have HB2 := Lib.hid (HB.out.trans (hb2.mono HB.out.size))
    obtain ⟨H, HH⟩ := nm wr.heap.size
    rw [HH.out]
    clear ho2 hb2 hs2 HB HH
    go_loopw [6] (fun vk wr => vk = .int .i64 0 ∧ Below w.heap.size w wr) (fun _ _ => 0)
    case atStart => exact ⟨rfl, HB2.out⟩
    case round =>
      obtain ⟨rfl, hB⟩ := hrel
      clear HB2
      have HB2 := Lib.hid hB
      clear hB
      go_wp2_with fail
      go_loopw [9] (fun vk wr => vk = .int .i64 0 ∧ Below w.heap.size w wr) (fun _ _ => 0)
      case atStart => exact ⟨rfl, HB2.out⟩
      case round =>
        obtain ⟨rfl, hB⟩ := hrel
        clear HB2
        have HB2 := Lib.hid hB
        clear hB
        go_wp2_with fail
        go_loopw [11] (fun vk wr => vk = .int .i64 0 ∧ Below w.heap.size w wr) (fun _ _ => 0)
        case atStart => exact ⟨rfl, HB2.out⟩
        case round =>
          obtain ⟨rfl, hB⟩ := hrel
          clear HB2
          have HB2 := Lib.hid hB
          clear hB
          go_wp2_with fail
          go_loopw [14] (fun vk wr => vk = .int .i64 0 ∧ Below w.heap.size w wr) (fun _ _ => 0)
          case atStart => exact ⟨rfl, HB2.out⟩
          case round =>
            obtain ⟨rfl, hB⟩ := hrel
            clear HB2
            have HB2 := Lib.hid hB
            clear hB
            go_wp2_with fail
            go_ret
            exact ⟨rfl, HB2.out⟩
set_option maxRecDepth 100000 in
set_option maxHeartbeats 4000000 in
theorem flatWords_nil (w : World) :
    Calls Tryz.prog 66 #[.slice none 0 0] w fun e w' => e = .returned (.bool true) ∧ Below w.heap.size w w' := by
  go_enter Tryz.func66, Tryz.ntmps66
  go_wp2_with fail
  go_loopw [3] (fun vk wr => vk = .int .i64 0 ∧ Below w.heap.size w wr) (fun _ _ => 0)
  case atStart => exact ⟨rfl, bel_refl _⟩
  case round =>
    obtain ⟨rfl, hB⟩ := hrel
    have HB := Lib.hid hB
    clear hB
    go_wp2_with (refine wpl_makeS rfl (.tmp 41) (.tmp 41) 84 rfl 30 24 Tryz.underlying84 (by kernel_rfl) (by decide) w.heap.size wr 0 _ _ rfl rfl rfl rfl (by decide) HB.out.size ?_; intro w2 ho2 hb2 hs2)
    have HB2 := Lib.hid (HB.out.trans (hb2.mono HB.out.size))
    obtain ⟨H, HH⟩ := nm wr.heap.size
    rw [HH.out]
    clear ho2 hb2 hs2 HB HH
    go_loopw [6] (fun vk wr => vk = .int .i64 0 ∧ Below w.heap.size w wr) (fun _ _ => 0)
    case atStart => exact ⟨rfl, HB2.out⟩
    case round =>
      obtain ⟨rfl, hB⟩ := hrel
      clear HB2
      have HB2 := Lib.hid hB
      clear hB
      go_wp2_with fail
      go_loopw [9] (fun vk wr => vk = .int .i64 0 ∧ Below w.heap.size w wr) (fun _ _ => 0)
      case atStart => exact ⟨rfl, HB2.out⟩
      case round =>
        obtain ⟨rfl, hB⟩ := hrel
        clear HB2
        have HB2 := Lib.hid hB
        clear hB
        go_wp2_with fail
        go_loopw [11] (fun vk wr => vk = .int .i64 0 ∧ Below w.heap.size w wr) (fun _ _ => 0)
        case atStart => exact ⟨rfl, HB2.out⟩
        case round =>
          obtain ⟨rfl, hB⟩ := hrel
          clear HB2
          have HB2 := Lib.hid hB
          clear hB
          go_wp2_with fail
          go_loopw [14] (fun vk wr => vk = .int .i64 0 ∧ Below w.heap.size w wr) (fun _ _ => 0)
          case atStart => exact ⟨rfl, HB2.out⟩
          case round =>
            obtain ⟨rfl, hB⟩ := hrel
            clear HB2
            have HB2 := Lib.hid hB
            clear hB
            go_wp2_with fail
            go_ret
            exact ⟨rfl, HB2.out⟩
set_option maxRecDepth 100000 in
set_option maxHeartbeats 4000000 in
theorem flatNums_nil (w : World) :
    Calls Tryz.prog 67 #[.slice none 0 0] w fun e w' => e = .returned (.bool true) ∧ Below w.heap.size w w' := by
  go_enter Tryz.func67, Tryz.ntmps67
  go_wp2_with fail
  go_loopw [3] (fun vk wr => vk = .int .i64 0 ∧ Below w.heap.size w wr) (fun _ _ => 0)
  case atStart => exact ⟨rfl, bel_refl _⟩
  case round =>
    obtain ⟨rfl, hB⟩ := hrel
    have HB := Lib.hid hB
    clear hB
    go_wp2_with (refine wpl_makeS rfl (.tmp 41) (.tmp 41) 85 rfl 112 24 Tryz.underlying85 (by kernel_rfl) (by decide) w.heap.size wr 0 _ _ rfl rfl rfl rfl (by decide) HB.out.size ?_; intro w2 ho2 hb2 hs2)
    have HB2 := Lib.hid (HB.out.trans (hb2.mono HB.out.size))
    obtain ⟨H, HH⟩ := nm wr.heap.size
    rw [HH.out]
    clear ho2 hb2 hs2 HB HH
    go_loopw [6] (fun vk wr => vk = .int .i64 0 ∧ Below w.heap.size w wr) (fun _ _ => 0)
    case atStart => exact ⟨rfl, HB2.out⟩
    case round =>
      obtain ⟨rfl, hB⟩ := hrel
      clear HB2
      have HB2 := Lib.hid hB
      clear hB
      go_wp2_with fail
      go_loopw [9] (fun vk wr => vk = .int .i64 0 ∧ Below w.heap.size w wr) (fun _ _ => 0)
      case atStart => exact ⟨rfl, HB2.out⟩
      case round =>
        obtain ⟨rfl, hB⟩ := hrel
        clear HB2
        have HB2 := Lib.hid hB
        clear hB
        go_wp2_with fail
        go_loopw [11] (fun vk wr => vk = .int .i64 0 ∧ Below w.heap.size w wr) (fun _ _ => 0)
        case atStart => exact ⟨rfl, HB2.out⟩
        case round =>
          obtain ⟨rfl, hB⟩ := hrel
          clear HB2
          have HB2 := Lib.hid hB
          clear hB
          go_wp2_with fail
          go_loopw [14] (fun vk wr => vk = .int .i64 0 ∧ Below w.heap.size w wr) (fun _ _ => 0)
          case atStart => exact ⟨rfl, HB2.out⟩
          case round =>
            obtain ⟨rfl, hB⟩ := hrel
            clear HB2
            have HB2 := Lib.hid hB
            clear hB
            go_wp2_with fail
            go_ret
            exact ⟨rfl, HB2.out⟩
set_option maxRecDepth 100000 in
set_option maxHeartbeats 4000000 in
theorem flatIntLists_nil (w : World) :
    Calls Tryz.prog 68 #[.slice none 0 0] w fun e w' => e = .returned (.bool true) ∧ Below w.heap.size w w' := by
  go_enter Tryz.func68, Tryz.ntmps68
  go_wp2_with fail
  go_loopw [3] (fun vk wr => vk = .int .i64 0 ∧ Below w.heap.size w wr) (fun _ _ => 0)
  case atStart => exact ⟨rfl, bel_refl _⟩
  case round =>
    obtain ⟨rfl, hB⟩ := hrel
    have HB := Lib.hid hB
    clear hB
    go_wp2_with (refine wpl_makeS rfl (.tmp 41) (.tmp 41) 86 rfl 82 24 Tryz.underlying86 (by kernel_rfl) (by decide) w.heap.size wr 0 _ _ rfl rfl rfl rfl (by decide) HB.out.size ?_; intro w2 ho2 hb2 hs2)
    have HB2 := Lib.hid (HB.out.trans (hb2.mono HB.out.size))
    obtain ⟨H, HH⟩ := nm wr.heap.size
    rw [HH.out]
    clear ho2 hb2 hs2 HB HH
    go_loopw [6] (fun vk wr => vk = .int .i64 0 ∧ Below w.heap.size w wr) (fun _ _ => 0)
    case atStart => exact ⟨rfl, HB2.out⟩
    case round =>
      obtain ⟨rfl, hB⟩ := hrel
      clear HB2
      have HB2 := Lib.hid hB
      clear hB
      go_wp2_with fail
      go_loopw [9] (fun vk wr => vk = .int .i64 0 ∧ Below w.heap.size w wr) (fun _ _ => 0)
      case atStart => exact ⟨rfl, HB2.out⟩
      case round =>
        obtain ⟨rfl, hB⟩ := hrel
        clear HB2
        have HB2 := Lib.hid hB
        clear hB
        go_wp2_with fail
        go_loopw [11] (fun vk wr => vk = .int .i64 0 ∧ Below w.heap.size w wr) (fun _ _ => 0)
        case atStart => exact ⟨rfl, HB2.out⟩
        case round =>
          obtain ⟨rfl, hB⟩ := hrel
          clear HB2
          have HB2 := Lib.hid hB
          clear hB
          go_wp2_with fail
          go_loopw [14] (fun vk wr => vk = .int .i64 0 ∧ Below w.heap.size w wr) (fun _ _ => 0)
          case atStart => exact ⟨rfl, HB2.out⟩
          case round =>
            obtain ⟨rfl, hB⟩ := hrel
            clear HB2
            have HB2 := Lib.hid hB
            clear hB
            go_wp2_with fail
            go_ret
            exact ⟨rfl, HB2.out⟩
set_option maxRecDepth 100000 in
set_option maxHeartbeats 4000000 in
theorem flatTextLists_nil (w : World) :
    Calls Tryz.prog 69 #[.slice none 0 0] w fun e w' => e = .returned (.bool true) ∧ Below w.heap.size w w' := by
  go_enter Tryz.func69, Tryz.ntmps69
  go_wp2_with fail
  go_loopw [3] (fun vk wr => vk = .int .i64 0 ∧ Below w.heap.size w wr) (fun _ _ => 0)
  case atStart => exact ⟨rfl, bel_refl _⟩
  case round =>
    obtain ⟨rfl, hB⟩ := hrel
    have HB := Lib.hid hB
    clear hB
    go_wp2_with (refine wpl_makeS rfl (.tmp 41) (.tmp 41) 87 rfl 83 24 Tryz.underlying87 (by kernel_rfl) (by decide) w.heap.size wr 0 _ _ rfl rfl rfl rfl (by decide) HB.out.size ?_; intro w2 ho2 hb2 hs2)
    have HB2 := Lib.hid (HB.out.trans (hb2.mono HB.out.size))
    obtain ⟨H, HH⟩ := nm wr.heap.size
    rw [HH.out]
    clear ho2 hb2 hs2 HB HH
    go_loopw [6] (fun vk wr => vk = .int .i64 0 ∧ Below w.heap.size w wr) (fun _ _ => 0)
    case atStart => exact ⟨rfl, HB2.out⟩
    case round =>
      obtain ⟨rfl, hB⟩ := hrel
      clear HB2
      have HB2 := Lib.hid hB
      clear hB
      go_wp2_with fail
      go_loopw [9] (fun vk wr => vk = .int .i64 0 ∧ Below w.heap.size w wr) (fun _ _ => 0)
      case atStart => exact ⟨rfl, HB2.out⟩
      case round =>
        obtain ⟨rfl, hB⟩ := hrel
        clear HB2
        have HB2 := Lib.hid hB
        clear hB
        go_wp2_with fail
        go_loopw [11] (fun vk wr => vk = .int .i64 0 ∧ Below w.heap.size w wr) (fun _ _ => 0)
        case atStart => exact ⟨rfl, HB2.out⟩
        case round =>
          obtain ⟨rfl, hB⟩ := hrel
          clear HB2
          have HB2 := Lib.hid hB
          clear hB
          go_wp2_with fail
          go_loopw [14] (fun vk wr => vk = .int .i64 0 ∧ Below w.heap.size w wr) (fun _ _ => 0)
          case atStart => exact ⟨rfl, HB2.out⟩
          case round =>
            obtain ⟨rfl, hB⟩ := hrel
            clear HB2
            have HB2 := Lib.hid hB
            clear hB
            go_wp2_with fail
            go_ret
            exact ⟨rfl, HB2.out⟩
set_option maxRecDepth 100000 in
set_option maxHeartbeats 4000000 in
theorem flatByteLists_nil (w : World) :
    Calls Tryz.prog 70 #[.slice none 0 0] w fun e w' => e = .returned (.bool true) ∧ Below w.heap.size w w' := by
  go_enter Tryz.func70, Tryz.ntmps70
  go_wp2_with fail
  go_loopw [3] (fun vk wr => vk = .int .i64 0 ∧ Below w.heap.size w wr) (fun _ _ => 0)
  case atStart => exact ⟨rfl, bel_refl _⟩
  case round =>
    obtain ⟨rfl, hB⟩ := hrel
    have HB := Lib.hid hB
    clear hB
    go_wp2_with (refine wpl_makeS rfl (.tmp 41) (.tmp 41) 88 rfl 54 24 Tryz.underlying88 (by kernel_rfl) (by decide) w.heap.size wr 0 _ _ rfl rfl rfl rfl (by decide) HB.out.size ?_; intro w2 ho2 hb2 hs2)
    have HB2 := Lib.hid (HB.out.trans (hb2.mono HB.out.size))
    obtain ⟨H, HH⟩ := nm wr.heap.size
    rw [HH.out]
    clear ho2 hb2 hs2 HB HH
    go_loopw [6] (fun vk wr => vk = .int .i64 0 ∧ Below w.heap.size w wr) (fun _ _ => 0)
    case atStart => exact ⟨rfl, HB2.out⟩
    case round =>
      obtain ⟨rfl, hB⟩ := hrel
      clear HB2
      have HB2 := Lib.hid hB
      clear hB
      go_wp2_with fail
      go_loopw [9] (fun vk wr => vk = .int .i64 0 ∧ Below w.heap.size w wr) (fun _ _ => 0)
      case atStart => exact ⟨rfl, HB2.out⟩
      case round =>
        obtain ⟨rfl, hB⟩ := hrel
        clear HB2
        have HB2 := Lib.hid hB
        clear hB
        go_wp2_with fail
        go_loopw [11] (fun vk wr => vk = .int .i64 0 ∧ Below w.heap.size w wr) (fun _ _ => 0)
        case atStart => exact ⟨rfl, HB2.out⟩
        case round =>
          obtain ⟨rfl, hB⟩ := hrel
          clear HB2
          have HB2 := Lib.hid hB
          clear hB
          go_wp2_with fail
          go_loopw [14] (fun vk wr => vk = .int .i64 0 ∧ Below w.heap.size w wr) (fun _ _ => 0)
          case atStart => exact ⟨rfl, HB2.out⟩
          case round =>
            obtain ⟨rfl, hB⟩ := hrel
            clear HB2
            have HB2 := Lib.hid hB
            clear hB
            go_wp2_with fail
            go_ret
            exact ⟨rfl, HB2.out⟩
/-- append(ls, l), a row of rows. -/
theorem wpl_app1S {ops : Array Oper} {rest : List Oper} {o : Oper} {a : Act} {Q : Exit → Act → World → Prop} (hgd : o.guard = none) (s x : Operand) (t : TypeId)
    (ho : o.op = .call { callee := .builtin .append, args := #[s, x], argTypes := #[t, t] }) (e : TypeId) (ht : Tryz.prog.underlying t = some (.slice e))
    (hi : (Tryz.prog.info? e).map (fun i => (i.zero, i.size, i.bytes)) = some (some (.slice none 0 0), 1, 24))
    (base : Nat) (v : Value) (ts : List Value) (wr : World) (hown : OwnsS e wr base v ts) (hs : a.eval s = v) (l : Value) (hl1 : l.oneCell' = true) (hx : a.eval x = .slice (some ⟨wr.heap.size, 0, none⟩) 1 1)
    (hlen : ts.length < 1000000) (hbase : base ≤ wr.heap.size)
    (h : ∀ v' w', OwnsS e w' base v' (ts ++ [l]) → wr.grownBy w' v.ownBlock → wpList Tryz.prog ops Q rest (a.put o.dst v') w') :
    wpList Tryz.prog ops Q (o :: rest) a (wr.alloc (.cells #[l] e)) := by
  obtain ⟨i0, hi0, hz0, hz1, hz2⟩ := info_parts hi
  have hsz : (wr.alloc (.cells #[l] e)).heap.size = wr.heap.size + 1 := by simp
  obtain ⟨v', w', hr, h1, h2, hg, hl⟩ := run_append_at (P := Tryz.prog) (wr.alloc (.cells #[l] e)) base t o.type e i0 (.slice none 0 0) 24 ht hi0 hz0 hz1 hz2 rfl v ts.length ts (World.ownsRow.alloc hown _) ⟨wr.heap.size, 0, none⟩ 1 1 [l] rfl
    (cell_one_new _ _ _) (fun u hu => by rw [List.mem_singleton.1 hu]; exact hl1) (by unfold maxLen; omega) (by omega) (by simp; omega)
  refine Lib.wpList_append_run _ hgd s x t t ho v (.slice (some ⟨wr.heap.size, 0, none⟩) 1 1) hs hx v' w' hr (h v' w' ?_ ?_)
  · unfold OwnsS
    rw [List.length_append]
    exact h1
  · exact ⟨hg.os, hg.tape, hg.output, by have := hg.size; omega, fun b hb hne => (hg.block b (by omega) hne).trans (Below.heap_alloc wr _ b hb)⟩
theorem OwnsS.slice {e : TypeId} {w : World} {base : Nat} {v : Value} {ts : List Value} (h : OwnsS e w base v ts) : ∃ a c, v = .slice a ts.length c ∧ ts.length ≤ c ∧ c ≤ 9223372036854775807 := by
  obtain ⟨_, h⟩ := h
  rcases h with ⟨rfl, h⟩ | ⟨g, cap, cur, rfl, _, _, hn, hc, _⟩
  · rw [h]; exact ⟨_, _, rfl, Nat.le_refl _, by decide⟩
  · exact ⟨_, _, rfl, hn, hc⟩
theorem OwnsS.block {e : TypeId} {w : World} {base : Nat} {v : Value} {ts : List Value} (h : OwnsS e w base v ts) (h0 : 0 < ts.length) : ∃ g c, v = .slice (some ⟨g, 0, none⟩) ts.length c ∧ base ≤ g ∧ g < w.heap.size := by
  have hl := World.ownsRow.lt h
  obtain ⟨_, h⟩ := h
  rcases h with ⟨rfl, h⟩ | ⟨g, cap, cur, rfl, hb, hg, hn, hc, _⟩
  · omega
  · exact ⟨_, _, rfl, hl g rfl⟩
theorem OwnsS.keep {e : TypeId} {w w' : World} {base : Nat} {v : Value} {ts : List Value} (h : OwnsS e w base v ts) (hB : Below w.heap.size w w') : OwnsS e w' base v ts :=
  h.oth (Oth.of_below (R := none) hB (Nat.le_refl _)) (fun g hg => ⟨(World.ownsRow.lt h g hg).2, by simp⟩)
/-- What a bag holds: all its lists are empty but that of rows of bytes. -/
def bagV (v : Value) : Array Value := #[.slice none 0 0, .slice none 0 0, v, .slice none 0 0, .slice none 0 0, .slice none 0 0, .slice none 0 0, .slice none 0 0]
def Bag (B : Nat) (v : Value) (w : World) : Prop := w.heap[B]? = some (.cells (bagV v) 90 (0, 0))
theorem Bag.cell {B : Nat} {v : Value} {w : World} (h : Bag B v w) : w.cell? ⟨B, 2, none⟩ = some v := by rw [cell_of_row _ _ _ _ _ _ h]; rfl
theorem Bag.nils {B : Nat} {v : Value} {w : World} (h : Bag B v w) : w.cell? ⟨B, 0, none⟩ = some (.slice none 0 0) ∧ w.cell? ⟨B, 1, none⟩ = some (.slice none 0 0) ∧ w.cell? ⟨B, 3, none⟩ = some (.slice none 0 0) ∧ w.cell? ⟨B, 4, none⟩ = some (.slice none 0 0) ∧
    w.cell? ⟨B, 5, none⟩ = some (.slice none 0 0) ∧ w.cell? ⟨B, 6, none⟩ = some (.slice none 0 0) ∧ w.cell? ⟨B, 7, none⟩ = some (.slice none 0 0) := by
  refine ⟨?_, ?_, ?_, ?_, ?_, ?_, ?_⟩ <;> (rw [cell_of_row _ _ _ _ _ _ h]; rfl)
theorem Bag.frozen {B : Nat} {v : Value} {w : World} (h : Bag B v w) (i : Nat) : w.frozen? ⟨B, i, none⟩ = false := by
  unfold Bag at h
  simp [World.frozen?, h]
theorem Bag.lt {B : Nat} {v : Value} {w : World} (h : Bag B v w) : B < w.heap.size := (Array.getElem?_eq_some_iff.1 h).1
theorem Bag.keep {B : Nat} {v : Value} {w w' : World} (h : Bag B v w) (hB : Below w.heap.size w w') : Bag B v w' := (hB.block B h.lt).trans h
set_option maxRecDepth 100000 in
set_option maxHeartbeats 4000000 in
theorem putBytes_any (B : Nat) (v : Value) (ao : Option Addr) (m c : Nat) (ts : List Value) (w : World) (hB : Bag B v w) (ho : OwnsS 22 w (B + 1) v ts) (hts : ts.length < 1000) :
    Calls Tryz.prog 49 #[.pointer (some ⟨B, 0, none⟩), .slice ao m c] w fun e w' => e = .returned (.tuple #[]) ∧ ∃ v', Bag B v' w' ∧ OwnsS 22 w' (B + 1) v' (ts ++ [.slice ao m c]) ∧ Below B w w' := by
  have HB := Lib.hid hB
  have HO := Lib.hid ho
  have HT := Lib.hid hts
  have c2 := hB.cell
  have hlt := hB.lt
  clear hB ho hts
  go_enter Tryz.func49, Tryz.ntmps49
  go_wp2_with (at_builtin; refine wpl_app1S rfl (.tmp 8) (.tmp 10) 54 rfl 22 Tryz.underlying54 info_sl (B + 1) v ts w HO.out rfl (.slice ao m c) rfl rfl (by have := HT.out; omega) (by omega) ?_; intro v3 w3 ho3 hg3; obtain ⟨ga, gn, gc, rfl⟩ : ∃ a n c, v3 = .slice a n c := (by obtain ⟨a, c, h, -⟩ := ho3.slice; exact ⟨a, _, c, h⟩); have HBN := Lib.hid (show Bag B v w3 from (hg3.block B hlt (fun e => by have := (World.ownsRow.lt HO.out B e.symm).1; omega)).trans HB.out); have c3 := HBN.out.cell; have f3 := HBN.out.frozen 2; have HO3 := Lib.hid ho3; have HG3 := Lib.hid hg3; clear ho3 hg3)
  go_end0
  refine ⟨rfl, _, heap_setCell_same _ _ _ _ _ _ HBN.out, ?_, ?_⟩
  · exact HO3.out.oth (R := some B) (Oth.setCell w3 B 2 _ (.inl rfl)) (fun g hg => ⟨(World.ownsRow.lt HO3.out g hg).2, fun e => by have := (World.ownsRow.lt HO3.out g hg).1; cases e; omega⟩)
  · exact ((Below.refl B w).grown HG3.out (Nat.le_of_lt hlt) (fun b hb => by have := (World.ownsRow.lt HO.out b hb).1; omega)).setCell (p := ⟨B, 2, none⟩) (Nat.le_refl _) _
set_option maxRecDepth 100000 in
set_option maxHeartbeats 4000000 in
theorem apart_any (B G n cG : Nat) (S : Nat → Value) (L : Nat → List Nat) (M : Nat → Nat) (w : World) (base : Nat) (hn : n < 400) (hncG : n ≤ cG) (hcGm : cG ≤ 9223372036854775807) (hM : ∀ j, (L j).length = M j) (hM2 : ∀ j, M j < 800000)
    (hG : ∀ j, j < n → w.cell? ⟨G, j, none⟩ = some (S j)) (hGw : G < w.heap.size) (hBS : ∀ j, j < n → (S j).ownBlock ≠ some B) (hS : ∀ j, j < n → Owns .u8 5 w base (S j) (L j)) (hd : Dis n S) (hGS : ∀ j, j < n → (S j).ownBlock ≠ some G)
    (hBG : Bag B (.slice (some ⟨G, 0, none⟩) n cG) w) (hbase : base ≤ w.heap.size) :
    Calls Tryz.prog 50 #[.pointer (some ⟨B, 0, none⟩)] w fun e w' => e = .returned (.bool true) ∧ Below base w w' := by
  have HBG := Lib.hid hBG
  have HF := Lib.hid (fun (W : World) (hW : Below w.heap.size w W) => flatBytes_any G n cG S L M W base hn hncG hcGm hM hM2 (fun j hj => cell_keep hW (hG j hj) (cell_lt (hG j hj))) (Nat.lt_of_lt_of_le hGw hW.size) B _ (Nat.lt_of_lt_of_le hBG.lt hW.size) (hBG.keep hW) hBS
    (fun j hj => (hS j hj).keep hW (Nat.le_refl _)) hd hGS (Nat.le_trans hbase hW.size))
  obtain ⟨n0, n1, -⟩ := hBG.nils
  clear hBG hM hM2 hG hGw hBS hS hd hGS
  go_enter Tryz.func50, Tryz.ntmps50
  go_wp2_with fail
  refine (flatInts_nil _).mono ?_
  rintro e w1 ⟨rfl, hb1⟩
  have n1' := (HBG.out.keep hb1).nils.2.1
  have HB1 := Lib.hid hb1
  clear hb1
  go_wp2_with fail
  refine (flatTexts_nil _).mono ?_
  rintro e w2 ⟨rfl, hb2⟩
  have HB2 := Lib.hid (HB1.out.trans (hb2.mono HB1.out.size))
  have n2 := (HBG.out.keep HB2.out).cell
  clear hb2
  go_wp2_with fail
  refine (HF.out _ HB2.out).mono ?_
  rintro e w3 ⟨rfl, hb3, hk3⟩
  have HN3 := Lib.hid (show Bag B _ w3 from hk3)
  have HB3 := Lib.hid ((HB2.out.mono hbase).trans hb3)
  have n3 := HN3.out.nils.2.2.1
  clear hb3 hk3
  go_wp2_with fail
  refine (flatWords_nil _).mono ?_
  rintro e w4 ⟨rfl, hb4⟩
  have HB4 := Lib.hid (HB3.out.trans (hb4.mono (Nat.le_trans hbase HB3.out.size)))
  have HN4 := Lib.hid (HN3.out.keep hb4)
  have n4 := HN4.out.nils.2.2.2.1
  clear hb4
  go_wp2_with fail
  refine (flatNums_nil _).mono ?_
  rintro e w5 ⟨rfl, hb5⟩
  have HB5 := Lib.hid (HB4.out.trans (hb5.mono (Nat.le_trans hbase HB4.out.size)))
  have HN5 := Lib.hid (HN4.out.keep hb5)
  have n5 := HN5.out.nils.2.2.2.2.1
  clear hb5
  go_wp2_with fail
  refine (flatIntLists_nil _).mono ?_
  rintro e w6 ⟨rfl, hb6⟩
  have HB6 := Lib.hid (HB5.out.trans (hb6.mono (Nat.le_trans hbase HB5.out.size)))
  have HN6 := Lib.hid (HN5.out.keep hb6)
  have n6 := HN6.out.nils.2.2.2.2.2.1
  clear hb6
  go_wp2_with fail
  refine (flatTextLists_nil _).mono ?_
  rintro e w7 ⟨rfl, hb7⟩
  have HB7 := Lib.hid (HB6.out.trans (hb7.mono (Nat.le_trans hbase HB6.out.size)))
  have HN7 := Lib.hid (HN6.out.keep hb7)
  have n7 := HN7.out.nils.2.2.2.2.2.2
  clear hb7
  go_wp2_with fail
  refine (flatByteLists_nil _).mono ?_
  rintro e w8 ⟨rfl, hb8⟩
  have HB8 := Lib.hid (HB7.out.trans (hb8.mono (Nat.le_trans hbase HB7.out.size)))
  have HN8 := Lib.hid (HN7.out.keep hb8)
  clear hb8
  go_wp2_with fail
  go_ret
  exact ⟨rfl, HB8.out⟩
set_option maxRecDepth 100000 in
set_option maxHeartbeats 4000000 in
theorem apartBytes_any (A n cA : Nat) (S : Nat → Value) (L : Nat → List Nat) (M : Nat → Nat) (w : World) (base : Nat) (hn0 : 0 < n) (hn : n < 400) (hnA : n ≤ cA) (hcA : cA ≤ 9223372036854775807) (hM : ∀ j, (L j).length = M j) (hM2 : ∀ j, M j < 800000)
    (hA : ∀ j, j < n → w.cell? ⟨A, j, none⟩ = some (S j)) (hS : ∀ j, j < n → Owns .u8 5 w base (S j) (L j)) (hd : Dis n S) (hbase : base ≤ w.heap.size) :
    Calls Tryz.prog 24 #[.slice (some ⟨A, 0, none⟩) n cA] w fun e w' => e = .returned (.bool true) ∧ Below base w w' := by
  have HA := Lib.hid hA
  have HS := Lib.hid hS
  have HD := Lib.hid hd
  have HM := Lib.hid hM
  have HM2 := Lib.hid hM2
  clear hA hS hd hM hM2
  go_enter Tryz.func24, Tryz.ntmps24
  go_wp2_with fail
  obtain ⟨B, HBB⟩ := nm w.heap.size
  have hb0 := bel_alloc w (.cells (bagV (.slice none 0 0)) 90)
  have hbag : Bag B (.slice none 0 0) (w.alloc (.cells (bagV (.slice none 0 0)) 90)) := by rw [← HBB.out]; exact heap_alloc_new w _
  have HBW := Lib.hid (show Below B w (w.alloc (.cells (bagV (.slice none 0 0)) 90)) by rw [← HBB.out]; exact hb0)
  obtain ⟨w0, HW0⟩ := nm (w.alloc (.cells (bagV (.slice none 0 0)) 90))
  rw [HW0.out] at hbag HBW
  rw [show w.alloc (.cells #[.slice none 0 0, .slice none 0 0, .slice none 0 0, .slice none 0 0, .slice none 0 0, .slice none 0 0, .slice none 0 0, .slice none 0 0] 90) = w0 from HW0.out, HBB.out]
  have HBG := Lib.hid hbag
  have HSB := Lib.hid (show ∀ j, j < n → ∀ b, (S j).ownBlock = some b → b < B from fun j hj b hb => by rw [← HBB.out]; exact (owns_block (HS.out j hj) b hb).2)
  clear hbag hb0
  go_loopw [4] (fun vi wr => ∃ i : Nat, i ≤ n ∧ vi = .int .i64 (i : Int) ∧ Below B w wr ∧ ∃ v, Bag B v wr ∧ OwnsS 22 wr (B + 1) v ((List.range i).map S)) (fun vi _ => n - (intOf vi).toNat)
  case atStart => exact ⟨0, Nat.zero_le _, rfl, HBW.out, _, HBG.out, World.ownsRow_nil _ _ _ _⟩
  case round =>
    obtain ⟨i, hi, rfl, hB, v, hbag, ho⟩ := hrel
    by_cases hlt : i < n
    · obtain ⟨ao, m, c, hSv, -⟩ := (HS.out i hlt).slice
      have ck := cell_keep hB (HA.out i hlt) (by rw [← HBB.out]; exact cell_lt (HA.out i hlt))
      rw [hSv] at ck
      have HP := Lib.hid (putBytes_any B v ao m c _ wr hbag ho (by simp; omega))
      have HBI := Lib.hid hB
      have HSV := Lib.hid hSv
      have hi1 : (i : Int) < (n : Int) := by omega
      clear hB hbag ho hSv
      go_wp2_with fail
      refine HP.out.mono ?_
      rintro e w4 ⟨rfl, v', hbag', ho', hb'⟩
      have HN := Lib.hid (And.intro hbag' (And.intro ho' hb'))
      clear hbag' ho' hb'
      go_wp2_with fail
      go_roundw
      case rel => exact ⟨i + 1, by omega, by go_num, HBI.out.trans HN.out.2.2, v', HN.out.1, by rw [List.range_succ, List.map_append, List.map_singleton, HSV.out]; exact HN.out.2.1⟩
      case measure => simp [intOf]; omega
    · obtain rfl : n = i := by omega
      have hln : ((List.range n).map S).length = n := by simp
      obtain ⟨G, c, rfl, hG1, hG2⟩ := ho.block (by rw [hln]; exact hn0)
      obtain ⟨a', c', he, hc1, hc2⟩ := ho.slice
      obtain rfl : c = c' := (Value.slice.inj he).2.2
      have hcell := fun j (hj : j < n) => ho.cellAt rfl (i := j) (t := S j) (by rw [List.getElem?_map, List.getElem?_range hj]; rfl)
      rw [hln] at hbag hc1
      have hbw : base ≤ B := by rw [← HBB.out]; exact hbase
      have HP := Lib.hid (apart_any B G n c S L M wr base hn hc1 hc2 HM.out HM2.out hcell hG2 (fun j hj e => Nat.lt_irrefl _ (HSB.out j hj B e)) (fun j hj => (HS.out j hj).oth (Oth.of_below (R := none) hB (Nat.le_refl _)) (fun b hb => ⟨HSB.out j hj b hb, by simp⟩)) HD.out
        (fun j hj e => by have := HSB.out j hj G e; omega) hbag (Nat.le_trans hbase hB.size))
      have HBI := Lib.hid (hB.mono hbw)
      clear hB hbag ho hcell he hln hc1 hc2
      go_wp2_with fail
      refine HP.out.mono ?_
      rintro e w5 ⟨rfl, hb5⟩
      have HB5 := Lib.hid (HBI.out.trans hb5)
      clear hb5
      go_wp2_with fail
      go_ret
      exact ⟨rfl, HB5.out⟩
end Go.Proofs.YtmjigpnpcacefaaGreatDoor

