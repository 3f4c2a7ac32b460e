/- Strings of bytes: what a conversion of a slice of bytes gives. -/
import Derived.Test.YtmjigpnpcacefaaDoorOwn
import Derived.Laws.BytesString
namespace Go.Proofs.YtmjigpnpcacefaaDoor
open Go Go.RowKit Go.Shelf

/-- The string of some bytes. -/
def strOf (xs : List Nat) : ByteArray := (xs.map fun (x : Nat) => (x : Int)).foldl (fun r n => r.push (UInt8.ofNat n.toNat)) ByteArray.empty
theorem foldl_push (ns : List Int) : ∀ s : ByteArray, (ns.foldl (fun r n => r.push (UInt8.ofNat n.toNat)) s).data.toList = s.data.toList ++ ns.map (fun n => UInt8.ofNat n.toNat) := by
  induction ns with
  | nil => intro s; simp
  | cons n ns ih => intro s; rw [List.foldl_cons, ih]; simp [ByteArray.push]
theorem strOf_data (xs : List Nat) : (strOf xs).data.toList = xs.map UInt8.ofNat := by
  unfold strOf
  rw [foldl_push]
  simp [Function.comp_def]
theorem conv_str (v : Value) (xs : List Nat) (w : World) (hv : Reads .u8 w v xs) (hx : ∀ x ∈ xs, x < 256) :
    (convert 28 9 v).run Tryd.prog w = .ok (.string (strOf xs)) w := by
  obtain ⟨a, cap, rfl, hl, hm, hc⟩ := hv
  rw [run_convert_bytes_string w _ _ 5 a _ _ Tryd.underlying28 Tryd.underlying5 Tryd.underlying9]
  rcases hc with rfl | ⟨b, off, rfl, hcell⟩
  · obtain rfl : xs = [] := List.length_eq_zero_iff.1 (by omega)
    cases a with
    | none => rfl
    | some ad =>
      refine run_bytesToString w _ _ _ [] ?_
      have := run_loadCells_list (P := Tryd.prog) (w := w) ad [] (fun j u hu => by simp at hu)
      simpa using this
  · refine run_bytesToString w _ _ _ (xs.map fun (x : Nat) => (x : Int)) ?_
    have := run_loadCells_list (P := Tryd.prog) (w := w) ⟨b, off, none⟩ (vals .u8 xs) (fun j u hu => by
      have hj : j < xs.length := by
        apply Classical.byContradiction; intro hn
        rw [List.getElem?_eq_none (by rw [vals_length]; omega)] at hu; cases hu
      rw [vals_get _ xs j hj] at hu
      cases hu
      have ha : (⟨b, off, none⟩ : Addr).add j = ⟨b, off + j, none⟩ := by simp [Addr.add]
      rw [ha]
      exact hcell j hj)
    rw [vals_length] at this
    rw [this]
    simp [vals, Function.comp_def]

theorem strOf_inj {xs ys : List Nat} (hx : ∀ x ∈ xs, x < 256) (hy : ∀ y ∈ ys, y < 256) (h : (strOf xs).data.toList = (strOf ys).data.toList) : xs = ys := by
  rw [strOf_data, strOf_data] at h
  have h2 := congrArg (List.map UInt8.toNat) h
  rw [List.map_map, List.map_map] at h2
  have e : ∀ zs : List Nat, (∀ z ∈ zs, z < 256) → zs.map (UInt8.toNat ∘ UInt8.ofNat) = zs := by
    intro zs hz
    conv => rhs; rw [← List.map_id zs]
    apply List.map_congr_left
    intro z h
    have := hz z h
    simp; omega
  rw [e xs hx, e ys hy] at h2
  exact h2
theorem str_beq {xs ys : List Nat} (hx : ∀ x ∈ xs, x < 256) (hy : ∀ y ∈ ys, y < 256) : ((strOf xs).toList == (strOf ys).toList) = decide (xs = ys) := by
  rw [ByteArray.toList_eq, ByteArray.toList_eq]
  by_cases h : xs = ys
  · subst h; simp
  · rw [decide_eq_false h, beq_eq_false_iff_ne]
    exact fun e => h (strOf_inj hx hy e)
/-- A slice of constants. -/
theorem reads_lit (k : IntKind) (w : World) (xs : List Nat) (t : TypeId) (fz : Nat × Nat) (cs : Array Value) (n : Nat) (hc : cs = (vals k xs).toArray) (hn : n = xs.length) (hl : n ≤ 9223372036854775807) :
    Reads k (w.alloc (.cells cs t fz)) (.slice (some ⟨w.heap.size, 0, none⟩) n n) xs := by
  subst hn hc
  refine ⟨_, _, rfl, Nat.le_refl _, hl, .inr ⟨_, _, rfl, fun i hi => ?_⟩⟩
  have h0 : (w.alloc (.cells (vals k xs).toArray t fz)).heap[w.heap.size]? = some (.cells (vals k xs).toArray t fz) := World.alloc_heap_new w _
  rw [Nat.zero_add, cell_of_row _ w.heap.size i _ t fz h0, List.getElem?_toArray, vals_get k xs i hi]
end Go.Proofs.YtmjigpnpcacefaaDoor
