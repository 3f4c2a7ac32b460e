/- What the frames of all laws share: the arguments' readings. Arguments that are a burst, or three numbers in a row: how they open. -/
import Derived.Test.YtmjigpnpcacefaaDoorReads
import Derived.Test.YtmjigpnpcacefaaDoorRows
import Derived.ProofKit
import Derived.OpenShut
import Derived.ShutString
import Derived.ChangeOld
import Derived.Below
import Derived.Deep.DeepHandedRow
import Derived.Lib.LaidTab
import Derived.Laws.IdiomArrays
namespace Go.Proofs.YtmjigpnpcacefaaDoor
open Go Go.ChangeShapes Go.WideShapes Go.ChangeAt Go.RowKit

theorem nat_of_u8 {a : Int} (h : (Lit.int .u8 a).wf = true) : ∃ n : Nat, a = (n : Int) ∧ n < 256 := by
  have := bounds_u8 h
  exact ⟨a.toNat, by omega, by omega⟩
theorem nat_of_u16 {a : Int} (h : (Lit.int .u16 a).wf = true) : ∃ n : Nat, a = (n : Int) ∧ n < 65536 := by
  have := bounds_u16 h
  exact ⟨a.toNat, by omega, by omega⟩
theorem nat_of_u32 {a : Int} (h : (Lit.int .u32 a).wf = true) : ∃ n : Nat, a = (n : Int) ∧ n < 4294967296 := by
  have := bounds_u32 h
  exact ⟨a.toNat, by omega, by omega⟩
theorem nat_of_u64 {a : Int} (h : (Lit.int .u64 a).wf = true) : ∃ n : Nat, a = (n : Int) ∧ n < 18446744073709551616 := by
  have := bounds_u64 h
  exact ⟨a.toNat, by omega, by omega⟩
theorem wf_i64 {a : Int} (h : (Lit.int .i64 a).wf = true) : -9223372036854775808 ≤ a ∧ a ≤ 9223372036854775807 := by
  have := bounds_i64 h
  omega

/-- The slice value reads as these numbers (signed ones, too). -/
def ReadsI (k : IntKind) (w : World) (v : Value) (xs : List Int) : Prop :=
  ∃ (a : Option Addr) (cap : Nat), v = .slice a xs.length cap ∧ xs.length ≤ cap ∧ cap ≤ 9223372036854775807 ∧
    (cap = 0 ∨ ∃ b off, a = some ⟨b, off, none⟩ ∧ ∀ i, i < xs.length → w.cell? ⟨b, off + i, none⟩ = some (.int k (xs[i]?.getD 0)))
theorem ReadsI.keep {k : IntKind} {w w' : World} {v : Value} {xs : List Int} {n : Nat} (h : ReadsI k w v xs) (hB : Below n w w') (hn : w.heap.size ≤ n) : ReadsI k w' v xs := by
  obtain ⟨a, cap, rfl, hl, hm, hc⟩ := h
  refine ⟨a, cap, rfl, hl, hm, ?_⟩
  rcases hc with h | ⟨b, off, e, hcell⟩
  · exact .inl h
  · exact .inr ⟨b, off, e, fun i hi => cell_keep hB (hcell i hi) (Nat.lt_of_lt_of_le (cell_lt (hcell i hi)) hn)⟩
theorem ReadsI.len {k : IntKind} {w : World} {v : Value} {xs : List Int} (h : ReadsI k w v xs) : xs.length ≤ 9223372036854775807 := by
  obtain ⟨a, cap, rfl, hl, hm, hc⟩ := h; omega
theorem reads_of_I {k : IntKind} {w : World} {v : Value} {ys : List Nat} (h : ReadsI k w v (ys.map fun (y : Nat) => (y : Int))) : Reads k w v ys := by
  obtain ⟨a, cap, rfl, hl, hm, hc⟩ := h
  rw [List.length_map] at hl hc ⊢
  refine ⟨a, cap, rfl, hl, hm, ?_⟩
  rcases hc with h | ⟨b, off, e, hcell⟩
  · exact .inl h
  · refine .inr ⟨b, off, e, fun i hi => ?_⟩
    rw [hcell i hi]
    simp [hi]
theorem nats_of {xs : List Int} (h : ∀ x ∈ xs, 0 ≤ x) : xs = (xs.map Int.toNat).map fun (y : Nat) => (y : Int) := by
  rw [List.map_map]
  conv => lhs; rw [← List.map_id xs]
  apply List.map_congr_left
  intro x hx
  have := h x hx
  simp; omega
theorem reads_of_u8 {w : World} {v : Value} {xs : List Int} (h : ReadsI .u8 w v xs) (hb : ∀ x ∈ xs, (Lit.int .u8 x).wf = true) : ∃ ys : List Nat, Reads .u8 w v ys ∧ ∀ y ∈ ys, y < 256 := by
  have hb' : ∀ x ∈ xs, 0 ≤ x ∧ x < 256 := fun x hx => by have := bounds_u8 (hb x hx); omega
  rw [nats_of (fun x hx => (hb' x hx).1)] at h
  refine ⟨_, reads_of_I h, fun y hy => ?_⟩
  obtain ⟨x, hx, rfl⟩ := List.mem_map.1 hy
  have := hb' x hx; omega
theorem reads_of_u16 {w : World} {v : Value} {xs : List Int} (h : ReadsI .u16 w v xs) (hb : ∀ x ∈ xs, (Lit.int .u16 x).wf = true) : ∃ ys : List Nat, Reads .u16 w v ys ∧ ∀ y ∈ ys, y < 65536 := by
  have hb' : ∀ x ∈ xs, 0 ≤ x ∧ x < 65536 := fun x hx => by have := bounds_u16 (hb x hx); omega
  rw [nats_of (fun x hx => (hb' x hx).1)] at h
  refine ⟨_, reads_of_I h, fun y hy => ?_⟩
  obtain ⟨x, hx, rfl⟩ := List.mem_map.1 hy
  have := hb' x hx; omega
theorem bounds_of_i64 {xs : List Int} (hb : ∀ x ∈ xs, (Lit.int .i64 x).wf = true) : ∀ x ∈ xs, -9223372036854775808 ≤ x ∧ x ≤ 9223372036854775807 := fun x hx => wf_i64 (hb x hx)

/-- A slice of integers that came in. -/
theorem readsI_of_open {H : Type} {enc : TypeId × Value → H} {base : Nat} {held : Bool} {fuel : Nat} {t e : TypeId} {k : IntKind} {w : World} {a : Option Addr} {len cap : Nat} {x : DataW H × List MemPlace}
    (ht : Tryd.prog.underlying t = some (.slice e)) (he : Tryd.prog.underlying e = some (.int k)) (hc : Tryd.prog.cellsOf e = 1)
    (h : DataW.trod enc Tryd.prog w base (fun _ => true) held fuel t (Value.slice a len cap).cells.toList = some x) :
    ∃ xs, ReadsI k w (.slice a len cap) xs ∧ ∀ x ∈ xs, (Lit.int k x).wf = true := by
  rcases open_ints ht he hc h with ⟨hcs, _⟩ | ⟨x, l, c, zs, hcs, _, hl, hm, hz, _, hcell, hwz⟩
  · simp [Value.cells] at hcs
    obtain ⟨rfl, rfl, rfl⟩ := hcs
    exact ⟨[], ⟨none, 0, rfl, by simp, by decide, .inl rfl⟩, by simp⟩
  · simp [Value.cells] at hcs
    obtain ⟨rfl, rfl, rfl⟩ := hcs
    have hz' : zs.length = cap := by simpa using hz
    refine ⟨zs.take len, ?_, fun y hy => hwz y (List.mem_of_mem_take hy)⟩
    have hlen : (zs.take len).length = len := by simp; omega
    by_cases h0 : cap = 0
    · subst h0
      obtain rfl : len = 0 := by omega
      exact ⟨some x, 0, rfl, by simp, by decide, .inl rfl⟩
    · obtain ⟨b, off, rfl, hc'⟩ := ints_at hcell (by omega)
      refine ⟨some ⟨b, off, none⟩, cap, by rw [hlen], by rw [hlen]; exact hl, by unfold maxLen at hm; exact hm, .inr ⟨b, off, rfl, fun i hi => ?_⟩⟩
      rw [hlen] at hi
      have := hc' i (by omega)
      rw [List.getElem?_take, if_pos hi, this, List.getD_eq_getElem?_getD]
end Go.Proofs.YtmjigpnpcacefaaDoor
namespace Go.Proofs.YtmjigpnpcacefaaDoor
open Go Go.ChangeShapes Go.WideShapes Go.ChangeAt Go.RowKit

set_option maxRecDepth 100000 in
theorem open_burst {H : Type} {enc : TypeId × Value → H} {W : World} {base : Nat} {v : Value} {d : DataW H} {p : List MemPlace}
    (hv : Value.okWide Tryd.prog W .any base 24 v) (h : DataW.Trod enc Tryd.prog W 0 (fun _ => true) true 24 v d p) :
    ∃ (x : Int) (b : Nat), v = .agg #[.int .i64 x, .int .u32 (b : Int)] ∧ (-9223372036854775808 ≤ x ∧ x ≤ 9223372036854775807) ∧ b < 4294967296 := by
  obtain ⟨cs, rfl, hsz⟩ := okWide_struct Tryd.underlying24 hv
  obtain ⟨c0, c1, rfl⟩ : ∃ c0 c1, cs = #[c0, c1] := by
    have h2 : cs.size = 2 := hsz.trans (by kernel_rfl)
    match cs, h2 with
    | ⟨[c0, c1]⟩, _ => exact ⟨c0, c1, rfl⟩
  obtain ⟨fuel, hf⟩ := h
  obtain ⟨y0, y1, n, _, _, h0, h1⟩ := trod_struct2 Tryd.underlying24 hf
  have k0 : Tryd.prog.cellsOf 3 = 1 := by kernel_rfl
  have k1 : Tryd.prog.cellsOf 22 = 1 := by kernel_rfl
  have h0' := h0
  have h1' := h1
  obtain ⟨x, ex, _, wx⟩ := DataW.trod_int Tryd.underlying3 h0'
  obtain ⟨b, eb, _, wb⟩ := DataW.trod_int Tryd.underlying22 h1'
  simp [Value.cells, k0] at ex
  simp [Value.cells, k1] at eb
  obtain ⟨n, rfl, hn⟩ := nat_of_u32 wb
  subst ex eb
  exact ⟨x, n, rfl, wf_i64 wx, hn⟩
set_option maxRecDepth 100000 in
theorem open_arr3 {H : Type} {enc : TypeId × Value → H} {W : World} {base : Nat} {v : Value} {d : DataW H} {p : List MemPlace}
    (hv : Value.okWide Tryd.prog W .any base 61 v) (h : DataW.Trod enc Tryd.prog W 0 (fun _ => true) true 61 v d p) :
    ∃ x y z : Nat, v = .agg #[.int .u16 (x : Int), .int .u16 (y : Int), .int .u16 (z : Int)] ∧ x < 65536 ∧ y < 65536 ∧ z < 65536 := by
  have hC : Tryd.prog.cellsOf 61 = 3 := by kernel_rfl
  simp only [Value.okWide, Tryd.underlying61] at hv
  obtain ⟨cs, rfl, hsz, _⟩ := hv
  obtain ⟨c0, c1, c2, rfl⟩ : ∃ c0 c1 c2, cs = #[c0, c1, c2] := by
    have h2 : cs.size = 3 := hsz.trans hC
    match cs, h2 with
    | ⟨[c0, c1, c2]⟩, _ => exact ⟨c0, c1, c2, rfl⟩
  obtain ⟨fuel, hf⟩ := h
  obtain ⟨y0, y1, y2, n, _, h0, h1, h2⟩ := trod_array3 Tryd.underlying61 (by kernel_rfl) (by simpa [Value.cells] using hf)
  obtain ⟨x, ex, _, wx⟩ := DataW.trod_int Tryd.underlying31 h0
  obtain ⟨y, ey, _, wy⟩ := DataW.trod_int Tryd.underlying31 h1
  obtain ⟨z, ez, _, wz⟩ := DataW.trod_int Tryd.underlying31 h2
  obtain ⟨x, rfl, hx⟩ := nat_of_u16 wx
  obtain ⟨y, rfl, hy⟩ := nat_of_u16 wy
  obtain ⟨z, rfl, hz⟩ := nat_of_u16 wz
  simp at ex ey ez
  subst ex ey ez
  exact ⟨x, y, z, rfl, hx, hy, hz⟩
end Go.Proofs.YtmjigpnpcacefaaDoor
