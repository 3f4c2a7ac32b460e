/-
  NARROWER THAN 'FOR EVERY INPUT', by the rows' own cells (each row's printed sentence says how): DamageBursts: laid · DamagePieces: laid · DamageTwice: laid · DamageBurst: laid · DamageCopies: laid · DamageWrong: laid · DamageFound: laid.
  DERIVED. THE GIVEN ROWS OF THIS SEAT. 7 by the template 'for every input the law returns true; each argument reads behind the call as it read before'; 0 by the template 'total and deterministic' (their statements: YtmjigpnpcacefaaDoorTotals.lean).
  GIVEN WITH THE SEED: the statements are not yours to turn. If you find one false, say at which input.
  Laid BY PROGRAM, IN A SANDBOX (cutbox-rows.mjs): the forced cells as the released guide's own fill.sh prints them over the translation 9c3e9620f83debf3… (all of the seat's roots in one cut). By AI agents, Wed Nov 11 2026. No macro, syntax, notation, axiom, sorry.
-/
import Derived.Test.YtmjigpnpcacefaaDoorChecked
import GoSem.Claim
import GoSem.ClaimJoined
import GoSem.ClaimMapViews
import Derived.JoinedTies
import Derived.KernelRfl
namespace Go.Proofs.YtmjigpnpcacefaaDoor
/- THE CELL 'sum', in the pinned program and in every row, IS THE sha256 OF THE DUMP (.gsa) THAT YtmjigpnpcacefaaDoorProg.lean LOADS. Nothing in Lean hashes anything: it is a label: what it is worth is what the hold of that sum in a sandbox is worth. -/
noncomputable def Tryd.pinned : Pinned := { name := "ytmjigpnpcacefaadoor", sum := "9c3e9620f83debf3d1de95a37884de71e9ad72df5ab63b252849a1bca83ee2cc", checked := Tryd.checked }
namespace Rows
def none {H : Type} : Left H := { results := [], args := [] }

/- WHAT THE LISTED PACKAGE-LEVEL VARIABLES READ AS WHEN THE CALL BEGINS. Each datum BY PROGRAM (the guide's laid-datum.mjs) off the statement by which the dump's own 'gosem.cut.vars' lays the variable. In a bare row this is a premise. The card (YtmjigpnpcacefaaDoorCards.lean) ties it to the program's text. -/
def laid_quantum_crc_halves {H : Type} : DataW H := .agg [.lit (.int .u32 0), .lit (.int .u32 498536548), .lit (.int .u32 997073096), .lit (.int .u32 651767980), .lit (.int .u32 1994146192), .lit (.int .u32 1802195444), .lit (.int .u32 1303535960), .lit (.int .u32 1342533948), .lit (.int .u32 3988292384), .lit (.int .u32 4027552580), .lit (.int .u32 3604390888), .lit (.int .u32 3412177804), .lit (.int .u32 2607071920), .lit (.int .u32 2262029012), .lit (.int .u32 2685067896), .lit (.int .u32 3183342108)]

/-- 'quantumlaw13.DamageBursts': WHATEVER THE INPUT: true; the input reads as it did. -/
def damageBurstsSpec : ChangeSpec := { name := "damageBursts", fn := fun _ => fun
  | [d1, d2] => { results := [.lit (.bool true)], args := [d1, d2] }
  | _ => none }
def damageBurstsRow : OpenClaim := { program := "ytmjigpnpcacefaadoor", sum := "9c3e9620f83debf3d1de95a37884de71e9ad72df5ab63b252849a1bca83ee2cc", func := "quantum/quantumlaw13.DamageBursts", spec := "damageBursts", unfollowed := true, recurses := true, named := ["quantum/crc.halves"], apart := false, laid := [("quantum/crc.halves", laid_quantum_crc_halves)] }
def DamageBurstsSaid : Prop := damageBurstsRow.holds Tryd.pinned (OpenSpec.ofChange damageBurstsSpec)

/-- ITS FALSE NEIGHBOUR: 'it returns false'. Refute it at one input. -/
def damageBurstsWrong : ChangeSpec := { name := "damageBursts", fn := fun _ => fun
  | [d1, d2] => { results := [.lit (.bool false)], args := [d1, d2] }
  | _ => none }
def DamageBurstsWrongFalsely : Prop := damageBurstsRow.holds Tryd.pinned (OpenSpec.ofChange damageBurstsWrong)

/-- 'quantumlaw13.DamagePieces': WHATEVER THE INPUT: true; the input reads as it did. -/
def damagePiecesSpec : ChangeSpec := { name := "damagePieces", fn := fun _ => fun
  | [d1, d2, d3, d4, d5] => { results := [.lit (.bool true)], args := [d1, d2, d3, d4, d5] }
  | _ => none }
def damagePiecesRow : OpenClaim := { program := "ytmjigpnpcacefaadoor", sum := "9c3e9620f83debf3d1de95a37884de71e9ad72df5ab63b252849a1bca83ee2cc", func := "quantum/quantumlaw13.DamagePieces", spec := "damagePieces", unfollowed := true, recurses := true, named := ["quantum/crc.halves"], apart := false, laid := [("quantum/crc.halves", laid_quantum_crc_halves)] }
def DamagePiecesSaid : Prop := damagePiecesRow.holds Tryd.pinned (OpenSpec.ofChange damagePiecesSpec)

/-- ITS FALSE NEIGHBOUR: 'it returns false'. Refute it at one input. -/
def damagePiecesWrong : ChangeSpec := { name := "damagePieces", fn := fun _ => fun
  | [d1, d2, d3, d4, d5] => { results := [.lit (.bool false)], args := [d1, d2, d3, d4, d5] }
  | _ => none }
def DamagePiecesWrongFalsely : Prop := damagePiecesRow.holds Tryd.pinned (OpenSpec.ofChange damagePiecesWrong)

/-- 'quantumlaw13.DamageTwice': WHATEVER THE INPUT: true; the input reads as it did. -/
def damageTwiceSpec : ChangeSpec := { name := "damageTwice", fn := fun _ => fun
  | [d1, d2, d3, d4] => { results := [.lit (.bool true)], args := [d1, d2, d3, d4] }
  | _ => none }
def damageTwiceRow : OpenClaim := { program := "ytmjigpnpcacefaadoor", sum := "9c3e9620f83debf3d1de95a37884de71e9ad72df5ab63b252849a1bca83ee2cc", func := "quantum/quantumlaw13.DamageTwice", spec := "damageTwice", unfollowed := true, recurses := true, named := ["quantum/crc.halves"], apart := false, laid := [("quantum/crc.halves", laid_quantum_crc_halves)] }
def DamageTwiceSaid : Prop := damageTwiceRow.holds Tryd.pinned (OpenSpec.ofChange damageTwiceSpec)

/-- ITS FALSE NEIGHBOUR: 'it returns false'. Refute it at one input. -/
def damageTwiceWrong : ChangeSpec := { name := "damageTwice", fn := fun _ => fun
  | [d1, d2, d3, d4] => { results := [.lit (.bool false)], args := [d1, d2, d3, d4] }
  | _ => none }
def DamageTwiceWrongFalsely : Prop := damageTwiceRow.holds Tryd.pinned (OpenSpec.ofChange damageTwiceWrong)

/-- 'quantumlaw13.DamageBurst': WHATEVER THE INPUT: true; the input reads as it did. -/
def damageBurstSpec : ChangeSpec := { name := "damageBurst", fn := fun _ => fun
  | [d1, d2, d3, d4] => { results := [.lit (.bool true)], args := [d1, d2, d3, d4] }
  | _ => none }
def damageBurstRow : OpenClaim := { program := "ytmjigpnpcacefaadoor", sum := "9c3e9620f83debf3d1de95a37884de71e9ad72df5ab63b252849a1bca83ee2cc", func := "quantum/quantumlaw13.DamageBurst", spec := "damageBurst", unfollowed := true, recurses := true, named := ["quantum/crc.halves"], apart := false, laid := [("quantum/crc.halves", laid_quantum_crc_halves)] }
def DamageBurstSaid : Prop := damageBurstRow.holds Tryd.pinned (OpenSpec.ofChange damageBurstSpec)

/-- ITS FALSE NEIGHBOUR: 'it returns false'. Refute it at one input. -/
def damageBurstWrong : ChangeSpec := { name := "damageBurst", fn := fun _ => fun
  | [d1, d2, d3, d4] => { results := [.lit (.bool false)], args := [d1, d2, d3, d4] }
  | _ => none }
def DamageBurstWrongFalsely : Prop := damageBurstRow.holds Tryd.pinned (OpenSpec.ofChange damageBurstWrong)

/-- 'quantumlaw13.DamageCopies': WHATEVER THE INPUT: true; the input reads as it did. -/
def damageCopiesSpec : ChangeSpec := { name := "damageCopies", fn := fun _ => fun
  | [d1, d2, d3, d4] => { results := [.lit (.bool true)], args := [d1, d2, d3, d4] }
  | _ => none }
def damageCopiesRow : OpenClaim := { program := "ytmjigpnpcacefaadoor", sum := "9c3e9620f83debf3d1de95a37884de71e9ad72df5ab63b252849a1bca83ee2cc", func := "quantum/quantumlaw13.DamageCopies", spec := "damageCopies", unfollowed := true, recurses := true, named := ["quantum/crc.halves"], apart := false, laid := [("quantum/crc.halves", laid_quantum_crc_halves)] }
def DamageCopiesSaid : Prop := damageCopiesRow.holds Tryd.pinned (OpenSpec.ofChange damageCopiesSpec)

/-- ITS FALSE NEIGHBOUR: 'it returns false'. Refute it at one input. -/
def damageCopiesWrong : ChangeSpec := { name := "damageCopies", fn := fun _ => fun
  | [d1, d2, d3, d4] => { results := [.lit (.bool false)], args := [d1, d2, d3, d4] }
  | _ => none }
def DamageCopiesWrongFalsely : Prop := damageCopiesRow.holds Tryd.pinned (OpenSpec.ofChange damageCopiesWrong)

/-- 'quantumlaw13.DamageWrong': WHATEVER THE INPUT: true; the input reads as it did. -/
def damageWrongSpec : ChangeSpec := { name := "damageWrong", fn := fun _ => fun
  | [d1, d2, d3, d4] => { results := [.lit (.bool true)], args := [d1, d2, d3, d4] }
  | _ => none }
def damageWrongRow : OpenClaim := { program := "ytmjigpnpcacefaadoor", sum := "9c3e9620f83debf3d1de95a37884de71e9ad72df5ab63b252849a1bca83ee2cc", func := "quantum/quantumlaw13.DamageWrong", spec := "damageWrong", unfollowed := true, recurses := true, named := ["quantum/crc.halves"], apart := false, laid := [("quantum/crc.halves", laid_quantum_crc_halves)] }
def DamageWrongSaid : Prop := damageWrongRow.holds Tryd.pinned (OpenSpec.ofChange damageWrongSpec)

/-- ITS FALSE NEIGHBOUR: 'it returns false'. Refute it at one input. -/
def damageWrongWrong : ChangeSpec := { name := "damageWrong", fn := fun _ => fun
  | [d1, d2, d3, d4] => { results := [.lit (.bool false)], args := [d1, d2, d3, d4] }
  | _ => none }
def DamageWrongWrongFalsely : Prop := damageWrongRow.holds Tryd.pinned (OpenSpec.ofChange damageWrongWrong)

/-- 'quantumlaw13.DamageFound': WHATEVER THE INPUT: true; the input reads as it did. -/
def damageFoundSpec : ChangeSpec := { name := "damageFound", fn := fun _ => fun
  | [d1, d2, d3, d4, d5] => { results := [.lit (.bool true)], args := [d1, d2, d3, d4, d5] }
  | _ => none }
def damageFoundRow : OpenClaim := { program := "ytmjigpnpcacefaadoor", sum := "9c3e9620f83debf3d1de95a37884de71e9ad72df5ab63b252849a1bca83ee2cc", func := "quantum/quantumlaw13.DamageFound", spec := "damageFound", unfollowed := true, recurses := true, named := ["quantum/crc.halves"], apart := false, laid := [("quantum/crc.halves", laid_quantum_crc_halves)] }
def DamageFoundSaid : Prop := damageFoundRow.holds Tryd.pinned (OpenSpec.ofChange damageFoundSpec)

/-- ITS FALSE NEIGHBOUR: 'it returns false'. Refute it at one input. -/
def damageFoundWrong : ChangeSpec := { name := "damageFound", fn := fun _ => fun
  | [d1, d2, d3, d4, d5] => { results := [.lit (.bool false)], args := [d1, d2, d3, d4, d5] }
  | _ => none }
def DamageFoundWrongFalsely : Prop := damageFoundRow.holds Tryd.pinned (OpenSpec.ofChange damageFoundWrong)

/- THE SECOND FORM. 'bulk': how many values and letters a reading holds, each counted each time it is reached (what is shared counts as often as it is met; a slice's spare places count too). A statement '..UptoSaid' is the law's where the arguments, and the package variables that the reading takes, are together of bulk at most 1048576: NARROWER than '..Said'. Prove '..Said' where nothing that the law and all that it calls make is longer than what came in: it says more and counts as full. Else prove '..UptoSaid'. A law counts once. -/
mutual
def uptoBulk {H : Type} : DataW H → Nat
  | .lit (.string bytes) => bytes.length + 1
  | .lit _ => 1
  | .nil => 1
  | .ptr d => uptoBulk d + 1
  | .slice elems spare => uptoBulkAll elems + uptoBulkAll spare + 1
  | .agg parts => uptoBulkAll parts + 1
  | .iface _ d => uptoBulk d + 1
  | .map entries => uptoBulkEntries entries + 1
  | .held _ => 1
def uptoBulkAll {H : Type} : List (DataW H) → Nat
  | [] => 0
  | d :: r => uptoBulk d + uptoBulkAll r
def uptoBulkEntries {H : Type} : List (Lit × DataW H) → Nat
  | [] => 0
  | x :: r => uptoBulkEntry x + uptoBulkEntries r
def uptoBulkEntry {H : Type} : Lit × DataW H → Nat
  | (.string bytes, d) => bytes.length + uptoBulk d + 1
  | (_, d) => uptoBulk d + 1
 end
def uptoSmall : (H : Type) → List (DataW H) → Bool := fun _ ds => decide (uptoBulkAll ds ≤ 1048576)
def OpenSpec.upto (s : _root_.Go.ChangeSpec) : _root_.Go.OpenSpec := { _root_.Go.OpenSpec.ofChange s with cond := some uptoSmall }

/-- 'quantumlaw13.DamageBursts', WHERE WHAT IT READS IS OF BULK AT MOST 1048576: true; the input reads as it did. -/
def damageBurstsUptoRow : OpenClaim := { program := "ytmjigpnpcacefaadoor", sum := "9c3e9620f83debf3d1de95a37884de71e9ad72df5ab63b252849a1bca83ee2cc", func := "quantum/quantumlaw13.DamageBursts", spec := "damageBursts", unfollowed := true, recurses := true, named := ["quantum/crc.halves"], apart := false, laid := [("quantum/crc.halves", laid_quantum_crc_halves)], narrowed := true }
def DamageBurstsUptoSaid : Prop := damageBurstsUptoRow.holds Tryd.pinned (OpenSpec.upto damageBurstsSpec)

/-- 'quantumlaw13.DamagePieces', WHERE WHAT IT READS IS OF BULK AT MOST 1048576: true; the input reads as it did. -/
def damagePiecesUptoRow : OpenClaim := { program := "ytmjigpnpcacefaadoor", sum := "9c3e9620f83debf3d1de95a37884de71e9ad72df5ab63b252849a1bca83ee2cc", func := "quantum/quantumlaw13.DamagePieces", spec := "damagePieces", unfollowed := true, recurses := true, named := ["quantum/crc.halves"], apart := false, laid := [("quantum/crc.halves", laid_quantum_crc_halves)], narrowed := true }
def DamagePiecesUptoSaid : Prop := damagePiecesUptoRow.holds Tryd.pinned (OpenSpec.upto damagePiecesSpec)

/-- 'quantumlaw13.DamageTwice', WHERE WHAT IT READS IS OF BULK AT MOST 1048576: true; the input reads as it did. -/
def damageTwiceUptoRow : OpenClaim := { program := "ytmjigpnpcacefaadoor", sum := "9c3e9620f83debf3d1de95a37884de71e9ad72df5ab63b252849a1bca83ee2cc", func := "quantum/quantumlaw13.DamageTwice", spec := "damageTwice", unfollowed := true, recurses := true, named := ["quantum/crc.halves"], apart := false, laid := [("quantum/crc.halves", laid_quantum_crc_halves)], narrowed := true }
def DamageTwiceUptoSaid : Prop := damageTwiceUptoRow.holds Tryd.pinned (OpenSpec.upto damageTwiceSpec)

/-- 'quantumlaw13.DamageBurst', WHERE WHAT IT READS IS OF BULK AT MOST 1048576: true; the input reads as it did. -/
def damageBurstUptoRow : OpenClaim := { program := "ytmjigpnpcacefaadoor", sum := "9c3e9620f83debf3d1de95a37884de71e9ad72df5ab63b252849a1bca83ee2cc", func := "quantum/quantumlaw13.DamageBurst", spec := "damageBurst", unfollowed := true, recurses := true, named := ["quantum/crc.halves"], apart := false, laid := [("quantum/crc.halves", laid_quantum_crc_halves)], narrowed := true }
def DamageBurstUptoSaid : Prop := damageBurstUptoRow.holds Tryd.pinned (OpenSpec.upto damageBurstSpec)

/-- 'quantumlaw13.DamageCopies', WHERE WHAT IT READS IS OF BULK AT MOST 1048576: true; the input reads as it did. -/
def damageCopiesUptoRow : OpenClaim := { program := "ytmjigpnpcacefaadoor", sum := "9c3e9620f83debf3d1de95a37884de71e9ad72df5ab63b252849a1bca83ee2cc", func := "quantum/quantumlaw13.DamageCopies", spec := "damageCopies", unfollowed := true, recurses := true, named := ["quantum/crc.halves"], apart := false, laid := [("quantum/crc.halves", laid_quantum_crc_halves)], narrowed := true }
def DamageCopiesUptoSaid : Prop := damageCopiesUptoRow.holds Tryd.pinned (OpenSpec.upto damageCopiesSpec)

/-- 'quantumlaw13.DamageWrong', WHERE WHAT IT READS IS OF BULK AT MOST 1048576: true; the input reads as it did. -/
def damageWrongUptoRow : OpenClaim := { program := "ytmjigpnpcacefaadoor", sum := "9c3e9620f83debf3d1de95a37884de71e9ad72df5ab63b252849a1bca83ee2cc", func := "quantum/quantumlaw13.DamageWrong", spec := "damageWrong", unfollowed := true, recurses := true, named := ["quantum/crc.halves"], apart := false, laid := [("quantum/crc.halves", laid_quantum_crc_halves)], narrowed := true }
def DamageWrongUptoSaid : Prop := damageWrongUptoRow.holds Tryd.pinned (OpenSpec.upto damageWrongSpec)

/-- 'quantumlaw13.DamageFound', WHERE WHAT IT READS IS OF BULK AT MOST 1048576: true; the input reads as it did. -/
def damageFoundUptoRow : OpenClaim := { program := "ytmjigpnpcacefaadoor", sum := "9c3e9620f83debf3d1de95a37884de71e9ad72df5ab63b252849a1bca83ee2cc", func := "quantum/quantumlaw13.DamageFound", spec := "damageFound", unfollowed := true, recurses := true, named := ["quantum/crc.halves"], apart := false, laid := [("quantum/crc.halves", laid_quantum_crc_halves)], narrowed := true }
def DamageFoundUptoSaid : Prop := damageFoundUptoRow.holds Tryd.pinned (OpenSpec.upto damageFoundSpec)

end Rows
end Go.Proofs.YtmjigpnpcacefaaDoor
