/-
  No cell of these rows narrows 'for every input' (looked for: loops, veiled, ifaces, maps, wideKeys, modest, calm, conditions, laid).
  DERIVED. THE GIVEN ROWS OF THIS SEAT. 8 by the template 'for every input the law returns true; each argument reads behind the call as it read before'; 0 by the template 'total and deterministic' (their statements: YtfknpeajihecdaaTotals.lean).
  GIVEN WITH THE SEED: the statements are not yours to turn. If you find one false, say at which input.
  Laid BY PROGRAM, IN A SANDBOX (cutbox-rows.mjs): the forced cells as the released guide's own fill.sh prints them over the translation da29a4cde45dcb96… (all of the seat's roots in one cut). By AI agents, Wed Nov 11 2026. No macro, syntax, notation, axiom, sorry.
-/
import Derived.Test.YtfknpeajihecdaaChecked
import GoSem.Claim
import GoSem.ClaimJoined
import GoSem.ClaimMapViews
import Derived.JoinedTies
import Derived.KernelRfl
namespace Go.Proofs.Ytfknpeajihecdaa
/- THE CELL 'sum', in the pinned program and in every row, IS THE sha256 OF THE DUMP (.gsa) THAT YtfknpeajihecdaaProg.lean LOADS. Nothing in Lean hashes anything: it is a label: what it is worth is what the hold of that sum in a sandbox is worth. -/
noncomputable def Try.pinned : Pinned := { name := "ytfknpeajihecdaa", sum := "da29a4cde45dcb96f58bd27b342840c59d09f24f6cd6ad62e3d43ad2db17c4c2", checked := Try.checked }
namespace Rows
def none {H : Type} : Left H := { results := [], args := [] }

/-- 'patchbaykeep3.DgramBack': WHATEVER THE INPUT: true; the input reads as it did. -/
def dgramBackSpec : ChangeSpec := { name := "dgramBack", fn := fun _ => fun
  | [d1, d2, d3, d4] => { results := [.lit (.bool true)], args := [d1, d2, d3, d4] }
  | _ => none }
def dgramBackRow : OpenClaim := { program := "ytfknpeajihecdaa", sum := "da29a4cde45dcb96f58bd27b342840c59d09f24f6cd6ad62e3d43ad2db17c4c2", func := "patchbay/patchbaykeep3.DgramBack", spec := "dgramBack", apart := false }
def DgramBackSaid : Prop := dgramBackRow.holds Try.pinned (OpenSpec.ofChange dgramBackSpec)

/-- ITS FALSE NEIGHBOUR: 'it returns false'. Refute it at one input. -/
def dgramBackWrong : ChangeSpec := { name := "dgramBack", fn := fun _ => fun
  | [d1, d2, d3, d4] => { results := [.lit (.bool false)], args := [d1, d2, d3, d4] }
  | _ => none }
def DgramBackWrongFalsely : Prop := dgramBackRow.holds Try.pinned (OpenSpec.ofChange dgramBackWrong)

/-- 'patchbaykeep3.DgramSpoilt': WHATEVER THE INPUT: true; the input reads as it did. -/
def dgramSpoiltSpec : ChangeSpec := { name := "dgramSpoilt", fn := fun _ => fun
  | [d1, d2, d3, d4, d5] => { results := [.lit (.bool true)], args := [d1, d2, d3, d4, d5] }
  | _ => none }
def dgramSpoiltRow : OpenClaim := { program := "ytfknpeajihecdaa", sum := "da29a4cde45dcb96f58bd27b342840c59d09f24f6cd6ad62e3d43ad2db17c4c2", func := "patchbay/patchbaykeep3.DgramSpoilt", spec := "dgramSpoilt", apart := false }
def DgramSpoiltSaid : Prop := dgramSpoiltRow.holds Try.pinned (OpenSpec.ofChange dgramSpoiltSpec)

/-- ITS FALSE NEIGHBOUR: 'it returns false'. Refute it at one input. -/
def dgramSpoiltWrong : ChangeSpec := { name := "dgramSpoilt", fn := fun _ => fun
  | [d1, d2, d3, d4, d5] => { results := [.lit (.bool false)], args := [d1, d2, d3, d4, d5] }
  | _ => none }
def DgramSpoiltWrongFalsely : Prop := dgramSpoiltRow.holds Try.pinned (OpenSpec.ofChange dgramSpoiltWrong)

/-- 'patchbaykeep3.RuleFirst': WHATEVER THE INPUT: true; the input reads as it did. -/
def ruleFirstSpec : ChangeSpec := { name := "ruleFirst", fn := fun _ => fun
  | [d1, d2] => { results := [.lit (.bool true)], args := [d1, d2] }
  | _ => none }
def ruleFirstRow : OpenClaim := { program := "ytfknpeajihecdaa", sum := "da29a4cde45dcb96f58bd27b342840c59d09f24f6cd6ad62e3d43ad2db17c4c2", func := "patchbay/patchbaykeep3.RuleFirst", spec := "ruleFirst", apart := false }
def RuleFirstSaid : Prop := ruleFirstRow.holds Try.pinned (OpenSpec.ofChange ruleFirstSpec)

/-- ITS FALSE NEIGHBOUR: 'it returns false'. Refute it at one input. -/
def ruleFirstWrong : ChangeSpec := { name := "ruleFirst", fn := fun _ => fun
  | [d1, d2] => { results := [.lit (.bool false)], args := [d1, d2] }
  | _ => none }
def RuleFirstWrongFalsely : Prop := ruleFirstRow.holds Try.pinned (OpenSpec.ofChange ruleFirstWrong)

/-- 'patchbaykeep3.LeaseAll': WHATEVER THE INPUT: true; the input reads as it did. -/
def leaseAllSpec : ChangeSpec := { name := "leaseAll", fn := fun _ => fun
  | [d1, d2] => { results := [.lit (.bool true)], args := [d1, d2] }
  | _ => none }
def leaseAllRow : OpenClaim := { program := "ytfknpeajihecdaa", sum := "da29a4cde45dcb96f58bd27b342840c59d09f24f6cd6ad62e3d43ad2db17c4c2", func := "patchbay/patchbaykeep3.LeaseAll", spec := "leaseAll", inPlace := ["slices.overlaps[patchbay/api.LeaseEntry]"], unfollowed := true, recurses := true, apart := false }
def LeaseAllSaid : Prop := leaseAllRow.holds Try.pinned (OpenSpec.ofChange leaseAllSpec)

/-- ITS FALSE NEIGHBOUR: 'it returns false'. Refute it at one input. -/
def leaseAllWrong : ChangeSpec := { name := "leaseAll", fn := fun _ => fun
  | [d1, d2] => { results := [.lit (.bool false)], args := [d1, d2] }
  | _ => none }
def LeaseAllWrongFalsely : Prop := leaseAllRow.holds Try.pinned (OpenSpec.ofChange leaseAllWrong)

/-- 'patchbaykeep3.LeaseFree': WHATEVER THE INPUT: true; the input reads as it did. -/
def leaseFreeSpec : ChangeSpec := { name := "leaseFree", fn := fun _ => fun
  | [d1, d2, d3] => { results := [.lit (.bool true)], args := [d1, d2, d3] }
  | _ => none }
def leaseFreeRow : OpenClaim := { program := "ytfknpeajihecdaa", sum := "da29a4cde45dcb96f58bd27b342840c59d09f24f6cd6ad62e3d43ad2db17c4c2", func := "patchbay/patchbaykeep3.LeaseFree", spec := "leaseFree", inPlace := ["slices.overlaps[patchbay/api.LeaseEntry]"], unfollowed := true, recurses := true, apart := false }
def LeaseFreeSaid : Prop := leaseFreeRow.holds Try.pinned (OpenSpec.ofChange leaseFreeSpec)

/-- ITS FALSE NEIGHBOUR: 'it returns false'. Refute it at one input. -/
def leaseFreeWrong : ChangeSpec := { name := "leaseFree", fn := fun _ => fun
  | [d1, d2, d3] => { results := [.lit (.bool false)], args := [d1, d2, d3] }
  | _ => none }
def LeaseFreeWrongFalsely : Prop := leaseFreeRow.holds Try.pinned (OpenSpec.ofChange leaseFreeWrong)

/-- 'patchbaykeep3.DgramOrder': WHATEVER THE INPUT: true; the input reads as it did. -/
def dgramOrderSpec : ChangeSpec := { name := "dgramOrder", fn := fun _ => fun
  | [d1, d2, d3, d4] => { results := [.lit (.bool true)], args := [d1, d2, d3, d4] }
  | _ => none }
def dgramOrderRow : OpenClaim := { program := "ytfknpeajihecdaa", sum := "da29a4cde45dcb96f58bd27b342840c59d09f24f6cd6ad62e3d43ad2db17c4c2", func := "patchbay/patchbaykeep3.DgramOrder", spec := "dgramOrder", inPlace := ["slices.overlaps[patchbay/dgram.queue]"], unfollowed := true, recurses := true, apart := false }
def DgramOrderSaid : Prop := dgramOrderRow.holds Try.pinned (OpenSpec.ofChange dgramOrderSpec)

/-- ITS FALSE NEIGHBOUR: 'it returns false'. Refute it at one input. -/
def dgramOrderWrong : ChangeSpec := { name := "dgramOrder", fn := fun _ => fun
  | [d1, d2, d3, d4] => { results := [.lit (.bool false)], args := [d1, d2, d3, d4] }
  | _ => none }
def DgramOrderWrongFalsely : Prop := dgramOrderRow.holds Try.pinned (OpenSpec.ofChange dgramOrderWrong)

/-- 'patchbaykeep3.LeaseKeeps': WHATEVER THE INPUT: true; the input reads as it did. -/
def leaseKeepsSpec : ChangeSpec := { name := "leaseKeeps", fn := fun _ => fun
  | [d1, d2, d3, d4] => { results := [.lit (.bool true)], args := [d1, d2, d3, d4] }
  | _ => none }
def leaseKeepsRow : OpenClaim := { program := "ytfknpeajihecdaa", sum := "da29a4cde45dcb96f58bd27b342840c59d09f24f6cd6ad62e3d43ad2db17c4c2", func := "patchbay/patchbaykeep3.LeaseKeeps", spec := "leaseKeeps", inPlace := ["slices.overlaps[patchbay/api.LeaseEntry]"], unfollowed := true, recurses := true, apart := false }
def LeaseKeepsSaid : Prop := leaseKeepsRow.holds Try.pinned (OpenSpec.ofChange leaseKeepsSpec)

/-- ITS FALSE NEIGHBOUR: 'it returns false'. Refute it at one input. -/
def leaseKeepsWrong : ChangeSpec := { name := "leaseKeeps", fn := fun _ => fun
  | [d1, d2, d3, d4] => { results := [.lit (.bool false)], args := [d1, d2, d3, d4] }
  | _ => none }
def LeaseKeepsWrongFalsely : Prop := leaseKeepsRow.holds Try.pinned (OpenSpec.ofChange leaseKeepsWrong)

/-- 'patchbaykeep3.LeaseOnce': WHATEVER THE INPUT: true; the input reads as it did. -/
def leaseOnceSpec : ChangeSpec := { name := "leaseOnce", fn := fun _ => fun
  | [d1, d2, d3, d4, d5] => { results := [.lit (.bool true)], args := [d1, d2, d3, d4, d5] }
  | _ => none }
def leaseOnceRow : OpenClaim := { program := "ytfknpeajihecdaa", sum := "da29a4cde45dcb96f58bd27b342840c59d09f24f6cd6ad62e3d43ad2db17c4c2", func := "patchbay/patchbaykeep3.LeaseOnce", spec := "leaseOnce", inPlace := ["slices.overlaps[patchbay/api.LeaseEntry]"], unfollowed := true, recurses := true, apart := false }
def LeaseOnceSaid : Prop := leaseOnceRow.holds Try.pinned (OpenSpec.ofChange leaseOnceSpec)

/-- ITS FALSE NEIGHBOUR: 'it returns false'. Refute it at one input. -/
def leaseOnceWrong : ChangeSpec := { name := "leaseOnce", fn := fun _ => fun
  | [d1, d2, d3, d4, d5] => { results := [.lit (.bool false)], args := [d1, d2, d3, d4, d5] }
  | _ => none }
def LeaseOnceWrongFalsely : Prop := leaseOnceRow.holds Try.pinned (OpenSpec.ofChange leaseOnceWrong)

/- THE SECOND FORM. 'bulk': how many values and letters a reading holds, each counted each time it is reached (what is shared counts as often as it is met; a slice's spare places count too). A statement '..UptoSaid' is the law's where the arguments, and the package variables that the reading takes, are together of bulk at most 1048576: NARROWER than '..Said'. Prove '..Said' where nothing that the law and all that it calls make is longer than what came in: it says more and counts as full. Else prove '..UptoSaid'. A law counts once. -/
mutual
def uptoBulk {H : Type} : DataW H → Nat
  | .lit (.string bytes) => bytes.length + 1
  | .lit _ => 1
  | .nil => 1
  | .ptr d => uptoBulk d + 1
  | .slice elems spare => uptoBulkAll elems + uptoBulkAll spare + 1
  | .agg parts => uptoBulkAll parts + 1
  | .iface _ d => uptoBulk d + 1
  | .map entries => uptoBulkEntries entries + 1
  | .held _ => 1
def uptoBulkAll {H : Type} : List (DataW H) → Nat
  | [] => 0
  | d :: r => uptoBulk d + uptoBulkAll r
def uptoBulkEntries {H : Type} : List (Lit × DataW H) → Nat
  | [] => 0
  | x :: r => uptoBulkEntry x + uptoBulkEntries r
def uptoBulkEntry {H : Type} : Lit × DataW H → Nat
  | (.string bytes, d) => bytes.length + uptoBulk d + 1
  | (_, d) => uptoBulk d + 1
 end
def uptoSmall : (H : Type) → List (DataW H) → Bool := fun _ ds => decide (uptoBulkAll ds ≤ 1048576)
def OpenSpec.upto (s : _root_.Go.ChangeSpec) : _root_.Go.OpenSpec := { _root_.Go.OpenSpec.ofChange s with cond := some uptoSmall }

/-- 'patchbaykeep3.DgramBack', WHERE WHAT IT READS IS OF BULK AT MOST 1048576: true; the input reads as it did. -/
def dgramBackUptoRow : OpenClaim := { program := "ytfknpeajihecdaa", sum := "da29a4cde45dcb96f58bd27b342840c59d09f24f6cd6ad62e3d43ad2db17c4c2", func := "patchbay/patchbaykeep3.DgramBack", spec := "dgramBack", apart := false, narrowed := true }
def DgramBackUptoSaid : Prop := dgramBackUptoRow.holds Try.pinned (OpenSpec.upto dgramBackSpec)

/-- 'patchbaykeep3.DgramSpoilt', WHERE WHAT IT READS IS OF BULK AT MOST 1048576: true; the input reads as it did. -/
def dgramSpoiltUptoRow : OpenClaim := { program := "ytfknpeajihecdaa", sum := "da29a4cde45dcb96f58bd27b342840c59d09f24f6cd6ad62e3d43ad2db17c4c2", func := "patchbay/patchbaykeep3.DgramSpoilt", spec := "dgramSpoilt", apart := false, narrowed := true }
def DgramSpoiltUptoSaid : Prop := dgramSpoiltUptoRow.holds Try.pinned (OpenSpec.upto dgramSpoiltSpec)

/-- 'patchbaykeep3.RuleFirst', WHERE WHAT IT READS IS OF BULK AT MOST 1048576: true; the input reads as it did. -/
def ruleFirstUptoRow : OpenClaim := { program := "ytfknpeajihecdaa", sum := "da29a4cde45dcb96f58bd27b342840c59d09f24f6cd6ad62e3d43ad2db17c4c2", func := "patchbay/patchbaykeep3.RuleFirst", spec := "ruleFirst", apart := false, narrowed := true }
def RuleFirstUptoSaid : Prop := ruleFirstUptoRow.holds Try.pinned (OpenSpec.upto ruleFirstSpec)

/-- 'patchbaykeep3.LeaseAll', WHERE WHAT IT READS IS OF BULK AT MOST 1048576: true; the input reads as it did. -/
def leaseAllUptoRow : OpenClaim := { program := "ytfknpeajihecdaa", sum := "da29a4cde45dcb96f58bd27b342840c59d09f24f6cd6ad62e3d43ad2db17c4c2", func := "patchbay/patchbaykeep3.LeaseAll", spec := "leaseAll", inPlace := ["slices.overlaps[patchbay/api.LeaseEntry]"], unfollowed := true, recurses := true, apart := false, narrowed := true }
def LeaseAllUptoSaid : Prop := leaseAllUptoRow.holds Try.pinned (OpenSpec.upto leaseAllSpec)

/-- 'patchbaykeep3.LeaseFree', WHERE WHAT IT READS IS OF BULK AT MOST 1048576: true; the input reads as it did. -/
def leaseFreeUptoRow : OpenClaim := { program := "ytfknpeajihecdaa", sum := "da29a4cde45dcb96f58bd27b342840c59d09f24f6cd6ad62e3d43ad2db17c4c2", func := "patchbay/patchbaykeep3.LeaseFree", spec := "leaseFree", inPlace := ["slices.overlaps[patchbay/api.LeaseEntry]"], unfollowed := true, recurses := true, apart := false, narrowed := true }
def LeaseFreeUptoSaid : Prop := leaseFreeUptoRow.holds Try.pinned (OpenSpec.upto leaseFreeSpec)

/-- 'patchbaykeep3.DgramOrder', WHERE WHAT IT READS IS OF BULK AT MOST 1048576: true; the input reads as it did. -/
def dgramOrderUptoRow : OpenClaim := { program := "ytfknpeajihecdaa", sum := "da29a4cde45dcb96f58bd27b342840c59d09f24f6cd6ad62e3d43ad2db17c4c2", func := "patchbay/patchbaykeep3.DgramOrder", spec := "dgramOrder", inPlace := ["slices.overlaps[patchbay/dgram.queue]"], unfollowed := true, recurses := true, apart := false, narrowed := true }
def DgramOrderUptoSaid : Prop := dgramOrderUptoRow.holds Try.pinned (OpenSpec.upto dgramOrderSpec)

/-- 'patchbaykeep3.LeaseKeeps', WHERE WHAT IT READS IS OF BULK AT MOST 1048576: true; the input reads as it did. -/
def leaseKeepsUptoRow : OpenClaim := { program := "ytfknpeajihecdaa", sum := "da29a4cde45dcb96f58bd27b342840c59d09f24f6cd6ad62e3d43ad2db17c4c2", func := "patchbay/patchbaykeep3.LeaseKeeps", spec := "leaseKeeps", inPlace := ["slices.overlaps[patchbay/api.LeaseEntry]"], unfollowed := true, recurses := true, apart := false, narrowed := true }
def LeaseKeepsUptoSaid : Prop := leaseKeepsUptoRow.holds Try.pinned (OpenSpec.upto leaseKeepsSpec)

/-- 'patchbaykeep3.LeaseOnce', WHERE WHAT IT READS IS OF BULK AT MOST 1048576: true; the input reads as it did. -/
def leaseOnceUptoRow : OpenClaim := { program := "ytfknpeajihecdaa", sum := "da29a4cde45dcb96f58bd27b342840c59d09f24f6cd6ad62e3d43ad2db17c4c2", func := "patchbay/patchbaykeep3.LeaseOnce", spec := "leaseOnce", inPlace := ["slices.overlaps[patchbay/api.LeaseEntry]"], unfollowed := true, recurses := true, apart := false, narrowed := true }
def LeaseOnceUptoSaid : Prop := leaseOnceUptoRow.holds Try.pinned (OpenSpec.upto leaseOnceSpec)

end Rows
end Go.Proofs.Ytfknpeajihecdaa
