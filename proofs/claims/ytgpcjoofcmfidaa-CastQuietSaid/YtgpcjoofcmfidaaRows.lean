/-
  No cell of these rows narrows 'for every input' (looked for: loops, veiled, ifaces, maps, wideKeys, modest, calm, conditions, laid).
  DERIVED. THE GIVEN ROWS OF THIS SEAT. 4 by the template 'for every input the law returns true; each argument reads behind the call as it read before'; 0 by the template 'total and deterministic' (their statements: YtgpcjoofcmfidaaTotals.lean).
  GIVEN WITH THE SEED: the statements are not yours to turn. If you find one false, say at which input.
  Laid BY PROGRAM, IN A SANDBOX (cutbox-rows.mjs): the forced cells as the released guide's own fill.sh prints them over the translation a28cc1e088a1e513… (all of the seat's roots in one cut). By AI agents, Wed Nov 11 2026. No macro, syntax, notation, axiom, sorry.
-/
import Derived.Test.YtgpcjoofcmfidaaChecked
import GoSem.Claim
import GoSem.ClaimJoined
import GoSem.ClaimMapViews
import Derived.JoinedTies
import Derived.KernelRfl
namespace Go.Proofs.Ytgpcjoofcmfidaa
/- THE CELL 'sum', in the pinned program and in every row, IS THE sha256 OF THE DUMP (.gsa) THAT YtgpcjoofcmfidaaProg.lean LOADS. Nothing in Lean hashes anything: it is a label: what it is worth is what the hold of that sum in a sandbox is worth. -/
noncomputable def Try.pinned : Pinned := { name := "ytgpcjoofcmfidaa", sum := "a28cc1e088a1e513a55ff65603e716ed119560c62eaaee71e5675bebfc9151e7", checked := Try.checked }
namespace Rows
def none {H : Type} : Left H := { results := [], args := [] }

/-- 'patchbaykeep3.CastQuiet': WHATEVER THE INPUT: true; the input reads as it did. -/
def castQuietSpec : ChangeSpec := { name := "castQuiet", fn := fun _ => fun
  | [d1, d2] => { results := [.lit (.bool true)], args := [d1, d2] }
  | _ => none }
def castQuietRow : OpenClaim := { program := "ytgpcjoofcmfidaa", sum := "a28cc1e088a1e513a55ff65603e716ed119560c62eaaee71e5675bebfc9151e7", func := "patchbay/patchbaykeep3.CastQuiet", spec := "castQuiet", apart := false }
def CastQuietSaid : Prop := castQuietRow.holds Try.pinned (OpenSpec.ofChange castQuietSpec)

/-- ITS FALSE NEIGHBOUR: 'it returns false'. Refute it at one input. -/
def castQuietWrong : ChangeSpec := { name := "castQuiet", fn := fun _ => fun
  | [d1, d2] => { results := [.lit (.bool false)], args := [d1, d2] }
  | _ => none }
def CastQuietWrongFalsely : Prop := castQuietRow.holds Try.pinned (OpenSpec.ofChange castQuietWrong)

/-- 'patchbaykeep3.CastArrives': WHATEVER THE INPUT: true; the input reads as it did. -/
def castArrivesSpec : ChangeSpec := { name := "castArrives", fn := fun _ => fun
  | [d1, d2, d3] => { results := [.lit (.bool true)], args := [d1, d2, d3] }
  | _ => none }
def castArrivesRow : OpenClaim := { program := "ytgpcjoofcmfidaa", sum := "a28cc1e088a1e513a55ff65603e716ed119560c62eaaee71e5675bebfc9151e7", func := "patchbay/patchbaykeep3.CastArrives", spec := "castArrives", apart := false }
def CastArrivesSaid : Prop := castArrivesRow.holds Try.pinned (OpenSpec.ofChange castArrivesSpec)

/-- ITS FALSE NEIGHBOUR: 'it returns false'. Refute it at one input. -/
def castArrivesWrong : ChangeSpec := { name := "castArrives", fn := fun _ => fun
  | [d1, d2, d3] => { results := [.lit (.bool false)], args := [d1, d2, d3] }
  | _ => none }
def CastArrivesWrongFalsely : Prop := castArrivesRow.holds Try.pinned (OpenSpec.ofChange castArrivesWrong)

/-- 'patchbaykeep3.CastRepairs': WHATEVER THE INPUT: true; the input reads as it did. -/
def castRepairsSpec : ChangeSpec := { name := "castRepairs", fn := fun _ => fun
  | [d1, d2, d3] => { results := [.lit (.bool true)], args := [d1, d2, d3] }
  | _ => none }
def castRepairsRow : OpenClaim := { program := "ytgpcjoofcmfidaa", sum := "a28cc1e088a1e513a55ff65603e716ed119560c62eaaee71e5675bebfc9151e7", func := "patchbay/patchbaykeep3.CastRepairs", spec := "castRepairs", apart := false }
def CastRepairsSaid : Prop := castRepairsRow.holds Try.pinned (OpenSpec.ofChange castRepairsSpec)

/-- ITS FALSE NEIGHBOUR: 'it returns false'. Refute it at one input. -/
def castRepairsWrong : ChangeSpec := { name := "castRepairs", fn := fun _ => fun
  | [d1, d2, d3] => { results := [.lit (.bool false)], args := [d1, d2, d3] }
  | _ => none }
def CastRepairsWrongFalsely : Prop := castRepairsRow.holds Try.pinned (OpenSpec.ofChange castRepairsWrong)

/-- 'patchbaykeep3.CastFirst': WHATEVER THE INPUT: true; the input reads as it did. -/
def castFirstSpec : ChangeSpec := { name := "castFirst", fn := fun _ => fun
  | [d1, d2, d3] => { results := [.lit (.bool true)], args := [d1, d2, d3] }
  | _ => none }
def castFirstRow : OpenClaim := { program := "ytgpcjoofcmfidaa", sum := "a28cc1e088a1e513a55ff65603e716ed119560c62eaaee71e5675bebfc9151e7", func := "patchbay/patchbaykeep3.CastFirst", spec := "castFirst", apart := false }
def CastFirstSaid : Prop := castFirstRow.holds Try.pinned (OpenSpec.ofChange castFirstSpec)

/-- ITS FALSE NEIGHBOUR: 'it returns false'. Refute it at one input. -/
def castFirstWrong : ChangeSpec := { name := "castFirst", fn := fun _ => fun
  | [d1, d2, d3] => { results := [.lit (.bool false)], args := [d1, d2, d3] }
  | _ => none }
def CastFirstWrongFalsely : Prop := castFirstRow.holds Try.pinned (OpenSpec.ofChange castFirstWrong)

/- THE SECOND FORM. 'bulk': how many values and letters a reading holds, each counted each time it is reached (what is shared counts as often as it is met; a slice's spare places count too). A statement '..UptoSaid' is the law's where the arguments, and the package variables that the reading takes, are together of bulk at most 1048576: NARROWER than '..Said'. Prove '..Said' where nothing that the law and all that it calls make is longer than what came in: it says more and counts as full. Else prove '..UptoSaid'. A law counts once. -/
mutual
def uptoBulk {H : Type} : DataW H → Nat
  | .lit (.string bytes) => bytes.length + 1
  | .lit _ => 1
  | .nil => 1
  | .ptr d => uptoBulk d + 1
  | .slice elems spare => uptoBulkAll elems + uptoBulkAll spare + 1
  | .agg parts => uptoBulkAll parts + 1
  | .iface _ d => uptoBulk d + 1
  | .map entries => uptoBulkEntries entries + 1
  | .held _ => 1
def uptoBulkAll {H : Type} : List (DataW H) → Nat
  | [] => 0
  | d :: r => uptoBulk d + uptoBulkAll r
def uptoBulkEntries {H : Type} : List (Lit × DataW H) → Nat
  | [] => 0
  | x :: r => uptoBulkEntry x + uptoBulkEntries r
def uptoBulkEntry {H : Type} : Lit × DataW H → Nat
  | (.string bytes, d) => bytes.length + uptoBulk d + 1
  | (_, d) => uptoBulk d + 1
 end
def uptoSmall : (H : Type) → List (DataW H) → Bool := fun _ ds => decide (uptoBulkAll ds ≤ 1048576)
def OpenSpec.upto (s : _root_.Go.ChangeSpec) : _root_.Go.OpenSpec := { _root_.Go.OpenSpec.ofChange s with cond := some uptoSmall }

/-- 'patchbaykeep3.CastQuiet', WHERE WHAT IT READS IS OF BULK AT MOST 1048576: true; the input reads as it did. -/
def castQuietUptoRow : OpenClaim := { program := "ytgpcjoofcmfidaa", sum := "a28cc1e088a1e513a55ff65603e716ed119560c62eaaee71e5675bebfc9151e7", func := "patchbay/patchbaykeep3.CastQuiet", spec := "castQuiet", apart := false, narrowed := true }
def CastQuietUptoSaid : Prop := castQuietUptoRow.holds Try.pinned (OpenSpec.upto castQuietSpec)

/-- 'patchbaykeep3.CastArrives', WHERE WHAT IT READS IS OF BULK AT MOST 1048576: true; the input reads as it did. -/
def castArrivesUptoRow : OpenClaim := { program := "ytgpcjoofcmfidaa", sum := "a28cc1e088a1e513a55ff65603e716ed119560c62eaaee71e5675bebfc9151e7", func := "patchbay/patchbaykeep3.CastArrives", spec := "castArrives", apart := false, narrowed := true }
def CastArrivesUptoSaid : Prop := castArrivesUptoRow.holds Try.pinned (OpenSpec.upto castArrivesSpec)

/-- 'patchbaykeep3.CastRepairs', WHERE WHAT IT READS IS OF BULK AT MOST 1048576: true; the input reads as it did. -/
def castRepairsUptoRow : OpenClaim := { program := "ytgpcjoofcmfidaa", sum := "a28cc1e088a1e513a55ff65603e716ed119560c62eaaee71e5675bebfc9151e7", func := "patchbay/patchbaykeep3.CastRepairs", spec := "castRepairs", apart := false, narrowed := true }
def CastRepairsUptoSaid : Prop := castRepairsUptoRow.holds Try.pinned (OpenSpec.upto castRepairsSpec)

/-- 'patchbaykeep3.CastFirst', WHERE WHAT IT READS IS OF BULK AT MOST 1048576: true; the input reads as it did. -/
def castFirstUptoRow : OpenClaim := { program := "ytgpcjoofcmfidaa", sum := "a28cc1e088a1e513a55ff65603e716ed119560c62eaaee71e5675bebfc9151e7", func := "patchbay/patchbaykeep3.CastFirst", spec := "castFirst", apart := false, narrowed := true }
def CastFirstUptoSaid : Prop := castFirstUptoRow.holds Try.pinned (OpenSpec.upto castFirstSpec)

end Rows
end Go.Proofs.Ytgpcjoofcmfidaa
