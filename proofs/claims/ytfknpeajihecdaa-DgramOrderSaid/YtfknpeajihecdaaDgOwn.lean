/-
  The sample datagram, said of owned pieces.
-/
import Derived.Test.YtfknpeajihecdaaODg4
import Derived.Test.YtfknpeajihecdaaDgOwn0
namespace Go.Proofs.Ytfknpeajihecdaa
open Go.XM Go.Dg

theorem dgFact (F : Fm) (w : World) (H : Own w F []) : Ret Try.prog 11 #[] w (Post F fun v L' => v = .bool true ∧ L' = []) := of_old H (Old.dgramFact_ret w)
end Go.Proofs.Ytfknpeajihecdaa
