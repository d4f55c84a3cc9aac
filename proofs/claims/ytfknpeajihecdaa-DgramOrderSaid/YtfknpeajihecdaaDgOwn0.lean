/-
  What is known of datagrams, said of owned pieces.
-/
import Derived.Test.YtfknpeajihecdaaODg2
import Derived.Test.YtfknpeajihecdaaYOwn
namespace Go.Proofs.Ytfknpeajihecdaa
open Go.XM Go.Dg

theorem keep_old {S : List Nat} {w w' : World} (h : Go.XO.Keep S w w') : Keep S w w' := ⟨h.os, h.tape, h.output, h.size, h.block⟩

theorem Own.keeps {w w' : World} {F : Fm} {L : List Assn} (H : Own w F L) (h : Keep [] w w') : Own w' F L := by
  obtain ⟨hp, hs, h1, h2⟩ := H.body
  have k : ∀ {c : Hl}, inW c w → inW c w' := fun {c} hc i o hi => Keep.get h (hc i o hi) (by simp)
  exact ⟨⟨h.os.trans H.same.1, h.tape.trans H.same.2.1, h.output.trans H.same.2.2.1, Nat.le_trans H.same.2.2.2 h.size⟩, k H.fin, hp, hs, h1, k h2⟩

theorem of_old {P : Program} {f : FuncId} {args : Array Value} {w : World} {X : Value} {F : Fm} (H : Own w F []) (h : Go.XO.Ret P f args w fun v w' => v = X ∧ Go.XO.Keep [] w w') : Ret P f args w (Post F fun v L' => v = X ∧ L' = []) :=
  Calls.mono h fun _ _ ⟨v, he, hv, hk⟩ => ⟨v, he, [], ⟨hv, rfl⟩, Own.keeps H (keep_old hk)⟩

end Go.Proofs.Ytfknpeajihecdaa
