import Derived.Test.YtfknpeajihecdaaYMore
import Derived.Test.YtfknpeajihecdaaXMeq

namespace Go.XM
open Go.RowKit
set_option maxRecDepth 100000

section
variable {P : Program} {fn : Func} {f : FuncId} {w : World} {R : Ending → World → Prop} {js : List J} {st : St} {C : World → Prop}

theorem q_eqlv {op : BinOp} (hop : op = .eql ∨ op = .neq) {C : Cls} {t : TypeId} {xs ys : Array Value} {b : Bool} (hr : req st = .bin op t (.agg xs) (.agg ys)) (hm : Nat.beq st.m 0 = false) (hg : P.eqGuardType P.depth t = false) (he : eqT P 100 t (.agg xs) (.agg ys) = some b)
    (k : GQ P fn R js C (nxq P fn st (.v (.bool (if op = .eql then b else !b))))) : GQ P fn R js C st := by
  have hm : st.m ≠ 0 := Nat.ne_of_beq_eq_false hm
  obtain ⟨o, hc, ho⟩ := op_of_bin hr
  have k := GQ_advQ _ k
  refine ⟨fun a hd ha => ⟨fun h0 => absurd h0 hm, fun _ => ?_⟩⟩
  unfold GdQ
  rw [hc]
  unfold ans at k
  rw [hc] at k
  refine QW_value (fun w hw => ?_) (GQ_finishV k hm hd ha)
  exact run_eqlV hop ho hg he w

theorem h_eqlS {C : Cls} {t : TypeId} {xs ys : Array Value} {b : Bool} (he : eqT P 100 t (.agg xs) (.agg ys) = some b) (hr : req st = .bin .eql t (.agg xs) (.agg ys)) (hm : Nat.beq st.m 0 = false) (hg : P.eqGuardType P.depth t = false)
    (k : GQ P fn R js C (nxq P fn st (.v (.bool b)))) : GQ P fn R js C st := q_eqlv (.inl rfl) hr hm hg he k

theorem h_neqS {C : Cls} {t : TypeId} {xs ys : Array Value} {b : Bool} (he : eqT P 100 t (.agg xs) (.agg ys) = some b) (hr : req st = .bin .neq t (.agg xs) (.agg ys)) (hm : Nat.beq st.m 0 = false) (hg : P.eqGuardType P.depth t = false)
    (k : GQ P fn R js C (nxq P fn st (.v (.bool (!b))))) : GQ P fn R js C st := q_eqlv (.inr rfl) hr hm hg he k
end
end Go.XM
