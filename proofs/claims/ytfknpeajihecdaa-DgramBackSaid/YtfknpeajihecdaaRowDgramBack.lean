/- The statement DgramBack holds of the given program: a datagram is decoded from its encoding, and only for its own addresses. No condition beyond the row's own. -/
import Derived.Test.YtfknpeajihecdaaRows
import Derived.Test.YtfknpeajihecdaaDg4
import Derived.WalkKit
import Derived.ProofKit
import Derived.OpenShut
import Derived.ShutString
import Derived.ChangeOld
import Derived.Below
import Derived.SizedLaws
import Derived.Lib.SmallJoins
namespace Go.Proofs.Ytfknpeajihecdaa.dgramBack
open Go.ChangeShapes Go.WideShapes Go.ChangeAt Go.RowKit Go.Joins Go.XM
open Go.ChangeMaps (open_string shut_string)
set_option linter.unusedVariables false

theorem own : ownKnob Try.prog.godebug = none := by kernel_rfl
theorem laidOut : laidOutB Try.prog = true := by kernel_rfl

theorem u32_nat {a : Int} (h : (Lit.int .u32 a).wf = true) : ∃ n : Nat, a = n ∧ n < 4294967296 := by
  simp [Lit.wf, IntKind.min, IntKind.max, IntKind.signed, IntKind.bits] at h
  exact ⟨a.toNat, by omega, by omega⟩

set_option maxRecDepth 100000 in
theorem lifted (os : Os) (started : os.Started) (H : Type) (enc : TypeId × Value → H) :
    ReturnsInHanded {} Try.checked os 3 .any (Rows.dgramBackSpec.pre6 enc Try.prog Try.f3 Rows.dgramBackRow.domain false) (Rows.dgramBackSpec.post enc Try.prog Try.f3 false true false false) := by
  refine returnsInHanded_of_change_sized (C := Try.checked) own started (by kernel_rfl) Try.func3
    (ChangeSpec.witness6 (enc := enc) (C := Try.checked) false ⟨#[], #[.int .u32 0, .int .u32 0, .agg #[.int .i64 0, .int .i64 0, .string ByteArray.empty], .int .i64 0], []⟩ 8 (by kernel_rfl) (by kernel_rfl) (by kernel_rfl) (by kernel_rfl)) ?_
  intro W base args ds gs before hval0 hW hcnd hsz0 _
  have hsz : (DataW.weightsEach Try.prog (Try.f3.params.toList ++ Rows.dgramBackSpec.plain.varTypes Try.prog) (ds ++ gs)).all (· ≤ reachBytes) = true := hsz0
  have hval : ∀ (j : Nat) t v, Try.f3.params[j]? = some t → args[j]? = some v → Value.okWide Try.prog W .any base t v := hval0
  have hW' := hW
  obtain ⟨p, q, hA0, hV, rfl, hfz, hnd⟩ := hW
  have hA : DataW.TrodAll enc Try.prog W 0 (fun _ => true) true Try.f3.params.toList args.toList ds p := hA0
  rw [Try.params3] at hA hval hsz
  obtain ⟨v0, vs0, d0, ds0, p0, q0, hargs, rfl, rfl, h0, r0⟩ := trodAll_cons hA
  obtain ⟨v1, vs1, d1, ds1, p1, q1, rfl, rfl, rfl, h1, r1⟩ := trodAll_cons r0
  obtain ⟨v2, vs2, d2, ds2, p2, q2, rfl, rfl, rfl, h2, r2⟩ := trodAll_cons r1
  obtain ⟨v3, vs3, d3, ds3, p3, q3, rfl, rfl, rfl, h3, r3⟩ := trodAll_cons r2
  obtain ⟨rfl, rfl, rfl⟩ := trodAll_nil r3
  obtain rfl : args = #[v0, v1, v2, v3] := by cases args; simp_all
  obtain ⟨rfl, rfl⟩ := trodVars_none hV
  have k0 := h0
  have lt0 : ∀ x ∈ p0, x.block < W.heap.size := by obtain ⟨m, hm⟩ := k0; exact DataW.trod_lt m _ _ _ hm
  have k1 := h1
  have lt1 : ∀ x ∈ p1, x.block < W.heap.size := by obtain ⟨m, hm⟩ := k1; exact DataW.trod_lt m _ _ _ hm
  have k2 := h2
  have lt2 : ∀ x ∈ p2, x.block < W.heap.size := by obtain ⟨m, hm⟩ := k2; exact DataW.trod_lt m _ _ _ hm
  have k3 := h3
  have lt3 : ∀ x ∈ p3, x.block < W.heap.size := by obtain ⟨m, hm⟩ := k3; exact DataW.trod_lt m _ _ _ hm
  obtain ⟨a0, e0, w0⟩ : ∃ a : Int, v0 = .int .u32 a ∧ (Lit.int .u32 a).wf = true := by
    obtain ⟨a, h, _, _, w⟩ := open_int Try.underlying22 (hval 0 22 v0 rfl rfl) h0; exact ⟨a, h, w⟩
  obtain ⟨a1, e1, w1⟩ : ∃ a : Int, v1 = .int .u32 a ∧ (Lit.int .u32 a).wf = true := by
    obtain ⟨a, h, _, _, w⟩ := open_int Try.underlying22 (hval 1 22 v1 rfl rfl) h1; exact ⟨a, h, w⟩
  obtain ⟨x2_0, x2_1, x2_2, e2⟩ : ∃ (x2_0 : Int) (x2_1 : Int) (x2_2 : ByteArray), v2 = .agg #[.int .i64 x2_0, .int .i64 x2_1, .string x2_2] := by
    obtain ⟨c0, c1, c2, y0, y1, y2, m, e, _, _, hy0, hy1, hy2⟩ := open_agg3 Try.underlying24 (by kernel_rfl) (by kernel_rfl) (hval 2 24 v2 rfl rfl) h2
    obtain ⟨x2_0, ex0, _, _⟩ := DataW.trod_int Try.underlying3 hy0
    obtain ⟨x2_1, ex1, _, _⟩ := DataW.trod_int Try.underlying3 hy1
    obtain ⟨x2_2, ex2, _⟩ := DataW.trod_string Try.underlying9 hy2
    simp at ex0 ex1 ex2
    exact ⟨x2_0, x2_1, x2_2, by rw [e, ex0, ex1, ex2]⟩
  obtain ⟨a3, e3, w3⟩ : ∃ a : Int, v3 = .int .i64 a ∧ (Lit.int .i64 a).wf = true := by
    obtain ⟨a, h, _, _, w⟩ := open_int Try.underlying3 (hval 3 3 v3 rfl rfl) h3; exact ⟨a, h, w⟩
  subst e0 e1 e2 e3
  obtain ⟨n0, rfl, hn0⟩ := u32_nat w0
  obtain ⟨n1, rfl, hn1⟩ := u32_nat w1
  have b3 := bounds_i64 w3
  clear hA0 hval0 hsz0 hsz
  refine Calls.mono (dgramBack_ret n0 n1 x2_0 x2_1 x2_2 a3 hn0 hn1 b3 W) ?_
  rintro e W' ⟨v, rfl, rfl, hk⟩
  have bel := hk.below
  exact ⟨_, rfl, _, _, _, [], _, [], hW', trodAll_mk1 (shut_bool Try.underlying4 _), (trodAll_cons_mk (Below.trod laidOut (by kernel_rfl) (of_decide_eq_true (by kernel_rfl)) k0 bel lt0) (trodAll_cons_mk (Below.trod laidOut (by kernel_rfl) (of_decide_eq_true (by kernel_rfl)) k1 bel lt1) (trodAll_cons_mk (Below.trod laidOut (by kernel_rfl) (of_decide_eq_true (by kernel_rfl)) k2 bel lt2) (trodAll_cons_mk (Below.trod laidOut (by kernel_rfl) (of_decide_eq_true (by kernel_rfl)) k3 bel lt3) trodAll_mk0)))), rfl, bel.frame _, fun h => by cases h⟩

theorem proved : Rows.DgramBackSaid :=
  OpenClaim.holds_of_wide 3 Try.f3 rfl rfl rfl rfl rfl rfl rfl ⟨rfl, rfl, rfl, rfl, rfl⟩ rfl rfl rfl rfl rfl (by kernel_rfl) Try.func3 (by kernel_rfl)
    (of_decide_eq_true (by kernel_rfl)) (by unfold Func.isWrapper; first | (rw [if_pos (by decide +kernel)]; kernel_rfl) | (rw [if_neg (by decide +kernel)]; exact ⟨rfl, rfl⟩))
    (fun os started H enc _ => lifted os started H enc)
end Go.Proofs.Ytfknpeajihecdaa.dgramBack
namespace Go.Proofs.Ytfknpeajihecdaa
/-- The row. -/
theorem DgramBack_holds : Rows.DgramBackSaid := dgramBack.proved
#print axioms DgramBack_holds
end Go.Proofs.Ytfknpeajihecdaa
