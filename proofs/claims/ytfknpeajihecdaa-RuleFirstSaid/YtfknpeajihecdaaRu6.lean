import Derived.Test.YtfknpeajihecdaaRu5
import Derived.Test.YtfknpeajihecdaaXMeq
namespace Go.Proofs.Ytfknpeajihecdaa
open Go.XM Go.RowKit Go.Dg Go.Ru
set_option maxRecDepth 100000

attribute [local irreducible] acE inV badR ruleE firstE firstM Ret pktE matchV checkL judgeV
theorem checkL_nil : checkL [] = 0 := by unfold checkL; rw [if_neg (by simp), firstE_nil]
theorem firstM_nil {p k} : firstM p k [] = -1 := by unfold firstM; rfl

set_option maxHeartbeats 0 in
theorem judge_nil (p : PktV) (w : World) (hs : p.body.size ≤ Go.maxLen) (hpo : W64 p.off) :
    Ret Try.prog 17 #[.slice none 0 0, .agg (encP p).toArray] w fun v w' => v = .tuple #[.int .i64 (judgeV [] p).1, .int .i64 (judgeV [] p).2] ∧ Keep [] w w' := by
  refine ret_of_G Try.func17 rfl rfl ?_
  have hK := Keep.refl [] w
  have J1 := @jv1 [] p
  have J2 := @jv2 [] p checkL_nil
  have J3 := @jv3 [] p checkL_nil
  have PC := pktCheck_ret p hs hpo
  have CN : ∀ w, Ret Try.prog 18 #[.slice none 0 0] w fun v w' => v = .int .i64 0 ∧ Keep [] w w' := fun w => (check_nil w).mono fun _ _ ⟨h, k⟩ => ⟨by rw [h, checkL_nil], k⟩
  obtain ⟨src, dst, proto, ttl, id, ff, more, whole, body⟩ := p
  refine x_new (ob := Obj.cells (#[Value.int IntKind.u32 src, Value.int IntKind.u32 dst, Value.int IntKind.i64 proto, Value.int IntKind.i64 ttl, Value.int IntKind.i64 id, Value.int IntKind.i64 ff, Value.bool more, Value.bool whole, Value.string body]) 37) (by kernel_rfl) (by kernel_rfl) (fun w1 b1 hb1 hB1 hk1 hlt1 => ?_)
  have hge1_hK := Nat.le_trans (Keep.size hK) (Nat.le_of_eq hb1.symm)
  have hK := Keep.trans' hK hk1
  clear hk1
  refine s_call (f := 18) (args := #[Value.slice none (0 : Nat) (0 : Nat)]) (by kernel_rfl) (by kernel_rfl) (by kernel_rfl) (CN _) ?_
  rintro v w2 ⟨rfl, hk2⟩
  have hB1 := Keep.get hk2 hB1 (by simp)
  have hK := Keep.trans' hK hk2
  clear hk2
  refine s_ifF (b := false) (by kernel_rfl) rfl ?_
  refine x_load (o := 0) hB1 rfl (by kernel_rfl) ?_
  refine x_load (o := 1) hB1 rfl (by kernel_rfl) ?_
  refine x_load (o := 2) hB1 rfl (by kernel_rfl) ?_
  refine x_load (o := 3) hB1 rfl (by kernel_rfl) ?_
  refine x_load (o := 4) hB1 rfl (by kernel_rfl) ?_
  refine x_load (o := 5) hB1 rfl (by kernel_rfl) ?_
  refine x_load (o := 6) hB1 rfl (by kernel_rfl) ?_
  refine x_load (o := 7) hB1 rfl (by kernel_rfl) ?_
  refine x_load (o := 8) hB1 rfl (by kernel_rfl) ?_
  refine s_call (f := 19) (args := #[Value.agg (#[Value.int IntKind.u32 src, Value.int IntKind.u32 dst, Value.int IntKind.i64 proto, Value.int IntKind.i64 ttl, Value.int IntKind.i64 id, Value.int IntKind.i64 ff, Value.bool more, Value.bool whole, Value.string body])]) (by kernel_rfl) (by kernel_rfl) (by kernel_rfl) (PC _) ?_
  rintro v w3 ⟨rfl, hk3⟩
  have hB1 := Keep.get hk3 hB1 (by simp)
  have hK := Keep.trans' hK hk3
  clear hk3
  -- test pktE (PktV.mk src dst proto ttl id ff more whole body) != (0 : Int)
  refine s_if (b := pktE ⟨src, dst, proto, ttl, id, ff, more, whole, body⟩ != 0) (by kernel_rfl) (fun ht => ?_) (fun hf => ?_)
  · have q2 := bne_iff_ne.1 ht
    refine s_done (by kernel_rfl) ⟨by rw [J2 q2], hK⟩
  have q2 := bne_eq_false_iff_eq.1 hf
  refine s_loop (γ := Unit) 0 [22] (fun _ => [.int .i64 0]) (fun _ w' => Keep [] w w') (fun _ => 0) () [.int .i64 0] (by kernel_rfl) (by kernel_rfl) rfl (by kernel_rfl) rfl hK ?_
  clear hK
  rintro _ v1 hK
  refine s_ifF (b := false) (by kernel_rfl) rfl ?_
  -- stop: Req.done (Value.tuple (#[Value.int IntKind.i64 (-1 : Int), Value.int IntKind.i64 (0 : Int)]))
  refine s_done (by kernel_rfl) ⟨by rw [J3 q2, firstM_nil], hK⟩

theorem everything_ret (b : Bool) (w : World) : Ret Try.prog 35 #[.bool b] w fun v w' => v = .agg (encR ⟨b, 0, 0, 0, 0, 0, 0, 65535, 0, 65535⟩).toArray ∧ Keep [] w w' := by
  refine ret_of_G Try.func35 rfl rfl ?_
  have hK := Keep.refl [] w
  refine x_new (ob := Obj.cells (#[Value.bool false, Value.int IntKind.u32 (0 : Int), Value.int IntKind.i64 (0 : Int), Value.int IntKind.u32 (0 : Int), Value.int IntKind.i64 (0 : Int), Value.int IntKind.i64 (0 : Int), Value.int IntKind.i64 (0 : Int), Value.int IntKind.i64 (0 : Int), Value.int IntKind.i64 (0 : Int), Value.int IntKind.i64 (0 : Int)]) 45) (by kernel_rfl) (by kernel_rfl) (fun w1 b1 hb1 hB1 hk1 hlt1 => ?_)
  have hge1_hK := Nat.le_trans (Keep.size hK) (Nat.le_of_eq hb1.symm)
  have hK := Keep.trans' hK hk1
  clear hk1
  refine x_store (o := 0) (v := Value.bool b) hB1 (by simp) (by kernel_rfl) (by kernel_rfl) rfl (fun w2 hB1' hk2 => ?_)
  have hB1 : _ = some (Obj.cells #[Value.bool b, Value.int IntKind.u32 (0 : Int), Value.int IntKind.i64 (0 : Int), Value.int IntKind.u32 (0 : Int), Value.int IntKind.i64 (0 : Int), Value.int IntKind.i64 (0 : Int), Value.int IntKind.i64 (0 : Int), Value.int IntKind.i64 (0 : Int), Value.int IntKind.i64 (0 : Int), Value.int IntKind.i64 (0 : Int)] 45 (0, 0)) := hB1'.trans (by kernel_rfl)
  clear hB1'
  have hK := Keep.trans hK hk2 (U := []) (fun _ h => nomatch h) (fun x hx => by simp only [List.mem_singleton] at hx; subst hx; right; omega)
  clear hk2
  refine x_store (o := 1) (v := Value.int IntKind.u32 (0 : Int)) hB1 (by simp) (by kernel_rfl) (by kernel_rfl) rfl (fun w3 hB1' hk3 => ?_)
  have hB1 : _ = some (Obj.cells #[Value.bool b, Value.int IntKind.u32 (0 : Int), Value.int IntKind.i64 (0 : Int), Value.int IntKind.u32 (0 : Int), Value.int IntKind.i64 (0 : Int), Value.int IntKind.i64 (0 : Int), Value.int IntKind.i64 (0 : Int), Value.int IntKind.i64 (0 : Int), Value.int IntKind.i64 (0 : Int), Value.int IntKind.i64 (0 : Int)] 45 (0, 0)) := hB1'.trans (by kernel_rfl)
  clear hB1'
  have hK := Keep.trans hK hk3 (U := []) (fun _ h => nomatch h) (fun x hx => by simp only [List.mem_singleton] at hx; subst hx; right; omega)
  clear hk3
  refine x_store (o := 2) (v := Value.int IntKind.i64 (0 : Int)) hB1 (by simp) (by kernel_rfl) (by kernel_rfl) rfl (fun w4 hB1' hk4 => ?_)
  have hB1 : _ = some (Obj.cells #[Value.bool b, Value.int IntKind.u32 (0 : Int), Value.int IntKind.i64 (0 : Int), Value.int IntKind.u32 (0 : Int), Value.int IntKind.i64 (0 : Int), Value.int IntKind.i64 (0 : Int), Value.int IntKind.i64 (0 : Int), Value.int IntKind.i64 (0 : Int), Value.int IntKind.i64 (0 : Int), Value.int IntKind.i64 (0 : Int)] 45 (0, 0)) := hB1'.trans (by kernel_rfl)
  clear hB1'
  have hK := Keep.trans hK hk4 (U := []) (fun _ h => nomatch h) (fun x hx => by simp only [List.mem_singleton] at hx; subst hx; right; omega)
  clear hk4
  refine x_store (o := 3) (v := Value.int IntKind.u32 (0 : Int)) hB1 (by simp) (by kernel_rfl) (by kernel_rfl) rfl (fun w5 hB1' hk5 => ?_)
  have hB1 : _ = some (Obj.cells #[Value.bool b, Value.int IntKind.u32 (0 : Int), Value.int IntKind.i64 (0 : Int), Value.int IntKind.u32 (0 : Int), Value.int IntKind.i64 (0 : Int), Value.int IntKind.i64 (0 : Int), Value.int IntKind.i64 (0 : Int), Value.int IntKind.i64 (0 : Int), Value.int IntKind.i64 (0 : Int), Value.int IntKind.i64 (0 : Int)] 45 (0, 0)) := hB1'.trans (by kernel_rfl)
  clear hB1'
  have hK := Keep.trans hK hk5 (U := []) (fun _ h => nomatch h) (fun x hx => by simp only [List.mem_singleton] at hx; subst hx; right; omega)
  clear hk5
  refine x_store (o := 4) (v := Value.int IntKind.i64 (0 : Int)) hB1 (by simp) (by kernel_rfl) (by kernel_rfl) rfl (fun w6 hB1' hk6 => ?_)
  have hB1 : _ = some (Obj.cells #[Value.bool b, Value.int IntKind.u32 (0 : Int), Value.int IntKind.i64 (0 : Int), Value.int IntKind.u32 (0 : Int), Value.int IntKind.i64 (0 : Int), Value.int IntKind.i64 (0 : Int), Value.int IntKind.i64 (0 : Int), Value.int IntKind.i64 (0 : Int), Value.int IntKind.i64 (0 : Int), Value.int IntKind.i64 (0 : Int)] 45 (0, 0)) := hB1'.trans (by kernel_rfl)
  clear hB1'
  have hK := Keep.trans hK hk6 (U := []) (fun _ h => nomatch h) (fun x hx => by simp only [List.mem_singleton] at hx; subst hx; right; omega)
  clear hk6
  refine x_store (o := 5) (v := Value.int IntKind.i64 (0 : Int)) hB1 (by simp) (by kernel_rfl) (by kernel_rfl) rfl (fun w7 hB1' hk7 => ?_)
  have hB1 : _ = some (Obj.cells #[Value.bool b, Value.int IntKind.u32 (0 : Int), Value.int IntKind.i64 (0 : Int), Value.int IntKind.u32 (0 : Int), Value.int IntKind.i64 (0 : Int), Value.int IntKind.i64 (0 : Int), Value.int IntKind.i64 (0 : Int), Value.int IntKind.i64 (0 : Int), Value.int IntKind.i64 (0 : Int), Value.int IntKind.i64 (0 : Int)] 45 (0, 0)) := hB1'.trans (by kernel_rfl)
  clear hB1'
  have hK := Keep.trans hK hk7 (U := []) (fun _ h => nomatch h) (fun x hx => by simp only [List.mem_singleton] at hx; subst hx; right; omega)
  clear hk7
  refine x_store (o := 6) (v := Value.int IntKind.i64 (0 : Int)) hB1 (by simp) (by kernel_rfl) (by kernel_rfl) rfl (fun w8 hB1' hk8 => ?_)
  have hB1 : _ = some (Obj.cells #[Value.bool b, Value.int IntKind.u32 (0 : Int), Value.int IntKind.i64 (0 : Int), Value.int IntKind.u32 (0 : Int), Value.int IntKind.i64 (0 : Int), Value.int IntKind.i64 (0 : Int), Value.int IntKind.i64 (0 : Int), Value.int IntKind.i64 (0 : Int), Value.int IntKind.i64 (0 : Int), Value.int IntKind.i64 (0 : Int)] 45 (0, 0)) := hB1'.trans (by kernel_rfl)
  clear hB1'
  have hK := Keep.trans hK hk8 (U := []) (fun _ h => nomatch h) (fun x hx => by simp only [List.mem_singleton] at hx; subst hx; right; omega)
  clear hk8
  refine x_store (o := 7) (v := Value.int IntKind.i64 (65535 : Int)) hB1 (by simp) (by kernel_rfl) (by kernel_rfl) rfl (fun w9 hB1' hk9 => ?_)
  have hB1 : _ = some (Obj.cells #[Value.bool b, Value.int IntKind.u32 (0 : Int), Value.int IntKind.i64 (0 : Int), Value.int IntKind.u32 (0 : Int), Value.int IntKind.i64 (0 : Int), Value.int IntKind.i64 (0 : Int), Value.int IntKind.i64 (0 : Int), Value.int IntKind.i64 (65535 : Int), Value.int IntKind.i64 (0 : Int), Value.int IntKind.i64 (0 : Int)] 45 (0, 0)) := hB1'.trans (by kernel_rfl)
  clear hB1'
  have hK := Keep.trans hK hk9 (U := []) (fun _ h => nomatch h) (fun x hx => by simp only [List.mem_singleton] at hx; subst hx; right; omega)
  clear hk9
  refine x_store (o := 8) (v := Value.int IntKind.i64 (0 : Int)) hB1 (by simp) (by kernel_rfl) (by kernel_rfl) rfl (fun w10 hB1' hk10 => ?_)
  have hB1 : _ = some (Obj.cells #[Value.bool b, Value.int IntKind.u32 (0 : Int), Value.int IntKind.i64 (0 : Int), Value.int IntKind.u32 (0 : Int), Value.int IntKind.i64 (0 : Int), Value.int IntKind.i64 (0 : Int), Value.int IntKind.i64 (0 : Int), Value.int IntKind.i64 (65535 : Int), Value.int IntKind.i64 (0 : Int), Value.int IntKind.i64 (0 : Int)] 45 (0, 0)) := hB1'.trans (by kernel_rfl)
  clear hB1'
  have hK := Keep.trans hK hk10 (U := []) (fun _ h => nomatch h) (fun x hx => by simp only [List.mem_singleton] at hx; subst hx; right; omega)
  clear hk10
  refine x_store (o := 9) (v := Value.int IntKind.i64 (65535 : Int)) hB1 (by simp) (by kernel_rfl) (by kernel_rfl) rfl (fun w11 hB1' hk11 => ?_)
  have hB1 : _ = some (Obj.cells #[Value.bool b, Value.int IntKind.u32 (0 : Int), Value.int IntKind.i64 (0 : Int), Value.int IntKind.u32 (0 : Int), Value.int IntKind.i64 (0 : Int), Value.int IntKind.i64 (0 : Int), Value.int IntKind.i64 (0 : Int), Value.int IntKind.i64 (65535 : Int), Value.int IntKind.i64 (0 : Int), Value.int IntKind.i64 (65535 : Int)] 45 (0, 0)) := hB1'.trans (by kernel_rfl)
  clear hB1'
  have hK := Keep.trans hK hk11 (U := []) (fun _ h => nomatch h) (fun x hx => by simp only [List.mem_singleton] at hx; subst hx; right; omega)
  clear hk11
  refine x_load (o := 0) hB1 rfl (by kernel_rfl) ?_
  refine x_load (o := 1) hB1 rfl (by kernel_rfl) ?_
  refine x_load (o := 2) hB1 rfl (by kernel_rfl) ?_
  refine x_load (o := 3) hB1 rfl (by kernel_rfl) ?_
  refine x_load (o := 4) hB1 rfl (by kernel_rfl) ?_
  refine x_load (o := 5) hB1 rfl (by kernel_rfl) ?_
  refine x_load (o := 6) hB1 rfl (by kernel_rfl) ?_
  refine x_load (o := 7) hB1 rfl (by kernel_rfl) ?_
  refine x_load (o := 8) hB1 rfl (by kernel_rfl) ?_
  refine x_load (o := 9) hB1 rfl (by kernel_rfl) ?_
  -- stop: Req.done (Value.agg (#[Value.bool b, Value.int IntKind.u32 (0 : Int), Value.int IntKind.i64 (0 : Int), Value.int IntKind.u32 (0 : Int), Value.int IntKind.i64 (0 : Int), Value.int IntKind.i64 (0 : Int), Value.int IntKind.i64 (0 : Int), Value.int IntKind.i64 (65535 : Int), Value.int IntKind.i64 (0 : Int), Value.int IntKind.i64 (65535 : Int)]))
  refine s_done (by kernel_rfl) ⟨rfl, hK⟩

def factL : List RuleV := [⟨false, 0, 0, 0, 0, 0, 0, 1, 0, 0⟩, ⟨true, 0, 0, 0, 0, 0, 0, 65535, 0, 65535⟩]
def factP : PktV := ⟨0, 0, 1, 1, 0, 0, false, false, ⟨#[]⟩⟩
theorem fact_judge : judgeV factL factP = (1, 0) := by decide +kernel
def factC : Array Value := (encR ⟨false, 0, 0, 0, 0, 0, 0, 1, 0, 0⟩ ++ encR ⟨true, 0, 0, 0, 0, 0, 0, 65535, 0, 65535⟩).toArray
theorem factB : RulesB factC 0 factL := by
  intro k r hr j v hv
  match k, hr with
  | 0, hr =>
    cases hr
    match j, hv with
    | 0, hv | 1, hv | 2, hv | 3, hv | 4, hv | 5, hv | 6, hv | 7, hv | 8, hv | 9, hv => exact hv
    | j + 10, hv => cases hv
  | 1, hr =>
    cases hr
    match j, hv with
    | 0, hv | 1, hv | 2, hv | 3, hv | 4, hv | 5, hv | 6, hv | 7, hv | 8, hv | 9, hv => exact hv
    | j + 10, hv => cases hv
  | k + 2, hr => cases hr
theorem factW : ∀ r ∈ factL, W64 r.sb ∧ W64 r.db := by
  intro r hr
  simp only [factL, List.mem_cons, List.not_mem_nil, or_false] at hr
  rcases hr with rfl | rfl <;> exact ⟨⟨by decide, by decide⟩, ⟨by decide, by decide⟩⟩
theorem fact_ret (b : Nat) (T : TypeId) (w : World) (hB : w.heap[b]? = some (.cells factC T (0, 0))) : Ret Try.prog 17 #[.slice (some ⟨b, 0, none⟩) 2 2, .agg (encP factP).toArray] w fun v w' => v = .tuple #[.int .i64 1, .int .i64 0] ∧ Keep [] w w' :=
  (judge_some factL factP b 0 2 factC T (0, 0) w hB factB factW (by decide) ⟨by decide, by decide⟩).mono fun _ _ ⟨h, k⟩ => ⟨by rw [h, fact_judge], k⟩
set_option maxHeartbeats 0 in
theorem ruleFact_ret (w : World) : Ret Try.prog 16 #[] w fun v w' => v = .bool true ∧ Keep [] w w' := by
  refine ret_of_G Try.func16 rfl rfl ?_
  have hK := Keep.refl [] w
  refine s_call (f := 35) (args := #[Value.bool true]) (by kernel_rfl) (by kernel_rfl) (by kernel_rfl) (everything_ret _ _) ?_
  rintro v w1 ⟨rfl, hk1⟩
  have hK := Keep.trans' hK hk1
  clear hk1
  refine x_new (ob := Obj.cells (#[Value.bool false, Value.int IntKind.u32 (0 : Int), Value.int IntKind.i64 (0 : Int), Value.int IntKind.u32 (0 : Int), Value.int IntKind.i64 (0 : Int), Value.int IntKind.i64 (0 : Int), Value.int IntKind.i64 (0 : Int), Value.int IntKind.i64 (1 : Int), Value.int IntKind.i64 (0 : Int), Value.int IntKind.i64 (0 : Int), Value.bool true, Value.int IntKind.u32 (0 : Int), Value.int IntKind.i64 (0 : Int), Value.int IntKind.u32 (0 : Int), Value.int IntKind.i64 (0 : Int), Value.int IntKind.i64 (0 : Int), Value.int IntKind.i64 (0 : Int), Value.int IntKind.i64 (65535 : Int), Value.int IntKind.i64 (0 : Int), Value.int IntKind.i64 (65535 : Int)]) 45) (by kernel_rfl) (by kernel_rfl) (fun w2 b2 hb2 hB2 hk2 hlt2 => ?_)
  have hge2_hK := Nat.le_trans (Keep.size hK) (Nat.le_of_eq hb2.symm)
  have hK := Keep.trans' hK hk2
  clear hk2
  refine s_call (f := 17) (args := #[Value.slice (some (Addr.mk b2 (0 : Nat) none)) (2 : Nat) (2 : Nat), Value.agg (#[Value.int IntKind.u32 (0 : Int), Value.int IntKind.u32 (0 : Int), Value.int IntKind.i64 (1 : Int), Value.int IntKind.i64 (1 : Int), Value.int IntKind.i64 (0 : Int), Value.int IntKind.i64 (0 : Int), Value.bool false, Value.bool false, Value.string (ByteArray.mk #[])])]) (by kernel_rfl) (by kernel_rfl) (by kernel_rfl) (fact_ret _ _ _ ‹_›) ?_
  rintro v w3 ⟨rfl, hk3⟩
  have hB2 := Keep.get hk3 hB2 (by simp)
  have hK := Keep.trans' hK hk3
  clear hk3
  refine s_ifT (b := true) (by kernel_rfl) rfl ?_
  -- stop: Req.done (Value.bool true)
  refine s_done (by kernel_rfl) ⟨rfl, hK⟩

theorem judge_ret {L : List RuleV} {v : Value} {p : PktV} {w : World} (h : RSl w v L) (hw : ∀ r ∈ L, W64 r.sb ∧ W64 r.db) (hs : p.body.size ≤ Go.maxLen) (hpo : W64 p.off) :
    Ret Try.prog 17 #[v, .agg (encP p).toArray] w fun v w' => v = .tuple #[.int .i64 (judgeV L p).1, .int .i64 (judgeV L p).2] ∧ Keep [] w w' := by
  rcases h with ⟨rfl, rfl⟩ | ⟨b, off, cap, c, T, fz, rfl, h2, h3⟩
  · exact judge_nil p w hs hpo
  · exact judge_some L p b off cap c T fz w h2 h3 hw hs hpo
end Go.Proofs.Ytfknpeajihecdaa
