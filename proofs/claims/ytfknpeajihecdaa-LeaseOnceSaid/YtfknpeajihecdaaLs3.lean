import Derived.Test.YtfknpeajihecdaaLs2
namespace Go.Proofs.Ytfknpeajihecdaa
open Go.XM Go.RowKit Go.Ls
set_option maxRecDepth 100000

attribute [local irreducible] Ret in
set_option maxHeartbeats 400000 in
theorem delete_ret (l : List EntV) (i : Nat) (v : Value) (F : Fm) (w : World) (H : Own w F [rows v 75 4 (l.map encE)]) (hi : i < l.length) (hl : l.length ≤ 1000) :
    Ret Try.prog 52 #[v, .int .i64 i, .int .i64 (i + 1 : Nat)] w (Post F fun v' L' => L' = [rows v' 75 4 ((l.eraseIdx i).map encE)]) := by
  have hml : (l.map encE).length = l.length := List.length_map ..
  obtain ⟨b, cap, hv, hcap, _⟩ := Own.shapeN 0 H rfl (by omega)
  rw [hml] at hv hcap
  subst hv
  refine ret_of_G Try.func52 rfl rfl ?_
  have t1 : ((i : Int) == ((i + 1 : Nat) : Int)) = false := by simp; omega
  
  -- stop: Req.slice (71 : Nat) (Value.slice (some (Addr.mk b (0 : Nat) none)) l.length cap) (some (Value.int IntKind.i64 (↑i : Int))) (some (Value.int IntKind.i64 (↑(i + (1 : Nat)) : Int))) (some (Value.int IntKind.i64 (↑l.length : Int)))
  refine x_slice3 (t := 71) (b := b) (o := 0) (n := l.length) (c := cap) (k1 := .i64) (k2 := .i64) (k3 := .i64) (l := i) (h := i + 1) (m := l.length) 4 (by kernel_rfl) (by omega) (by omega) (by omega) (by kernel_rfl) (fun a => ?_)
  refine s_ifF (by kernel_rfl) t1 ?_
  refine s_drawT (5 : Nat) 6 (by kernel_rfl) (by kernel_rfl) (by kernel_rfl) ?_
  replace H := Own.drew H
  -- stop: Req.slice (71 : Nat) (Value.slice (some (Addr.mk b (0 : Nat) none)) l.length cap) none (some (Value.int IntKind.i64 (↑i : Int))) none
  refine x_sliceV (t := 71) (b := b) (o := 0) (n := l.length) (c := cap) (lo := none) (hi := some (.int .i64 (i : Int))) (l := 0) (h := i) 4 (by kernel_rfl) (.none _) (.int .i64 (i : Int) _ (by omega)) (by omega) (by omega) (by kernel_rfl) (fun o1 ho1 => ?_)
  have ho2 := ho1 (by omega)
  simp only [Nat.zero_mul, Nat.add_zero] at ho2
  subst ho2
  
  -- stop: Req.slice (71 : Nat) (Value.slice (some (Addr.mk b (0 : Nat) none)) l.length cap) (some (Value.int IntKind.i64 (↑(i + (1 : Nat)) : Int))) none none
  refine x_sliceV (t := 71) (b := b) (o := 0) (n := l.length) (c := cap) (lo := some (.int .i64 ((i + 1 : Nat) : Int))) (hi := none) (l := i + 1) (h := l.length) 4 (by kernel_rfl) (.int .i64 ((i + 1 : Nat) : Int) _ (by omega)) (.none _) (by omega) (by omega) (by kernel_rfl) (fun o3 ho3 => ?_)
  refine y_appendSelf (t := 71) (ty := 71) (b := b) (os := o3) (n := l.length) (cap := cap) (sc := cap - (i + 1)) (i := i) (m := l.length - (i + 1)) 0 (i + 1) 32 (.agg #[.int .u32 0, .int .i64 0, .bool false, .int .i64 0]) H rfl (by omega) (by omega) (fun _ => by rw [ho3 (by omega)]; omega) (fun c hc => encE_one l c (List.mem_of_mem_drop (List.mem_of_mem_take hc))) (by kernel_rfl) (by kernel_rfl) (by kernel_rfl) (by kernel_rfl) (fun w3 H => ?_)
  simp only [List.set_cons_zero] at H
  
  -- stop: Req.slice (71 : Nat) (Value.slice (some (Addr.mk b (0 : Nat) none)) (i + (l.length - (i + (1 : Nat)))) cap) (some (Value.int IntKind.i64 (↑(i + (l.length - (i + (1 : Nat)))) : Int))) (some (Value.int IntKind.i64 (↑l.length : Int))) none
  refine x_sliceV (t := 71) (b := b) (o := 0) (n := i + (l.length - (i + 1))) (c := cap) (lo := some (.int .i64 ((i + (l.length - (i + 1)) : Nat) : Int))) (hi := some (.int .i64 (l.length : Int))) (l := i + (l.length - (i + 1))) (h := l.length) 4 (by kernel_rfl) (.int .i64 ((i + (l.length - (i + 1)) : Nat) : Int) _ (by omega)) (.int .i64 (l.length : Int) _ (by omega)) (by omega) (by omega) (by kernel_rfl) (fun o4 ho4 => ?_)
  refine y_clear (t := 71) (ty := 0) (b := b) (o := o4) (m := l.length - (i + (l.length - (i + 1)))) (c := cap - (i + (l.length - (i + 1)))) 0 (i + (l.length - (i + 1))) 32 (.agg #[.int .u32 0, .int .i64 0, .bool false, .int .i64 0]) H rfl (by omega) (fun _ => by rw [ho4 (by omega)]; omega) (by kernel_rfl) (by kernel_rfl) (by kernel_rfl) (by kernel_rfl) (by kernel_rfl) (by kernel_rfl) (fun w5 H => ?_)
  simp only [List.set_cons_zero] at H
  
  -- stop: Req.done (Value.slice (some (Addr.mk b (0 : Nat) none)) (i + (l.length - (i + (1 : Nat)))) cap)
  have hfin : List.take (i + (l.length - (i + 1))) (List.take i (l.map encE) ++ List.take (l.length - (i + 1)) (List.drop (i + 1) (l.map encE)) ++ List.drop (i + (l.length - (i + 1))) (l.map encE)) = (l.eraseIdx i).map encE := by
    have e1 : List.take (l.length - (i + 1)) (List.drop (i + 1) (l.map encE)) = List.drop (i + 1) (l.map encE) := List.take_of_length_le (by simp)
    have e2 : (List.take i (l.map encE) ++ List.drop (i + 1) (l.map encE)).length = i + (l.length - (i + 1)) := by simp; omega
    rw [e1, ← e2, List.take_left, List.eraseIdx_eq_take_drop_succ]
    simp [List.map_take, List.map_drop]
  rw [hfin] at H
  exact y_done (by kernel_rfl) _ rfl H

attribute [local irreducible] Ret in
set_option maxHeartbeats 400000 in
theorem find1_ret (x : EntV) (b1 b2 : Nat) (c n : Int) (F : Fm) (w : World) (H : Own w F [pt b1 #[.int .i64 c] 3, pt b2 #[.int .i64 n] 3]) :
    Ret Try.prog 57 #[.agg (encE x).toArray, .pointer (some ⟨b1, 0, none⟩), .pointer (some ⟨b2, 0, none⟩)] w (Post F fun v L' => v = .bool (isOf c n x) ∧ L' = [pt b1 #[.int .i64 c] 3, pt b2 #[.int .i64 n] 3]) := by
  refine ret_of_G Try.func57 rfl rfl ?_
  obtain ⟨x1, x2, x3, x4⟩ := x
  refine y_new (c := #[Value.int IntKind.u32 x1, Value.int IntKind.i64 x2, Value.bool x3, Value.int IntKind.i64 x4]) (T := 75) H (by kernel_rfl) (by kernel_rfl) (fun w1 b3 H => ?_)
  refine y_load 0 (o := 1) H rfl rfl (by kernel_rfl) ?_
  refine y_load 1 (o := 0) H rfl rfl (by kernel_rfl) ?_
  refine s_if (b := x2 == c) (by kernel_rfl) (fun ht1 => ?_) (fun hf1 => ?_)
  · have p1 := eq_of_beq ht1
    refine y_load 0 (o := 3) H rfl rfl (by kernel_rfl) ?_
    refine y_load 2 (o := 0) H rfl rfl (by kernel_rfl) ?_
    refine s_done (v := Value.bool (decide (x4 > n))) (by kernel_rfl) ?_
    exact ⟨_, ⟨by unfold isOf; simp_all, rfl⟩, H.drop1⟩
  · have p1 := ne_of_beq_false hf1
    refine s_done (v := Value.bool false) (by kernel_rfl) ?_
    exact ⟨_, ⟨by unfold isOf; simp_all, rfl⟩, H.drop1⟩

attribute [local irreducible] Ret in
set_option maxHeartbeats 400000 in
theorem pass1_ret (x : EntV) (b2 : Nat) (n : Int) (F : Fm) (w : World) (H : Own w F [pt b2 #[.int .i64 n] 3]) :
    Ret Try.prog 58 #[.agg (encE x).toArray, .pointer (some ⟨b2, 0, none⟩)] w (Post F fun v L' => v = .bool (overB n x) ∧ L' = [pt b2 #[.int .i64 n] 3]) := by
  refine ret_of_G Try.func58 rfl rfl ?_
  obtain ⟨x1, x2, x3, x4⟩ := x
  refine y_new (c := #[Value.int IntKind.u32 x1, Value.int IntKind.i64 x2, Value.bool x3, Value.int IntKind.i64 x4]) (T := 75) H (by kernel_rfl) (by kernel_rfl) (fun w1 b3 H => ?_)
  refine y_load 0 (o := 3) H rfl rfl (by kernel_rfl) ?_
  refine y_load 1 (o := 0) H rfl rfl (by kernel_rfl) ?_
  refine s_done (v := Value.bool (decide (x4 ≤ n))) (by kernel_rfl) ?_
  exact ⟨_, ⟨by unfold overB; simp_all, rfl⟩, H.drop1⟩

attribute [local irreducible] Ret in
set_option maxHeartbeats 400000 in
theorem ask1_ret (x : EntV) (b2 : Nat) (n : Int) (F : Fm) (w : World) (H : Own w F [pt b2 #[.int .i64 n] 3]) :
    Ret Try.prog 46 #[.agg (encE x).toArray, .pointer (some ⟨b2, 0, none⟩)] w (Post F fun v L' => v = .bool (overB n x) ∧ L' = [pt b2 #[.int .i64 n] 3]) := by
  refine ret_of_G Try.func46 rfl rfl ?_
  obtain ⟨x1, x2, x3, x4⟩ := x
  refine y_new (c := #[Value.int IntKind.u32 x1, Value.int IntKind.i64 x2, Value.bool x3, Value.int IntKind.i64 x4]) (T := 75) H (by kernel_rfl) (by kernel_rfl) (fun w1 b3 H => ?_)
  refine y_load 0 (o := 3) H rfl rfl (by kernel_rfl) ?_
  refine y_load 1 (o := 0) H rfl rfl (by kernel_rfl) ?_
  refine s_done (v := Value.bool (decide (x4 ≤ n))) (by kernel_rfl) ?_
  exact ⟨_, ⟨by unfold overB; simp_all, rfl⟩, H.drop1⟩
end Go.Proofs.Ytfknpeajihecdaa
