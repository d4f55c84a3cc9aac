import Derived.Test.YtfknpeajihecdaaDgOwn
import Derived.Test.YtfknpeajihecdaaDoPure
import Derived.Test.YtfknpeajihecdaaYSl2
import Derived.Test.YtfknpeajihecdaaYSlice
namespace Go.Proofs.Ytfknpeajihecdaa
open Go.XM Go.RowKit Go.Dg Go.Do
set_option maxRecDepth 100000

attribute [local irreducible] Ret in
set_option maxHeartbeats 400000 in
theorem badPort2_ret (n : Int) (F : Fm) (w : World) (H : Own w F []) : Ret Try.prog 49 #[.int .i64 n] w (Post F fun v L' => v = .bool (decide (n < 0 ∨ n > 65535)) ∧ L' = []) := by
  refine ret_of_G Try.func49 rfl rfl ?_
  refine s_if (b := decide (n < (0 : Int))) (by kernel_rfl) (fun ht1 => ?_) (fun hf1 => ?_)
  · have p1 := of_decide_eq_true ht1
    refine s_done (v := Value.bool true) (by kernel_rfl) ?_
    exact ⟨_, ⟨by congr 1; rw [Bool.eq_iff_iff]; simp; omega, rfl⟩, H⟩
  · have p1 := of_decide_eq_false hf1
    refine s_done (v := Value.bool (decide (n > (65535 : Int)))) (by kernel_rfl) ?_
    exact ⟨_, ⟨by congr 1; rw [Bool.eq_iff_iff]; simp; omega, rfl⟩, H⟩

def encG (g : GotV) : List Value := [.int .u32 g.addr, .int .i64 g.port, .string g.body]
theorem encG_one (l : List GotV) : ∀ c ∈ l.map encG, ∀ u ∈ c, u.oneCell' = true := by
  intro c hc u hu
  obtain ⟨x, _, rfl⟩ := List.mem_map.1 hc
  simp only [encG, List.mem_cons, List.not_mem_nil, or_false] at hu
  rcases hu with rfl | rfl | rfl <;> rfl

/-- A table with one bound port. -/
def TabA (tb : Nat) (port : Int) (got : List GotV) : Assn := ex fun (q : Nat × Nat × Value) => all [pt tb #[.slice (some ⟨q.1, 0, none⟩) 1 q.2.1] 98, rows (.slice (some ⟨q.1, 0, none⟩) 1 q.2.1) 102 2 [[.int .i64 port, q.2.2]], rows q.2.2 64 3 (got.map encG)]

theorem openTab {w : World} {F : Fm} {tb : Nat} {port : Int} {got : List GotV} {M : List Assn} (H : Own w F (TabA tb port got :: M)) :
    ∃ q qc ga gc, got.length ≤ gc ∧ Own w F (pt tb #[.slice (some ⟨q, 0, none⟩) 1 qc] 98 :: rows (.slice (some ⟨q, 0, none⟩) 1 qc) 102 2 [[.int .i64 port, .slice ga got.length gc]] :: rows (.slice ga got.length gc) 64 3 (got.map encG) :: M) := by
  obtain ⟨⟨q, qc, gv⟩, H⟩ := H.ex1
  have H := H.all1
  obtain ⟨a, cap, hv, h, _⟩ := H.shape 2 rfl
  rw [List.length_map] at h hv
  have hv : gv = _ := hv
  subst hv
  exact ⟨q, qc, a, cap, h, H⟩

theorem shutTab {w : World} {F : Fm} {tb q qc : Nat} {port : Int} {gv : Value} {got : List GotV} {M : List Assn} (H : Own w F (pt tb #[.slice (some ⟨q, 0, none⟩) 1 qc] 98 :: rows (.slice (some ⟨q, 0, none⟩) 1 qc) 102 2 [[.int .i64 port, gv]] :: rows gv 64 3 (got.map encG) :: M)) : Own w F (TabA tb port got :: M) :=
  H.fold [_, _, _] fun _ h => ⟨(q, qc, gv), h⟩

attribute [local irreducible] Ret in
set_option maxHeartbeats 400000 in
theorem tnew_ret (F : Fm) (w : World) (H : Own w F []) : Ret Try.prog 25 #[] w (Post F fun v L' => ∃ tb, v = .pointer (some ⟨tb, 0, none⟩) ∧ L' = [pt tb #[.slice none 0 0] 98]) := by
  refine ret_of_G Try.func25 rfl rfl ?_
  refine y_new (c := #[Value.slice none (0 : Nat) (0 : Nat)]) (T := 98) H (by kernel_rfl) (by kernel_rfl) (fun w1 b1 H => ?_)
  -- stop: Req.done (Value.pointer (some (Addr.mk b1 (0 : Nat) none)))
  exact y_done (v := .pointer (some ⟨b1, 0, none⟩)) (by kernel_rfl) _ ⟨b1, rfl, rfl⟩ H

attribute [local irreducible] Ret in
set_option maxHeartbeats 400000 in
theorem cmp_ret (p q : Int) (gv : Value) (hp0 : 0 ≤ p) (hp1 : p ≤ 65535) (hq0 : 0 ≤ q) (hq1 : q ≤ 65535) (a : Option Addr) (n c : Nat) (hgv : gv = .slice a n c) (F : Fm) (w : World) (H : Own w F []) : Ret Try.prog 62 #[.agg #[.int .i64 p, gv], .int .i64 q] w (Post F fun v L' => v = .int .i64 (p - q) ∧ L' = []) := by
  subst hgv
  refine ret_of_G Try.func62 rfl rfl ?_
  refine y_new (c := #[Value.int IntKind.i64 p, Value.slice a n c]) (T := 102) H (by kernel_rfl) (by kernel_rfl) (fun w1 b1 H => ?_)
  refine y_load 0 (o := 0) H rfl rfl (by kernel_rfl) ?_
  refine x_sub (t := 3) (a := p) (b := q) ((p) - (q)) (w64' (by omega) (by omega) rfl) (by kernel_rfl) ?_
  -- stop: Req.done (Value.int IntKind.i64 (p - q))
  exact y_done (v := .int .i64 (p - q)) (by kernel_rfl) _ ⟨rfl, rfl⟩ H.drop1

attribute [local irreducible] Ret in
set_option maxHeartbeats 400000 in
theorem search0_ret (port : Int) (F : Fm) (w : World) (H : Own w F []) : Ret Try.prog 61 #[.slice none 0 0, .int .i64 port, .func (.func 62) #[] #[]] w (Post F fun v L' => v = .tuple #[.int .i64 0, .bool false] ∧ L' = []) := by
  refine ret_of_G Try.func61 rfl rfl ?_
  refine s_loop (γ := Unit) 0 [9, 10] (fun _ => [.int .i64 0, .int .i64 0]) (fun _ w' => Own w' F []) (fun _ => 0) () [.int .i64 0, .int .i64 0] (by kernel_rfl) (by kernel_rfl) rfl (by kernel_rfl) rfl H ?_
  rintro _ w1 H
  refine s_ifF (b := false) (by kernel_rfl) rfl ?_
  refine s_ifF (b := false) (by kernel_rfl) rfl ?_
  -- stop: Req.done (Value.tuple (#[Value.int IntKind.i64 (0 : Int), Value.bool false]))
  exact y_done (v := .tuple #[.int .i64 0, .bool false]) (by kernel_rfl) _ ⟨rfl, rfl⟩ H

attribute [local irreducible] Ret in
set_option maxHeartbeats 400000 in
theorem find0_ret (port : Int) (tb : Nat) (F : Fm) (w : World) (H : Own w F [pt tb #[.slice none 0 0] 98]) : Ret Try.prog 50 #[.pointer (some ⟨tb, 0, none⟩), .int .i64 port] w (Post F fun v L' => v = .tuple #[.int .i64 0, .bool false] ∧ L' = [pt tb #[.slice none 0 0] 98]) := by
  refine ret_of_G Try.func50 rfl rfl ?_
  refine y_load 0 (o := 0) H rfl rfl (by kernel_rfl) ?_
  refine y_call (f := 61) (args := #[Value.slice none (0 : Nat) (0 : Nat), Value.int IntKind.i64 port, Value.func (Fn.func (62 : Nat)) (#[]) (#[])]) [] (M := [pt tb #[Value.slice none (0 : Nat) (0 : Nat)] (98 : TypeId)]) H rfl rfl rfl (by kernel_rfl) (by kernel_rfl) (by kernel_rfl) (fun F' hF H' => search0_ret port F' _ H') ?_
  rintro v w1 L' ⟨rfl, rfl⟩ H
  simp only [List.cons_append, List.nil_append] at H
  -- stop: Req.done (Value.tuple (#[Value.int IntKind.i64 (0 : Int), Value.bool false]))
  exact y_done (v := .tuple #[.int .i64 0, .bool false]) (by kernel_rfl) _ ⟨rfl, rfl⟩ H

attribute [local irreducible] Ret in
set_option maxHeartbeats 400000 in
theorem search1_ret (port : Int) (hp0 : 0 ≤ port) (hp1 : port ≤ 65535) (q qc : Nat) (ga : Option Addr) (gn gc : Nat) (F : Fm) (w : World) (H : Own w F [rows (.slice (some ⟨q, 0, none⟩) 1 qc) 102 2 [[.int .i64 port, .slice ga gn gc]]]) :
    Ret Try.prog 61 #[.slice (some ⟨q, 0, none⟩) 1 qc, .int .i64 port, .func (.func 62) #[] #[]] w (Post F fun v L' => v = .tuple #[.int .i64 0, .bool true] ∧ L' = [rows (.slice (some ⟨q, 0, none⟩) 1 qc) 102 2 [[.int .i64 port, .slice ga gn gc]]]) := by
  refine ret_of_G Try.func61 rfl rfl ?_
  have hel : ([[.int .i64 port, .slice ga gn gc]] : List (List Value))[0]? = some [.int .i64 port, .slice ga gn gc] := rfl
  have t1 : decide (port - port < 0) = false := decide_eq_false (by omega)
  have t2 : (port - port == 0) = true := by simp
  refine s_loop (γ := Bool) 0 [9, 10] (fun z => [.int .i64 0, .int .i64 (if z then 0 else 1)]) (fun _ w' => Own w' F [rows (.slice (some ⟨q, 0, none⟩) 1 qc) 102 2 [[.int .i64 port, .slice ga gn gc]]]) (fun z => if z then 0 else 1) false [.int .i64 0, .int .i64 1] (by kernel_rfl) (by kernel_rfl) rfl (by kernel_rfl) rfl H ?_
  clear H
  rintro z w1 H
  cases z with
  | false =>
    simp only [Bool.false_eq_true, if_false]
    have hh : IntKind.i64.wrap ((IntKind.u64.wrap (1 : Int)).fdiv ((2 : Int) ^ min (1 : Nat) IntKind.u64.bits)) = 0 := by decide
    refine s_ifT (b := true) (by kernel_rfl) rfl ?_
    refine x_add (t := 3) (a := (0 : Int)) (b := (1 : Int)) ((((0 : Nat)) + ((1 : Nat)) : Nat) : Int) (w64' (by omega) (by omega) (by omega)) (by kernel_rfl) ?_
    refine x_conv (s := 3) (d := 108) (k := IntKind.i64) (k' := .u64) (a := (1 : Int)) (IntKind.u64.wrap ((1 : Int))) (by kernel_rfl) (by kernel_rfl) rfl (by kernel_rfl) ?_
    refine x_conv (s := 108) (d := 3) (k := IntKind.u64) (k' := .i64) (a := (IntKind.u64.wrap (1 : Int)).fdiv ((2 : Int) ^ min (1 : Nat) IntKind.u64.bits)) (IntKind.i64.wrap ((IntKind.u64.wrap (1 : Int)).fdiv ((2 : Int) ^ min (1 : Nat) IntKind.u64.bits))) (by kernel_rfl) (by kernel_rfl) rfl (by kernel_rfl) ?_
    refine y_idx (t := 96) (b := q) (o := (0 : Nat)) (n := (1 : Nat)) (c := qc) (kd := IntKind.i64) (i := IntKind.i64.wrap ((IntKind.u64.wrap (1 : Int)).fdiv ((2 : Int) ^ min (1 : Nat) IntKind.u64.bits))) 2 (by kernel_rfl) (by omega) (by omega) (by kernel_rfl) ?_
    refine y_elLoad 0 (i := (0 : Nat)) (j := 0) (o := (0 : Nat)) H rfl hel rfl (by first | rfl | omega) (by kernel_rfl) ?_
    refine y_elLoad 0 (i := (0 : Nat)) (j := 1) (o := (1 : Nat)) H rfl hel rfl (by first | rfl | omega) (by kernel_rfl) ?_
    -- stop: Req.call (62 : Nat) (#[Value.agg (#[Value.int IntKind.i64 port, Value.slice ga gn gc]), Value.int IntKind.i64 port])
    rw [hh]
    refine y_call (f := 62) (args := #[Value.agg (#[Value.int IntKind.i64 port, Value.slice ga gn gc]), Value.int IntKind.i64 port]) [] (M := [rows (Value.slice (some (Addr.mk q (0 : Nat) none)) (1 : Nat) qc) 102 (2 : Nat) [[Value.int IntKind.i64 port, Value.slice ga gn gc]]]) H rfl rfl rfl (by kernel_rfl) (by kernel_rfl) (by kernel_rfl) (fun F' hF H' => cmp_ret port port (.slice ga gn gc) hp0 hp1 hp0 hp1 ga gn gc rfl F' _ H') ?_
    rintro v w2 L' ⟨rfl, rfl⟩ H
    simp only [List.cons_append, List.nil_append] at H
    refine s_ifF (by kernel_rfl) t1 ?_
    -- stop: Req.again (0 : Nat)
    exact s_again 0 true [.int .i64 0, .int .i64 0] rfl (by kernel_rfl) (by kernel_rfl) (by kernel_rfl) rfl H (by decide)
  | true =>
    simp only [if_true]
    refine s_ifF (b := false) (by kernel_rfl) rfl ?_
    refine s_ifT (b := true) (by kernel_rfl) rfl ?_
    refine y_idx (t := 96) (b := q) (o := (0 : Nat)) (n := (1 : Nat)) (c := qc) (kd := IntKind.i64) (i := (0 : Int)) 2 (by kernel_rfl) (by omega) (by omega) (by kernel_rfl) ?_
    refine y_elLoad 0 (i := (0 : Nat)) (j := 0) (o := (0 : Nat)) H rfl hel rfl (by first | rfl | omega) (by kernel_rfl) ?_
    refine y_elLoad 0 (i := (0 : Nat)) (j := 1) (o := (1 : Nat)) H rfl hel rfl (by first | rfl | omega) (by kernel_rfl) ?_
    refine y_call (f := 62) (args := #[Value.agg (#[Value.int IntKind.i64 port, Value.slice ga gn gc]), Value.int IntKind.i64 port]) [] (M := [rows (Value.slice (some (Addr.mk q (0 : Nat) none)) (1 : Nat) qc) 102 (2 : Nat) [[Value.int IntKind.i64 port, Value.slice ga gn gc]]]) H rfl rfl rfl (by kernel_rfl) (by kernel_rfl) (by kernel_rfl) (fun F' hF H' => cmp_ret port port (.slice ga gn gc) hp0 hp1 hp0 hp1 ga gn gc rfl F' _ H') ?_
    rintro v w2 L' ⟨rfl, rfl⟩ H
    simp only [List.cons_append, List.nil_append] at H
    -- stop: Req.done (Value.tuple (#[Value.int IntKind.i64 (0 : Int), Value.bool (port - port == (0 : Int))]))
    exact y_done (v := .tuple #[.int .i64 0, .bool (port - port == 0)]) (by kernel_rfl) _ ⟨by rw [t2], rfl⟩ H

attribute [local irreducible] Ret in
set_option maxHeartbeats 400000 in
theorem find1t_ret (port : Int) (hp0 : 0 ≤ port) (hp1 : port ≤ 65535) (tb : Nat) (got : List GotV) (F : Fm) (w : World) (H : Own w F [TabA tb port got]) : Ret Try.prog 50 #[.pointer (some ⟨tb, 0, none⟩), .int .i64 port] w (Post F fun v L' => v = .tuple #[.int .i64 0, .bool true] ∧ L' = [TabA tb port got]) := by
  refine ret_of_G Try.func50 rfl rfl ?_
  obtain ⟨q, qc, ga, gc, hgc, H⟩ := openTab H
  refine y_load 0 (o := 0) H rfl rfl (by kernel_rfl) ?_
  refine y_call (f := 61) (args := #[Value.slice (some (Addr.mk q (0 : Nat) none)) (1 : Nat) qc, Value.int IntKind.i64 port, Value.func (Fn.func (62 : Nat)) (#[]) (#[])]) [1] (M := [pt tb #[Value.slice (some (Addr.mk q (0 : Nat) none)) (1 : Nat) qc] (98 : TypeId), rows (Value.slice ga got.length gc) 64 (3 : Nat) (List.map encG got)]) H rfl rfl rfl (by kernel_rfl) (by kernel_rfl) (by kernel_rfl) (fun F' hF H' => search1_ret port hp0 hp1 q qc ga got.length gc F' _ H') ?_
  rintro v w1 L' ⟨rfl, rfl⟩ H
  simp only [List.cons_append, List.nil_append] at H
  -- stop: Req.done (Value.tuple (#[Value.int IntKind.i64 (0 : Int), Value.bool true]))
  exact y_done (v := .tuple #[.int .i64 0, .bool true]) (by kernel_rfl) _ ⟨rfl, rfl⟩ (shutTab (H.pick [1, 0, 2] rfl))

attribute [local irreducible] Ret in
set_option maxHeartbeats 400000 in
theorem tinsert_ret (port : Int) (bx : Nat) (F : Fm) (w : World) (H : Own w F [rows (.slice (some ⟨bx, 0, none⟩) 1 1) 102 2 [[.int .i64 port, .slice none 0 0]]]) :
    Ret Try.prog 51 #[.slice none 0 0, .int .i64 0, .slice (some ⟨bx, 0, none⟩) 1 1] w (Post F fun v L' => ∃ q c, v = .slice (some ⟨q, 0, none⟩) 1 c ∧ L' = [rows v 102 2 [[.int .i64 port, .slice none 0 0]]]) := by
  refine ret_of_G Try.func51 rfl rfl ?_
  
  -- stop: Req.slice (96 : Nat) (Value.slice none (0 : Nat) (0 : Nat)) (some (Value.int IntKind.i64 (0 : Int))) none none
  refine x_sliceNil (t := 96) (lo := some (.int .i64 (0 : Int))) (hi := none) (by kernel_rfl) (.int .i64 (0 : Int) _ (by omega)) (.none _) (by kernel_rfl) ?_
  refine s_ifF (b := false) (by kernel_rfl) rfl ?_
  refine s_ifT (b := true) (by kernel_rfl) rfl ?_
  -- stop: Req.bi Builtin.append (#[(96 : Nat), (96 : Nat)]) (96 : Nat) (#[Value.slice none (0 : Nat) (0 : Nat), Value.slice (some (Addr.mk bx (0 : Nat) none)) (1 : Nat) (1 : Nat)])
  replace H := H.nilRows 102 2
  refine y_appendAll (t := 96) (ty := 96) (a2 := some ⟨bx, 0, none⟩) (n2 := 1) (c2 := 1) 0 1 32 (.agg #[.int .i64 0, .slice none 0 0]) H rfl rfl ?_ (by simp [maxLen]) (by simp) (by kernel_rfl) (by kernel_rfl) (by kernel_rfl) (by decide) (by kernel_rfl) (by kernel_rfl) (fun a cap2 w3 H => ?_)
  · intro c hc u hu
    simp only [List.mem_singleton] at hc
    subst hc
    simp only [List.mem_cons, List.not_mem_nil, or_false] at hu
    rcases hu with rfl | rfl <;> rfl
  simp only [List.set_cons_zero, List.nil_append] at H
  obtain ⟨q, cq, hsv, _, _⟩ := Own.shapeN 0 H rfl (by simp)
  simp only [List.length_singleton, List.length_nil, Nat.zero_add] at hsv
  cases hsv
  exact y_done (v := .slice (some ⟨q, 0, none⟩) 1 cap2) (by kernel_rfl) _ ⟨q, cap2, rfl, rfl⟩ H.only1

attribute [local irreducible] Ret in
set_option maxHeartbeats 400000 in
theorem bind_ret (port : Int) (hp0 : 1 ≤ port) (hp1 : port ≤ 65535) (tb : Nat) (F : Fm) (w : World) (H : Own w F [pt tb #[.slice none 0 0] 98]) : Ret Try.prog 26 #[.pointer (some ⟨tb, 0, none⟩), .int .i64 port] w (Post F fun v L' => v = .tuple #[.int .i64 port, .int .i64 0] ∧ L' = [TabA tb port []]) := by
  refine ret_of_G Try.func26 rfl rfl ?_
  have e1 : decide (port < 0 ∨ port > 65535) = false := decide_eq_false (by omega)
  have t1 : (port == 0) = false := by simp; omega
  refine y_call (f := 49) (args := #[Value.int IntKind.i64 port]) [] (M := [pt tb #[Value.slice none (0 : Nat) (0 : Nat)] (98 : TypeId)]) H rfl rfl rfl (by kernel_rfl) (by kernel_rfl) (by kernel_rfl) (fun F' hF H' => badPort2_ret port F' _ H') ?_
  rintro v w1 L' ⟨rfl, rfl⟩ H
  simp only [List.cons_append, List.nil_append] at H
  rw [e1]
  refine s_ifF (b := false) (by kernel_rfl) rfl ?_
  refine y_load 0 (o := 0) H rfl rfl (by kernel_rfl) ?_
  refine s_ifF (b := false) (by kernel_rfl) rfl ?_
  refine s_ifF (by kernel_rfl) t1 ?_
  refine y_call (f := 50) (args := #[Value.pointer (some (Addr.mk tb (0 : Nat) none)), Value.int IntKind.i64 port]) [0] (M := []) H rfl rfl rfl (by kernel_rfl) (by kernel_rfl) (by kernel_rfl) (fun F' hF H' => find0_ret port tb F' _ H') ?_
  rintro v w2 L' ⟨rfl, rfl⟩ H
  simp only [List.cons_append, List.nil_append] at H
  refine s_ifF (b := false) (by kernel_rfl) rfl ?_
  refine y_load 0 (o := 0) H rfl rfl (by kernel_rfl) ?_
  refine y_new (c := #[Value.int IntKind.i64 port, Value.slice none (0 : Nat) (0 : Nat)]) (T := 102) H (by kernel_rfl) (by kernel_rfl) (fun w3 b1 H => ?_)
  -- stop: Req.call (51 : Nat) (#[Value.slice none (0 : Nat) (0 : Nat), Value.int IntKind.i64 (0 : Int), Value.slice (some (Addr.mk b1 (0 : Nat) none)) (1 : Nat) (1 : Nat)])
  -- [[] | badPort2_ret port F' _ H' | ⟨rfl, rfl⟩ | rw [e1]] at [refine y_call (f := 51) (args := #[Value.slice none (0 : Nat) (0 : Nat),]: Type mismatch   Go.Proofs.Ytfknpeajihecdaa.badPort2_ret port F' w3 H' has type   Go.XM.Ret Go.Proofs.Try.prog 49 #[Go.Value.int Go.IntKind.i64 port] w3     (Go.XM.Post F' fun v L' => v = Go.Value.bool (decide (port < 0 ∨ port > 65535)) ∧ L' = []) but is expected to have type   Go.XM.Ret Go.Proofs.Try.prog 51     #[Go.Value.slice none 0 0, Go.Value.int Go.IntKind.i64 0, Go.Value.slice (some { block := b1, off := 0 }) 1 1] w3     (Go.XM.Post F' ?m.369)
  -- [[0] | find0_ret port tb F' _ H' | ⟨rfl, rfl⟩] at [refine y_call (f := 51) (args := #[Value.slice none (0 : Nat) (0 : Nat),]: Type mismatch   Go.Proofs.Ytfknpeajihecdaa.find0_ret port tb F' ?m.399 ?m.400 has type   Go.XM.Ret Go.Proofs.Try.prog 50 #[Go.Value.pointer (some { block := tb, off := 0 }), Go.Value.int Go.IntKind.i64 port]     ?m.399     (Go.XM.Post F' fun v L' =>       v = Go.Value.tuple #[Go.Value.int Go.IntKind.i64 0, Go.Value.bool false] ∧         L' = [Go.XM.pt tb #[Go.Value.slice none 0 0] 98]) but is expected to have type   Go.XM.Ret Go.Proofs.Try.prog 51     #[Go.Value.slice none 0 0, Go.Value.int Go.I
  replace H := Own.asRows [[.int .i64 port, .slice none 0 0]] 2 H (by intro x hx; simp at hx; subst hx; rfl) rfl (by simp [maxLen])
  refine y_call (f := 51) (args := #[Value.slice none (0 : Nat) (0 : Nat), Value.int IntKind.i64 (0 : Int), Value.slice (some (Addr.mk b1 (0 : Nat) none)) (1 : Nat) (1 : Nat)]) [0] (M := [pt tb #[Value.slice none (0 : Nat) (0 : Nat)] (98 : TypeId)]) H rfl rfl rfl (by kernel_rfl) (by kernel_rfl) (by kernel_rfl) (fun F' hF H' => tinsert_ret port b1 F' _ H') ?_
  rintro v w4 L' ⟨q, c, rfl, rfl⟩ H
  simp only [List.cons_append, List.nil_append] at H
  refine y_store 1 (o := 0) (v := Value.slice (some (Addr.mk q (0 : Nat) none)) (1 : Nat) c) (c' := #[Value.slice (some (Addr.mk q (0 : Nat) none)) (1 : Nat) c]) H rfl (by kernel_rfl) (by kernel_rfl) (by kernel_rfl) rfl (by kernel_rfl) (fun w5 H => ?_)
  simp only [List.set_cons_zero, List.set_cons_succ] at H
  -- stop: Req.done (Value.tuple (#[Value.int IntKind.i64 port, Value.int IntKind.i64 (0 : Int)]))
  exact y_done (v := .tuple #[.int .i64 port, .int .i64 0]) (by kernel_rfl) _ ⟨rfl, rfl⟩ (shutTab (got := []) (Own.pick [2, 1, 0] (H.nilRows 64 3) rfl))
end Go.Proofs.Ytfknpeajihecdaa
