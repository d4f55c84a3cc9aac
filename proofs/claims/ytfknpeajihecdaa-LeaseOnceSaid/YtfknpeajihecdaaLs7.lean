import Derived.Test.YtfknpeajihecdaaLs6
namespace Go.Proofs.Ytfknpeajihecdaa
open Go.XM Go.RowKit Go.Ls
set_option maxRecDepth 100000

attribute [local irreducible] Ret in
set_option maxHeartbeats 400000 in
theorem mask_ret (b : Nat) (hb : b ≤ 32) (F : Fm) (w : World) (H : Own w F []) : Ret Try.prog 55 #[.int .i64 b] w (Post F fun v L' => v = .tuple #[.int .u32 (IntKind.u32.wrap (4294967295 * 2 ^ (min (32 - b) 32))), .int .i64 0] ∧ L' = []) := by
  refine ret_of_G Try.func55 rfl rfl ?_
  have t1 : decide ((b : Int) < 0) = false := decide_eq_false (by omega)
  have t2 : decide ((b : Int) > 32) = false := decide_eq_false (by omega)
  refine s_ifF (b := false) (by kernel_rfl) rfl ?_
  refine s_ifF (by kernel_rfl) t2 ?_
  refine x_sub (t := 3) (a := (32 : Int)) (b := (↑b : Int)) (((32 : Int)) - ((↑b : Int))) (w64' (by omega) (by omega) rfl) (by kernel_rfl) ?_
  -- stop: Req.bin BinOp.shl (22 : Nat) (Value.int IntKind.u32 (4294967295 : Int)) (Value.int IntKind.i64 ((32 : Int) - (↑b : Int)))
  rw [show (32 : Int) - (b : Int) = ((32 - b : Nat) : Int) by omega]
  refine x_shl (t := 22) (kd := .u32) (ky := .i64) (a := 4294967295) (y := ((32 - b : Nat) : Int)) (by omega) (by kernel_rfl) ?_
  
  -- stop: Req.done (Value.tuple (#[Value.int IntKind.u32 (IntKind.u32.wrap ((4294967295 : Int) * (2 : Int) ^ min (↑((32 : Nat) - b) : Int).toNat IntKind.u32.bits)), Value.int IntKind.i64 (0 : Int)]))
  exact y_done (v := .tuple #[.int .u32 (IntKind.u32.wrap (4294967295 * 2 ^ (min (32 - b) 32))), .int .i64 0]) (by kernel_rfl) _ ⟨rfl, rfl⟩ H

/-- A prefix without host bits. -/
def goodP (ad : Int) (b : Nat) : Bool := IntKind.u32.wrap (((BitVec.ofInt IntKind.u32.bits ad &&& ~~~BitVec.ofInt IntKind.u32.bits (IntKind.u32.wrap (4294967295 * 2 ^ (min (32 - b) 32)))).toNat : Nat) : Int) == 0

attribute [local irreducible] Ret in
set_option maxHeartbeats 400000 in
theorem check_ret (ad : Int) (b : Nat) (hb : b ≤ 32) (hg : goodP ad b = true) (F : Fm) (w : World) (H : Own w F []) : Ret Try.prog 36 #[.agg #[.int .u32 ad, .int .i64 b]] w (Post F fun v L' => v = .int .i64 0 ∧ L' = []) := by
  refine ret_of_G Try.func36 rfl rfl ?_
  unfold goodP at hg
  obtain ⟨M, hM⟩ : ∃ M, IntKind.u32.wrap (4294967295 * 2 ^ (min (32 - b) 32)) = M := ⟨_, rfl⟩
  rw [hM] at hg
  have t1 : (IntKind.u32.wrap (((BitVec.ofInt IntKind.u32.bits ad &&& ~~~BitVec.ofInt IntKind.u32.bits M).toNat : Nat) : Int) != 0) = false := by rw [eq_of_beq hg]; rfl
  refine y_new (c := #[Value.int IntKind.u32 ad, Value.int IntKind.i64 (↑b : Int)]) (T := 43) H (by kernel_rfl) (by kernel_rfl) (fun w1 b1 H => ?_)
  refine y_load 0 (o := 1) H rfl rfl (by kernel_rfl) ?_
  refine y_call (f := 55) (args := #[Value.int IntKind.i64 (↑b : Int)]) [] (M := [pt b1 #[Value.int IntKind.u32 ad, Value.int IntKind.i64 (↑b : Int)] 43]) H rfl rfl rfl (by kernel_rfl) (by kernel_rfl) (by kernel_rfl) (fun F' hF H' => mask_ret b hb F' _ H') ?_
  rintro v w2 L' ⟨rfl, rfl⟩ H
  simp only [List.cons_append, List.nil_append] at H
  rw [hM]
  refine s_ifF (b := false) (by kernel_rfl) rfl ?_
  refine y_load 0 (o := 0) H rfl rfl (by kernel_rfl) ?_
  refine s_ifF (by kernel_rfl) t1 ?_
  -- stop: Req.done (Value.int IntKind.i64 (0 : Int))
  
  -- stop: Req.done (Value.int IntKind.i64 (0 : Int))
  exact y_done (v := .int .i64 0) (by kernel_rfl) _ ⟨rfl, rfl⟩ H.drop1

attribute [local irreducible] Ret in
set_option maxHeartbeats 400000 in
theorem new_ret (ad time : Int) (b : Nat) (hb0 : 24 ≤ b) (hb : b ≤ 32) (hg : goodP ad b = true) (ht0 : 1 ≤ time) (ht1 : time ≤ 1000000000) (F : Fm) (w : World) (H : Own w F []) :
    Ret Try.prog 22 #[.agg #[.int .u32 ad, .int .i64 b], .int .i64 time] w (Post F fun v L' => ∃ bl, v = .tuple #[.pointer (some ⟨bl, 0, none⟩), .int .i64 0] ∧ L' = [PoolA bl ⟨ad, ((2 ^ (32 - b) : Nat) : Int), time, [], 0⟩]) := by
  refine ret_of_G Try.func22 rfl rfl ?_
  have t1 : decide ((b : Int) < 24) = false := decide_eq_false (by omega)
  have t2 : decide (time < 1) = false := decide_eq_false (by omega)
  have t3 : decide (time > 1000000000) = false := decide_eq_false (by omega)
  refine y_new (c := #[Value.int IntKind.u32 ad, Value.int IntKind.i64 (↑b : Int)]) (T := 43) H (by kernel_rfl) (by kernel_rfl) (fun w1 b1 H => ?_)
  refine y_load 0 (o := 0) H rfl rfl (by kernel_rfl) ?_
  refine y_load 0 (o := 1) H rfl rfl (by kernel_rfl) ?_
  refine y_call (f := 36) (args := #[Value.agg (#[Value.int IntKind.u32 ad, Value.int IntKind.i64 (↑b : Int)])]) [] (M := [pt b1 #[Value.int IntKind.u32 ad, Value.int IntKind.i64 (↑b : Int)] 43]) H rfl rfl rfl (by kernel_rfl) (by kernel_rfl) (by kernel_rfl) (fun F' hF H' => check_ret ad b hb hg F' _ H') ?_
  rintro v w2 L' ⟨rfl, rfl⟩ H
  simp only [List.cons_append, List.nil_append] at H
  refine s_ifF (b := false) (by kernel_rfl) rfl ?_
  refine y_load 0 (o := 1) H rfl rfl (by kernel_rfl) ?_
  refine s_ifF (by kernel_rfl) t1 ?_
  refine s_ifF (by kernel_rfl) t2 ?_
  refine s_ifF (by kernel_rfl) t3 ?_
  refine s_drawT (8 : Nat) 8 (by kernel_rfl) (by kernel_rfl) (by kernel_rfl) ?_
  replace H := Own.drew H
  refine y_load 0 (o := 0) H rfl rfl (by kernel_rfl) ?_
  refine y_load 0 (o := 1) H rfl rfl (by kernel_rfl) ?_
  refine x_sub (t := 3) (a := (32 : Int)) (b := (↑b : Int)) (((32 : Int)) - ((↑b : Int))) (w64' (by omega) (by omega) rfl) (by kernel_rfl) ?_
  -- stop: Req.bin BinOp.shl (3 : Nat) (Value.int IntKind.i64 (1 : Int)) (Value.int IntKind.i64 ((32 : Int) - (↑b : Int)))
  rw [show (32 : Int) - (b : Int) = ((32 - b : Nat) : Int) by omega]
  refine x_shl (t := 3) (kd := .i64) (ky := .i64) (a := 1) (y := ((32 - b : Nat) : Int)) (by omega) (by kernel_rfl) ?_
  have hsh : IntKind.i64.wrap (1 * 2 ^ (min ((32 - b : Nat) : Int).toNat IntKind.i64.bits)) = ((2 ^ (32 - b) : Nat) : Int) := by
    have hk : 32 - b ≤ 8 := by omega
    generalize 32 - b = k at hk
    obtain rfl | rfl | rfl | rfl | rfl | rfl | rfl | rfl | rfl : k = 0 ∨ k = 1 ∨ k = 2 ∨ k = 3 ∨ k = 4 ∨ k = 5 ∨ k = 6 ∨ k = 7 ∨ k = 8 := by omega
    all_goals rfl
  rw [hsh]
  generalize ((2 ^ (32 - b) : Nat) : Int) = K
  refine y_new (c := #[Value.int IntKind.u32 ad, Value.int IntKind.i64 K, Value.int IntKind.i64 time, Value.slice none (0 : Nat) (0 : Nat), Value.int IntKind.i64 (0 : Int)]) (T := 89) H (by kernel_rfl) (by kernel_rfl) (fun w3 b2 H => ?_)
  -- stop: Req.done (Value.tuple (#[Value.pointer (some (Addr.mk b2 (0 : Nat) none)), Value.int IntKind.i64 (0 : Int)]))
  exact y_done (v := .tuple #[.pointer (some ⟨b2, 0, none⟩), .int .i64 0]) (by kernel_rfl) _ ⟨b2, rfl, rfl⟩ (shutPool (Own.only2 ((H.nilRows 75 4).pick [1, 0, 2] rfl)) rfl rfl)

attribute [local irreducible] Ret in
set_option maxHeartbeats 400000 in
theorem rest_ret (n m : Int) (_h0 : -9223372036854775808 ≤ n) (_h1 : n ≤ 9223372036854775807) (hm : 0 < m) (hm2 : m ≤ 100000) (F : Fm) (w : World) (H : Own w F []) : Ret Try.prog 14 #[.int .i64 n, .int .i64 m] w (Post F fun v L' => v = .int .i64 (n % m) ∧ L' = []) := by
  refine ret_of_G Try.func14 rfl rfl ?_
  have e := Int.tmod_eq_emod (a := n) (b := m)
  have e1 : 0 ≤ n % m := Int.emod_nonneg _ (by omega)
  have e2 : n % m < m := Int.emod_lt_of_pos _ hm
  have e3 : (m.natAbs : Int) = m := by omega
  refine x_rem (t := 3) (kd := IntKind.i64) (a := n) (y := m) (by omega) (by kernel_rfl) ?_
  -- test decide (n.tmod m < (0 : Int))
  have hlo : -m < n.tmod m := by rw [e]; split <;> omega
  have hhi : n.tmod m < m := by rw [e]; split <;> omega
  have e4 : n.tmod m = n % m ∨ n.tmod m + m = n % m ∧ n.tmod m < 0 := by
    rw [e]; split
    · exact .inl (by omega)
    · right; rename_i h; have : n % m ≠ 0 := fun h0 => h (.inr (Int.dvd_of_emod_eq_zero h0)); omega
  generalize n.tmod m = t at *
  generalize n % m = q at *
  refine s_if (b := decide (t < (0 : Int))) (by kernel_rfl) (fun ht1 => ?_) (fun hf1 => ?_)
  · have p1 := of_decide_eq_true ht1
    refine x_add (t := 3) (a := t) (b := m) ((t) + (m)) (w64' (by omega) (by omega) rfl) (by kernel_rfl) ?_
    refine s_done (v := Value.int IntKind.i64 (t + m)) (by kernel_rfl) ?_
    exact ⟨_, ⟨by congr 1; omega, rfl⟩, H⟩
  · have p1 := of_decide_eq_false hf1
    refine s_done (v := Value.int IntKind.i64 t) (by kernel_rfl) ?_
    exact ⟨_, ⟨by congr 1; omega, rfl⟩, H⟩

theorem fact_ask : (askV ⟨256, ((2 ^ (32 - 24) : Nat) : Int), 9, [], 0⟩ 5 0).1 = (256, 0) := by decide

attribute [local irreducible] Ret askV in
set_option maxHeartbeats 400000 in
theorem leaseFact_ret (F : Fm) (w : World) (H : Own w F []) : Ret Try.prog 21 #[] w (Post F fun v L' => v = .bool true ∧ L' = []) := by
  refine ret_of_G Try.func21 rfl rfl ?_
  have e1 := fact_ask
  refine y_call (f := 22) (args := #[Value.agg (#[Value.int IntKind.u32 (256 : Int), Value.int IntKind.i64 (24 : Int)]), Value.int IntKind.i64 (9 : Int)]) [] (M := []) H rfl rfl rfl (by kernel_rfl) (by kernel_rfl) (by kernel_rfl) (fun F' hF H' => new_ret 256 9 24 (by omega) (by omega) (by decide) (by omega) (by omega) F' _ H') ?_
  rintro v w1 L' ⟨b, rfl, rfl⟩ H
  simp only [List.cons_append, List.nil_append] at H
  refine s_ifF (b := false) (by kernel_rfl) rfl ?_
  refine s_ifF (b := false) (by kernel_rfl) rfl ?_
  -- stop: Req.call (23 : Nat) (#[Value.pointer (some (Addr.mk b (0 : Nat) none)), Value.int IntKind.i64 (5 : Int), Value.int IntKind.i64 (0 : Int)])
  -- [[] | new_ret 256 9 24 (by omega) (by omega) (by decide) (by ] at [refine y_call (f := 23) (args := #[Value.pointer (some (Addr.mk b (0 : N]: Type mismatch   Go.Proofs.Ytfknpeajihecdaa.new_ret 256 9 24 ?m.234 ?m.235 ?m.236 ?m.237 ?m.238 F' w1 H' has type   Go.XM.Ret Go.Proofs.Try.prog 22     #[Go.Value.agg #[Go.Value.int Go.IntKind.u32 256, Go.Value.int Go.IntKind.i64 ↑24], Go.Value.int Go.IntKind.i64 9]     w1     (Go.XM.Post F' fun v L' =>       ∃ bl,         v = Go.Value.tuple #[Go.Value.pointer (some { block := bl, off := 0 }), Go.Value.int Go.IntKind.i64 0] ∧           L' =             [Go.Proofs.Ytfknpeajihecdaa.PoolA bl        
  refine y_call (f := 23) (args := #[Value.pointer (some (Addr.mk b (0 : Nat) none)), Value.int IntKind.i64 (5 : Int), Value.int IntKind.i64 (0 : Int)]) [0] (M := []) H rfl rfl rfl (by kernel_rfl) (by kernel_rfl) (by kernel_rfl) (fun F' hF H' => ask_ret ⟨256, ((2 ^ (32 - 24) : Nat) : Int), 9, [], 0⟩ 5 0 b F' _ H' (by simp) (by decide) (by decide) (by decide)) ?_
  rintro v w2 L' ⟨rfl, rfl⟩ H
  simp only [List.cons_append, List.nil_append] at H
  rw [e1]
  refine s_ifT (b := true) (by kernel_rfl) rfl ?_
  -- stop: Req.done (Value.bool true)
  exact y_done (v := .bool true) (by kernel_rfl) _ ⟨rfl, rfl⟩ H.drop1
end Go.Proofs.Ytfknpeajihecdaa
