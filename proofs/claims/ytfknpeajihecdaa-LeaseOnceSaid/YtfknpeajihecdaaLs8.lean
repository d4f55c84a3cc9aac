import Derived.Test.YtfknpeajihecdaaLs7
import Derived.Test.YtfknpeajihecdaaLsLaw2
namespace Go.Proofs.Ytfknpeajihecdaa
open Go.XM Go.RowKit Go.Ls
set_option maxRecDepth 100000

theorem pow_le {b : Nat} (h0 : 27 ≤ b) (h1 : b ≤ 32) : 1 ≤ 2 ^ (32 - b) ∧ 2 ^ (32 - b) ≤ 32 := by
  obtain rfl | rfl | rfl | rfl | rfl | rfl : b = 27 ∨ b = 28 ∨ b = 29 ∨ b = 30 ∨ b = 31 ∨ b = 32 := by omega
  all_goals decide
theorem good4096 {b : Nat} (h0 : 27 ≤ b) (h1 : b ≤ 32) : goodP 4096 b = true := by
  obtain rfl | rfl | rfl | rfl | rfl | rfl : b = 27 ∨ b = 28 ∨ b = 29 ∨ b = 30 ∨ b = 31 ∨ b = 32 := by omega
  all_goals decide
theorem shl_bits {b : Nat} (h0 : 24 ≤ b) (h1 : b ≤ 32) : IntKind.i64.wrap (1 * 2 ^ (min ((32 - b : Nat) : Int).toNat IntKind.i64.bits)) = ((2 ^ (32 - b) : Nat) : Int) := by
  have hk : 32 - b ≤ 8 := by omega
  generalize 32 - b = k at hk
  obtain rfl | rfl | rfl | rfl | rfl | rfl | rfl | rfl | rfl : k = 0 ∨ k = 1 ∨ k = 2 ∨ k = 3 ∨ k = 4 ∨ k = 5 ∨ k = 6 ∨ k = 7 ∨ k = 8 := by omega
  all_goals rfl
theorem poolAll_zero (c0 : Int) (many : Nat) : poolAll c0 many 0 = ⟨4096, many, 100, [], 0⟩ := rfl

attribute [local irreducible] Ret askV poolAll in
set_option maxHeartbeats 400000 in
theorem leaseAll_ret (bits first : Int) (F : Fm) (w : World) (H : Own w F []) (h0 : -9223372036854775808 ≤ bits) (h1 : bits ≤ 9223372036854775807) (g0 : -9223372036854775808 ≤ first) (g1 : first ≤ 9223372036854775807) :
    Ret Try.prog 6 #[.int .i64 bits, .int .i64 first] w (Post F fun v _ => v = .bool true) := by
  refine ret_of_G Try.func6 rfl rfl ?_
  refine y_call (f := 21) (args := #[]) [] (M := []) H rfl rfl rfl (by kernel_rfl) (by kernel_rfl) (by kernel_rfl) (fun F' hF H' => leaseFact_ret F' _ H') ?_
  rintro v w1 L' ⟨rfl, rfl⟩ H
  simp only [List.cons_append, List.nil_append] at H
  refine s_ifF (b := false) (by kernel_rfl) rfl ?_
  refine y_call (f := 14) (args := #[Value.int IntKind.i64 bits, Value.int IntKind.i64 (6 : Int)]) [] (M := []) H rfl rfl rfl (by kernel_rfl) (by kernel_rfl) (by kernel_rfl) (fun F' hF H' => rest_ret bits 6 h0 h1 (by omega) (by omega) F' _ H') ?_
  rintro v w2 L' ⟨rfl, rfl⟩ H
  simp only [List.cons_append, List.nil_append] at H
  refine x_add (t := 3) (a := (27 : Int)) (b := bits % (6 : Int)) (((27 : Int)) + (bits % (6 : Int))) (w64' (by omega) (by omega) rfl) (by kernel_rfl) ?_
  -- stop: Req.call (22 : Nat) (#[Value.agg (#[Value.int IntKind.u32 (4096 : Int), Value.int IntKind.i64 ((27 : Int) + bits % (6 : Int))]), Value.int IntKind.i64 (100 : Int)])
  -- [[] | leaseFact_ret F' _ H' | ⟨rfl, rfl⟩] at [refine y_call (f := 22) (args := #[Value.agg (#[Value.int IntKind.u32 (4]: Type mismatch   Go.Proofs.Ytfknpeajihecdaa.leaseFact_ret F' w2 H' has type   Go.XM.Ret Go.Proofs.Try.prog 21 #[] w2 (Go.XM.Post F' fun v L' => v = Go.Value.bool true ∧ L' = []) but is expected to have type   Go.XM.Ret Go.Proofs.Try.prog 22     #[Go.Value.agg #[Go.Value.int Go.IntKind.u32 4096, Go.Value.int Go.IntKind.i64 (27 + bits % 6)],       Go.Value.int Go.IntKind.i64 100]     w2 (Go.XM.Post F' ?m.280)
  -- [[] | rest_ret bits 6 h0 h1 (by omega) (by omega) F' _ H' | ⟨] at [refine y_call (f := 22) (args := #[Value.agg (#[Value.int IntKind.u32 (4]: Type mismatch   Go.Proofs.Ytfknpeajihecdaa.rest_ret bits 6 h0 h1 ?m.298 ?m.299 F' w2 H' has type   Go.XM.Ret Go.Proofs.Try.prog 14 #[Go.Value.int Go.IntKind.i64 bits, Go.Value.int Go.IntKind.i64 6] w2     (Go.XM.Post F' fun v L' => v = Go.Value.int Go.IntKind.i64 (bits % 6) ∧ L' = []) but is expected to have type   Go.XM.Ret Go.Proofs.Try.prog 22     #[Go.Value.agg #[Go.Value.int Go.IntKind.u32 4096, Go.Value.int Go.IntKind.i64 (27 + bits % 6)],       Go.Value.int Go.IntKind.i64 100]     w2 (Go.
  obtain ⟨b, hb⟩ : ∃ b : Nat, 27 + bits % 6 = b := ⟨(27 + bits % 6).toNat, by omega⟩
  rw [hb]
  have hb0 : 27 ≤ b := by omega
  have hb1 : b ≤ 32 := by omega
  refine y_call (f := 22) (args := #[Value.agg (#[Value.int IntKind.u32 (4096 : Int), Value.int IntKind.i64 (↑b : Int)]), Value.int IntKind.i64 (100 : Int)]) [] (M := []) H rfl rfl rfl (by kernel_rfl) (by kernel_rfl) (by kernel_rfl) (fun F' hF H' => new_ret 4096 100 b (by omega) (by omega) (good4096 hb0 hb1) (by omega) (by omega) F' _ H') ?_
  rintro v w3 L' ⟨bl, rfl, rfl⟩ H
  simp only [List.cons_append, List.nil_append] at H
  refine s_ifF (b := false) (by kernel_rfl) rfl ?_
  refine s_ifF (b := false) (by kernel_rfl) rfl ?_
  refine x_sub (t := 3) (a := (32 : Int)) (b := (↑b : Int)) (((32 : Int)) - ((↑b : Int))) (w64' (by omega) (by omega) rfl) (by kernel_rfl) ?_
  -- stop: Req.bin BinOp.shl (3 : Nat) (Value.int IntKind.i64 (1 : Int)) (Value.int IntKind.i64 ((32 : Int) - (↑b : Int)))
  rw [show (32 : Int) - (b : Int) = ((32 - b : Nat) : Int) by omega]
  refine x_shl (t := 3) (kd := .i64) (ky := .i64) (a := 1) (y := ((32 - b : Nat) : Int)) (by omega) (by kernel_rfl) ?_
  rw [shl_bits (by omega) hb1]
  have hm := pow_le hb0 hb1
  generalize 2 ^ (32 - b) = many at hm H ⊢
  have hc0 : 0 ≤ first % 1000 := Int.emod_nonneg _ (by omega)
  have hc1 : first % 1000 < 1000 := Int.emod_lt_of_pos _ (by omega)
  rw [← poolAll_zero (first % 1000)] at H
  
  -- stop: Req.loop
  have hr := fun (F' : Fm) (w : World) (H' : Own w F' []) => rest_ret first 1000 g0 g1 (by omega) (by omega) F' w H'
  obtain ⟨c0, hc⟩ : ∃ c0, first % 1000 = c0 := ⟨_, rfl⟩
  rw [hc] at hc0 hc1 H hr
  refine s_loop (γ := Nat) 0 [8] (fun i => [.int .i64 i]) (fun i w' => Own w' F [PoolA bl (poolAll c0 many i)] ∧ i ≤ many) (fun i => many - i) 0 [.int .i64 0] (by kernel_rfl) (by kernel_rfl) rfl (by kernel_rfl) rfl ⟨H, Nat.zero_le _⟩ ?_
  clear H
  rintro i w5 ⟨H, hi⟩
  have hask := all_ask hc0 (by omega) hm.2 hi
  have hlen : (poolAll c0 many i).all.length ≤ 900 := by
    have : (poolAll c0 many i).all.length = i := by unfold poolAll; exact allE_len c0 i
    omega
  have hpf : (poolAll c0 many i).first = 4096 := by unfold poolAll; rfl
  have hpm : (poolAll c0 many i).many = many := by unfold poolAll; rfl
  by_cases hlt : i < many
  · have t4 : decide ((i : Int) < many) = true := decide_eq_true (by omega)
    rw [if_pos hlt] at hask
    have t5 : ((4096 : Int) + (i : Int) != ((4096 + i : Nat) : Int)) = false := by simp
    refine s_ifT (by kernel_rfl) t4 ?_
    refine y_call (f := 14) (args := #[Value.int IntKind.i64 first, Value.int IntKind.i64 (1000 : Int)]) [] (M := [PoolA bl (poolAll c0 many i)]) H rfl rfl rfl (by kernel_rfl) (by kernel_rfl) (by kernel_rfl) (fun F' hF H' => hr F' _ H') ?_
    rintro v w6 L' ⟨rfl, rfl⟩ H
    simp only [List.cons_append, List.nil_append] at H
    refine x_add (t := 3) (a := c0) (b := (↑i : Int)) ((c0) + ((↑i : Int))) (w64' (by omega) (by omega) rfl) (by kernel_rfl) ?_
    refine y_call (f := 23) (args := #[Value.pointer (some (Addr.mk bl (0 : Nat) none)), Value.int IntKind.i64 (c0 + (↑i : Int)), Value.int IntKind.i64 (0 : Int)]) [0] (M := []) H rfl rfl rfl (by kernel_rfl) (by kernel_rfl) (by kernel_rfl) (fun F' hF H' => ask_ret (poolAll c0 many i) (c0 + i) 0 bl F' _ H' hlen (by omega) (by omega) (by omega)) ?_
    rintro v w7 L' ⟨rfl, rfl⟩ H
    simp only [List.cons_append, List.nil_append] at H
    rw [hask] at H
    rw [hask]
    refine s_ifF (b := false) (by kernel_rfl) rfl ?_
    refine x_conv (s := 22) (d := 3) (k := IntKind.u32) (k' := .i64) (a := (4096 : Int) + (↑i : Int)) ((4096 : Int) + (↑i : Int)) (by kernel_rfl) (by kernel_rfl) (w64' (by omega) (by omega) rfl) (by kernel_rfl) ?_
    refine x_add (t := 3) (a := (4096 : Int)) (b := (↑i : Int)) ((((4096 : Nat)) + (i) : Nat) : Int) (w64' (by omega) (by omega) (by omega)) (by kernel_rfl) ?_
    refine s_ifF (by kernel_rfl) t5 ?_
    refine x_add (t := 3) (a := (↑i : Int)) (b := (1 : Int)) (((i) + ((1 : Nat)) : Nat) : Int) (w64' (by omega) (by omega) (by omega)) (by kernel_rfl) ?_
    -- stop: Req.again (0 : Nat)
    exact s_again 0 (i + 1) [.int .i64 ((i + 1 : Nat) : Int)] rfl (by kernel_rfl) (by kernel_rfl) (by kernel_rfl) rfl ⟨H, hlt⟩ (by omega)
  · have t4 : decide ((i : Int) < many) = false := decide_eq_false (by omega)
    rw [if_neg hlt] at hask
    obtain rfl : i = many := by omega
    refine s_ifF (by kernel_rfl) t4 ?_
    refine y_call (f := 14) (args := #[Value.int IntKind.i64 first, Value.int IntKind.i64 (1000 : Int)]) [] (M := [PoolA bl (poolAll c0 i i)]) H rfl rfl rfl (by kernel_rfl) (by kernel_rfl) (by kernel_rfl) (fun F' hF H' => hr F' _ H') ?_
    rintro v w6 L' ⟨rfl, rfl⟩ H
    simp only [List.cons_append, List.nil_append] at H
    refine x_add (t := 3) (a := c0) (b := (↑i : Int)) ((c0) + ((↑i : Int))) (w64' (by omega) (by omega) rfl) (by kernel_rfl) ?_
    refine y_call (f := 23) (args := #[Value.pointer (some (Addr.mk bl (0 : Nat) none)), Value.int IntKind.i64 (c0 + (↑i : Int)), Value.int IntKind.i64 (0 : Int)]) [0] (M := []) H rfl rfl rfl (by kernel_rfl) (by kernel_rfl) (by kernel_rfl) (fun F' hF H' => ask_ret (poolAll c0 i i) (c0 + i) 0 bl F' _ H' hlen (by omega) (by omega) (by omega)) ?_
    rintro v w7 L' ⟨rfl, rfl⟩ H
    simp only [List.cons_append, List.nil_append] at H
    rw [hask] at H
    rw [hask]
    -- stop: Req.done (Value.bool true)
    exact y_done (v := .bool true) (by kernel_rfl) _ rfl H

theorem good7 : goodP 7 32 = true := by decide
theorem one_shl : ((2 ^ (32 - 32) : Nat) : Int) = 1 := rfl

attribute [local irreducible] Ret askV takeV in
set_option maxHeartbeats 400000 in
theorem leaseFree_ret (time early : Int) (takes : Bool) (F : Fm) (w : World) (H : Own w F []) (h0 : -9223372036854775808 ≤ time) (h1 : time ≤ 9223372036854775807) (g0 : -9223372036854775808 ≤ early) (g1 : early ≤ 9223372036854775807) :
    Ret Try.prog 7 #[.int .i64 time, .int .i64 early, .bool takes] w (Post F fun v _ => v = .bool true) := by
  refine ret_of_G Try.func7 rfl rfl ?_
  refine y_call (f := 21) (args := #[]) [] (M := []) H rfl rfl rfl (by kernel_rfl) (by kernel_rfl) (by kernel_rfl) (fun F' hF H' => leaseFact_ret F' _ H') ?_
  rintro v w1 L' ⟨rfl, rfl⟩ H
  simp only [List.cons_append, List.nil_append] at H
  refine s_ifF (b := false) (by kernel_rfl) rfl ?_
  refine y_call (f := 14) (args := #[Value.int IntKind.i64 time, Value.int IntKind.i64 (1000 : Int)]) [] (M := []) H rfl rfl rfl (by kernel_rfl) (by kernel_rfl) (by kernel_rfl) (fun F' hF H' => rest_ret time 1000 h0 h1 (by omega) (by omega) F' _ H') ?_
  rintro v w2 L' ⟨rfl, rfl⟩ H
  simp only [List.cons_append, List.nil_append] at H
  refine x_add (t := 3) (a := (1 : Int)) (b := time % (1000 : Int)) (((1 : Int)) + (time % (1000 : Int))) (w64' (by omega) (by omega) rfl) (by kernel_rfl) ?_
  -- stop: Req.call (22 : Nat) (#[Value.agg (#[Value.int IntKind.u32 (7 : Int), Value.int IntKind.i64 (32 : Int)]), Value.int IntKind.i64 ((1 : Int) + time % (1000 : Int))])
  -- [[] | leaseFact_ret F' _ H' | ⟨rfl, rfl⟩] at [refine y_call (f := 22) (args := #[Value.agg (#[Value.int IntKind.u32 (7]: Type mismatch   Go.Proofs.Ytfknpeajihecdaa.leaseFact_ret F' w2 H' has type   Go.XM.Ret Go.Proofs.Try.prog 21 #[] w2 (Go.XM.Post F' fun v L' => v = Go.Value.bool true ∧ L' = []) but is expected to have type   Go.XM.Ret Go.Proofs.Try.prog 22     #[Go.Value.agg #[Go.Value.int Go.IntKind.u32 7, Go.Value.int Go.IntKind.i64 32],       Go.Value.int Go.IntKind.i64 (1 + time % 1000)]     w2 (Go.XM.Post F' ?m.281)
  -- [[] | rest_ret time 1000 h0 h1 (by omega) (by omega) F' _ H' ] at [refine y_call (f := 22) (args := #[Value.agg (#[Value.int IntKind.u32 (7]: Type mismatch   Go.Proofs.Ytfknpeajihecdaa.rest_ret time 1000 h0 h1 ?m.299 ?m.300 F' w2 H' has type   Go.XM.Ret Go.Proofs.Try.prog 14 #[Go.Value.int Go.IntKind.i64 time, Go.Value.int Go.IntKind.i64 1000] w2     (Go.XM.Post F' fun v L' => v = Go.Value.int Go.IntKind.i64 (time % 1000) ∧ L' = []) but is expected to have type   Go.XM.Ret Go.Proofs.Try.prog 22     #[Go.Value.agg #[Go.Value.int Go.IntKind.u32 7, Go.Value.int Go.IntKind.i64 32],       Go.Value.int Go.IntKind.i64 (1 + time % 1000)]     
  have q0 : 0 ≤ time % 1000 := Int.emod_nonneg _ (by omega)
  have q1 : time % 1000 < 1000 := Int.emod_lt_of_pos _ (by omega)
  obtain ⟨tm, htm⟩ : ∃ tm, 1 + time % 1000 = tm := ⟨_, rfl⟩
  rw [htm]
  have q2 : 1 ≤ tm := by omega
  have q3 : tm ≤ 1000 := by omega
  have ha := free_ask tm
  have hb := free_take q2
  refine y_call (f := 22) (args := #[Value.agg (#[Value.int IntKind.u32 (7 : Int), Value.int IntKind.i64 (32 : Int)]), Value.int IntKind.i64 tm]) [] (M := []) H rfl rfl rfl (by kernel_rfl) (by kernel_rfl) (by kernel_rfl) (fun F' hF H' => new_ret 7 tm 32 (by omega) (by omega) good7 (by omega) (by omega) F' _ H') ?_
  rintro v w3 L' ⟨bl, rfl, rfl⟩ H
  simp only [List.cons_append, List.nil_append] at H
  rw [one_shl] at H
  refine s_ifF (b := false) (by kernel_rfl) rfl ?_
  refine s_ifF (b := false) (by kernel_rfl) rfl ?_
  refine y_call (f := 23) (args := #[Value.pointer (some (Addr.mk bl (0 : Nat) none)), Value.int IntKind.i64 (1 : Int), Value.int IntKind.i64 (10 : Int)]) [0] (M := []) H rfl rfl rfl (by kernel_rfl) (by kernel_rfl) (by kernel_rfl) (fun F' hF H' => ask_ret ⟨7, 1, tm, [], 0⟩ 1 10 bl F' _ H' (by simp) (by simp) (by simp) (by simp)) ?_
  rintro v w4 L' ⟨rfl, rfl⟩ H
  simp only [List.cons_append, List.nil_append] at H
  rw [ha] at H
  rw [ha]
  refine s_ifF (b := false) (by kernel_rfl) rfl ?_
  refine s_ifF (b := false) (by kernel_rfl) rfl ?_
  -- test takes
  have tt : ((10 : Int) + tm != 10 + tm) = false := by simp
  cases takes with
  | true =>
    have r0 : 0 ≤ early % (10 + tm - 10) := Int.emod_nonneg _ (by omega)
    have r1 : early % (10 + tm - 10) < (10 + tm - 10) := Int.emod_lt_of_pos _ (by omega)
    have hn := free_next (time := tm) (e := (10 + tm)) (o := false) (by omega) (by omega)
    refine s_ifT (b := true) (by kernel_rfl) rfl ?_
    refine y_call (f := 24) (args := #[Value.pointer (some (Addr.mk bl (0 : Nat) none)), Value.int IntKind.i64 (1 : Int), Value.int IntKind.u32 (7 : Int), Value.int IntKind.i64 (10 : Int)]) [0] (M := []) H rfl rfl rfl (by kernel_rfl) (by kernel_rfl) (by kernel_rfl) (fun F' hF H' => take_ret ⟨7, 1, tm, [⟨7, 1, true, 70⟩], 10⟩ 1 7 10 bl F' _ H' (by simp) (by simp) (by simp) (by simp) (by simp) (by show 0 ≤ tm; omega) (by show tm ≤ 1000000000; omega)) ?_
    rintro v w5 L' ⟨rfl, rfl⟩ H
    simp only [List.cons_append, List.nil_append] at H
    rw [hb] at H
    rw [hb]
    refine s_ifF (b := false) (by kernel_rfl) rfl ?_
    refine x_add (t := 3) (a := (10 : Int)) (b := tm) (((10 : Int)) + (tm)) (w64' (by omega) (by omega) rfl) (by kernel_rfl) ?_
    refine s_ifF (by kernel_rfl) tt ?_
    refine x_add (t := 3) (a := (10 : Int)) (b := tm) (((10 : Int)) + (tm)) (w64' (by omega) (by omega) rfl) (by kernel_rfl) ?_
    refine x_sub (t := 3) (a := (10 : Int) + tm) (b := (1 : Int)) (((10 : Int) + tm) - ((1 : Int))) (w64' (by omega) (by omega) rfl) (by kernel_rfl) ?_
    refine x_sub (t := 3) (a := (10 : Int) + tm) (b := (10 : Int)) (((10 : Int) + tm) - ((10 : Int))) (w64' (by omega) (by omega) rfl) (by kernel_rfl) ?_
    refine y_call (f := 14) (args := #[Value.int IntKind.i64 early, Value.int IntKind.i64 ((10 : Int) + tm - (10 : Int))]) [] (M := [PoolA bl (((10 : Int) + tm, (0 : Int)), PoolV.mk (7 : Int) (1 : Int) tm [EntV.mk (7 : Int) (1 : Int) false ((10 : Int) + tm)] (10 : Int)).snd]) H rfl rfl rfl (by kernel_rfl) (by kernel_rfl) (by kernel_rfl) (fun F' hF H' => rest_ret early (10 + tm - 10) g0 g1 (by omega) (by omega) F' _ H') ?_
    rintro v w6 L' ⟨rfl, rfl⟩ H
    simp only [List.cons_append, List.nil_append] at H
    refine x_sub (t := 3) (a := (10 : Int) + tm - (1 : Int)) (b := early % ((10 : Int) + tm - (10 : Int))) (((10 : Int) + tm - (1 : Int)) - (early % ((10 : Int) + tm - (10 : Int)))) (w64' (by omega) (by omega) rfl) (by kernel_rfl) ?_
    -- stop: Req.call (23 : Nat) (#[Value.pointer (some (Addr.mk bl (0 : Nat) none)), Value.int IntKind.i64 (2 : Int), Value.int IntKind.i64 ((10 : Int) + tm - (1 : Int) - early % ((10 : Int) + tm - (10 : Int)))])
    -- [[0] | take_ret ⟨7, 1, tm, [⟨7, 1, true, 70⟩], 10⟩ 1 7 10 bl ] at [refine y_call (f := 23) (args := #[Value.pointer (some (Addr.mk bl (0 : ]: Type mismatch   Go.Proofs.Ytfknpeajihecdaa.take_ret     { first := 7, many := 1, time := tm, all := [{ addr := 7, client := 1, off := true, til := 70 }], now := 10 } 1 7 10     bl F' ?m.1382 ?m.1383 ?m.1384 ?m.1385 ?m.1386 ?m.1387 ?m.1388 ?m.1389 ?m.1390 has type   Go.XM.Ret Go.Proofs.Try.prog 24     #[Go.Value.pointer (some { block := bl, off := 0 }), Go.Value.int Go.IntKind.i64 1, Go.Value.int Go.IntKind.u32 7,       Go.Value.int Go.IntKind.i64 10]     ?m.1382     (Go.XM.Post F' fun v L' =>   
    -- [[] | rest_ret early (10 + tm - 10) g0 g1 (by omega) (by omeg] at [refine y_call (f := 23) (args := #[Value.pointer (some (Addr.mk bl (0 : ]: Type mismatch   Go.Proofs.Ytfknpeajihecdaa.rest_ret early (10 + tm - 10) g0 g1 ?m.1390 ?m.1391 F' w6 H' has type   Go.XM.Ret Go.Proofs.Try.prog 14 #[Go.Value.int Go.IntKind.i64 early, Go.Value.int Go.IntKind.i64 (10 + tm - 10)] w6     (Go.XM.Post F' fun v L' => v = Go.Value.int Go.IntKind.i64 (early % (10 + tm - 10)) ∧ L' = []) but is expected to have type   Go.XM.Ret Go.Proofs.Try.prog 23     #[Go.Value.pointer (some { block := bl, off := 0 }), Go.Value.int Go.IntKind.i64 2,       Go.Value.int 
    obtain ⟨r, hr⟩ : ∃ r, early % (10 + tm - 10) = r := ⟨_, rfl⟩
    rw [hr] at r0 r1 ⊢
    have hf := free_full (time := tm) (e := (10 + tm)) (n := (10 + tm - 1 - r)) (o := false) (by omega) (by omega) (by omega)
    refine y_call (f := 23) (args := #[Value.pointer (some (Addr.mk bl (0 : Nat) none)), Value.int IntKind.i64 (2 : Int), Value.int IntKind.i64 ((10 : Int) + tm - (1 : Int) - r)]) [0] (M := []) H rfl rfl rfl (by kernel_rfl) (by kernel_rfl) (by kernel_rfl) (fun F' hF H' => ask_ret ⟨7, 1, tm, [⟨7, 1, false, (10 + tm)⟩], 10⟩ 2 (10 + tm - 1 - r) bl F' _ H' (by simp) (by simp) (by simp) (by simp)) ?_
    rintro v w7 L' ⟨rfl, rfl⟩ H
    simp only [List.cons_append, List.nil_append] at H
    rw [hf] at H
    rw [hf]
    -- stop: Req.call (23 : Nat) (#[Value.pointer (some (Addr.mk bl (0 : Nat) none)), Value.int IntKind.i64 (2 : Int), Value.int IntKind.i64 ((10 : Int) + tm)])
    -- [[0] | ask_ret ⟨7, 1, tm, [⟨7, 1, false, (10 + tm)⟩], 10⟩ 2 (] at [refine y_call (f := 23) (args := #[Value.pointer (some (Addr.mk bl (0 : ]: Type mismatch   Go.Proofs.Ytfknpeajihecdaa.ask_ret     { first := 7, many := 1, time := tm, all := [{ addr := 7, client := 1, off := false, til := 10 + tm }], now := 10 }     2 (10 + tm - 1 - r) bl F' w7 H' ?m.1606 ?m.1607 ?m.1608 ?m.1609 has type   Go.XM.Ret Go.Proofs.Try.prog 23     #[Go.Value.pointer (some { block := bl, off := 0 }), Go.Value.int Go.IntKind.i64 2,       Go.Value.int Go.IntKind.i64 (10 + tm - 1 - r)]     w7     (Go.XM.Post F' fun v L' =>       v =           Go.Value.tuple     
    refine y_call (f := 23) (args := #[Value.pointer (some (Addr.mk bl (0 : Nat) none)), Value.int IntKind.i64 (2 : Int), Value.int IntKind.i64 ((10 : Int) + tm)]) [0] (M := []) H rfl rfl rfl (by kernel_rfl) (by kernel_rfl) (by kernel_rfl) (fun F' hF H' => ask_ret ⟨7, 1, tm, [⟨7, 1, false, (10 + tm)⟩], 10⟩ 2 (10 + tm) bl F' _ H' (by simp) (by simp) (by simp) (by simp)) ?_
    rintro v w8 L' ⟨rfl, rfl⟩ H
    simp only [List.cons_append, List.nil_append] at H
    rw [hn]
    refine s_ifT (b := true) (by kernel_rfl) rfl ?_
    refine s_ifT (b := true) (by kernel_rfl) rfl ?_
    -- stop: Req.done (Value.bool true)
    exact y_done (v := .bool true) (by kernel_rfl) _ rfl H
  | false =>
    have r0 : 0 ≤ early % 60 := Int.emod_nonneg _ (by omega)
    have r1 : early % 60 < 60 := Int.emod_lt_of_pos _ (by omega)
    have hn := free_next (time := tm) (e := 70) (o := true) (by omega) (by omega)
    refine s_ifF (b := false) (by kernel_rfl) rfl ?_
    refine x_sub (t := 3) (a := (70 : Int)) (b := (1 : Int)) (((70 : Int)) - ((1 : Int))) (w64' (by omega) (by omega) rfl) (by kernel_rfl) ?_
    refine x_sub (t := 3) (a := (70 : Int)) (b := (10 : Int)) (((70 : Int)) - ((10 : Int))) (w64' (by omega) (by omega) rfl) (by kernel_rfl) ?_
    refine y_call (f := 14) (args := #[Value.int IntKind.i64 early, Value.int IntKind.i64 (60 : Int)]) [] (M := [PoolA bl (((7 : Int), (0 : Int)), PoolV.mk (7 : Int) (1 : Int) tm [EntV.mk (7 : Int) (1 : Int) true (70 : Int)] (10 : Int)).snd]) H rfl rfl rfl (by kernel_rfl) (by kernel_rfl) (by kernel_rfl) (fun F' hF H' => rest_ret early 60 g0 g1 (by omega) (by omega) F' _ H') ?_
    rintro v w5 L' ⟨rfl, rfl⟩ H
    simp only [List.cons_append, List.nil_append] at H
    refine x_sub (t := 3) (a := (69 : Int)) (b := early % (60 : Int)) (((69 : Int)) - (early % (60 : Int))) (w64' (by omega) (by omega) rfl) (by kernel_rfl) ?_
    -- stop: Req.call (23 : Nat) (#[Value.pointer (some (Addr.mk bl (0 : Nat) none)), Value.int IntKind.i64 (2 : Int), Value.int IntKind.i64 ((69 : Int) - early % (60 : Int))])
    -- [[] | rest_ret early 60 g0 g1 (by omega) (by omega) F' _ H' |] at [refine y_call (f := 23) (args := #[Value.pointer (some (Addr.mk bl (0 : ]: Type mismatch   Go.Proofs.Ytfknpeajihecdaa.rest_ret early 60 g0 g1 ?m.2047 ?m.2048 F' w5 H' has type   Go.XM.Ret Go.Proofs.Try.prog 14 #[Go.Value.int Go.IntKind.i64 early, Go.Value.int Go.IntKind.i64 60] w5     (Go.XM.Post F' fun v L' => v = Go.Value.int Go.IntKind.i64 (early % 60) ∧ L' = []) but is expected to have type   Go.XM.Ret Go.Proofs.Try.prog 23     #[Go.Value.pointer (some { block := bl, off := 0 }), Go.Value.int Go.IntKind.i64 2,       Go.Value.int Go.IntKind.i64 (69 - early % 60)]   
    obtain ⟨r, hr⟩ : ∃ r, early % 60 = r := ⟨_, rfl⟩
    rw [hr] at r0 r1 ⊢
    have hf := free_full (time := tm) (e := 70) (n := (69 - r)) (o := true) (by omega) (by omega) (by omega)
    refine y_call (f := 23) (args := #[Value.pointer (some (Addr.mk bl (0 : Nat) none)), Value.int IntKind.i64 (2 : Int), Value.int IntKind.i64 ((69 : Int) - r)]) [0] (M := []) H rfl rfl rfl (by kernel_rfl) (by kernel_rfl) (by kernel_rfl) (fun F' hF H' => ask_ret ⟨7, 1, tm, [⟨7, 1, true, 70⟩], 10⟩ 2 (69 - r) bl F' _ H' (by simp) (by simp) (by simp) (by simp)) ?_
    rintro v w6 L' ⟨rfl, rfl⟩ H
    simp only [List.cons_append, List.nil_append] at H
    rw [hf] at H
    rw [hf]
    -- stop: Req.call (23 : Nat) (#[Value.pointer (some (Addr.mk bl (0 : Nat) none)), Value.int IntKind.i64 (2 : Int), Value.int IntKind.i64 (70 : Int)])
    -- [[0] | ask_ret ⟨7, 1, tm, [⟨7, 1, true, 70⟩], 10⟩ 2 (69 - r) ] at [refine y_call (f := 23) (args := #[Value.pointer (some (Addr.mk bl (0 : ]: Type mismatch   Go.Proofs.Ytfknpeajihecdaa.ask_ret     { first := 7, many := 1, time := tm, all := [{ addr := 7, client := 1, off := true, til := 70 }], now := 10 } 2     (69 - r) bl F' w6 H' ?m.2231 ?m.2232 ?m.2233 ?m.2234 has type   Go.XM.Ret Go.Proofs.Try.prog 23     #[Go.Value.pointer (some { block := bl, off := 0 }), Go.Value.int Go.IntKind.i64 2,       Go.Value.int Go.IntKind.i64 (69 - r)]     w6     (Go.XM.Post F' fun v L' =>       v =           Go.Value.tuple             #[Go.Value.int G
    refine y_call (f := 23) (args := #[Value.pointer (some (Addr.mk bl (0 : Nat) none)), Value.int IntKind.i64 (2 : Int), Value.int IntKind.i64 (70 : Int)]) [0] (M := []) H rfl rfl rfl (by kernel_rfl) (by kernel_rfl) (by kernel_rfl) (fun F' hF H' => ask_ret ⟨7, 1, tm, [⟨7, 1, true, 70⟩], 10⟩ 2 70 bl F' _ H' (by simp) (by simp) (by simp) (by simp)) ?_
    rintro v w7 L' ⟨rfl, rfl⟩ H
    simp only [List.cons_append, List.nil_append] at H
    rw [hn]
    refine s_ifT (b := true) (by kernel_rfl) rfl ?_
    refine s_ifT (b := true) (by kernel_rfl) rfl ?_
    -- stop: Req.done (Value.bool true)
    exact y_done (v := .bool true) (by kernel_rfl) _ rfl H
end Go.Proofs.Ytfknpeajihecdaa
