import Derived.Test.YtfknpeajihecdaaLs8
import Derived.Test.YtfknpeajihecdaaYSlice
namespace Go.Proofs.Ytfknpeajihecdaa
open Go.XM Go.RowKit Go.Ls
set_option maxRecDepth 100000

theorem good1024_30 : goodP 1024 30 = true := by decide
theorem four_shl : ((2 ^ (32 - 30) : Nat) : Int) = 4 := rfl

attribute [local irreducible] Ret askV takeV giveV in
set_option maxHeartbeats 400000 in
theorem leaseKeeps_ret (client time : Int) (os ws : List Int) (ov wv : Value) (F : Fm) (w : World) (H : Own w F []) (h0 : -9223372036854775808 ≤ client) (h1 : client ≤ 9223372036854775807) (g0 : -9223372036854775808 ≤ time) (g1 : time ≤ 9223372036854775807)
    (hO : View F.hl ov 1 (os.map fun n => [.int .i64 n])) (hob : ∀ n ∈ os, -9223372036854775808 ≤ n ∧ n ≤ 9223372036854775807) (hW : View F.hl wv 1 (ws.map fun n => [.int .i64 n])) (hwb : ∀ n ∈ ws, -9223372036854775808 ≤ n ∧ n ≤ 9223372036854775807) :
    Ret Try.prog 9 #[.int .i64 client, .int .i64 time, ov, wv] w (Post F fun v _ => v = .bool true) := by
  obtain ⟨oa, oc, rfl, hoc⟩ := hO.shape
  obtain ⟨wa, wc, rfl, hwc⟩ := hW.shape
  have hol : (os.map fun n => [Value.int .i64 n]).length = os.length := List.length_map ..
  have hwl : (ws.map fun n => [Value.int .i64 n]).length = ws.length := List.length_map ..
  rw [hol] at hO hoc ⊢
  rw [hwl] at hW hwc ⊢
  refine ret_of_G Try.func9 rfl rfl ?_
  refine y_call (f := 21) (args := #[]) [] (M := []) H rfl rfl rfl (by kernel_rfl) (by kernel_rfl) (by kernel_rfl) (fun F' hF H' => leaseFact_ret F' _ H') ?_
  rintro v w1 L' ⟨rfl, rfl⟩ H
  simp only [List.cons_append, List.nil_append] at H
  refine s_ifF (b := false) (by kernel_rfl) rfl ?_
  refine y_call (f := 14) (args := #[Value.int IntKind.i64 time, Value.int IntKind.i64 (300 : Int)]) [] (M := []) H rfl rfl rfl (by kernel_rfl) (by kernel_rfl) (by kernel_rfl) (fun F' hF H' => rest_ret time 300 g0 g1 (by omega) (by omega) F' _ H') ?_
  rintro v w2 L' ⟨rfl, rfl⟩ H
  simp only [List.cons_append, List.nil_append] at H
  refine x_add (t := 3) (a := (50 : Int)) (b := time % (300 : Int)) (((50 : Int)) + (time % (300 : Int))) (w64' (by omega) (by omega) rfl) (by kernel_rfl) ?_
  -- stop: Req.call (22 : Nat) (#[Value.agg (#[Value.int IntKind.u32 (1024 : Int), Value.int IntKind.i64 (30 : Int)]), Value.int IntKind.i64 ((50 : Int) + time % (300 : Int))])
  -- [[] | leaseFact_ret F' _ H' | ⟨rfl, rfl⟩] at [refine y_call (f := 22) (args := #[Value.agg (#[Value.int IntKind.u32 (1]: Type mismatch   Go.Proofs.Ytfknpeajihecdaa.leaseFact_ret F' w2 H' has type   Go.XM.Ret Go.Proofs.Try.prog 21 #[] w2 (Go.XM.Post F' fun v L' => v = Go.Value.bool true ∧ L' = []) but is expected to have type   Go.XM.Ret Go.Proofs.Try.prog 22     #[Go.Value.agg #[Go.Value.int Go.IntKind.u32 1024, Go.Value.int Go.IntKind.i64 30],       Go.Value.int Go.IntKind.i64 (50 + time % 300)]     w2 (Go.XM.Post F' ?m.456)
  -- [[] | rest_ret time 300 g0 g1 (by omega) (by omega) F' _ H' |] at [refine y_call (f := 22) (args := #[Value.agg (#[Value.int IntKind.u32 (1]: Type mismatch   Go.Proofs.Ytfknpeajihecdaa.rest_ret time 300 g0 g1 ?m.474 ?m.475 F' w2 H' has type   Go.XM.Ret Go.Proofs.Try.prog 14 #[Go.Value.int Go.IntKind.i64 time, Go.Value.int Go.IntKind.i64 300] w2     (Go.XM.Post F' fun v L' => v = Go.Value.int Go.IntKind.i64 (time % 300) ∧ L' = []) but is expected to have type   Go.XM.Ret Go.Proofs.Try.prog 22     #[Go.Value.agg #[Go.Value.int Go.IntKind.u32 1024, Go.Value.int Go.IntKind.i64 30],       Go.Value.int Go.IntKind.i64 (50 + time % 300)]     
  have q0 : 0 ≤ time % 300 := Int.emod_nonneg _ (by omega)
  have q1 : time % 300 < 300 := Int.emod_lt_of_pos _ (by omega)
  obtain ⟨tm, htm⟩ : ∃ tm, 50 + time % 300 = tm := ⟨_, rfl⟩
  rw [htm]
  have q2 : 50 ≤ tm := by omega
  have q3 : tm ≤ 350 := by omega
  clear htm q0 q1
  have c0 : 0 ≤ client % 1000 := Int.emod_nonneg _ (by omega)
  have c1 : client % 1000 < 1000 := Int.emod_lt_of_pos _ (by omega)
  refine y_call (f := 22) (args := #[Value.agg (#[Value.int IntKind.u32 (1024 : Int), Value.int IntKind.i64 (30 : Int)]), Value.int IntKind.i64 tm]) [] (M := []) H rfl rfl rfl (by kernel_rfl) (by kernel_rfl) (by kernel_rfl) (fun F' hF H' => new_ret 1024 tm 30 (by omega) (by omega) good1024_30 (by omega) (by omega) F' _ H') ?_
  rintro v w3 L' ⟨bl, rfl, rfl⟩ H
  simp only [List.cons_append, List.nil_append] at H
  rw [four_shl] at H
  refine s_ifF (b := false) (by kernel_rfl) rfl ?_
  refine s_ifF (b := false) (by kernel_rfl) rfl ?_
  refine y_call (f := 14) (args := #[Value.int IntKind.i64 client, Value.int IntKind.i64 (1000 : Int)]) [] (M := [PoolA bl (PoolV.mk (1024 : Int) (4 : Int) tm [] (0 : Int))]) H rfl rfl rfl (by kernel_rfl) (by kernel_rfl) (by kernel_rfl) (fun F' hF H' => rest_ret client 1000 h0 h1 (by omega) (by omega) F' _ H') ?_
  rintro v w4 L' ⟨rfl, rfl⟩ H
  simp only [List.cons_append, List.nil_append] at H
  -- stop: Req.call (23 : Nat) (#[Value.pointer (some (Addr.mk bl (0 : Nat) none)), Value.int IntKind.i64 (client % (1000 : Int)), Value.int IntKind.i64 (0 : Int)])
  -- [[] | new_ret 1024 tm 30 (by omega) (by omega) good1024_30 (b] at [refine y_call (f := 23) (args := #[Value.pointer (some (Addr.mk bl (0 : ]: Type mismatch   Go.Proofs.Ytfknpeajihecdaa.new_ret 1024 tm 30 ?m.843 ?m.844 Go.Proofs.Ytfknpeajihecdaa.good1024_30 ?m.845 ?m.846 F' w4     H' has type   Go.XM.Ret Go.Proofs.Try.prog 22     #[Go.Value.agg #[Go.Value.int Go.IntKind.u32 1024, Go.Value.int Go.IntKind.i64 ↑30], Go.Value.int Go.IntKind.i64 tm]     w4     (Go.XM.Post F' fun v L' =>       ∃ bl,         v = Go.Value.tuple #[Go.Value.pointer (some { block := bl, off := 0 }), Go.Value.int Go.IntKind.i64 0] ∧           L' =             [Go.
  -- [[] | rest_ret client 1000 h0 h1 (by omega) (by omega) F' _ H] at [refine y_call (f := 23) (args := #[Value.pointer (some (Addr.mk bl (0 : ]: Type mismatch   Go.Proofs.Ytfknpeajihecdaa.rest_ret client 1000 h0 h1 ?m.841 ?m.842 F' w4 H' has type   Go.XM.Ret Go.Proofs.Try.prog 14 #[Go.Value.int Go.IntKind.i64 client, Go.Value.int Go.IntKind.i64 1000] w4     (Go.XM.Post F' fun v L' => v = Go.Value.int Go.IntKind.i64 (client % 1000) ∧ L' = []) but is expected to have type   Go.XM.Ret Go.Proofs.Try.prog 23     #[Go.Value.pointer (some { block := bl, off := 0 }), Go.Value.int Go.IntKind.i64 (client % 1000),       Go.Value.int Go.IntKind.i64 
  obtain ⟨cl, hcl⟩ : ∃ cl, client % 1000 = cl := ⟨_, rfl⟩
  rw [hcl] at c0 c1 ⊢
  clear hcl
  have hf := keep_first (time := tm) c0 (by omega)
  have hps0 : PS 1024 4 tm ⟨1024, 4, tm, [], 0⟩ 0 := ⟨rfl, rfl, rfl, Int.le_refl _, .nil⟩
  have hps1 := (ask_PS hps0 c0 (by omega) (Int.le_refl _) (by omega) (by omega) (by omega)).1
  have hren := keep_renew hps1 hf.2 (by omega) (by omega) c0 (by omega) (Int.le_refl _) (by omega)
  have hps2 := take_PS (c := cl) hps1 1024
  have hl1 := hps1.li.len (by omega)
  have hask := hf.1
  have hh1 := hf.2
  obtain ⟨A, hA⟩ : ∃ A, askV ⟨1024, 4, tm, [], 0⟩ cl 0 = A := ⟨_, rfl⟩
  rw [hA] at hask hh1 hps1 hren hps2 hl1
  clear hf
  obtain ⟨A1, p1⟩ := A
  have hask : A1 = (1024, 0) := hask
  subst hask
  have hl1 : (p1.all.length : Int) ≤ 4 := hl1
  have hps1 : PS 1024 4 tm p1 0 := hps1
  obtain ⟨B, hB⟩ : ∃ B, takeV p1 cl 1024 0 = B := ⟨_, rfl⟩
  rw [hB] at hren hps2
  obtain ⟨B1, p2⟩ := B
  have hb1 : B1 = (0 + tm, 0) := hren.1
  subst hb1
  have hh2 : Holds p2 cl (0 + tm) := hren.2
  have hps2 : PS 1024 4 tm p2 0 := hps2
  refine y_call (f := 23) (args := #[Value.pointer (some (Addr.mk bl (0 : Nat) none)), Value.int IntKind.i64 cl, Value.int IntKind.i64 (0 : Int)]) [0] (M := []) H rfl rfl rfl (by kernel_rfl) (by kernel_rfl) (by kernel_rfl) (fun F' hF H' => ask_ret ⟨1024, 4, tm, [], 0⟩ cl 0 bl F' _ H' (by simp) (by simp) (by simp) (by simp)) ?_
  rintro v w5 L' ⟨rfl, rfl⟩ H
  simp only [List.cons_append, List.nil_append] at H
  rw [hA] at H
  rw [hA]
  refine y_call (f := 24) (args := #[Value.pointer (some (Addr.mk bl (0 : Nat) none)), Value.int IntKind.i64 cl, Value.int IntKind.u32 (1024 : Int), Value.int IntKind.i64 (0 : Int)]) [0] (M := []) H rfl rfl rfl (by kernel_rfl) (by kernel_rfl) (by kernel_rfl) (fun F' hF H' => take_ret p1 cl 1024 0 bl F' _ H' (by omega) (by rw [hps1.ef]; omega) (by rw [hps1.ef]; omega) (by omega) (by omega) (by rw [hps1.et]; omega) (by rw [hps1.et]; omega)) ?_
  rintro v w6 L' ⟨rfl, rfl⟩ H
  simp only [List.cons_append, List.nil_append] at H
  rw [hB] at H
  rw [hB]
  refine s_ifF (b := false) (by kernel_rfl) rfl ?_
  refine s_ifF (b := false) (by kernel_rfl) rfl ?_
  -- stop: Req.loop
  clear hh1 hps1 hren hl1 hA hB hps0
  refine s_loop (γ := Nat × Int × PoolV) 0 [15, 14] (fun g => [.int .i64 g.1, .int .i64 g.2.1]) (fun g w' => Own w' F [PoolA bl g.2.2] ∧ g.1 ≤ 40 ∧ 0 ≤ g.2.1 ∧ g.2.1 ≤ 49 * g.1 ∧ PS 1024 4 tm g.2.2 g.2.1 ∧ Holds g.2.2 cl (g.2.1 + tm)) (fun g => 40 - g.1) (0, 0, p2) [.int .i64 0, .int .i64 0] (by kernel_rfl) (by kernel_rfl) rfl (by kernel_rfl) rfl ⟨H, by simp, by simp, by simp, hps2, hh2⟩ ?_
  clear H hps2 hh2
  rintro ⟨i, now, p⟩ w9 ⟨H, hi, hn0, hn1, hps, hh⟩
  simp only at H hi hn0 hn1 hps hh
  have hlp := hps.li.len (by omega)
  have key : ∀ w9, Own w9 F [PoolA bl p] → (askV p cl now).1 = (1024, 0) := fun _ _ => keep_same hps hh (by omega) c0 (by omega) hn0 (by omega)
  by_cases hgo : i < os.length ∧ i < ws.length ∧ i < 40
  · have t1 : decide ((i : Int) < os.length) = true := decide_eq_true (by omega)
    have t2 : decide ((i : Int) < ws.length) = true := decide_eq_true (by omega)
    have t3 : decide ((i : Int) < 40) = true := decide_eq_true (by omega)
    have ho := List.getElem?_eq_getElem hgo.1
    have hw := List.getElem?_eq_getElem hgo.2.1
    generalize os[i] = o at ho
    generalize ws[i] = wt at hw
    have hob1 := hob o (List.mem_of_getElem? ho)
    have hwb1 := hwb wt (List.mem_of_getElem? hw)
    have ho2 : (os.map fun n => [Value.int .i64 n])[i]? = some [.int .i64 o] := by rw [List.getElem?_map, ho]; rfl
    have hw2 : (ws.map fun n => [Value.int .i64 n])[i]? = some [.int .i64 wt] := by rw [List.getElem?_map, hw]; rfl
    obtain ⟨nb, no2, cz, hva, _, _⟩ := hO.open (by rw [hol]; omega)
    simp only [Value.slice.injEq] at hva
    obtain ⟨rfl, _, rfl⟩ := hva
    obtain ⟨mb, mo2, dz, hva, _, _⟩ := hW.open (by rw [hwl]; omega)
    simp only [Value.slice.injEq] at hva
    obtain ⟨rfl, _, rfl⟩ := hva
    have w0 : 0 ≤ wt % 50 := Int.emod_nonneg _ (by omega)
    have w1 : wt % 50 < 50 := Int.emod_lt_of_pos _ (by omega)
    have o0 : 0 ≤ o % 20 := Int.emod_nonneg _ (by omega)
    have o1 : o % 20 < 20 := Int.emod_lt_of_pos _ (by omega)
    have hps1 := hps.mono (t' := now + wt % 50) (by omega)
    have hk := keep_ask hps1 hh (c := 1000 + o % 20) (by omega) (by omega) (by omega) (by omega) (by omega) (by omega)
    have hp1 := ask_PS hps1 (c := 1000 + o % 20) (by omega) (by omega) (by omega) (by omega) (by omega) (by omega)
    have hps2 := hp1.1
    have hok := hp1.2.2
    have hkt := keep_take (c := 1000 + o % 20) hps2 hk.1 (by omega)
    have hkg := keep_give (c := 1000 + o % 20) hps2 hk.1 (by omega)
    have hren := keep_renew hps2 hk.1 (by omega) (by omega) c0 (by omega) (by omega) (by omega)
    have hps3 := take_PS (c := cl) hps2 1024
    have hl2 := hps2.li.len (by omega)
    have hne := hk.2
    obtain ⟨A, hA⟩ : ∃ A, askV p (1000 + o % 20) (now + wt % 50) = A := ⟨_, rfl⟩
    rw [hA] at hps2 hok hkt hkg hren hps3 hl2 hne
    clear hk hp1
    obtain ⟨⟨ab, ae⟩, p1⟩ := A
    simp only at hps2 hok hkt hkg hren hps3 hl2 hne
    obtain ⟨B, hB⟩ : ∃ B, takeV p1 (1000 + o % 20) 1024 (now + wt % 50) = B := ⟨_, rfl⟩
    rw [hB] at hkt
    obtain ⟨⟨bv, be⟩, p1'⟩ := B
    have hkt : p1' = p1 := hkt
    subst hkt
    obtain ⟨C, hC⟩ : ∃ C, giveV p1' (1000 + o % 20) 1024 (now + wt % 50) = C := ⟨_, rfl⟩
    rw [hC] at hkg
    obtain ⟨cv, p1''⟩ := C
    have hkg : p1'' = p1' := hkg
    subst hkg
    obtain ⟨D, hD⟩ : ∃ D, takeV p1'' cl 1024 (now + wt % 50) = D := ⟨_, rfl⟩
    rw [hD] at hren hps3
    obtain ⟨D1, p4⟩ := D
    have hd1 : D1 = (now + wt % 50 + tm, 0) := hren.1
    subst hd1
    have hh4 : Holds p4 cl (now + wt % 50 + tm) := hren.2
    have hps4 : PS 1024 4 tm p4 (now + wt % 50) := hps3
    have t9 : (now + wt % 50 + tm != now + wt % 50 + tm) = false := by simp
    clear hren hps3
    rcases hok with hae | hae
    · subst hae
      have t8 : (ab == 1024) = false := by simp; exact hne rfl
      refine s_ifT (by kernel_rfl) t1 ?_
      refine s_ifT (by kernel_rfl) t2 ?_
      refine s_ifT (by kernel_rfl) t3 ?_
      refine y_idx (t := 68) (b := mb) (o := mo2) (n := ws.length) (c := wc) (kd := IntKind.i64) (i := (↑i : Int)) 1 (by kernel_rfl) (by omega) (by omega) (by kernel_rfl) ?_
      refine y_vload (k := i) (j := 0) (o := mo2 + (↑i : Int).toNat * (1 : Nat)) (x := [Value.int IntKind.i64 wt]) H hW hw2 rfl (by first | rfl | omega) (by kernel_rfl) ?_
      refine y_call (f := 14) (args := #[Value.int IntKind.i64 wt, Value.int IntKind.i64 (50 : Int)]) [] (M := [PoolA bl p]) H rfl rfl rfl (by kernel_rfl) (by kernel_rfl) (by kernel_rfl) (fun F' hF H' => rest_ret wt 50 hwb1.1 hwb1.2 (by omega) (by omega) F' _ H') ?_
      rintro v w10 L' ⟨rfl, rfl⟩ H
      simp only [List.cons_append, List.nil_append] at H
      refine x_add (t := 3) (a := now) (b := wt % (50 : Int)) ((now) + (wt % (50 : Int))) (w64' (by omega) (by omega) rfl) (by kernel_rfl) ?_
      refine y_idx (t := 68) (b := nb) (o := no2) (n := os.length) (c := oc) (kd := IntKind.i64) (i := (↑i : Int)) 1 (by kernel_rfl) (by omega) (by omega) (by kernel_rfl) ?_
      refine y_vload (k := i) (j := 0) (o := no2 + (↑i : Int).toNat * (1 : Nat)) (x := [Value.int IntKind.i64 o]) H hO ho2 rfl (by first | rfl | omega) (by kernel_rfl) ?_
      refine y_call (f := 14) (args := #[Value.int IntKind.i64 o, Value.int IntKind.i64 (20 : Int)]) [] (M := [PoolA bl p]) H rfl rfl rfl (by kernel_rfl) (by kernel_rfl) (by kernel_rfl) (fun F' hF H' => rest_ret o 20 hob1.1 hob1.2 (by omega) (by omega) F' _ H') ?_
      rintro v w11 L' ⟨rfl, rfl⟩ H
      simp only [List.cons_append, List.nil_append] at H
      refine x_add (t := 3) (a := (1000 : Int)) (b := o % (20 : Int)) (((1000 : Int)) + (o % (20 : Int))) (w64' (by omega) (by omega) rfl) (by kernel_rfl) ?_
      refine y_call (f := 23) (args := #[Value.pointer (some (Addr.mk bl (0 : Nat) none)), Value.int IntKind.i64 ((1000 : Int) + o % (20 : Int)), Value.int IntKind.i64 (now + wt % (50 : Int))]) [0] (M := []) H rfl rfl rfl (by kernel_rfl) (by kernel_rfl) (by kernel_rfl) (fun F' hF H' => ask_ret p (1000 + o % 20) (now + wt % 50) bl F' _ H' (by omega) (by rw [hps.ef]; omega) (by rw [hps.ef]; omega) (by rw [hps.em]; omega)) ?_
      rintro v w12 L' ⟨rfl, rfl⟩ H
      simp only [List.cons_append, List.nil_append] at H
      rw [hA] at H
      rw [hA]
      refine s_ifT (b := true) (by kernel_rfl) rfl ?_
      refine s_ifF (by kernel_rfl) t8 ?_
      refine y_call (f := 24) (args := #[Value.pointer (some (Addr.mk bl (0 : Nat) none)), Value.int IntKind.i64 ((1000 : Int) + o % (20 : Int)), Value.int IntKind.u32 (1024 : Int), Value.int IntKind.i64 (now + wt % (50 : Int))]) [0] (M := []) H rfl rfl rfl (by kernel_rfl) (by kernel_rfl) (by kernel_rfl) (fun F' hF H' => take_ret p1'' (1000 + o % 20) 1024 (now + wt % 50) bl F' _ H' (by omega) (by rw [hps2.ef]; omega) (by rw [hps2.ef]; omega) (by omega) (by omega) (by rw [hps2.et]; omega) (by rw [hps2.et]; omega)) ?_
      rintro v w13 L' ⟨rfl, rfl⟩ H
      simp only [List.cons_append, List.nil_append] at H
      rw [hB] at H
      rw [hB]
      refine y_call (f := 29) (args := #[Value.pointer (some (Addr.mk bl (0 : Nat) none)), Value.int IntKind.i64 ((1000 : Int) + o % (20 : Int)), Value.int IntKind.u32 (1024 : Int), Value.int IntKind.i64 (now + wt % (50 : Int))]) [0] (M := []) H rfl rfl rfl (by kernel_rfl) (by kernel_rfl) (by kernel_rfl) (fun F' hF H' => give_ret p1'' (1000 + o % 20) 1024 (now + wt % 50) bl F' _ H' (by omega) (by rw [hps2.ef]; omega) (by rw [hps2.ef]; omega) (by omega) (by omega)) ?_
      rintro v w14 L' ⟨rfl, rfl⟩ H
      simp only [List.cons_append, List.nil_append] at H
      rw [hC] at H
      rw [hC]
      refine y_call (f := 24) (args := #[Value.pointer (some (Addr.mk bl (0 : Nat) none)), Value.int IntKind.i64 cl, Value.int IntKind.u32 (1024 : Int), Value.int IntKind.i64 (now + wt % (50 : Int))]) [0] (M := []) H rfl rfl rfl (by kernel_rfl) (by kernel_rfl) (by kernel_rfl) (fun F' hF H' => take_ret p1'' cl 1024 (now + wt % 50) bl F' _ H' (by omega) (by rw [hps2.ef]; omega) (by rw [hps2.ef]; omega) (by omega) (by omega) (by rw [hps2.et]; omega) (by rw [hps2.et]; omega)) ?_
      rintro v w15 L' ⟨rfl, rfl⟩ H
      simp only [List.cons_append, List.nil_append] at H
      rw [hD] at H
      rw [hD]
      refine s_ifF (b := false) (by kernel_rfl) rfl ?_
      refine x_add (t := 3) (a := now + wt % (50 : Int)) (b := tm) ((now + wt % (50 : Int)) + (tm)) (w64' (by omega) (by omega) rfl) (by kernel_rfl) ?_
      refine s_ifF (by kernel_rfl) t9 ?_
      refine x_add (t := 3) (a := (↑i : Int)) (b := (1 : Int)) (((i) + ((1 : Nat)) : Nat) : Int) (w64' (by omega) (by omega) (by omega)) (by kernel_rfl) ?_
      -- stop: Req.again (0 : Nat)
      exact s_again 0 (i + 1, now + wt % 50, p4) [.int .i64 ((i + 1 : Nat) : Int), .int .i64 (now + wt % 50)] rfl (by kernel_rfl) (by kernel_rfl) (by kernel_rfl) rfl ⟨H, by show i + 1 ≤ 40; omega, by show 0 ≤ now + wt % 50; omega, by show now + wt % 50 ≤ 49 * ((i + 1 : Nat) : Int); omega, hps4, hh4⟩ (by show 40 - (i + 1) < 40 - i; omega)
    · cases hae
      refine s_ifT (by kernel_rfl) t1 ?_
      refine s_ifT (by kernel_rfl) t2 ?_
      refine s_ifT (by kernel_rfl) t3 ?_
      refine y_idx (t := 68) (b := mb) (o := mo2) (n := ws.length) (c := wc) (kd := IntKind.i64) (i := (↑i : Int)) 1 (by kernel_rfl) (by omega) (by omega) (by kernel_rfl) ?_
      refine y_vload (k := i) (j := 0) (o := mo2 + (↑i : Int).toNat * (1 : Nat)) (x := [Value.int IntKind.i64 wt]) H hW hw2 rfl (by first | rfl | omega) (by kernel_rfl) ?_
      refine y_call (f := 14) (args := #[Value.int IntKind.i64 wt, Value.int IntKind.i64 (50 : Int)]) [] (M := [PoolA bl p]) H rfl rfl rfl (by kernel_rfl) (by kernel_rfl) (by kernel_rfl) (fun F' hF H' => rest_ret wt 50 hwb1.1 hwb1.2 (by omega) (by omega) F' _ H') ?_
      rintro v w10 L' ⟨rfl, rfl⟩ H
      simp only [List.cons_append, List.nil_append] at H
      refine x_add (t := 3) (a := now) (b := wt % (50 : Int)) ((now) + (wt % (50 : Int))) (w64' (by omega) (by omega) rfl) (by kernel_rfl) ?_
      refine y_idx (t := 68) (b := nb) (o := no2) (n := os.length) (c := oc) (kd := IntKind.i64) (i := (↑i : Int)) 1 (by kernel_rfl) (by omega) (by omega) (by kernel_rfl) ?_
      refine y_vload (k := i) (j := 0) (o := no2 + (↑i : Int).toNat * (1 : Nat)) (x := [Value.int IntKind.i64 o]) H hO ho2 rfl (by first | rfl | omega) (by kernel_rfl) ?_
      refine y_call (f := 14) (args := #[Value.int IntKind.i64 o, Value.int IntKind.i64 (20 : Int)]) [] (M := [PoolA bl p]) H rfl rfl rfl (by kernel_rfl) (by kernel_rfl) (by kernel_rfl) (fun F' hF H' => rest_ret o 20 hob1.1 hob1.2 (by omega) (by omega) F' _ H') ?_
      rintro v w11 L' ⟨rfl, rfl⟩ H
      simp only [List.cons_append, List.nil_append] at H
      refine x_add (t := 3) (a := (1000 : Int)) (b := o % (20 : Int)) (((1000 : Int)) + (o % (20 : Int))) (w64' (by omega) (by omega) rfl) (by kernel_rfl) ?_
      refine y_call (f := 23) (args := #[Value.pointer (some (Addr.mk bl (0 : Nat) none)), Value.int IntKind.i64 ((1000 : Int) + o % (20 : Int)), Value.int IntKind.i64 (now + wt % (50 : Int))]) [0] (M := []) H rfl rfl rfl (by kernel_rfl) (by kernel_rfl) (by kernel_rfl) (fun F' hF H' => ask_ret p (1000 + o % 20) (now + wt % 50) bl F' _ H' (by omega) (by rw [hps.ef]; omega) (by rw [hps.ef]; omega) (by rw [hps.em]; omega)) ?_
      rintro v w12 L' ⟨rfl, rfl⟩ H
      simp only [List.cons_append, List.nil_append] at H
      rw [hA] at H
      rw [hA]
      refine s_ifF (b := false) (by kernel_rfl) rfl ?_
      refine y_call (f := 24) (args := #[Value.pointer (some (Addr.mk bl (0 : Nat) none)), Value.int IntKind.i64 ((1000 : Int) + o % (20 : Int)), Value.int IntKind.u32 (1024 : Int), Value.int IntKind.i64 (now + wt % (50 : Int))]) [0] (M := []) H rfl rfl rfl (by kernel_rfl) (by kernel_rfl) (by kernel_rfl) (fun F' hF H' => take_ret p1'' (1000 + o % 20) 1024 (now + wt % 50) bl F' _ H' (by omega) (by rw [hps2.ef]; omega) (by rw [hps2.ef]; omega) (by omega) (by omega) (by rw [hps2.et]; omega) (by rw [hps2.et]; omega)) ?_
      rintro v w13 L' ⟨rfl, rfl⟩ H
      simp only [List.cons_append, List.nil_append] at H
      rw [hB] at H
      rw [hB]
      refine y_call (f := 29) (args := #[Value.pointer (some (Addr.mk bl (0 : Nat) none)), Value.int IntKind.i64 ((1000 : Int) + o % (20 : Int)), Value.int IntKind.u32 (1024 : Int), Value.int IntKind.i64 (now + wt % (50 : Int))]) [0] (M := []) H rfl rfl rfl (by kernel_rfl) (by kernel_rfl) (by kernel_rfl) (fun F' hF H' => give_ret p1'' (1000 + o % 20) 1024 (now + wt % 50) bl F' _ H' (by omega) (by rw [hps2.ef]; omega) (by rw [hps2.ef]; omega) (by omega) (by omega)) ?_
      rintro v w14 L' ⟨rfl, rfl⟩ H
      simp only [List.cons_append, List.nil_append] at H
      rw [hC] at H
      rw [hC]
      refine y_call (f := 24) (args := #[Value.pointer (some (Addr.mk bl (0 : Nat) none)), Value.int IntKind.i64 cl, Value.int IntKind.u32 (1024 : Int), Value.int IntKind.i64 (now + wt % (50 : Int))]) [0] (M := []) H rfl rfl rfl (by kernel_rfl) (by kernel_rfl) (by kernel_rfl) (fun F' hF H' => take_ret p1'' cl 1024 (now + wt % 50) bl F' _ H' (by omega) (by rw [hps2.ef]; omega) (by rw [hps2.ef]; omega) (by omega) (by omega) (by rw [hps2.et]; omega) (by rw [hps2.et]; omega)) ?_
      rintro v w15 L' ⟨rfl, rfl⟩ H
      simp only [List.cons_append, List.nil_append] at H
      rw [hD] at H
      rw [hD]
      refine s_ifF (b := false) (by kernel_rfl) rfl ?_
      refine x_add (t := 3) (a := now + wt % (50 : Int)) (b := tm) ((now + wt % (50 : Int)) + (tm)) (w64' (by omega) (by omega) rfl) (by kernel_rfl) ?_
      refine s_ifF (by kernel_rfl) t9 ?_
      refine x_add (t := 3) (a := (↑i : Int)) (b := (1 : Int)) (((i) + ((1 : Nat)) : Nat) : Int) (w64' (by omega) (by omega) (by omega)) (by kernel_rfl) ?_
      -- stop: Req.again (0 : Nat)
      exact s_again 0 (i + 1, now + wt % 50, p4) [.int .i64 ((i + 1 : Nat) : Int), .int .i64 (now + wt % 50)] rfl (by kernel_rfl) (by kernel_rfl) (by kernel_rfl) rfl ⟨H, by show i + 1 ≤ 40; omega, by show 0 ≤ now + wt % 50; omega, by show now + wt % 50 ≤ 49 * ((i + 1 : Nat) : Int); omega, hps4, hh4⟩ (by show 40 - (i + 1) < 40 - i; omega)
  · have hask := key w9 H
    obtain ⟨A, hA⟩ : ∃ A, askV p cl now = A := ⟨_, rfl⟩
    rw [hA] at hask
    obtain ⟨A1, p1⟩ := A
    have hask : A1 = (1024, 0) := hask
    subst hask
    by_cases ga : i < os.length
    · have t1 : decide ((i : Int) < os.length) = true := decide_eq_true (by omega)
      by_cases gb : i < ws.length
      · have t2 : decide ((i : Int) < ws.length) = true := decide_eq_true (by omega)
        have t3 : decide ((i : Int) < 40) = false := decide_eq_false (by omega)
        refine s_ifT (by kernel_rfl) t1 ?_
        refine s_ifT (by kernel_rfl) t2 ?_
        refine s_ifF (by kernel_rfl) t3 ?_
        refine y_call (f := 23) (args := #[Value.pointer (some (Addr.mk bl (0 : Nat) none)), Value.int IntKind.i64 cl, Value.int IntKind.i64 now]) [0] (M := []) H rfl rfl rfl (by kernel_rfl) (by kernel_rfl) (by kernel_rfl) (fun F' hF H' => ask_ret p cl now bl F' _ H' (by omega) (by rw [hps.ef]; omega) (by rw [hps.ef]; omega) (by rw [hps.em]; omega)) ?_
        rintro v w10 L' ⟨rfl, rfl⟩ H
        simp only [List.cons_append, List.nil_append] at H
        rw [hA] at H
        rw [hA]
        refine s_ifT (b := true) (by kernel_rfl) rfl ?_
        -- stop: Req.done (Value.bool true)
        exact y_done (v := .bool true) (by kernel_rfl) _ rfl H
      · have t2 : decide ((i : Int) < ws.length) = false := decide_eq_false (by omega)
        refine s_ifT (by kernel_rfl) t1 ?_
        refine s_ifF (by kernel_rfl) t2 ?_
        refine y_call (f := 23) (args := #[Value.pointer (some (Addr.mk bl (0 : Nat) none)), Value.int IntKind.i64 cl, Value.int IntKind.i64 now]) [0] (M := []) H rfl rfl rfl (by kernel_rfl) (by kernel_rfl) (by kernel_rfl) (fun F' hF H' => ask_ret p cl now bl F' _ H' (by omega) (by rw [hps.ef]; omega) (by rw [hps.ef]; omega) (by rw [hps.em]; omega)) ?_
        rintro v w10 L' ⟨rfl, rfl⟩ H
        simp only [List.cons_append, List.nil_append] at H
        rw [hA] at H
        rw [hA]
        refine s_ifT (b := true) (by kernel_rfl) rfl ?_
        -- stop: Req.done (Value.bool true)
        exact y_done (v := .bool true) (by kernel_rfl) _ rfl H
    · have t1 : decide ((i : Int) < os.length) = false := decide_eq_false (by omega)
      refine s_ifF (by kernel_rfl) t1 ?_
      refine y_call (f := 23) (args := #[Value.pointer (some (Addr.mk bl (0 : Nat) none)), Value.int IntKind.i64 cl, Value.int IntKind.i64 now]) [0] (M := []) H rfl rfl rfl (by kernel_rfl) (by kernel_rfl) (by kernel_rfl) (fun F' hF H' => ask_ret p cl now bl F' _ H' (by omega) (by rw [hps.ef]; omega) (by rw [hps.ef]; omega) (by rw [hps.em]; omega)) ?_
      rintro v w10 L' ⟨rfl, rfl⟩ H
      simp only [List.cons_append, List.nil_append] at H
      rw [hA] at H
      rw [hA]
      refine s_ifT (b := true) (by kernel_rfl) rfl ?_
      -- stop: Req.done (Value.bool true)
      exact y_done (v := .bool true) (by kernel_rfl) _ rfl H
end Go.Proofs.Ytfknpeajihecdaa
