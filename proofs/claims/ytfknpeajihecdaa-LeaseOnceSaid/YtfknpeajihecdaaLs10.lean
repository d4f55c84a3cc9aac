import Derived.Test.YtfknpeajihecdaaLs9
namespace Go.Proofs.Ytfknpeajihecdaa
open Go.XM Go.RowKit Go.Ls
set_option maxRecDepth 100000

theorem pow_le6 {b : Nat} (h0 : 26 ≤ b) (h1 : b ≤ 32) : 1 ≤ 2 ^ (32 - b) ∧ 2 ^ (32 - b) ≤ 64 := by
  obtain rfl | rfl | rfl | rfl | rfl | rfl | rfl : b = 26 ∨ b = 27 ∨ b = 28 ∨ b = 29 ∨ b = 30 ∨ b = 31 ∨ b = 32 := by omega
  all_goals decide
theorem good1024 {b : Nat} (h0 : 26 ≤ b) (h1 : b ≤ 32) : goodP 1024 b = true := by
  obtain rfl | rfl | rfl | rfl | rfl | rfl | rfl : b = 26 ∨ b = 27 ∨ b = 28 ∨ b = 29 ∨ b = 30 ∨ b = 31 ∨ b = 32 := by omega
  all_goals decide

theorem pass_all {p : PoolV} {n : Int} : (passV p n).all = liveL n p.all := rfl

attribute [local irreducible] Ret askV takeV giveV passV in
set_option maxHeartbeats 0 in
theorem leaseOnce_ret (bits time : Int) (cs ws gs : List Int) (cv wv gv : Value) (F : Fm) (w : World) (H : Own w F []) (h0 : -9223372036854775808 ≤ bits) (h1 : bits ≤ 9223372036854775807) (g0 : -9223372036854775808 ≤ time) (g1 : time ≤ 9223372036854775807)
    (hC : View F.hl cv 1 (cs.map fun n => [.int .i64 n])) (hcb : ∀ n ∈ cs, -9223372036854775808 ≤ n ∧ n ≤ 9223372036854775807) (hW : View F.hl wv 1 (ws.map fun n => [.int .i64 n])) (hwb : ∀ n ∈ ws, -9223372036854775808 ≤ n ∧ n ≤ 9223372036854775807)
    (hG : View F.hl gv 1 (gs.map fun n => [.int .i64 n])) (hgb : ∀ n ∈ gs, -9223372036854775808 ≤ n ∧ n ≤ 9223372036854775807) :
    Ret Try.prog 10 #[.int .i64 bits, .int .i64 time, cv, wv, gv] w (Post F fun v _ => v = .bool true) := by
  obtain ⟨ca, cc, rfl, hcc⟩ := hC.shape
  obtain ⟨wa, wc, rfl, hwc⟩ := hW.shape
  obtain ⟨ga, gc, rfl, hgc⟩ := hG.shape
  have hcl : (cs.map fun n => [Value.int .i64 n]).length = cs.length := List.length_map ..
  have hwl : (ws.map fun n => [Value.int .i64 n]).length = ws.length := List.length_map ..
  have hgl : (gs.map fun n => [Value.int .i64 n]).length = gs.length := List.length_map ..
  rw [hcl] at hC hcc ⊢
  rw [hwl] at hW hwc ⊢
  rw [hgl] at hG hgc ⊢
  refine ret_of_G Try.func10 rfl rfl ?_
  refine y_call (f := 21) (args := #[]) [] (M := []) H rfl rfl rfl (by kernel_rfl) (by kernel_rfl) (by kernel_rfl) (fun F' hF H' => leaseFact_ret F' _ H') ?_
  rintro v w1 L' ⟨rfl, rfl⟩ H
  simp only [List.cons_append, List.nil_append] at H
  refine s_ifF (b := false) (by kernel_rfl) rfl ?_
  refine y_call (f := 14) (args := #[Value.int IntKind.i64 bits, Value.int IntKind.i64 (7 : Int)]) [] (M := []) H rfl rfl rfl (by kernel_rfl) (by kernel_rfl) (by kernel_rfl) (fun F' hF H' => rest_ret bits 7 h0 h1 (by omega) (by omega) F' _ H') ?_
  rintro v w2 L' ⟨rfl, rfl⟩ H
  simp only [List.cons_append, List.nil_append] at H
  refine x_add (t := 3) (a := (26 : Int)) (b := bits % (7 : Int)) (((26 : Int)) + (bits % (7 : Int))) (w64' (by omega) (by omega) rfl) (by kernel_rfl) ?_
  -- stop: Req.call (14 : Nat) (#[Value.int IntKind.i64 time, Value.int IntKind.i64 (300 : Int)])
  -- [[] | leaseFact_ret F' _ H' | ⟨rfl, rfl⟩] at [refine y_call (f := 14) (args := #[Value.int IntKind.i64 time, Value.int]: Type mismatch   Go.Proofs.Ytfknpeajihecdaa.leaseFact_ret F' w2 H' has type   Go.XM.Ret Go.Proofs.Try.prog 21 #[] w2 (Go.XM.Post F' fun v L' => v = Go.Value.bool true ∧ L' = []) but is expected to have type   Go.XM.Ret Go.Proofs.Try.prog 14 #[Go.Value.int Go.IntKind.i64 time, Go.Value.int Go.IntKind.i64 300] w2     (Go.XM.Post F' ?m.526)
  -- [[] | rest_ret bits 7 h0 h1 (by omega) (by omega) F' _ H' | ⟨] at [refine y_call (f := 14) (args := #[Value.int IntKind.i64 time, Value.int]: Type mismatch   Go.Proofs.Ytfknpeajihecdaa.rest_ret bits 7 h0 h1 ?m.544 ?m.545 F' w2 H' has type   Go.XM.Ret Go.Proofs.Try.prog 14 #[Go.Value.int Go.IntKind.i64 bits, Go.Value.int Go.IntKind.i64 7] w2     (Go.XM.Post F' fun v L' => v = Go.Value.int Go.IntKind.i64 (bits % 7) ∧ L' = []) but is expected to have type   Go.XM.Ret Go.Proofs.Try.prog 14 #[Go.Value.int Go.IntKind.i64 time, Go.Value.int Go.IntKind.i64 300] w2     (Go.XM.Post F' ?m.526)
  obtain ⟨b, hb⟩ : ∃ b : Nat, 26 + bits % 7 = b := ⟨(26 + bits % 7).toNat, by omega⟩
  rw [hb]
  have hb0 : 26 ≤ b := by omega
  have hb1 : b ≤ 32 := by omega
  clear hb
  have q0 : 0 ≤ time % 300 := Int.emod_nonneg _ (by omega)
  have q1 : time % 300 < 300 := Int.emod_lt_of_pos _ (by omega)
  refine y_call (f := 14) (args := #[Value.int IntKind.i64 time, Value.int IntKind.i64 (300 : Int)]) [] (M := []) H rfl rfl rfl (by kernel_rfl) (by kernel_rfl) (by kernel_rfl) (fun F' hF H' => rest_ret time 300 g0 g1 (by omega) (by omega) F' _ H') ?_
  rintro v w3 L' ⟨rfl, rfl⟩ H
  simp only [List.cons_append, List.nil_append] at H
  refine x_add (t := 3) (a := (1 : Int)) (b := time % (300 : Int)) (((1 : Int)) + (time % (300 : Int))) (w64' (by omega) (by omega) rfl) (by kernel_rfl) ?_
  -- stop: Req.call (22 : Nat) (#[Value.agg (#[Value.int IntKind.u32 (1024 : Int), Value.int IntKind.i64 (↑b : Int)]), Value.int IntKind.i64 ((1 : Int) + time % (300 : Int))])
  -- [[] | rest_ret time 300 g0 g1 (by omega) (by omega) F' _ H' |] at [refine y_call (f := 22) (args := #[Value.agg (#[Value.int IntKind.u32 (1]: Type mismatch   Go.Proofs.Ytfknpeajihecdaa.rest_ret time 300 g0 g1 ?m.804 ?m.805 F' w3 H' has type   Go.XM.Ret Go.Proofs.Try.prog 14 #[Go.Value.int Go.IntKind.i64 time, Go.Value.int Go.IntKind.i64 300] w3     (Go.XM.Post F' fun v L' => v = Go.Value.int Go.IntKind.i64 (time % 300) ∧ L' = []) but is expected to have type   Go.XM.Ret Go.Proofs.Try.prog 22     #[Go.Value.agg #[Go.Value.int Go.IntKind.u32 1024, Go.Value.int Go.IntKind.i64 ↑b],       Go.Value.int Go.IntKind.i64 (1 + time % 300)]     w
  obtain ⟨tm, htm⟩ : ∃ tm, 1 + time % 300 = tm := ⟨_, rfl⟩
  rw [htm]
  have q2 : 1 ≤ tm := by omega
  have q3 : tm ≤ 300 := by omega
  clear htm q0 q1
  have hsh : IntKind.i64.wrap (1 * 2 ^ (min ((32 : Int) - (b : Int)).toNat IntKind.i64.bits)) = ((2 ^ (32 - b) : Nat) : Int) := by
    rw [show (32 : Int) - (b : Int) = ((32 - b : Nat) : Int) by omega]; exact shl_bits (by omega) hb1
  have hm := pow_le6 hb0 hb1
  refine y_call (f := 22) (args := #[Value.agg (#[Value.int IntKind.u32 (1024 : Int), Value.int IntKind.i64 (↑b : Int)]), Value.int IntKind.i64 tm]) [] (M := []) H rfl rfl rfl (by kernel_rfl) (by kernel_rfl) (by kernel_rfl) (fun F' hF H' => new_ret 1024 tm b (by omega) (by omega) (good1024 hb0 hb1) (by omega) (by omega) F' _ H') ?_
  rintro v w4 L' ⟨bl, rfl, rfl⟩ H
  simp only [List.cons_append, List.nil_append] at H
  refine s_ifF (b := false) (by kernel_rfl) rfl ?_
  refine s_ifF (b := false) (by kernel_rfl) rfl ?_
  -- stop: Req.loop
  generalize 2 ^ (32 - b) = many at hm H hsh
  have hps0 : PS 1024 many tm ⟨1024, many, tm, [], 0⟩ 0 := ⟨rfl, rfl, rfl, Int.le_refl _, .nil⟩
  refine s_loop (γ := Nat × Int × PoolV) 0 [14, 13] (fun g => [.int .i64 g.1, .int .i64 g.2.1]) (fun g w' => Own w' F [PoolA bl g.2.2] ∧ g.1 ≤ 40 ∧ 0 ≤ g.2.1 ∧ g.2.1 ≤ 39 * g.1 ∧ PS 1024 many tm g.2.2 g.2.1) (fun g => 40 - g.1) (0, 0, ⟨1024, many, tm, [], 0⟩) [.int .i64 0, .int .i64 0] (by kernel_rfl) (by kernel_rfl) rfl (by kernel_rfl) rfl ⟨H, by simp, by simp, by simp, hps0⟩ ?_
  clear H hps0
  rintro ⟨i, now, p⟩ w9 ⟨H, hi, hn0, hn1, hps⟩
  simp only at H hi hn0 hn1 hps
  have hlp := hps.li.len (by omega)
  by_cases hgo : i < cs.length ∧ i < ws.length ∧ i < gs.length ∧ i < 40
  · have t1 : decide ((i : Int) < cs.length) = true := decide_eq_true (by omega)
    have t2 : decide ((i : Int) < ws.length) = true := decide_eq_true (by omega)
    have t3 : decide ((i : Int) < gs.length) = true := decide_eq_true (by omega)
    have t4 : decide ((i : Int) < 40) = true := decide_eq_true (by omega)
    have ho := List.getElem?_eq_getElem hgo.1
    have hw := List.getElem?_eq_getElem hgo.2.1
    have hg := List.getElem?_eq_getElem hgo.2.2.1
    generalize cs[i] = o at ho
    generalize ws[i] = wt at hw
    generalize gs[i] = gv at hg
    have hcb1 := hcb o (List.mem_of_getElem? ho)
    have hwb1 := hwb wt (List.mem_of_getElem? hw)
    have hgb1 := hgb gv (List.mem_of_getElem? hg)
    have ho2 : (cs.map fun n => [Value.int .i64 n])[i]? = some [.int .i64 o] := by rw [List.getElem?_map, ho]; rfl
    have hw2 : (ws.map fun n => [Value.int .i64 n])[i]? = some [.int .i64 wt] := by rw [List.getElem?_map, hw]; rfl
    have hg2 : (gs.map fun n => [Value.int .i64 n])[i]? = some [.int .i64 gv] := by rw [List.getElem?_map, hg]; rfl
    obtain ⟨nb, no2, cz, hva, _, _⟩ := hC.open (by rw [hcl]; omega)
    simp only [Value.slice.injEq] at hva
    obtain ⟨rfl, _, rfl⟩ := hva
    obtain ⟨mb, mo2, dz, hva, _, _⟩ := hW.open (by rw [hwl]; omega)
    simp only [Value.slice.injEq] at hva
    obtain ⟨rfl, _, rfl⟩ := hva
    obtain ⟨kb, ko2, ez, hva, _, _⟩ := hG.open (by rw [hgl]; omega)
    simp only [Value.slice.injEq] at hva
    obtain ⟨rfl, _, rfl⟩ := hva
    have w0 : 0 ≤ wt % 40 := Int.emod_nonneg _ (by omega)
    have w1 : wt % 40 < 40 := Int.emod_lt_of_pos _ (by omega)
    have o0 : 0 ≤ o % 20 := Int.emod_nonneg _ (by omega)
    have o1 : o % 20 < 20 := Int.emod_lt_of_pos _ (by omega)
    have hps1 := hps.mono (t' := now + wt % 40) (by omega)
    have hp1 := ask_PS hps1 (c := o % 20) (by omega) (by omega) (by omega) (by omega) (by omega) (by omega)
    obtain ⟨A, hA⟩ : ∃ A, askV p (o % 20) (now + wt % 40) = A := ⟨_, rfl⟩
    rw [hA] at hp1
    obtain ⟨⟨ab, ae⟩, p1⟩ := A
    have hps2 : PS 1024 many tm p1 (now + wt % 40) := hp1.1
    have hl2 := hps2.li.len (by omega)
    have hrng : ae = 0 → 1024 ≤ ab ∧ ab < 1024 + many := hp1.2.1
    have hok : ae = 0 ∨ (ab, ae) = ((0 : Int), (5 : Int)) := hp1.2.2
    clear hp1
    obtain ⟨B, hB⟩ : ∃ B, takeV p1 (o % 20) ab (now + wt % 40) = B := ⟨_, rfl⟩
    have hps3 := take_PS (c := o % 20) hps2 ab
    rw [hB] at hps3
    obtain ⟨⟨bv, be⟩, p2⟩ := B
    have hps3 : PS 1024 many tm p2 (now + wt % 40) := hps3
    have hl3 := hps3.li.len (by omega)
    obtain ⟨C, hD⟩ : ∃ C, giveV p2 (o % 20) ab (now + wt % 40) = C := ⟨_, rfl⟩
    have hps4 := give_PS (c := o % 20) hps3 ab
    rw [hD] at hps4
    obtain ⟨cv, p3⟩ := C
    have hps4 : PS 1024 many tm p3 (now + wt % 40) := hps4
    have hl4 := hps4.li.len (by omega)
    rcases hok with hae | hae
    · subst hae
      have hr := hrng rfl
      by_cases z0 : gv.tmod 3 = 0
      · have t5 : (gv.tmod 3 != 0) = false := by simp [z0]
        have t6 : (gv.tmod 3 == 2) = false := by simp [z0]
        refine s_ifT (by kernel_rfl) t1 ?_
        refine s_ifT (by kernel_rfl) t2 ?_
        refine s_ifT (by kernel_rfl) t3 ?_
        refine s_ifT (by kernel_rfl) t4 ?_
        refine y_idx (t := 68) (b := mb) (o := mo2) (n := ws.length) (c := wc) (kd := IntKind.i64) (i := (↑i : Int)) 1 (by kernel_rfl) (by omega) (by omega) (by kernel_rfl) ?_
        refine y_vload (k := i) (j := 0) (o := mo2 + (↑i : Int).toNat * (1 : Nat)) (x := [Value.int IntKind.i64 wt]) H hW hw2 rfl (by first | rfl | omega) (by kernel_rfl) ?_
        refine y_call (f := 14) (args := #[Value.int IntKind.i64 wt, Value.int IntKind.i64 (40 : Int)]) [] (M := [PoolA bl p]) H rfl rfl rfl (by kernel_rfl) (by kernel_rfl) (by kernel_rfl) (fun F' hF H' => rest_ret wt 40 hwb1.1 hwb1.2 (by omega) (by omega) F' _ H') ?_
        rintro v w10 L' ⟨rfl, rfl⟩ H
        simp only [List.cons_append, List.nil_append] at H
        refine x_add (t := 3) (a := now) (b := wt % (40 : Int)) ((now) + (wt % (40 : Int))) (w64' (by omega) (by omega) rfl) (by kernel_rfl) ?_
        refine y_idx (t := 68) (b := nb) (o := no2) (n := cs.length) (c := cc) (kd := IntKind.i64) (i := (↑i : Int)) 1 (by kernel_rfl) (by omega) (by omega) (by kernel_rfl) ?_
        refine y_vload (k := i) (j := 0) (o := no2 + (↑i : Int).toNat * (1 : Nat)) (x := [Value.int IntKind.i64 o]) H hC ho2 rfl (by first | rfl | omega) (by kernel_rfl) ?_
        refine y_call (f := 14) (args := #[Value.int IntKind.i64 o, Value.int IntKind.i64 (20 : Int)]) [] (M := [PoolA bl p]) H rfl rfl rfl (by kernel_rfl) (by kernel_rfl) (by kernel_rfl) (fun F' hF H' => rest_ret o 20 hcb1.1 hcb1.2 (by omega) (by omega) F' _ H') ?_
        rintro v w11 L' ⟨rfl, rfl⟩ H
        simp only [List.cons_append, List.nil_append] at H
        refine y_call (f := 23) (args := #[Value.pointer (some (Addr.mk bl (0 : Nat) none)), Value.int IntKind.i64 (o % (20 : Int)), Value.int IntKind.i64 (now + wt % (40 : Int))]) [0] (M := []) H rfl rfl rfl (by kernel_rfl) (by kernel_rfl) (by kernel_rfl) (fun F' hF H' => ask_ret p (o % 20) (now + wt % 40) bl F' _ H' (by omega) (by rw [hps.ef]; omega) (by rw [hps.ef]; omega) (by rw [hps.em]; omega)) ?_
        rintro v w12 L' ⟨rfl, rfl⟩ H
        simp only [List.cons_append, List.nil_append] at H
        rw [hA] at H
        rw [hA]
        refine s_ifT (b := true) (by kernel_rfl) rfl ?_
        refine y_idx (t := 68) (b := kb) (o := ko2) (n := gs.length) (c := gc) (kd := IntKind.i64) (i := (↑i : Int)) 1 (by kernel_rfl) (by omega) (by omega) (by kernel_rfl) ?_
        refine y_vload (k := i) (j := 0) (o := ko2 + (↑i : Int).toNat * (1 : Nat)) (x := [Value.int IntKind.i64 gv]) H hG hg2 rfl (by first | rfl | omega) (by kernel_rfl) ?_
        refine s_ifF (by kernel_rfl) t5 ?_
        refine s_ifT (b := true) (by kernel_rfl) rfl ?_
        refine y_idx (t := 68) (b := kb) (o := ko2) (n := gs.length) (c := gc) (kd := IntKind.i64) (i := (↑i : Int)) 1 (by kernel_rfl) (by omega) (by omega) (by kernel_rfl) ?_
        refine y_vload (k := i) (j := 0) (o := ko2 + (↑i : Int).toNat * (1 : Nat)) (x := [Value.int IntKind.i64 gv]) H hG hg2 rfl (by first | rfl | omega) (by kernel_rfl) ?_
        refine s_ifF (by kernel_rfl) t6 ?_
        refine y_call (f := 30) (args := #[Value.pointer (some (Addr.mk bl (0 : Nat) none)), Value.int IntKind.i64 (now + wt % (40 : Int))]) [0] (M := []) H rfl rfl rfl (by kernel_rfl) (by kernel_rfl) (by kernel_rfl) (fun F' hF H' => list_ret p1 (now + wt % 40) bl F' _ H' (by omega) (begin_zero hps2 (by omega) (by omega) (by omega) (by omega))) ?_
        rintro v w13 L' ⟨lv, rfl, rfl⟩ H
        simp only [List.cons_append, List.nil_append] at H
        obtain ⟨la, lc, rfl, hlc, _⟩ := Own.shape 0 H rfl
        refine s_ifF (b := false) (by kernel_rfl) rfl ?_
        -- stop: Req.loop
        have hps5 := hps2.pass
        have hlive : ∀ x ∈ (passV p1 (now + wt % 40)).all, now + wt % 40 < x.til := fun x hx => (mem_live.1 (show x ∈ liveL (now + wt % 40) p1.all from pass_all ▸ hx)).2
        generalize passV p1 (now + wt % 40) = p5 at H hps5 hlive hlc ⊢
        have hl5 := hps5.li.len (by omega)
        have hml : (p5.all.map encE).length = p5.all.length := List.length_map ..
        rw [hml] at H hlc ⊢
        
        -- stop: Req.loop
        refine s_loop (γ := Nat) 1 [20] (fun k => [.int .i64 k]) (fun k w' => Own w' F [rows (.slice la p5.all.length lc) 75 4 (p5.all.map encE), PoolA bl p5] ∧ k ≤ p5.all.length) (fun k => p5.all.length - k) 0 [.int .i64 0] (by kernel_rfl) (by kernel_rfl) rfl (by kernel_rfl) rfl ⟨H, Nat.zero_le _⟩ ?_
        clear H
        rintro k w20 ⟨H, hk⟩
        by_cases hkl : k < p5.all.length
        · have u1 : decide ((k : Int) < p5.all.length) = true := decide_eq_true (by omega)
          have hx := List.getElem?_eq_getElem hkl
          generalize p5.all[k] = x at hx
          have hxr := hps5.li.rng x (List.mem_of_getElem? hx)
          have hxl := hlive x (List.mem_of_getElem? hx)
          have hxo := fun (m : Nat) (y : EntV) (hy : p5.all[m]? = some y) (hm : m < k) => hps5.li.idx hy hx hm
          obtain ⟨x1, x2, x3, x4⟩ := x
          simp only at hxr hxl
          have hel2 : (p5.all.map encE)[k]? = some [.int .u32 x1, .int .i64 x2, .bool x3, .int .i64 x4] := by rw [List.getElem?_map, hx]; rfl
          have u2 : decide (x1 < 1024) = false := decide_eq_false (by omega)
          have u3 : decide (x1 - 1024 ≥ IntKind.i64.wrap (1 * 2 ^ (min ((32 : Int) - (b : Int)).toNat IntKind.i64.bits))) = false := by rw [hsh]; exact decide_eq_false (by omega)
          have u4 : decide (x4 ≤ now + wt % 40) = false := decide_eq_false (by omega)
          obtain ⟨lb, lcap, hsv, _, _⟩ := Own.shapeN 0 H rfl (by omega)
          rw [hml] at hsv
          cases hsv
          refine s_ifT (by kernel_rfl) u1 ?_
          refine s_draw (24 : Nat) 28 (by kernel_rfl) (by kernel_rfl) (by kernel_rfl) ?_
          replace H := Own.drew H
          refine y_idx (t := 71) (b := lb) (o := (0 : Nat)) (n := p5.all.length) (c := lc) (kd := IntKind.i64) (i := (↑k : Int)) 4 (by kernel_rfl) (by omega) (by omega) (by kernel_rfl) ?_
          refine y_elLoad 0 (i := k) (j := 0) (o := (0 : Nat) + (↑k : Int).toNat * (4 : Nat)) H rfl hel2 rfl (by first | rfl | omega) (by kernel_rfl) ?_
          refine s_ifF (by kernel_rfl) u2 ?_
          refine y_idx (t := 71) (b := lb) (o := (0 : Nat)) (n := p5.all.length) (c := lc) (kd := IntKind.i64) (i := (↑k : Int)) 4 (by kernel_rfl) (by omega) (by omega) (by kernel_rfl) ?_
          refine y_elLoad 0 (i := k) (j := 0) (o := (0 : Nat) + (↑k : Int).toNat * (4 : Nat)) H rfl hel2 rfl (by first | rfl | omega) (by kernel_rfl) ?_
          refine x_sub (t := 22) (a := x1) (b := (1024 : Int)) ((x1) - ((1024 : Int))) (wu32' (by omega) (by omega) rfl) (by kernel_rfl) ?_
          refine x_conv (s := 22) (d := 3) (k := IntKind.u32) (k' := .i64) (a := x1 - (1024 : Int)) (x1 - (1024 : Int)) (by kernel_rfl) (by kernel_rfl) (w64' (by omega) (by omega) rfl) (by kernel_rfl) ?_
          refine x_sub (t := 3) (a := (32 : Int)) (b := (↑b : Int)) (((32 : Int)) - ((↑b : Int))) (w64' (by omega) (by omega) rfl) (by kernel_rfl) ?_
          refine x_shl (t := 3) (kd := IntKind.i64) (ky := IntKind.i64) (a := (1 : Int)) (y := (32 : Int) - (↑b : Int)) (by omega) (by kernel_rfl) ?_
          refine s_ifF (by kernel_rfl) u3 ?_
          refine y_idx (t := 71) (b := lb) (o := (0 : Nat)) (n := p5.all.length) (c := lc) (kd := IntKind.i64) (i := (↑k : Int)) 4 (by kernel_rfl) (by omega) (by omega) (by kernel_rfl) ?_
          refine y_elLoad 0 (i := k) (j := 3) (o := (0 : Nat) + (↑k : Int).toNat * (4 : Nat) + (3 : Nat)) H rfl hel2 rfl (by first | rfl | omega) (by kernel_rfl) ?_
          refine s_ifF (by kernel_rfl) u4 ?_
          -- stop: Req.loop
          refine s_loop (γ := Nat) 2 [21] (fun m => [.int .i64 m]) (fun m w' => Own w' F [rows (.slice (some ⟨lb, 0, none⟩) p5.all.length lc) 75 4 (p5.all.map encE), PoolA bl p5] ∧ m ≤ k) (fun m => k - m) 0 [.int .i64 0] (by kernel_rfl) (by kernel_rfl) rfl (by kernel_rfl) rfl ⟨H, Nat.zero_le _⟩ ?_
          clear H
          rintro m w21 ⟨H, hm⟩
          by_cases hmk : m < k
          · have v1 : decide ((m : Int) < k) = true := decide_eq_true (by omega)
            have hy := List.getElem?_eq_getElem (show m < p5.all.length by omega)
            generalize p5.all[m] = y at hy
            have hb1 := hxo m y hy hmk
            obtain ⟨y1, y2, y3, y4⟩ := y
            have hba : y1 < x1 := hb1.1
            have hbc : y2 ≠ x2 := hb1.2
            have hel3 : (p5.all.map encE)[m]? = some [.int .u32 y1, .int .i64 y2, .bool y3, .int .i64 y4] := by rw [List.getElem?_map, hy]; rfl
            have v2 : decide (y1 ≥ x1) = false := decide_eq_false (by omega)
            have v3 : (y2 == x2) = false := by simp [hbc]
            refine s_ifT (by kernel_rfl) v1 ?_
            refine s_draw (29 : Nat) 24 (by kernel_rfl) (by kernel_rfl) (by kernel_rfl) ?_
            replace H := Own.drew H
            refine y_idx (t := 71) (b := lb) (o := (0 : Nat)) (n := p5.all.length) (c := lc) (kd := IntKind.i64) (i := (↑m : Int)) 4 (by kernel_rfl) (by omega) (by omega) (by kernel_rfl) ?_
            refine y_elLoad 0 (i := m) (j := 0) (o := (0 : Nat) + (↑m : Int).toNat * (4 : Nat)) H rfl hel3 rfl (by first | rfl | omega) (by kernel_rfl) ?_
            refine y_idx (t := 71) (b := lb) (o := (0 : Nat)) (n := p5.all.length) (c := lc) (kd := IntKind.i64) (i := (↑k : Int)) 4 (by kernel_rfl) (by omega) (by omega) (by kernel_rfl) ?_
            refine y_elLoad 0 (i := k) (j := 0) (o := (0 : Nat) + (↑k : Int).toNat * (4 : Nat)) H rfl hel2 rfl (by first | rfl | omega) (by kernel_rfl) ?_
            refine s_ifF (by kernel_rfl) v2 ?_
            refine y_idx (t := 71) (b := lb) (o := (0 : Nat)) (n := p5.all.length) (c := lc) (kd := IntKind.i64) (i := (↑m : Int)) 4 (by kernel_rfl) (by omega) (by omega) (by kernel_rfl) ?_
            refine y_elLoad 0 (i := m) (j := 1) (o := (0 : Nat) + (↑m : Int).toNat * (4 : Nat) + (1 : Nat)) H rfl hel3 rfl (by first | rfl | omega) (by kernel_rfl) ?_
            refine y_idx (t := 71) (b := lb) (o := (0 : Nat)) (n := p5.all.length) (c := lc) (kd := IntKind.i64) (i := (↑k : Int)) 4 (by kernel_rfl) (by omega) (by omega) (by kernel_rfl) ?_
            refine y_elLoad 0 (i := k) (j := 1) (o := (0 : Nat) + (↑k : Int).toNat * (4 : Nat) + (1 : Nat)) H rfl hel2 rfl (by first | rfl | omega) (by kernel_rfl) ?_
            refine s_ifF (by kernel_rfl) v3 ?_
            refine x_add (t := 3) (a := (↑m : Int)) (b := (1 : Int)) (((m) + ((1 : Nat)) : Nat) : Int) (w64' (by omega) (by omega) (by omega)) (by kernel_rfl) ?_
            -- stop: Req.again (2 : Nat)
            exact s_again 2 (m + 1) [.int .i64 ((m + 1 : Nat) : Int)] rfl (by kernel_rfl) (by kernel_rfl) (by kernel_rfl) rfl ⟨H, hmk⟩ (by omega)
          · have v1 : decide ((m : Int) < k) = false := decide_eq_false (by omega)
            refine s_ifF (by kernel_rfl) v1 ?_
            refine x_add (t := 3) (a := (↑k : Int)) (b := (1 : Int)) (((k) + ((1 : Nat)) : Nat) : Int) (w64' (by omega) (by omega) (by omega)) (by kernel_rfl) ?_
            -- stop: Req.again (1 : Nat)
            exact s_again 1 (k + 1) [.int .i64 ((k + 1 : Nat) : Int)] rfl (by kernel_rfl) (by kernel_rfl) (by kernel_rfl) rfl ⟨H, hkl⟩ (by omega)
        · have u1 : decide ((k : Int) < p5.all.length) = false := decide_eq_false (by omega)
          refine s_ifF (by kernel_rfl) u1 ?_
          refine x_add (t := 3) (a := (↑i : Int)) (b := (1 : Int)) (((i) + ((1 : Nat)) : Nat) : Int) (w64' (by omega) (by omega) (by omega)) (by kernel_rfl) ?_
          -- stop: Req.again (0 : Nat)
          exact s_again 0 (i + 1, now + wt % 40, p5) [.int .i64 ((i + 1 : Nat) : Int), .int .i64 (now + wt % 40)] rfl (by kernel_rfl) (by kernel_rfl) (by kernel_rfl) rfl ⟨H.drop1, by show i + 1 ≤ 40; omega, by show 0 ≤ now + wt % 40; omega, by show now + wt % 40 ≤ 39 * ((i + 1 : Nat) : Int); omega, hps5⟩ (by show 40 - (i + 1) < 40 - i; omega)
      · have t5 : (gv.tmod 3 != 0) = true := by simp [z0]
        by_cases z2 : gv.tmod 3 = 2
        · have t6 : (gv.tmod 3 == 2) = true := by simp [z2]
          refine s_ifT (by kernel_rfl) t1 ?_
          refine s_ifT (by kernel_rfl) t2 ?_
          refine s_ifT (by kernel_rfl) t3 ?_
          refine s_ifT (by kernel_rfl) t4 ?_
          refine y_idx (t := 68) (b := mb) (o := mo2) (n := ws.length) (c := wc) (kd := IntKind.i64) (i := (↑i : Int)) 1 (by kernel_rfl) (by omega) (by omega) (by kernel_rfl) ?_
          refine y_vload (k := i) (j := 0) (o := mo2 + (↑i : Int).toNat * (1 : Nat)) (x := [Value.int IntKind.i64 wt]) H hW hw2 rfl (by first | rfl | omega) (by kernel_rfl) ?_
          refine y_call (f := 14) (args := #[Value.int IntKind.i64 wt, Value.int IntKind.i64 (40 : Int)]) [] (M := [PoolA bl p]) H rfl rfl rfl (by kernel_rfl) (by kernel_rfl) (by kernel_rfl) (fun F' hF H' => rest_ret wt 40 hwb1.1 hwb1.2 (by omega) (by omega) F' _ H') ?_
          rintro v w10 L' ⟨rfl, rfl⟩ H
          simp only [List.cons_append, List.nil_append] at H
          refine x_add (t := 3) (a := now) (b := wt % (40 : Int)) ((now) + (wt % (40 : Int))) (w64' (by omega) (by omega) rfl) (by kernel_rfl) ?_
          refine y_idx (t := 68) (b := nb) (o := no2) (n := cs.length) (c := cc) (kd := IntKind.i64) (i := (↑i : Int)) 1 (by kernel_rfl) (by omega) (by omega) (by kernel_rfl) ?_
          refine y_vload (k := i) (j := 0) (o := no2 + (↑i : Int).toNat * (1 : Nat)) (x := [Value.int IntKind.i64 o]) H hC ho2 rfl (by first | rfl | omega) (by kernel_rfl) ?_
          refine y_call (f := 14) (args := #[Value.int IntKind.i64 o, Value.int IntKind.i64 (20 : Int)]) [] (M := [PoolA bl p]) H rfl rfl rfl (by kernel_rfl) (by kernel_rfl) (by kernel_rfl) (fun F' hF H' => rest_ret o 20 hcb1.1 hcb1.2 (by omega) (by omega) F' _ H') ?_
          rintro v w11 L' ⟨rfl, rfl⟩ H
          simp only [List.cons_append, List.nil_append] at H
          refine y_call (f := 23) (args := #[Value.pointer (some (Addr.mk bl (0 : Nat) none)), Value.int IntKind.i64 (o % (20 : Int)), Value.int IntKind.i64 (now + wt % (40 : Int))]) [0] (M := []) H rfl rfl rfl (by kernel_rfl) (by kernel_rfl) (by kernel_rfl) (fun F' hF H' => ask_ret p (o % 20) (now + wt % 40) bl F' _ H' (by omega) (by rw [hps.ef]; omega) (by rw [hps.ef]; omega) (by rw [hps.em]; omega)) ?_
          rintro v w12 L' ⟨rfl, rfl⟩ H
          simp only [List.cons_append, List.nil_append] at H
          rw [hA] at H
          rw [hA]
          refine s_ifT (b := true) (by kernel_rfl) rfl ?_
          refine y_idx (t := 68) (b := kb) (o := ko2) (n := gs.length) (c := gc) (kd := IntKind.i64) (i := (↑i : Int)) 1 (by kernel_rfl) (by omega) (by omega) (by kernel_rfl) ?_
          refine y_vload (k := i) (j := 0) (o := ko2 + (↑i : Int).toNat * (1 : Nat)) (x := [Value.int IntKind.i64 gv]) H hG hg2 rfl (by first | rfl | omega) (by kernel_rfl) ?_
          refine s_ifT (by kernel_rfl) t5 ?_
          refine y_call (f := 24) (args := #[Value.pointer (some (Addr.mk bl (0 : Nat) none)), Value.int IntKind.i64 (o % (20 : Int)), Value.int IntKind.u32 ab, Value.int IntKind.i64 (now + wt % (40 : Int))]) [0] (M := []) H rfl rfl rfl (by kernel_rfl) (by kernel_rfl) (by kernel_rfl) (fun F' hF H' => take_ret p1 (o % 20) ab (now + wt % 40) bl F' _ H' (by omega) (by rw [hps2.ef]; omega) (by rw [hps2.ef]; omega) (by omega) (by omega) (by rw [hps2.et]; omega) (by rw [hps2.et]; omega)) ?_
          rintro v w13 L' ⟨rfl, rfl⟩ H
          simp only [List.cons_append, List.nil_append] at H
          rw [hB] at H
          rw [hB]
          refine s_ifT (b := true) (by kernel_rfl) rfl ?_
          refine y_idx (t := 68) (b := kb) (o := ko2) (n := gs.length) (c := gc) (kd := IntKind.i64) (i := (↑i : Int)) 1 (by kernel_rfl) (by omega) (by omega) (by kernel_rfl) ?_
          refine y_vload (k := i) (j := 0) (o := ko2 + (↑i : Int).toNat * (1 : Nat)) (x := [Value.int IntKind.i64 gv]) H hG hg2 rfl (by first | rfl | omega) (by kernel_rfl) ?_
          refine s_ifT (by kernel_rfl) t6 ?_
          refine y_call (f := 29) (args := #[Value.pointer (some (Addr.mk bl (0 : Nat) none)), Value.int IntKind.i64 (o % (20 : Int)), Value.int IntKind.u32 ab, Value.int IntKind.i64 (now + wt % (40 : Int))]) [0] (M := []) H rfl rfl rfl (by kernel_rfl) (by kernel_rfl) (by kernel_rfl) (fun F' hF H' => give_ret p2 (o % 20) ab (now + wt % 40) bl F' _ H' (by omega) (by rw [hps3.ef]; omega) (by rw [hps3.ef]; omega) (by omega) (by omega)) ?_
          rintro v w14 L' ⟨rfl, rfl⟩ H
          simp only [List.cons_append, List.nil_append] at H
          rw [hD] at H
          rw [hD]
          refine y_call (f := 30) (args := #[Value.pointer (some (Addr.mk bl (0 : Nat) none)), Value.int IntKind.i64 (now + wt % (40 : Int))]) [0] (M := []) H rfl rfl rfl (by kernel_rfl) (by kernel_rfl) (by kernel_rfl) (fun F' hF H' => list_ret p3 (now + wt % 40) bl F' _ H' (by omega) (begin_zero hps4 (by omega) (by omega) (by omega) (by omega))) ?_
          rintro v w15 L' ⟨lv, rfl, rfl⟩ H
          simp only [List.cons_append, List.nil_append] at H
          obtain ⟨la, lc, rfl, hlc, _⟩ := Own.shape 0 H rfl
          refine s_ifF (b := false) (by kernel_rfl) rfl ?_
          -- stop: Req.loop
          have hps5 := hps4.pass
          have hlive : ∀ x ∈ (passV p3 (now + wt % 40)).all, now + wt % 40 < x.til := fun x hx => (mem_live.1 (show x ∈ liveL (now + wt % 40) p3.all from pass_all ▸ hx)).2
          generalize passV p3 (now + wt % 40) = p5 at H hps5 hlive hlc ⊢
          have hl5 := hps5.li.len (by omega)
          have hml : (p5.all.map encE).length = p5.all.length := List.length_map ..
          rw [hml] at H hlc ⊢
          
          -- stop: Req.loop
          refine s_loop (γ := Nat) 1 [20] (fun k => [.int .i64 k]) (fun k w' => Own w' F [rows (.slice la p5.all.length lc) 75 4 (p5.all.map encE), PoolA bl p5] ∧ k ≤ p5.all.length) (fun k => p5.all.length - k) 0 [.int .i64 0] (by kernel_rfl) (by kernel_rfl) rfl (by kernel_rfl) rfl ⟨H, Nat.zero_le _⟩ ?_
          clear H
          rintro k w20 ⟨H, hk⟩
          by_cases hkl : k < p5.all.length
          · have u1 : decide ((k : Int) < p5.all.length) = true := decide_eq_true (by omega)
            have hx := List.getElem?_eq_getElem hkl
            generalize p5.all[k] = x at hx
            have hxr := hps5.li.rng x (List.mem_of_getElem? hx)
            have hxl := hlive x (List.mem_of_getElem? hx)
            have hxo := fun (m : Nat) (y : EntV) (hy : p5.all[m]? = some y) (hm : m < k) => hps5.li.idx hy hx hm
            obtain ⟨x1, x2, x3, x4⟩ := x
            simp only at hxr hxl
            have hel2 : (p5.all.map encE)[k]? = some [.int .u32 x1, .int .i64 x2, .bool x3, .int .i64 x4] := by rw [List.getElem?_map, hx]; rfl
            have u2 : decide (x1 < 1024) = false := decide_eq_false (by omega)
            have u3 : decide (x1 - 1024 ≥ IntKind.i64.wrap (1 * 2 ^ (min ((32 : Int) - (b : Int)).toNat IntKind.i64.bits))) = false := by rw [hsh]; exact decide_eq_false (by omega)
            have u4 : decide (x4 ≤ now + wt % 40) = false := decide_eq_false (by omega)
            obtain ⟨lb, lcap, hsv, _, _⟩ := Own.shapeN 0 H rfl (by omega)
            rw [hml] at hsv
            cases hsv
            refine s_ifT (by kernel_rfl) u1 ?_
            refine s_draw (24 : Nat) 28 (by kernel_rfl) (by kernel_rfl) (by kernel_rfl) ?_
            replace H := Own.drew H
            refine y_idx (t := 71) (b := lb) (o := (0 : Nat)) (n := p5.all.length) (c := lc) (kd := IntKind.i64) (i := (↑k : Int)) 4 (by kernel_rfl) (by omega) (by omega) (by kernel_rfl) ?_
            refine y_elLoad 0 (i := k) (j := 0) (o := (0 : Nat) + (↑k : Int).toNat * (4 : Nat)) H rfl hel2 rfl (by first | rfl | omega) (by kernel_rfl) ?_
            refine s_ifF (by kernel_rfl) u2 ?_
            refine y_idx (t := 71) (b := lb) (o := (0 : Nat)) (n := p5.all.length) (c := lc) (kd := IntKind.i64) (i := (↑k : Int)) 4 (by kernel_rfl) (by omega) (by omega) (by kernel_rfl) ?_
            refine y_elLoad 0 (i := k) (j := 0) (o := (0 : Nat) + (↑k : Int).toNat * (4 : Nat)) H rfl hel2 rfl (by first | rfl | omega) (by kernel_rfl) ?_
            refine x_sub (t := 22) (a := x1) (b := (1024 : Int)) ((x1) - ((1024 : Int))) (wu32' (by omega) (by omega) rfl) (by kernel_rfl) ?_
            refine x_conv (s := 22) (d := 3) (k := IntKind.u32) (k' := .i64) (a := x1 - (1024 : Int)) (x1 - (1024 : Int)) (by kernel_rfl) (by kernel_rfl) (w64' (by omega) (by omega) rfl) (by kernel_rfl) ?_
            refine x_sub (t := 3) (a := (32 : Int)) (b := (↑b : Int)) (((32 : Int)) - ((↑b : Int))) (w64' (by omega) (by omega) rfl) (by kernel_rfl) ?_
            refine x_shl (t := 3) (kd := IntKind.i64) (ky := IntKind.i64) (a := (1 : Int)) (y := (32 : Int) - (↑b : Int)) (by omega) (by kernel_rfl) ?_
            refine s_ifF (by kernel_rfl) u3 ?_
            refine y_idx (t := 71) (b := lb) (o := (0 : Nat)) (n := p5.all.length) (c := lc) (kd := IntKind.i64) (i := (↑k : Int)) 4 (by kernel_rfl) (by omega) (by omega) (by kernel_rfl) ?_
            refine y_elLoad 0 (i := k) (j := 3) (o := (0 : Nat) + (↑k : Int).toNat * (4 : Nat) + (3 : Nat)) H rfl hel2 rfl (by first | rfl | omega) (by kernel_rfl) ?_
            refine s_ifF (by kernel_rfl) u4 ?_
            -- stop: Req.loop
            refine s_loop (γ := Nat) 2 [21] (fun m => [.int .i64 m]) (fun m w' => Own w' F [rows (.slice (some ⟨lb, 0, none⟩) p5.all.length lc) 75 4 (p5.all.map encE), PoolA bl p5] ∧ m ≤ k) (fun m => k - m) 0 [.int .i64 0] (by kernel_rfl) (by kernel_rfl) rfl (by kernel_rfl) rfl ⟨H, Nat.zero_le _⟩ ?_
            clear H
            rintro m w21 ⟨H, hm⟩
            by_cases hmk : m < k
            · have v1 : decide ((m : Int) < k) = true := decide_eq_true (by omega)
              have hy := List.getElem?_eq_getElem (show m < p5.all.length by omega)
              generalize p5.all[m] = y at hy
              have hb1 := hxo m y hy hmk
              obtain ⟨y1, y2, y3, y4⟩ := y
              have hba : y1 < x1 := hb1.1
              have hbc : y2 ≠ x2 := hb1.2
              have hel3 : (p5.all.map encE)[m]? = some [.int .u32 y1, .int .i64 y2, .bool y3, .int .i64 y4] := by rw [List.getElem?_map, hy]; rfl
              have v2 : decide (y1 ≥ x1) = false := decide_eq_false (by omega)
              have v3 : (y2 == x2) = false := by simp [hbc]
              refine s_ifT (by kernel_rfl) v1 ?_
              refine s_draw (29 : Nat) 24 (by kernel_rfl) (by kernel_rfl) (by kernel_rfl) ?_
              replace H := Own.drew H
              refine y_idx (t := 71) (b := lb) (o := (0 : Nat)) (n := p5.all.length) (c := lc) (kd := IntKind.i64) (i := (↑m : Int)) 4 (by kernel_rfl) (by omega) (by omega) (by kernel_rfl) ?_
              refine y_elLoad 0 (i := m) (j := 0) (o := (0 : Nat) + (↑m : Int).toNat * (4 : Nat)) H rfl hel3 rfl (by first | rfl | omega) (by kernel_rfl) ?_
              refine y_idx (t := 71) (b := lb) (o := (0 : Nat)) (n := p5.all.length) (c := lc) (kd := IntKind.i64) (i := (↑k : Int)) 4 (by kernel_rfl) (by omega) (by omega) (by kernel_rfl) ?_
              refine y_elLoad 0 (i := k) (j := 0) (o := (0 : Nat) + (↑k : Int).toNat * (4 : Nat)) H rfl hel2 rfl (by first | rfl | omega) (by kernel_rfl) ?_
              refine s_ifF (by kernel_rfl) v2 ?_
              refine y_idx (t := 71) (b := lb) (o := (0 : Nat)) (n := p5.all.length) (c := lc) (kd := IntKind.i64) (i := (↑m : Int)) 4 (by kernel_rfl) (by omega) (by omega) (by kernel_rfl) ?_
              refine y_elLoad 0 (i := m) (j := 1) (o := (0 : Nat) + (↑m : Int).toNat * (4 : Nat) + (1 : Nat)) H rfl hel3 rfl (by first | rfl | omega) (by kernel_rfl) ?_
              refine y_idx (t := 71) (b := lb) (o := (0 : Nat)) (n := p5.all.length) (c := lc) (kd := IntKind.i64) (i := (↑k : Int)) 4 (by kernel_rfl) (by omega) (by omega) (by kernel_rfl) ?_
              refine y_elLoad 0 (i := k) (j := 1) (o := (0 : Nat) + (↑k : Int).toNat * (4 : Nat) + (1 : Nat)) H rfl hel2 rfl (by first | rfl | omega) (by kernel_rfl) ?_
              refine s_ifF (by kernel_rfl) v3 ?_
              refine x_add (t := 3) (a := (↑m : Int)) (b := (1 : Int)) (((m) + ((1 : Nat)) : Nat) : Int) (w64' (by omega) (by omega) (by omega)) (by kernel_rfl) ?_
              -- stop: Req.again (2 : Nat)
              exact s_again 2 (m + 1) [.int .i64 ((m + 1 : Nat) : Int)] rfl (by kernel_rfl) (by kernel_rfl) (by kernel_rfl) rfl ⟨H, hmk⟩ (by omega)
            · have v1 : decide ((m : Int) < k) = false := decide_eq_false (by omega)
              refine s_ifF (by kernel_rfl) v1 ?_
              refine x_add (t := 3) (a := (↑k : Int)) (b := (1 : Int)) (((k) + ((1 : Nat)) : Nat) : Int) (w64' (by omega) (by omega) (by omega)) (by kernel_rfl) ?_
              -- stop: Req.again (1 : Nat)
              exact s_again 1 (k + 1) [.int .i64 ((k + 1 : Nat) : Int)] rfl (by kernel_rfl) (by kernel_rfl) (by kernel_rfl) rfl ⟨H, hkl⟩ (by omega)
          · have u1 : decide ((k : Int) < p5.all.length) = false := decide_eq_false (by omega)
            refine s_ifF (by kernel_rfl) u1 ?_
            refine x_add (t := 3) (a := (↑i : Int)) (b := (1 : Int)) (((i) + ((1 : Nat)) : Nat) : Int) (w64' (by omega) (by omega) (by omega)) (by kernel_rfl) ?_
            -- stop: Req.again (0 : Nat)
            exact s_again 0 (i + 1, now + wt % 40, p5) [.int .i64 ((i + 1 : Nat) : Int), .int .i64 (now + wt % 40)] rfl (by kernel_rfl) (by kernel_rfl) (by kernel_rfl) rfl ⟨H.drop1, by show i + 1 ≤ 40; omega, by show 0 ≤ now + wt % 40; omega, by show now + wt % 40 ≤ 39 * ((i + 1 : Nat) : Int); omega, hps5⟩ (by show 40 - (i + 1) < 40 - i; omega)
        · have t6 : (gv.tmod 3 == 2) = false := by simp [z2]
          refine s_ifT (by kernel_rfl) t1 ?_
          refine s_ifT (by kernel_rfl) t2 ?_
          refine s_ifT (by kernel_rfl) t3 ?_
          refine s_ifT (by kernel_rfl) t4 ?_
          refine y_idx (t := 68) (b := mb) (o := mo2) (n := ws.length) (c := wc) (kd := IntKind.i64) (i := (↑i : Int)) 1 (by kernel_rfl) (by omega) (by omega) (by kernel_rfl) ?_
          refine y_vload (k := i) (j := 0) (o := mo2 + (↑i : Int).toNat * (1 : Nat)) (x := [Value.int IntKind.i64 wt]) H hW hw2 rfl (by first | rfl | omega) (by kernel_rfl) ?_
          refine y_call (f := 14) (args := #[Value.int IntKind.i64 wt, Value.int IntKind.i64 (40 : Int)]) [] (M := [PoolA bl p]) H rfl rfl rfl (by kernel_rfl) (by kernel_rfl) (by kernel_rfl) (fun F' hF H' => rest_ret wt 40 hwb1.1 hwb1.2 (by omega) (by omega) F' _ H') ?_
          rintro v w10 L' ⟨rfl, rfl⟩ H
          simp only [List.cons_append, List.nil_append] at H
          refine x_add (t := 3) (a := now) (b := wt % (40 : Int)) ((now) + (wt % (40 : Int))) (w64' (by omega) (by omega) rfl) (by kernel_rfl) ?_
          refine y_idx (t := 68) (b := nb) (o := no2) (n := cs.length) (c := cc) (kd := IntKind.i64) (i := (↑i : Int)) 1 (by kernel_rfl) (by omega) (by omega) (by kernel_rfl) ?_
          refine y_vload (k := i) (j := 0) (o := no2 + (↑i : Int).toNat * (1 : Nat)) (x := [Value.int IntKind.i64 o]) H hC ho2 rfl (by first | rfl | omega) (by kernel_rfl) ?_
          refine y_call (f := 14) (args := #[Value.int IntKind.i64 o, Value.int IntKind.i64 (20 : Int)]) [] (M := [PoolA bl p]) H rfl rfl rfl (by kernel_rfl) (by kernel_rfl) (by kernel_rfl) (fun F' hF H' => rest_ret o 20 hcb1.1 hcb1.2 (by omega) (by omega) F' _ H') ?_
          rintro v w11 L' ⟨rfl, rfl⟩ H
          simp only [List.cons_append, List.nil_append] at H
          refine y_call (f := 23) (args := #[Value.pointer (some (Addr.mk bl (0 : Nat) none)), Value.int IntKind.i64 (o % (20 : Int)), Value.int IntKind.i64 (now + wt % (40 : Int))]) [0] (M := []) H rfl rfl rfl (by kernel_rfl) (by kernel_rfl) (by kernel_rfl) (fun F' hF H' => ask_ret p (o % 20) (now + wt % 40) bl F' _ H' (by omega) (by rw [hps.ef]; omega) (by rw [hps.ef]; omega) (by rw [hps.em]; omega)) ?_
          rintro v w12 L' ⟨rfl, rfl⟩ H
          simp only [List.cons_append, List.nil_append] at H
          rw [hA] at H
          rw [hA]
          refine s_ifT (b := true) (by kernel_rfl) rfl ?_
          refine y_idx (t := 68) (b := kb) (o := ko2) (n := gs.length) (c := gc) (kd := IntKind.i64) (i := (↑i : Int)) 1 (by kernel_rfl) (by omega) (by omega) (by kernel_rfl) ?_
          refine y_vload (k := i) (j := 0) (o := ko2 + (↑i : Int).toNat * (1 : Nat)) (x := [Value.int IntKind.i64 gv]) H hG hg2 rfl (by first | rfl | omega) (by kernel_rfl) ?_
          refine s_ifT (by kernel_rfl) t5 ?_
          refine y_call (f := 24) (args := #[Value.pointer (some (Addr.mk bl (0 : Nat) none)), Value.int IntKind.i64 (o % (20 : Int)), Value.int IntKind.u32 ab, Value.int IntKind.i64 (now + wt % (40 : Int))]) [0] (M := []) H rfl rfl rfl (by kernel_rfl) (by kernel_rfl) (by kernel_rfl) (fun F' hF H' => take_ret p1 (o % 20) ab (now + wt % 40) bl F' _ H' (by omega) (by rw [hps2.ef]; omega) (by rw [hps2.ef]; omega) (by omega) (by omega) (by rw [hps2.et]; omega) (by rw [hps2.et]; omega)) ?_
          rintro v w13 L' ⟨rfl, rfl⟩ H
          simp only [List.cons_append, List.nil_append] at H
          rw [hB] at H
          rw [hB]
          refine s_ifT (b := true) (by kernel_rfl) rfl ?_
          refine y_idx (t := 68) (b := kb) (o := ko2) (n := gs.length) (c := gc) (kd := IntKind.i64) (i := (↑i : Int)) 1 (by kernel_rfl) (by omega) (by omega) (by kernel_rfl) ?_
          refine y_vload (k := i) (j := 0) (o := ko2 + (↑i : Int).toNat * (1 : Nat)) (x := [Value.int IntKind.i64 gv]) H hG hg2 rfl (by first | rfl | omega) (by kernel_rfl) ?_
          refine s_ifF (by kernel_rfl) t6 ?_
          refine y_call (f := 30) (args := #[Value.pointer (some (Addr.mk bl (0 : Nat) none)), Value.int IntKind.i64 (now + wt % (40 : Int))]) [0] (M := []) H rfl rfl rfl (by kernel_rfl) (by kernel_rfl) (by kernel_rfl) (fun F' hF H' => list_ret p2 (now + wt % 40) bl F' _ H' (by omega) (begin_zero hps3 (by omega) (by omega) (by omega) (by omega))) ?_
          rintro v w14 L' ⟨lv, rfl, rfl⟩ H
          simp only [List.cons_append, List.nil_append] at H
          obtain ⟨la, lc, rfl, hlc, _⟩ := Own.shape 0 H rfl
          refine s_ifF (b := false) (by kernel_rfl) rfl ?_
          -- stop: Req.loop
          have hps5 := hps3.pass
          have hlive : ∀ x ∈ (passV p2 (now + wt % 40)).all, now + wt % 40 < x.til := fun x hx => (mem_live.1 (show x ∈ liveL (now + wt % 40) p2.all from pass_all ▸ hx)).2
          generalize passV p2 (now + wt % 40) = p5 at H hps5 hlive hlc ⊢
          have hl5 := hps5.li.len (by omega)
          have hml : (p5.all.map encE).length = p5.all.length := List.length_map ..
          rw [hml] at H hlc ⊢
          
          -- stop: Req.loop
          refine s_loop (γ := Nat) 1 [20] (fun k => [.int .i64 k]) (fun k w' => Own w' F [rows (.slice la p5.all.length lc) 75 4 (p5.all.map encE), PoolA bl p5] ∧ k ≤ p5.all.length) (fun k => p5.all.length - k) 0 [.int .i64 0] (by kernel_rfl) (by kernel_rfl) rfl (by kernel_rfl) rfl ⟨H, Nat.zero_le _⟩ ?_
          clear H
          rintro k w20 ⟨H, hk⟩
          by_cases hkl : k < p5.all.length
          · have u1 : decide ((k : Int) < p5.all.length) = true := decide_eq_true (by omega)
            have hx := List.getElem?_eq_getElem hkl
            generalize p5.all[k] = x at hx
            have hxr := hps5.li.rng x (List.mem_of_getElem? hx)
            have hxl := hlive x (List.mem_of_getElem? hx)
            have hxo := fun (m : Nat) (y : EntV) (hy : p5.all[m]? = some y) (hm : m < k) => hps5.li.idx hy hx hm
            obtain ⟨x1, x2, x3, x4⟩ := x
            simp only at hxr hxl
            have hel2 : (p5.all.map encE)[k]? = some [.int .u32 x1, .int .i64 x2, .bool x3, .int .i64 x4] := by rw [List.getElem?_map, hx]; rfl
            have u2 : decide (x1 < 1024) = false := decide_eq_false (by omega)
            have u3 : decide (x1 - 1024 ≥ IntKind.i64.wrap (1 * 2 ^ (min ((32 : Int) - (b : Int)).toNat IntKind.i64.bits))) = false := by rw [hsh]; exact decide_eq_false (by omega)
            have u4 : decide (x4 ≤ now + wt % 40) = false := decide_eq_false (by omega)
            obtain ⟨lb, lcap, hsv, _, _⟩ := Own.shapeN 0 H rfl (by omega)
            rw [hml] at hsv
            cases hsv
            refine s_ifT (by kernel_rfl) u1 ?_
            refine s_draw (24 : Nat) 28 (by kernel_rfl) (by kernel_rfl) (by kernel_rfl) ?_
            replace H := Own.drew H
            refine y_idx (t := 71) (b := lb) (o := (0 : Nat)) (n := p5.all.length) (c := lc) (kd := IntKind.i64) (i := (↑k : Int)) 4 (by kernel_rfl) (by omega) (by omega) (by kernel_rfl) ?_
            refine y_elLoad 0 (i := k) (j := 0) (o := (0 : Nat) + (↑k : Int).toNat * (4 : Nat)) H rfl hel2 rfl (by first | rfl | omega) (by kernel_rfl) ?_
            refine s_ifF (by kernel_rfl) u2 ?_
            refine y_idx (t := 71) (b := lb) (o := (0 : Nat)) (n := p5.all.length) (c := lc) (kd := IntKind.i64) (i := (↑k : Int)) 4 (by kernel_rfl) (by omega) (by omega) (by kernel_rfl) ?_
            refine y_elLoad 0 (i := k) (j := 0) (o := (0 : Nat) + (↑k : Int).toNat * (4 : Nat)) H rfl hel2 rfl (by first | rfl | omega) (by kernel_rfl) ?_
            refine x_sub (t := 22) (a := x1) (b := (1024 : Int)) ((x1) - ((1024 : Int))) (wu32' (by omega) (by omega) rfl) (by kernel_rfl) ?_
            refine x_conv (s := 22) (d := 3) (k := IntKind.u32) (k' := .i64) (a := x1 - (1024 : Int)) (x1 - (1024 : Int)) (by kernel_rfl) (by kernel_rfl) (w64' (by omega) (by omega) rfl) (by kernel_rfl) ?_
            refine x_sub (t := 3) (a := (32 : Int)) (b := (↑b : Int)) (((32 : Int)) - ((↑b : Int))) (w64' (by omega) (by omega) rfl) (by kernel_rfl) ?_
            refine x_shl (t := 3) (kd := IntKind.i64) (ky := IntKind.i64) (a := (1 : Int)) (y := (32 : Int) - (↑b : Int)) (by omega) (by kernel_rfl) ?_
            refine s_ifF (by kernel_rfl) u3 ?_
            refine y_idx (t := 71) (b := lb) (o := (0 : Nat)) (n := p5.all.length) (c := lc) (kd := IntKind.i64) (i := (↑k : Int)) 4 (by kernel_rfl) (by omega) (by omega) (by kernel_rfl) ?_
            refine y_elLoad 0 (i := k) (j := 3) (o := (0 : Nat) + (↑k : Int).toNat * (4 : Nat) + (3 : Nat)) H rfl hel2 rfl (by first | rfl | omega) (by kernel_rfl) ?_
            refine s_ifF (by kernel_rfl) u4 ?_
            -- stop: Req.loop
            refine s_loop (γ := Nat) 2 [21] (fun m => [.int .i64 m]) (fun m w' => Own w' F [rows (.slice (some ⟨lb, 0, none⟩) p5.all.length lc) 75 4 (p5.all.map encE), PoolA bl p5] ∧ m ≤ k) (fun m => k - m) 0 [.int .i64 0] (by kernel_rfl) (by kernel_rfl) rfl (by kernel_rfl) rfl ⟨H, Nat.zero_le _⟩ ?_
            clear H
            rintro m w21 ⟨H, hm⟩
            by_cases hmk : m < k
            · have v1 : decide ((m : Int) < k) = true := decide_eq_true (by omega)
              have hy := List.getElem?_eq_getElem (show m < p5.all.length by omega)
              generalize p5.all[m] = y at hy
              have hb1 := hxo m y hy hmk
              obtain ⟨y1, y2, y3, y4⟩ := y
              have hba : y1 < x1 := hb1.1
              have hbc : y2 ≠ x2 := hb1.2
              have hel3 : (p5.all.map encE)[m]? = some [.int .u32 y1, .int .i64 y2, .bool y3, .int .i64 y4] := by rw [List.getElem?_map, hy]; rfl
              have v2 : decide (y1 ≥ x1) = false := decide_eq_false (by omega)
              have v3 : (y2 == x2) = false := by simp [hbc]
              refine s_ifT (by kernel_rfl) v1 ?_
              refine s_draw (29 : Nat) 24 (by kernel_rfl) (by kernel_rfl) (by kernel_rfl) ?_
              replace H := Own.drew H
              refine y_idx (t := 71) (b := lb) (o := (0 : Nat)) (n := p5.all.length) (c := lc) (kd := IntKind.i64) (i := (↑m : Int)) 4 (by kernel_rfl) (by omega) (by omega) (by kernel_rfl) ?_
              refine y_elLoad 0 (i := m) (j := 0) (o := (0 : Nat) + (↑m : Int).toNat * (4 : Nat)) H rfl hel3 rfl (by first | rfl | omega) (by kernel_rfl) ?_
              refine y_idx (t := 71) (b := lb) (o := (0 : Nat)) (n := p5.all.length) (c := lc) (kd := IntKind.i64) (i := (↑k : Int)) 4 (by kernel_rfl) (by omega) (by omega) (by kernel_rfl) ?_
              refine y_elLoad 0 (i := k) (j := 0) (o := (0 : Nat) + (↑k : Int).toNat * (4 : Nat)) H rfl hel2 rfl (by first | rfl | omega) (by kernel_rfl) ?_
              refine s_ifF (by kernel_rfl) v2 ?_
              refine y_idx (t := 71) (b := lb) (o := (0 : Nat)) (n := p5.all.length) (c := lc) (kd := IntKind.i64) (i := (↑m : Int)) 4 (by kernel_rfl) (by omega) (by omega) (by kernel_rfl) ?_
              refine y_elLoad 0 (i := m) (j := 1) (o := (0 : Nat) + (↑m : Int).toNat * (4 : Nat) + (1 : Nat)) H rfl hel3 rfl (by first | rfl | omega) (by kernel_rfl) ?_
              refine y_idx (t := 71) (b := lb) (o := (0 : Nat)) (n := p5.all.length) (c := lc) (kd := IntKind.i64) (i := (↑k : Int)) 4 (by kernel_rfl) (by omega) (by omega) (by kernel_rfl) ?_
              refine y_elLoad 0 (i := k) (j := 1) (o := (0 : Nat) + (↑k : Int).toNat * (4 : Nat) + (1 : Nat)) H rfl hel2 rfl (by first | rfl | omega) (by kernel_rfl) ?_
              refine s_ifF (by kernel_rfl) v3 ?_
              refine x_add (t := 3) (a := (↑m : Int)) (b := (1 : Int)) (((m) + ((1 : Nat)) : Nat) : Int) (w64' (by omega) (by omega) (by omega)) (by kernel_rfl) ?_
              -- stop: Req.again (2 : Nat)
              exact s_again 2 (m + 1) [.int .i64 ((m + 1 : Nat) : Int)] rfl (by kernel_rfl) (by kernel_rfl) (by kernel_rfl) rfl ⟨H, hmk⟩ (by omega)
            · have v1 : decide ((m : Int) < k) = false := decide_eq_false (by omega)
              refine s_ifF (by kernel_rfl) v1 ?_
              refine x_add (t := 3) (a := (↑k : Int)) (b := (1 : Int)) (((k) + ((1 : Nat)) : Nat) : Int) (w64' (by omega) (by omega) (by omega)) (by kernel_rfl) ?_
              -- stop: Req.again (1 : Nat)
              exact s_again 1 (k + 1) [.int .i64 ((k + 1 : Nat) : Int)] rfl (by kernel_rfl) (by kernel_rfl) (by kernel_rfl) rfl ⟨H, hkl⟩ (by omega)
          · have u1 : decide ((k : Int) < p5.all.length) = false := decide_eq_false (by omega)
            refine s_ifF (by kernel_rfl) u1 ?_
            refine x_add (t := 3) (a := (↑i : Int)) (b := (1 : Int)) (((i) + ((1 : Nat)) : Nat) : Int) (w64' (by omega) (by omega) (by omega)) (by kernel_rfl) ?_
            -- stop: Req.again (0 : Nat)
            exact s_again 0 (i + 1, now + wt % 40, p5) [.int .i64 ((i + 1 : Nat) : Int), .int .i64 (now + wt % 40)] rfl (by kernel_rfl) (by kernel_rfl) (by kernel_rfl) rfl ⟨H.drop1, by show i + 1 ≤ 40; omega, by show 0 ≤ now + wt % 40; omega, by show now + wt % 40 ≤ 39 * ((i + 1 : Nat) : Int); omega, hps5⟩ (by show 40 - (i + 1) < 40 - i; omega)
    · cases hae
      refine s_ifT (by kernel_rfl) t1 ?_
      refine s_ifT (by kernel_rfl) t2 ?_
      refine s_ifT (by kernel_rfl) t3 ?_
      refine s_ifT (by kernel_rfl) t4 ?_
      refine y_idx (t := 68) (b := mb) (o := mo2) (n := ws.length) (c := wc) (kd := IntKind.i64) (i := (↑i : Int)) 1 (by kernel_rfl) (by omega) (by omega) (by kernel_rfl) ?_
      refine y_vload (k := i) (j := 0) (o := mo2 + (↑i : Int).toNat * (1 : Nat)) (x := [Value.int IntKind.i64 wt]) H hW hw2 rfl (by first | rfl | omega) (by kernel_rfl) ?_
      refine y_call (f := 14) (args := #[Value.int IntKind.i64 wt, Value.int IntKind.i64 (40 : Int)]) [] (M := [PoolA bl p]) H rfl rfl rfl (by kernel_rfl) (by kernel_rfl) (by kernel_rfl) (fun F' hF H' => rest_ret wt 40 hwb1.1 hwb1.2 (by omega) (by omega) F' _ H') ?_
      rintro v w10 L' ⟨rfl, rfl⟩ H
      simp only [List.cons_append, List.nil_append] at H
      refine x_add (t := 3) (a := now) (b := wt % (40 : Int)) ((now) + (wt % (40 : Int))) (w64' (by omega) (by omega) rfl) (by kernel_rfl) ?_
      refine y_idx (t := 68) (b := nb) (o := no2) (n := cs.length) (c := cc) (kd := IntKind.i64) (i := (↑i : Int)) 1 (by kernel_rfl) (by omega) (by omega) (by kernel_rfl) ?_
      refine y_vload (k := i) (j := 0) (o := no2 + (↑i : Int).toNat * (1 : Nat)) (x := [Value.int IntKind.i64 o]) H hC ho2 rfl (by first | rfl | omega) (by kernel_rfl) ?_
      refine y_call (f := 14) (args := #[Value.int IntKind.i64 o, Value.int IntKind.i64 (20 : Int)]) [] (M := [PoolA bl p]) H rfl rfl rfl (by kernel_rfl) (by kernel_rfl) (by kernel_rfl) (fun F' hF H' => rest_ret o 20 hcb1.1 hcb1.2 (by omega) (by omega) F' _ H') ?_
      rintro v w11 L' ⟨rfl, rfl⟩ H
      simp only [List.cons_append, List.nil_append] at H
      refine y_call (f := 23) (args := #[Value.pointer (some (Addr.mk bl (0 : Nat) none)), Value.int IntKind.i64 (o % (20 : Int)), Value.int IntKind.i64 (now + wt % (40 : Int))]) [0] (M := []) H rfl rfl rfl (by kernel_rfl) (by kernel_rfl) (by kernel_rfl) (fun F' hF H' => ask_ret p (o % 20) (now + wt % 40) bl F' _ H' (by omega) (by rw [hps.ef]; omega) (by rw [hps.ef]; omega) (by rw [hps.em]; omega)) ?_
      rintro v w12 L' ⟨rfl, rfl⟩ H
      simp only [List.cons_append, List.nil_append] at H
      rw [hA] at H
      rw [hA]
      refine s_ifF (b := false) (by kernel_rfl) rfl ?_
      refine s_ifF (b := false) (by kernel_rfl) rfl ?_
      refine y_call (f := 30) (args := #[Value.pointer (some (Addr.mk bl (0 : Nat) none)), Value.int IntKind.i64 (now + wt % (40 : Int))]) [0] (M := []) H rfl rfl rfl (by kernel_rfl) (by kernel_rfl) (by kernel_rfl) (fun F' hF H' => list_ret p1 (now + wt % 40) bl F' _ H' (by omega) (begin_zero hps2 (by omega) (by omega) (by omega) (by omega))) ?_
      rintro v w13 L' ⟨lv, rfl, rfl⟩ H
      simp only [List.cons_append, List.nil_append] at H
      obtain ⟨la, lc, rfl, hlc, _⟩ := Own.shape 0 H rfl
      refine s_ifF (b := false) (by kernel_rfl) rfl ?_
      -- stop: Req.loop
      have hps5 := hps2.pass
      have hlive : ∀ x ∈ (passV p1 (now + wt % 40)).all, now + wt % 40 < x.til := fun x hx => (mem_live.1 (show x ∈ liveL (now + wt % 40) p1.all from pass_all ▸ hx)).2
      generalize passV p1 (now + wt % 40) = p5 at H hps5 hlive hlc ⊢
      have hl5 := hps5.li.len (by omega)
      have hml : (p5.all.map encE).length = p5.all.length := List.length_map ..
      rw [hml] at H hlc ⊢
      
      -- stop: Req.loop
      refine s_loop (γ := Nat) 1 [20] (fun k => [.int .i64 k]) (fun k w' => Own w' F [rows (.slice la p5.all.length lc) 75 4 (p5.all.map encE), PoolA bl p5] ∧ k ≤ p5.all.length) (fun k => p5.all.length - k) 0 [.int .i64 0] (by kernel_rfl) (by kernel_rfl) rfl (by kernel_rfl) rfl ⟨H, Nat.zero_le _⟩ ?_
      clear H
      rintro k w20 ⟨H, hk⟩
      by_cases hkl : k < p5.all.length
      · have u1 : decide ((k : Int) < p5.all.length) = true := decide_eq_true (by omega)
        have hx := List.getElem?_eq_getElem hkl
        generalize p5.all[k] = x at hx
        have hxr := hps5.li.rng x (List.mem_of_getElem? hx)
        have hxl := hlive x (List.mem_of_getElem? hx)
        have hxo := fun (m : Nat) (y : EntV) (hy : p5.all[m]? = some y) (hm : m < k) => hps5.li.idx hy hx hm
        obtain ⟨x1, x2, x3, x4⟩ := x
        simp only at hxr hxl
        have hel2 : (p5.all.map encE)[k]? = some [.int .u32 x1, .int .i64 x2, .bool x3, .int .i64 x4] := by rw [List.getElem?_map, hx]; rfl
        have u2 : decide (x1 < 1024) = false := decide_eq_false (by omega)
        have u3 : decide (x1 - 1024 ≥ IntKind.i64.wrap (1 * 2 ^ (min ((32 : Int) - (b : Int)).toNat IntKind.i64.bits))) = false := by rw [hsh]; exact decide_eq_false (by omega)
        have u4 : decide (x4 ≤ now + wt % 40) = false := decide_eq_false (by omega)
        obtain ⟨lb, lcap, hsv, _, _⟩ := Own.shapeN 0 H rfl (by omega)
        rw [hml] at hsv
        cases hsv
        refine s_ifT (by kernel_rfl) u1 ?_
        refine s_draw (24 : Nat) 28 (by kernel_rfl) (by kernel_rfl) (by kernel_rfl) ?_
        replace H := Own.drew H
        refine y_idx (t := 71) (b := lb) (o := (0 : Nat)) (n := p5.all.length) (c := lc) (kd := IntKind.i64) (i := (↑k : Int)) 4 (by kernel_rfl) (by omega) (by omega) (by kernel_rfl) ?_
        refine y_elLoad 0 (i := k) (j := 0) (o := (0 : Nat) + (↑k : Int).toNat * (4 : Nat)) H rfl hel2 rfl (by first | rfl | omega) (by kernel_rfl) ?_
        refine s_ifF (by kernel_rfl) u2 ?_
        refine y_idx (t := 71) (b := lb) (o := (0 : Nat)) (n := p5.all.length) (c := lc) (kd := IntKind.i64) (i := (↑k : Int)) 4 (by kernel_rfl) (by omega) (by omega) (by kernel_rfl) ?_
        refine y_elLoad 0 (i := k) (j := 0) (o := (0 : Nat) + (↑k : Int).toNat * (4 : Nat)) H rfl hel2 rfl (by first | rfl | omega) (by kernel_rfl) ?_
        refine x_sub (t := 22) (a := x1) (b := (1024 : Int)) ((x1) - ((1024 : Int))) (wu32' (by omega) (by omega) rfl) (by kernel_rfl) ?_
        refine x_conv (s := 22) (d := 3) (k := IntKind.u32) (k' := .i64) (a := x1 - (1024 : Int)) (x1 - (1024 : Int)) (by kernel_rfl) (by kernel_rfl) (w64' (by omega) (by omega) rfl) (by kernel_rfl) ?_
        refine x_sub (t := 3) (a := (32 : Int)) (b := (↑b : Int)) (((32 : Int)) - ((↑b : Int))) (w64' (by omega) (by omega) rfl) (by kernel_rfl) ?_
        refine x_shl (t := 3) (kd := IntKind.i64) (ky := IntKind.i64) (a := (1 : Int)) (y := (32 : Int) - (↑b : Int)) (by omega) (by kernel_rfl) ?_
        refine s_ifF (by kernel_rfl) u3 ?_
        refine y_idx (t := 71) (b := lb) (o := (0 : Nat)) (n := p5.all.length) (c := lc) (kd := IntKind.i64) (i := (↑k : Int)) 4 (by kernel_rfl) (by omega) (by omega) (by kernel_rfl) ?_
        refine y_elLoad 0 (i := k) (j := 3) (o := (0 : Nat) + (↑k : Int).toNat * (4 : Nat) + (3 : Nat)) H rfl hel2 rfl (by first | rfl | omega) (by kernel_rfl) ?_
        refine s_ifF (by kernel_rfl) u4 ?_
        -- stop: Req.loop
        refine s_loop (γ := Nat) 2 [21] (fun m => [.int .i64 m]) (fun m w' => Own w' F [rows (.slice (some ⟨lb, 0, none⟩) p5.all.length lc) 75 4 (p5.all.map encE), PoolA bl p5] ∧ m ≤ k) (fun m => k - m) 0 [.int .i64 0] (by kernel_rfl) (by kernel_rfl) rfl (by kernel_rfl) rfl ⟨H, Nat.zero_le _⟩ ?_
        clear H
        rintro m w21 ⟨H, hm⟩
        by_cases hmk : m < k
        · have v1 : decide ((m : Int) < k) = true := decide_eq_true (by omega)
          have hy := List.getElem?_eq_getElem (show m < p5.all.length by omega)
          generalize p5.all[m] = y at hy
          have hb1 := hxo m y hy hmk
          obtain ⟨y1, y2, y3, y4⟩ := y
          have hba : y1 < x1 := hb1.1
          have hbc : y2 ≠ x2 := hb1.2
          have hel3 : (p5.all.map encE)[m]? = some [.int .u32 y1, .int .i64 y2, .bool y3, .int .i64 y4] := by rw [List.getElem?_map, hy]; rfl
          have v2 : decide (y1 ≥ x1) = false := decide_eq_false (by omega)
          have v3 : (y2 == x2) = false := by simp [hbc]
          refine s_ifT (by kernel_rfl) v1 ?_
          refine s_draw (29 : Nat) 24 (by kernel_rfl) (by kernel_rfl) (by kernel_rfl) ?_
          replace H := Own.drew H
          refine y_idx (t := 71) (b := lb) (o := (0 : Nat)) (n := p5.all.length) (c := lc) (kd := IntKind.i64) (i := (↑m : Int)) 4 (by kernel_rfl) (by omega) (by omega) (by kernel_rfl) ?_
          refine y_elLoad 0 (i := m) (j := 0) (o := (0 : Nat) + (↑m : Int).toNat * (4 : Nat)) H rfl hel3 rfl (by first | rfl | omega) (by kernel_rfl) ?_
          refine y_idx (t := 71) (b := lb) (o := (0 : Nat)) (n := p5.all.length) (c := lc) (kd := IntKind.i64) (i := (↑k : Int)) 4 (by kernel_rfl) (by omega) (by omega) (by kernel_rfl) ?_
          refine y_elLoad 0 (i := k) (j := 0) (o := (0 : Nat) + (↑k : Int).toNat * (4 : Nat)) H rfl hel2 rfl (by first | rfl | omega) (by kernel_rfl) ?_
          refine s_ifF (by kernel_rfl) v2 ?_
          refine y_idx (t := 71) (b := lb) (o := (0 : Nat)) (n := p5.all.length) (c := lc) (kd := IntKind.i64) (i := (↑m : Int)) 4 (by kernel_rfl) (by omega) (by omega) (by kernel_rfl) ?_
          refine y_elLoad 0 (i := m) (j := 1) (o := (0 : Nat) + (↑m : Int).toNat * (4 : Nat) + (1 : Nat)) H rfl hel3 rfl (by first | rfl | omega) (by kernel_rfl) ?_
          refine y_idx (t := 71) (b := lb) (o := (0 : Nat)) (n := p5.all.length) (c := lc) (kd := IntKind.i64) (i := (↑k : Int)) 4 (by kernel_rfl) (by omega) (by omega) (by kernel_rfl) ?_
          refine y_elLoad 0 (i := k) (j := 1) (o := (0 : Nat) + (↑k : Int).toNat * (4 : Nat) + (1 : Nat)) H rfl hel2 rfl (by first | rfl | omega) (by kernel_rfl) ?_
          refine s_ifF (by kernel_rfl) v3 ?_
          refine x_add (t := 3) (a := (↑m : Int)) (b := (1 : Int)) (((m) + ((1 : Nat)) : Nat) : Int) (w64' (by omega) (by omega) (by omega)) (by kernel_rfl) ?_
          -- stop: Req.again (2 : Nat)
          exact s_again 2 (m + 1) [.int .i64 ((m + 1 : Nat) : Int)] rfl (by kernel_rfl) (by kernel_rfl) (by kernel_rfl) rfl ⟨H, hmk⟩ (by omega)
        · have v1 : decide ((m : Int) < k) = false := decide_eq_false (by omega)
          refine s_ifF (by kernel_rfl) v1 ?_
          refine x_add (t := 3) (a := (↑k : Int)) (b := (1 : Int)) (((k) + ((1 : Nat)) : Nat) : Int) (w64' (by omega) (by omega) (by omega)) (by kernel_rfl) ?_
          -- stop: Req.again (1 : Nat)
          exact s_again 1 (k + 1) [.int .i64 ((k + 1 : Nat) : Int)] rfl (by kernel_rfl) (by kernel_rfl) (by kernel_rfl) rfl ⟨H, hkl⟩ (by omega)
      · have u1 : decide ((k : Int) < p5.all.length) = false := decide_eq_false (by omega)
        refine s_ifF (by kernel_rfl) u1 ?_
        refine x_add (t := 3) (a := (↑i : Int)) (b := (1 : Int)) (((i) + ((1 : Nat)) : Nat) : Int) (w64' (by omega) (by omega) (by omega)) (by kernel_rfl) ?_
        -- stop: Req.again (0 : Nat)
        exact s_again 0 (i + 1, now + wt % 40, p5) [.int .i64 ((i + 1 : Nat) : Int), .int .i64 (now + wt % 40)] rfl (by kernel_rfl) (by kernel_rfl) (by kernel_rfl) rfl ⟨H.drop1, by show i + 1 ≤ 40; omega, by show 0 ≤ now + wt % 40; omega, by show now + wt % 40 ≤ 39 * ((i + 1 : Nat) : Int); omega, hps5⟩ (by show 40 - (i + 1) < 40 - i; omega)
  · by_cases gga : i < cs.length
    · have t1 : decide ((i : Int) < cs.length) = true := decide_eq_true (by omega)
      by_cases ggb : i < ws.length
      · have t2 : decide ((i : Int) < ws.length) = true := decide_eq_true (by omega)
        by_cases ggc : i < gs.length
        · have t3 : decide ((i : Int) < gs.length) = true := decide_eq_true (by omega)
          have t4 : decide ((i : Int) < 40) = false := decide_eq_false (by omega)
          refine s_ifT (by kernel_rfl) t1 ?_
          refine s_ifT (by kernel_rfl) t2 ?_
          refine s_ifT (by kernel_rfl) t3 ?_
          refine s_ifF (by kernel_rfl) t4 ?_
          -- stop: Req.done (Value.bool true)
          exact y_done (v := .bool true) (by kernel_rfl) _ rfl H
        · have t3 : decide ((i : Int) < gs.length) = false := decide_eq_false (by omega)
          refine s_ifT (by kernel_rfl) t1 ?_
          refine s_ifT (by kernel_rfl) t2 ?_
          refine s_ifF (by kernel_rfl) t3 ?_
          -- stop: Req.done (Value.bool true)
          exact y_done (v := .bool true) (by kernel_rfl) _ rfl H
      · have t2 : decide ((i : Int) < ws.length) = false := decide_eq_false (by omega)
        refine s_ifT (by kernel_rfl) t1 ?_
        refine s_ifF (by kernel_rfl) t2 ?_
        -- stop: Req.done (Value.bool true)
        exact y_done (v := .bool true) (by kernel_rfl) _ rfl H
    · have t1 : decide ((i : Int) < cs.length) = false := decide_eq_false (by omega)
      refine s_ifF (by kernel_rfl) t1 ?_
      -- stop: Req.done (Value.bool true)
      exact y_done (v := .bool true) (by kernel_rfl) _ rfl H
end Go.Proofs.Ytfknpeajihecdaa
