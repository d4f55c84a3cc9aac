import Derived.Test.YtfknpeajihecdaaLs5
namespace Go.Proofs.Ytfknpeajihecdaa
open Go.XM Go.RowKit Go.Ls
set_option maxRecDepth 100000

theorem set_same {α : Type} {l : List α} {k : Nat} {x : α} (h : l[k]? = some x) : l.set k x = l := by
  refine List.ext_getElem? fun i => ?_
  rw [List.getElem?_set]
  split
  · rename_i hk; subst hk; rw [h]; simp [(List.getElem?_eq_some_iff.1 h).1]
  · rfl

theorem gap_hit {first : Int} {k : Nat} {l : List EntV} {x : EntV} (hx : l[k]? = some x) (h : x.addr = (first + k) % 4294967296) : gapFrom first k (l.drop k) = gapFrom first (k + 1) (l.drop (k + 1)) := by
  have hk := (List.getElem?_eq_some_iff.1 hx)
  rw [List.drop_eq_getElem_cons hk.1, hk.2, gapFrom, if_pos h]
theorem gap_miss {first : Int} {k : Nat} {l : List EntV} {x : EntV} (hx : l[k]? = some x) (h : x.addr ≠ (first + k) % 4294967296) : gapFrom first k (l.drop k) = k := by
  have hk := (List.getElem?_eq_some_iff.1 hx)
  rw [List.drop_eq_getElem_cons hk.1, hk.2, gapFrom, if_neg h]
theorem gap_end {first : Int} {k : Nat} {l : List EntV} (h : l.length ≤ k) : gapFrom first k (l.drop k) = k := by
  rw [List.drop_eq_nil_of_le h, gapFrom]
theorem gap_le (first : Int) : ∀ (l : List EntV) (k : Nat), gapFrom first k l ≤ k + l.length
  | [], k => by simp [gapFrom]
  | x :: l, k => by
    unfold gapFrom
    split
    · have := gap_le first l (k + 1); simp; omega
    · simp

attribute [local irreducible] Ret beginV findV ownV passV liveL gapFrom in
set_option maxHeartbeats 400000 in
theorem ask_ret (p : PoolV) (c n : Int) (b : Nat) (F : Fm) (w : World) (H : Own w F [PoolA b p]) (hl : p.all.length ≤ 900) (hf0 : 0 ≤ p.first) (hf1 : p.first < 4294967296) (hm1 : p.many ≤ 1000) :
    Ret Try.prog 23 #[.pointer (some ⟨b, 0, none⟩), .int .i64 c, .int .i64 n] w (Post F fun v L' => v = .tuple #[.int .u32 (askV p c n).1.1, .int .i64 (askV p c n).1.2] ∧ L' = [PoolA b (askV p c n).2]) := by
  refine ret_of_G Try.func23 rfl rfl ?_
  by_cases hb : beginV p c n = 0
  · obtain ⟨q1, q2, q3, q4, q5⟩ := begin_ok hb
    have t1 : (beginV p c n != 0) = false := by rw [hb]; rfl
    cases hx : p.all[p.all.findIdx (isOf c n)]? with
    | some x =>
      have hlt := (List.getElem?_eq_some_iff.1 hx).1
      have e2 : findV p c n = (p.all.findIdx (isOf c n) : Nat) := by unfold findV idxV; rw [if_pos hlt]
      have e1 : askV p c n = ((x.addr, 0), passV { p with all := p.all.modify (p.all.findIdx (isOf c n)) fun x => if x.off then { x with til := n + 60 } else x } n) := by unfold askV; rw [if_neg (by omega), hx]
      rw [e1]
      generalize p.all.findIdx (isOf c n) = i at hx e1 e2 hlt
      have t3 : decide (((i : Nat) : Int) ≥ 0) = true := decide_eq_true (by omega)
      have hml : (p.all.modify i fun x => if x.off then { x with til := n + 60 } else x).length ≤ 1000 := by rw [List.length_modify]; omega
      obtain ⟨x1, x2, x3, x4⟩ := x
      have hel2 : (p.all.map encE)[i]? = some [.int .u32 x1, .int .i64 x2, .bool x3, .int .i64 x4] := by rw [List.getElem?_map, hx]; rfl
      refine y_new (c := #[Value.int IntKind.i64 n]) (T := 3) H (by kernel_rfl) (by kernel_rfl) (fun w1 b1 H => ?_)
      refine y_load 0 (o := 0) H rfl rfl (by kernel_rfl) ?_
      refine y_call (f := 41) (args := #[Value.pointer (some (Addr.mk b (0 : Nat) none)), Value.int IntKind.i64 c, Value.int IntKind.i64 n]) [1] (M := [pt b1 #[Value.int IntKind.i64 n] 3]) H rfl rfl rfl (by kernel_rfl) (by kernel_rfl) (by kernel_rfl) (fun F' hF H' => begin_ret p c n b F' _ H') ?_
      rintro v w2 L' ⟨rfl, rfl⟩ H
      simp only [List.cons_append, List.nil_append] at H
      refine s_ifF (by kernel_rfl) t1 ?_
      refine y_load 1 (o := 0) H rfl rfl (by kernel_rfl) ?_
      refine y_call (f := 42) (args := #[Value.pointer (some (Addr.mk b (0 : Nat) none)), Value.int IntKind.i64 c, Value.int IntKind.i64 n]) [0] (M := [pt b1 #[Value.int IntKind.i64 n] 3]) H rfl rfl rfl (by kernel_rfl) (by kernel_rfl) (by kernel_rfl) (fun F' hF H' => find_ret p c n b F' _ H' (by omega)) ?_
      rintro v w3 L' ⟨rfl, rfl⟩ H
      simp only [List.cons_append, List.nil_append] at H
      rw [e2]
      refine s_ifT (b := true) (by kernel_rfl) rfl ?_
      -- load b (3 : Nat): no piece
      obtain ⟨g, cap2, hcap2, H⟩ := openPoolN H (by omega)
      simp only [poolC] at H
      cases x3 with
      | true =>
        have hset := set_encE (f := fun x => if x.off then { x with til := n + 60 } else x) (c := [.int .u32 x1, .int .i64 x2, .bool true, .int .i64 (n + 60)]) hx rfl
        refine y_load 0 (o := 3) H rfl rfl (by kernel_rfl) ?_
        refine y_idx (t := 71) (b := g) (o := (0 : Nat)) (n := p.all.length) (c := cap2) (kd := IntKind.i64) (i := (↑i : Int)) 4 (by kernel_rfl) (by omega) (by omega) (by kernel_rfl) ?_
        refine y_elLoad 1 (i := i) (j := 2) (o := (0 : Nat) + (↑i : Int).toNat * (4 : Nat) + (2 : Nat)) H rfl hel2 rfl (by first | rfl | omega) (by kernel_rfl) ?_
        refine s_ifT (b := true) (by kernel_rfl) rfl ?_
        refine s_drawT (7 : Nat) 9 (by kernel_rfl) (by kernel_rfl) (by kernel_rfl) ?_
        replace H := Own.drew H
        refine y_load 0 (o := 3) H rfl rfl (by kernel_rfl) ?_
        refine y_load 2 (o := 0) H rfl rfl (by kernel_rfl) ?_
        refine x_add (t := 3) (a := n) (b := (60 : Int)) ((n) + ((60 : Int))) (w64' (by omega) (by omega) rfl) (by kernel_rfl) ?_
        refine y_idx (t := 71) (b := g) (o := (0 : Nat)) (n := p.all.length) (c := cap2) (kd := IntKind.i64) (i := (↑i : Int)) 4 (by kernel_rfl) (by omega) (by omega) (by kernel_rfl) ?_
        refine y_elStore 1 (i := i) (j := 3) (o := (0 : Nat) + (↑i : Int).toNat * (4 : Nat) + (3 : Nat)) (u := Value.int IntKind.i64 (n + (60 : Int))) (c' := [Value.int IntKind.u32 x1, Value.int IntKind.i64 x2, Value.bool true, Value.int IntKind.i64 (n + (60 : Int))]) H rfl hel2 (by decide) (by first | rfl | omega) (by kernel_rfl) (by kernel_rfl) rfl rfl (fun w4 H hE1 => ?_)
        simp only [List.set_cons_zero, List.set_cons_succ] at H
        try simp only [List.set_set] at H hE1
        refine y_load 0 (o := 3) H rfl rfl (by kernel_rfl) ?_
        refine y_idx (t := 71) (b := g) (o := (0 : Nat)) (n := p.all.length) (c := cap2) (kd := IntKind.i64) (i := (↑i : Int)) 4 (by kernel_rfl) (by omega) (by omega) (by kernel_rfl) ?_
        refine y_elLoad 1 (i := i) (j := 0) (o := (0 : Nat) + (↑i : Int).toNat * (4 : Nat)) H rfl hE1 rfl (by first | rfl | omega) (by kernel_rfl) ?_
        refine y_load 2 (o := 0) H rfl rfl (by kernel_rfl) ?_
        -- stop: Req.call (43 : Nat) (#[Value.pointer (some (Addr.mk b (0 : Nat) none)), Value.int IntKind.i64 n])
        rw [hset] at H
        replace H := shutPool (p := { p with all := p.all.modify i fun x => if x.off then { x with til := n + 60 } else x }) H rfl rfl
        refine y_call (f := 43) (args := #[Value.pointer (some (Addr.mk b (0 : Nat) none)), Value.int IntKind.i64 n]) [0] (M := [pt b1 #[Value.int IntKind.i64 n] 3]) H rfl rfl rfl (by kernel_rfl) (by kernel_rfl) (by kernel_rfl) (fun F' hF H' => pass_ret { p with all := p.all.modify i fun x => if x.off then { x with til := n + 60 } else x } n b F' _ H' hml) ?_
        rintro v w5 L' ⟨rfl, rfl⟩ H
        simp only [List.cons_append, List.nil_append] at H
        -- stop: Req.done (Value.tuple (#[Value.int IntKind.u32 x1, Value.int IntKind.i64 (0 : Int)]))
        exact y_done (by kernel_rfl) _ ⟨rfl, rfl⟩ H.only1
      | false =>
        have hset := set_encE (f := fun x => if x.off then { x with til := n + 60 } else x) (c := [.int .u32 x1, .int .i64 x2, .bool false, .int .i64 x4]) hx rfl
        rw [set_same hel2] at hset
        refine y_load 0 (o := 3) H rfl rfl (by kernel_rfl) ?_
        refine y_idx (t := 71) (b := g) (o := (0 : Nat)) (n := p.all.length) (c := cap2) (kd := IntKind.i64) (i := (↑i : Int)) 4 (by kernel_rfl) (by omega) (by omega) (by kernel_rfl) ?_
        refine y_elLoad 1 (i := i) (j := 2) (o := (0 : Nat) + (↑i : Int).toNat * (4 : Nat) + (2 : Nat)) H rfl hel2 rfl (by first | rfl | omega) (by kernel_rfl) ?_
        refine s_ifF (b := false) (by kernel_rfl) rfl ?_
        refine y_load 0 (o := 3) H rfl rfl (by kernel_rfl) ?_
        refine y_idx (t := 71) (b := g) (o := (0 : Nat)) (n := p.all.length) (c := cap2) (kd := IntKind.i64) (i := (↑i : Int)) 4 (by kernel_rfl) (by omega) (by omega) (by kernel_rfl) ?_
        refine y_elLoad 1 (i := i) (j := 0) (o := (0 : Nat) + (↑i : Int).toNat * (4 : Nat)) H rfl hel2 rfl (by first | rfl | omega) (by kernel_rfl) ?_
        refine y_load 2 (o := 0) H rfl rfl (by kernel_rfl) ?_
        -- stop: Req.call (43 : Nat) (#[Value.pointer (some (Addr.mk b (0 : Nat) none)), Value.int IntKind.i64 n])
        rw [hset] at H
        replace H := shutPool (p := { p with all := p.all.modify i fun x => if x.off then { x with til := n + 60 } else x }) H rfl rfl
        refine y_call (f := 43) (args := #[Value.pointer (some (Addr.mk b (0 : Nat) none)), Value.int IntKind.i64 n]) [0] (M := [pt b1 #[Value.int IntKind.i64 n] 3]) H rfl rfl rfl (by kernel_rfl) (by kernel_rfl) (by kernel_rfl) (fun F' hF H' => pass_ret { p with all := p.all.modify i fun x => if x.off then { x with til := n + 60 } else x } n b F' _ H' hml) ?_
        rintro v w4 L' ⟨rfl, rfl⟩ H
        simp only [List.cons_append, List.nil_append] at H
        -- stop: Req.done (Value.tuple (#[Value.int IntKind.u32 x1, Value.int IntKind.i64 (0 : Int)]))
        exact y_done (by kernel_rfl) _ ⟨rfl, rfl⟩ H.only1
    | none =>
      have e2 : findV p c n = -1 := by
        have := List.getElem?_eq_none_iff.1 hx
        unfold findV idxV; rw [if_neg (by omega)]
      have t3 : decide ((-1 : Int) ≥ 0) = false := by decide
      have hul : (liveL n p.all).length ≤ 900 := by unfold liveL; exact Nat.le_trans (List.length_filter_le _ _) hl
      have hgl := gap_le p.first (liveL n p.all) 0
      refine y_new (c := #[Value.int IntKind.i64 n]) (T := 3) H (by kernel_rfl) (by kernel_rfl) (fun w1 b1 H => ?_)
      refine y_load 0 (o := 0) H rfl rfl (by kernel_rfl) ?_
      refine y_call (f := 41) (args := #[Value.pointer (some (Addr.mk b (0 : Nat) none)), Value.int IntKind.i64 c, Value.int IntKind.i64 n]) [1] (M := [pt b1 #[Value.int IntKind.i64 n] 3]) H rfl rfl rfl (by kernel_rfl) (by kernel_rfl) (by kernel_rfl) (fun F' hF H' => begin_ret p c n b F' _ H') ?_
      rintro v w2 L' ⟨rfl, rfl⟩ H
      simp only [List.cons_append, List.nil_append] at H
      refine s_ifF (by kernel_rfl) t1 ?_
      refine y_load 1 (o := 0) H rfl rfl (by kernel_rfl) ?_
      refine y_call (f := 42) (args := #[Value.pointer (some (Addr.mk b (0 : Nat) none)), Value.int IntKind.i64 c, Value.int IntKind.i64 n]) [0] (M := [pt b1 #[Value.int IntKind.i64 n] 3]) H rfl rfl rfl (by kernel_rfl) (by kernel_rfl) (by kernel_rfl) (fun F' hF H' => find_ret p c n b F' _ H' (by omega)) ?_
      rintro v w3 L' ⟨rfl, rfl⟩ H
      simp only [List.cons_append, List.nil_append] at H
      rw [e2]
      refine s_ifF (b := false) (by kernel_rfl) rfl ?_
      -- load b (3 : Nat): no piece
      obtain ⟨a, cap2, hcap2, H⟩ := openPool H
      simp only [poolC] at H
      refine y_load 0 (o := 3) H rfl rfl (by kernel_rfl) ?_
      refine y_call (f := 45) (args := #[Value.slice a p.all.length cap2]) [1] (M := [pt b #[Value.int IntKind.u32 p.first, Value.int IntKind.i64 p.many, Value.int IntKind.i64 p.time, Value.slice a p.all.length cap2, Value.int IntKind.i64 p.now] (89 : TypeId), pt b1 #[Value.int IntKind.i64 n] 3]) H rfl rfl rfl (by kernel_rfl) (by kernel_rfl) (by kernel_rfl) (fun F' hF H' => clone_ret p.all (.slice a p.all.length cap2) F' _ H' (by omega)) ?_
      rintro v w4 L' rfl H
      simp only [List.cons_append, List.nil_append] at H
      obtain ⟨ra, rc, rfl, hrc, _⟩ := Own.shape 0 H rfl
      rw [List.length_map] at H
      -- stop: Req.call (44 : Nat) (#[Value.slice ra (List.map encE p.all).length rc, Value.func (Fn.func (46 : Nat)) (#[]) (#[Value.pointer (some (Addr.mk b1 (0 : Nat) none))])])
      -- [[1] | clone_ret p.all (.slice a p.all.length cap2) F' _ H' (] at [refine y_call (f := 44) (args := #[Value.slice ra (List.map encE p.all).]: Type mismatch   Go.Proofs.Ytfknpeajihecdaa.clone_ret p.all (Go.Value.slice a p.all.length cap2) F' w4 H' ?m.2213 has type   Go.XM.Ret Go.Proofs.Try.prog 45 #[Go.Value.slice a p.all.length cap2] w4     (Go.XM.Post F' fun v' L' =>       L' =         [Go.XM.rows v' 75 4 (List.map Go.Proofs.Ytfknpeajihecdaa.encE p.all),           Go.XM.rows (Go.Value.slice a p.all.length cap2) 75 4 (List.map Go.Proofs.Ytfknpeajihecdaa.encE p.all)]) but is expected to have type   Go.XM.Ret Go.Proofs.Try.prog 44     #
      have hmu : ((liveL n p.all).map encE).length = (liveL n p.all).length := List.length_map ..
      have hU : (p.all.filter fun x => !overB n x) = liveL n p.all := by unfold liveL; rfl
      refine y_call (f := 44) (args := #[Value.slice ra (List.map encE p.all).length rc, Value.func (Fn.func (46 : Nat)) (#[]) (#[Value.pointer (some (Addr.mk b1 (0 : Nat) none))])]) [0, 3] (M := [rows (Value.slice a p.all.length cap2) 75 (4 : Nat) (List.map encE p.all), pt b #[Value.int IntKind.u32 p.first, Value.int IntKind.i64 p.many, Value.int IntKind.i64 p.time, Value.slice a p.all.length cap2, Value.int IntKind.i64 p.now] (89 : TypeId)]) H rfl rfl rfl (by kernel_rfl) (by kernel_rfl) (by kernel_rfl) (fun F' hF H' => deleteFunc_ret p.all (.slice ra (p.all.map encE).length rc) 46 _ _ (overB n) (by kernel_rfl) F' _ (by rw [List.length_map]; exact H') (ask_ans n b1 F') (by omega)) ?_
      rintro v w5 L' rfl H
      simp only [List.cons_append, List.nil_append] at H
      rw [hU] at H
      obtain ⟨ua, uc, rfl, huc, _⟩ := Own.shape 0 H rfl
      rw [hmu] at H huc ⊢
      -- stop: Req.loop
      have e1 : askV p c n = if ((gapFrom p.first 0 (liveL n p.all) : Nat) : Int) ≥ p.many then ((0, 5), p)
          else (((p.first + gapFrom p.first 0 (liveL n p.all)) % 4294967296, 0), { p with all := insertAt (liveL n p.all) (gapFrom p.first 0 (liveL n p.all)) ⟨(p.first + gapFrom p.first 0 (liveL n p.all)) % 4294967296, c, true, n + 60⟩, now := n }) := by
        unfold askV; rw [if_neg (by omega), hx]
      rw [e1]
      generalize liveL n p.all = U at H hul hgl huc hmu
      refine s_loop (γ := Nat) 0 [11] (fun k => [.int .i64 k]) (fun k w' => Own w' F [rows (.slice ua U.length uc) 75 4 (U.map encE), pt b1 #[.int .i64 n] 3, rows (.slice a p.all.length cap2) 75 4 (p.all.map encE), pt b #[.int .u32 p.first, .int .i64 p.many, .int .i64 p.time, .slice a p.all.length cap2, .int .i64 p.now] 89] ∧ k ≤ U.length ∧ gapFrom p.first 0 U = gapFrom p.first k (U.drop k)) (fun k => U.length - k) 0 [.int .i64 0] (by kernel_rfl) (by kernel_rfl) rfl (by kernel_rfl) rfl ⟨H, Nat.zero_le _, by rw [List.drop_zero]⟩ ?_
      clear H
      rintro k w9 ⟨H, hk, hg⟩
      by_cases hkU : k < U.length
      · have t4 : decide ((k : Int) < U.length) = true := decide_eq_true (by omega)
        have hel := List.getElem?_eq_getElem hkU
        have hit := gap_hit (first := p.first) hel
        have miss := gap_miss (first := p.first) hel
        generalize U[k] = x at hel hit miss
        obtain ⟨x1, x2, x3, x4⟩ := x
        have hel2 : (U.map encE)[k]? = some [.int .u32 x1, .int .i64 x2, .bool x3, .int .i64 x4] := by rw [List.getElem?_map, hel]; rfl
        obtain ⟨g, cap3, hsv, _, _⟩ := Own.shapeN 0 H rfl (by omega)
        rw [hmu] at hsv
        cases hsv
        by_cases hq : x1 = (p.first + (k : Int)) % 4294967296
        · have t5 : (x1 == IntKind.u32.wrap (p.first + (k : Int))) = true := by rw [u32_wrap]; simp [hq]
          refine s_draw (13 : Nat) 19 (by kernel_rfl) (by kernel_rfl) (by kernel_rfl) ?_
          replace H := Own.drew H
          refine s_ifT (by kernel_rfl) t4 ?_
          refine y_idx (t := 71) (b := g) (o := (0 : Nat)) (n := U.length) (c := uc) (kd := IntKind.i64) (i := (↑k : Int)) 4 (by kernel_rfl) (by omega) (by omega) (by kernel_rfl) ?_
          refine y_elLoad 0 (i := k) (j := 0) (o := (0 : Nat) + (↑k : Int).toNat * (4 : Nat)) H rfl hel2 rfl (by first | rfl | omega) (by kernel_rfl) ?_
          refine y_load 3 (o := 0) H rfl rfl (by kernel_rfl) ?_
          refine x_conv (s := 3) (d := 22) (k := IntKind.i64) (k' := .u32) (a := (↑k : Int)) ((↑k : Int)) (by kernel_rfl) (by kernel_rfl) (wu32' (by omega) (by omega) rfl) (by kernel_rfl) ?_
          refine x_add (t := 22) (a := p.first) (b := (↑k : Int)) (IntKind.u32.wrap ((p.first) + ((↑k : Int)))) rfl (by kernel_rfl) ?_
          refine s_ifT (by kernel_rfl) t5 ?_
          refine x_add (t := 3) (a := (↑k : Int)) (b := (1 : Int)) (((k) + ((1 : Nat)) : Nat) : Int) (w64' (by omega) (by omega) (by omega)) (by kernel_rfl) ?_
          -- stop: Req.again (0 : Nat)
          exact s_again 0 (k + 1) [.int .i64 ((k + 1 : Nat) : Int)] rfl (by kernel_rfl) (by kernel_rfl) (by kernel_rfl) rfl ⟨H, hkU, hg.trans (hit hq)⟩ (by omega)
        · have t5 : (x1 == IntKind.u32.wrap (p.first + (k : Int))) = false := by rw [u32_wrap]; simp [hq]
          have hgk : gapFrom p.first 0 U = k := by rw [hg]; exact miss hq
          rw [hgk]
          by_cases hM : (k : Int) ≥ p.many
          · have t6 : decide ((k : Int) ≥ p.many) = true := decide_eq_true hM
            rw [if_pos hM]
            refine s_draw (13 : Nat) 19 (by kernel_rfl) (by kernel_rfl) (by kernel_rfl) ?_
            replace H := Own.drew H
            refine s_ifT (by kernel_rfl) t4 ?_
            refine y_idx (t := 71) (b := g) (o := (0 : Nat)) (n := U.length) (c := uc) (kd := IntKind.i64) (i := (↑k : Int)) 4 (by kernel_rfl) (by omega) (by omega) (by kernel_rfl) ?_
            refine y_elLoad 0 (i := k) (j := 0) (o := (0 : Nat) + (↑k : Int).toNat * (4 : Nat)) H rfl hel2 rfl (by first | rfl | omega) (by kernel_rfl) ?_
            refine y_load 3 (o := 0) H rfl rfl (by kernel_rfl) ?_
            refine x_conv (s := 3) (d := 22) (k := IntKind.i64) (k' := .u32) (a := (↑k : Int)) ((↑k : Int)) (by kernel_rfl) (by kernel_rfl) (wu32' (by omega) (by omega) rfl) (by kernel_rfl) ?_
            refine x_add (t := 22) (a := p.first) (b := (↑k : Int)) (IntKind.u32.wrap ((p.first) + ((↑k : Int)))) rfl (by kernel_rfl) ?_
            refine s_ifF (by kernel_rfl) t5 ?_
            refine y_load 3 (o := 1) H rfl rfl (by kernel_rfl) ?_
            refine s_ifT (by kernel_rfl) t6 ?_
            -- stop: Req.done (Value.tuple (#[Value.int IntKind.u32 (0 : Int), Value.int IntKind.i64 (5 : Int)]))
            exact y_done (by kernel_rfl) _ ⟨rfl, rfl⟩ (shutPool (Own.only2 (H.pick [3, 2, 0, 1] rfl)) rfl rfl).only1
          · have t6 : decide ((k : Int) ≥ p.many) = false := decide_eq_false hM
            rw [if_neg hM]
            refine s_draw (13 : Nat) 19 (by kernel_rfl) (by kernel_rfl) (by kernel_rfl) ?_
            replace H := Own.drew H
            refine s_ifT (by kernel_rfl) t4 ?_
            refine y_idx (t := 71) (b := g) (o := (0 : Nat)) (n := U.length) (c := uc) (kd := IntKind.i64) (i := (↑k : Int)) 4 (by kernel_rfl) (by omega) (by omega) (by kernel_rfl) ?_
            refine y_elLoad 0 (i := k) (j := 0) (o := (0 : Nat) + (↑k : Int).toNat * (4 : Nat)) H rfl hel2 rfl (by first | rfl | omega) (by kernel_rfl) ?_
            refine y_load 3 (o := 0) H rfl rfl (by kernel_rfl) ?_
            refine x_conv (s := 3) (d := 22) (k := IntKind.i64) (k' := .u32) (a := (↑k : Int)) ((↑k : Int)) (by kernel_rfl) (by kernel_rfl) (wu32' (by omega) (by omega) rfl) (by kernel_rfl) ?_
            refine x_add (t := 22) (a := p.first) (b := (↑k : Int)) (IntKind.u32.wrap ((p.first) + ((↑k : Int)))) rfl (by kernel_rfl) ?_
            refine s_ifF (by kernel_rfl) t5 ?_
            refine y_load 3 (o := 1) H rfl rfl (by kernel_rfl) ?_
            refine s_ifF (by kernel_rfl) t6 ?_
            refine y_drawP (17 : Nat) [0, 1, 2] [3, 4, 5, 6, 7, 8, 9, 10, 11, 12, 13] 14 [15, 16, 17, 18] H (by kernel_rfl) (by kernel_rfl) (by kernel_rfl) (by kernel_rfl) ?_
            refine y_qload (a := ⟨b, 0, none⟩) (by kernel_rfl) (by kernel_rfl) (fun w' H => Own.cell 3 H rfl rfl) ?_
            refine h_conv (s := 3) (d := 22) (k := IntKind.i64) (k' := .u32) (a := (↑k : Int)) ((↑k : Int)) (by kernel_rfl) (by kernel_rfl) (wu32' (by omega) (by omega) rfl) (by kernel_rfl) (by kernel_rfl) ?_
            refine h_add (t := 22) (a := p.first) (b := (↑k : Int)) (IntKind.u32.wrap ((p.first) + ((↑k : Int)))) rfl (by kernel_rfl) (by kernel_rfl) ?_
            refine y_qload (a := ⟨b1, 0, none⟩) (by kernel_rfl) (by kernel_rfl) (fun w' H => Own.cell 1 H rfl rfl) ?_
            refine h_add (t := 3) (a := n) (b := (60 : Int)) ((n) + ((60 : Int))) (w64' (by omega) (by omega) rfl) (by kernel_rfl) (by kernel_rfl) ?_
            refine y_qend (by kernel_rfl) (fun w10 H => ?_)
            refine y_new (c := #[Value.int IntKind.u32 (IntKind.u32.wrap (p.first + (↑k : Int))), Value.int IntKind.i64 c, Value.bool true, Value.int IntKind.i64 (n + (60 : Int))]) (T := 75) H (by kernel_rfl) (by kernel_rfl) (fun w11 b2 H => ?_)
            replace H := Own.asRows [encE ⟨IntKind.u32.wrap (p.first + (k : Int)), c, true, n + 60⟩] 4 H (by intro x hx; simp at hx; subst hx; rfl) rfl (by simp [maxLen])
            refine y_call (f := 47) (args := #[Value.slice (some (Addr.mk g (0 : Nat) none)) U.length uc, Value.int IntKind.i64 (↑k : Int), Value.slice (some (Addr.mk b2 (0 : Nat) none)) (1 : Nat) (1 : Nat)]) [1, 0] (M := [pt b1 #[Value.int IntKind.i64 n] (3 : TypeId), rows (Value.slice a p.all.length cap2) 75 (4 : Nat) (List.map encE p.all), pt b #[Value.int IntKind.u32 p.first, Value.int IntKind.i64 p.many, Value.int IntKind.i64 p.time, Value.slice a p.all.length cap2, Value.int IntKind.i64 p.now] (89 : TypeId)]) H rfl rfl rfl (by kernel_rfl) (by kernel_rfl) (by kernel_rfl) (fun F' hF H' => insert_ret U ⟨IntKind.u32.wrap (p.first + (k : Int)), c, true, n + 60⟩ k _ _ F' _ H' (by omega) (by omega)) ?_
            rintro v w12 L' rfl H
            simp only [List.cons_append, List.nil_append] at H
            obtain ⟨ia, ic, rfl, hic, _⟩ := Own.shape 0 H rfl
            refine y_store 3 (o := 3) (v := Value.slice ia (List.map encE (insertAt U k (EntV.mk (IntKind.u32.wrap (p.first + (↑k : Int))) c true (n + (60 : Int))))).length ic) (c' := #[Value.int IntKind.u32 p.first, Value.int IntKind.i64 p.many, Value.int IntKind.i64 p.time, Value.slice ia (List.map encE (insertAt U k (EntV.mk (IntKind.u32.wrap (p.first + (↑k : Int))) c true (n + (60 : Int))))).length ic, Value.int IntKind.i64 p.now]) H rfl (by kernel_rfl) (by kernel_rfl) (by kernel_rfl) rfl (by kernel_rfl) (fun w13 H => ?_)
            simp only [List.set_cons_zero, List.set_cons_succ] at H
            refine y_load 1 (o := 0) H rfl rfl (by kernel_rfl) ?_
            refine y_store 3 (o := 4) (v := Value.int IntKind.i64 n) (c' := #[Value.int IntKind.u32 p.first, Value.int IntKind.i64 p.many, Value.int IntKind.i64 p.time, Value.slice ia (List.map encE (insertAt U k (EntV.mk (IntKind.u32.wrap (p.first + (↑k : Int))) c true (n + (60 : Int))))).length ic, Value.int IntKind.i64 n]) H rfl (by kernel_rfl) (by kernel_rfl) (by kernel_rfl) rfl (by kernel_rfl) (fun w14 H => ?_)
            simp only [List.set_cons_zero, List.set_cons_succ] at H
            refine y_load 3 (o := 0) H rfl rfl (by kernel_rfl) ?_
            refine x_conv (s := 3) (d := 22) (k := IntKind.i64) (k' := .u32) (a := (↑k : Int)) ((↑k : Int)) (by kernel_rfl) (by kernel_rfl) (wu32' (by omega) (by omega) rfl) (by kernel_rfl) ?_
            refine x_add (t := 22) (a := p.first) (b := (↑k : Int)) (IntKind.u32.wrap ((p.first) + ((↑k : Int)))) rfl (by kernel_rfl) ?_
            -- stop: Req.done (Value.tuple (#[Value.int IntKind.u32 (IntKind.u32.wrap (p.first + (↑k : Int))), Value.int IntKind.i64 (0 : Int)]))
            rw [u32_wrap] at H
            exact y_done (v := .tuple #[.int .u32 (IntKind.u32.wrap (p.first + (k : Int))), .int .i64 0]) (by kernel_rfl) _ ⟨by rw [u32_wrap], rfl⟩ (shutPool (Own.only2 (H.pick [3, 0, 1, 2] rfl)) rfl rfl).only1
      · have t4 : decide ((k : Int) < U.length) = false := decide_eq_false (by omega)
        have hgk : gapFrom p.first 0 U = k := by rw [hg]; exact gap_end (by omega)
        rw [hgk]
        by_cases hM : (k : Int) ≥ p.many
        · have t6 : decide ((k : Int) ≥ p.many) = true := decide_eq_true hM
          rw [if_pos hM]
          refine s_draw (13 : Nat) 19 (by kernel_rfl) (by kernel_rfl) (by kernel_rfl) ?_
          replace H := Own.drew H
          refine s_ifF (by kernel_rfl) t4 ?_
          refine y_load 3 (o := 1) H rfl rfl (by kernel_rfl) ?_
          refine s_ifT (by kernel_rfl) t6 ?_
          -- stop: Req.done (Value.tuple (#[Value.int IntKind.u32 (0 : Int), Value.int IntKind.i64 (5 : Int)]))
          exact y_done (by kernel_rfl) _ ⟨rfl, rfl⟩ (shutPool (Own.only2 (H.pick [3, 2, 0, 1] rfl)) rfl rfl).only1
        · have t6 : decide ((k : Int) ≥ p.many) = false := decide_eq_false hM
          rw [if_neg hM]
          refine s_draw (13 : Nat) 19 (by kernel_rfl) (by kernel_rfl) (by kernel_rfl) ?_
          replace H := Own.drew H
          refine s_ifF (by kernel_rfl) t4 ?_
          refine y_load 3 (o := 1) H rfl rfl (by kernel_rfl) ?_
          refine s_ifF (by kernel_rfl) t6 ?_
          refine y_drawP (17 : Nat) [0, 1, 2] [3, 4, 5, 6, 7, 8, 9, 10, 11, 12, 13] 14 [15, 16, 17, 18] H (by kernel_rfl) (by kernel_rfl) (by kernel_rfl) (by kernel_rfl) ?_
          refine y_qload (a := ⟨b, 0, none⟩) (by kernel_rfl) (by kernel_rfl) (fun w' H => Own.cell 3 H rfl rfl) ?_
          refine h_conv (s := 3) (d := 22) (k := IntKind.i64) (k' := .u32) (a := (↑k : Int)) ((↑k : Int)) (by kernel_rfl) (by kernel_rfl) (wu32' (by omega) (by omega) rfl) (by kernel_rfl) (by kernel_rfl) ?_
          refine h_add (t := 22) (a := p.first) (b := (↑k : Int)) (IntKind.u32.wrap ((p.first) + ((↑k : Int)))) rfl (by kernel_rfl) (by kernel_rfl) ?_
          refine y_qload (a := ⟨b1, 0, none⟩) (by kernel_rfl) (by kernel_rfl) (fun w' H => Own.cell 1 H rfl rfl) ?_
          refine h_add (t := 3) (a := n) (b := (60 : Int)) ((n) + ((60 : Int))) (w64' (by omega) (by omega) rfl) (by kernel_rfl) (by kernel_rfl) ?_
          refine y_qend (by kernel_rfl) (fun w10 H => ?_)
          refine y_new (c := #[Value.int IntKind.u32 (IntKind.u32.wrap (p.first + (↑k : Int))), Value.int IntKind.i64 c, Value.bool true, Value.int IntKind.i64 (n + (60 : Int))]) (T := 75) H (by kernel_rfl) (by kernel_rfl) (fun w11 b2 H => ?_)
          replace H := Own.asRows [encE ⟨IntKind.u32.wrap (p.first + (k : Int)), c, true, n + 60⟩] 4 H (by intro x hx; simp at hx; subst hx; rfl) rfl (by simp [maxLen])
          refine y_call (f := 47) (args := #[Value.slice ua U.length uc, Value.int IntKind.i64 (↑k : Int), Value.slice (some (Addr.mk b2 (0 : Nat) none)) (1 : Nat) (1 : Nat)]) [1, 0] (M := [pt b1 #[Value.int IntKind.i64 n] (3 : TypeId), rows (Value.slice a p.all.length cap2) 75 (4 : Nat) (List.map encE p.all), pt b #[Value.int IntKind.u32 p.first, Value.int IntKind.i64 p.many, Value.int IntKind.i64 p.time, Value.slice a p.all.length cap2, Value.int IntKind.i64 p.now] (89 : TypeId)]) H rfl rfl rfl (by kernel_rfl) (by kernel_rfl) (by kernel_rfl) (fun F' hF H' => insert_ret U ⟨IntKind.u32.wrap (p.first + (k : Int)), c, true, n + 60⟩ k _ _ F' _ H' (by omega) (by omega)) ?_
          rintro v w12 L' rfl H
          simp only [List.cons_append, List.nil_append] at H
          obtain ⟨ia, ic, rfl, hic, _⟩ := Own.shape 0 H rfl
          refine y_store 3 (o := 3) (v := Value.slice ia (List.map encE (insertAt U k (EntV.mk (IntKind.u32.wrap (p.first + (↑k : Int))) c true (n + (60 : Int))))).length ic) (c' := #[Value.int IntKind.u32 p.first, Value.int IntKind.i64 p.many, Value.int IntKind.i64 p.time, Value.slice ia (List.map encE (insertAt U k (EntV.mk (IntKind.u32.wrap (p.first + (↑k : Int))) c true (n + (60 : Int))))).length ic, Value.int IntKind.i64 p.now]) H rfl (by kernel_rfl) (by kernel_rfl) (by kernel_rfl) rfl (by kernel_rfl) (fun w13 H => ?_)
          simp only [List.set_cons_zero, List.set_cons_succ] at H
          refine y_load 1 (o := 0) H rfl rfl (by kernel_rfl) ?_
          refine y_store 3 (o := 4) (v := Value.int IntKind.i64 n) (c' := #[Value.int IntKind.u32 p.first, Value.int IntKind.i64 p.many, Value.int IntKind.i64 p.time, Value.slice ia (List.map encE (insertAt U k (EntV.mk (IntKind.u32.wrap (p.first + (↑k : Int))) c true (n + (60 : Int))))).length ic, Value.int IntKind.i64 n]) H rfl (by kernel_rfl) (by kernel_rfl) (by kernel_rfl) rfl (by kernel_rfl) (fun w14 H => ?_)
          simp only [List.set_cons_zero, List.set_cons_succ] at H
          refine y_load 3 (o := 0) H rfl rfl (by kernel_rfl) ?_
          refine x_conv (s := 3) (d := 22) (k := IntKind.i64) (k' := .u32) (a := (↑k : Int)) ((↑k : Int)) (by kernel_rfl) (by kernel_rfl) (wu32' (by omega) (by omega) rfl) (by kernel_rfl) ?_
          refine x_add (t := 22) (a := p.first) (b := (↑k : Int)) (IntKind.u32.wrap ((p.first) + ((↑k : Int)))) rfl (by kernel_rfl) ?_
          -- stop: Req.done (Value.tuple (#[Value.int IntKind.u32 (IntKind.u32.wrap (p.first + (↑k : Int))), Value.int IntKind.i64 (0 : Int)]))
          rw [u32_wrap] at H
          exact y_done (v := .tuple #[.int .u32 (IntKind.u32.wrap (p.first + (k : Int))), .int .i64 0]) (by kernel_rfl) _ ⟨by rw [u32_wrap], rfl⟩ (shutPool (Own.only2 (H.pick [3, 0, 1, 2] rfl)) rfl rfl).only1
  · have t1 : (beginV p c n != 0) = true := by simp [hb]
    have e1 : askV p c n = ((0, beginV p c n), p) := by unfold askV; rw [if_pos hb]
    rw [e1]
    refine y_new (c := #[Value.int IntKind.i64 n]) (T := 3) H (by kernel_rfl) (by kernel_rfl) (fun w1 b1 H => ?_)
    refine y_load 0 (o := 0) H rfl rfl (by kernel_rfl) ?_
    refine y_call (f := 41) (args := #[Value.pointer (some (Addr.mk b (0 : Nat) none)), Value.int IntKind.i64 c, Value.int IntKind.i64 n]) [1] (M := [pt b1 #[Value.int IntKind.i64 n] 3]) H rfl rfl rfl (by kernel_rfl) (by kernel_rfl) (by kernel_rfl) (fun F' hF H' => begin_ret p c n b F' _ H') ?_
    rintro v w2 L' ⟨rfl, rfl⟩ H
    simp only [List.cons_append, List.nil_append] at H
    refine s_ifT (by kernel_rfl) t1 ?_
    -- stop: Req.done (Value.tuple (#[Value.int IntKind.u32 (0 : Int), Value.int IntKind.i64 (beginV p c n)]))
    exact y_done (by kernel_rfl) _ ⟨rfl, rfl⟩ H.only1
end Go.Proofs.Ytfknpeajihecdaa
