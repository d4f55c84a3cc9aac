import Derived.Test.YtfknpeajihecdaaDo1
namespace Go.Proofs.Ytfknpeajihecdaa
open Go.XM Go.RowKit Go.Dg Go.Do
set_option maxRecDepth 100000

theorem decodeOk (a b x y : Nat) (s : ByteArray) (ha : a < 4294967296) (hb : b < 4294967296) (hx : x < 65536) (hy : y < 65536) (hs : s.size ≤ 1024) (F : Fm) (w : World) (H : Own w F []) :
    Ret Try.prog 13 #[.int .u32 a, .int .u32 b, .string (encS a b x y s)] w (Post F fun v L' => v = .tuple #[.agg #[.int .i64 x, .int .i64 y, .string s], .int .i64 0] ∧ L' = []) := by
  have h := Old.decode_ret a b (encS a b x y s) ha hb (by rw [enc_size]; omega) w
  rw [dec_enc hx hy hs] at h
  exact of_old H h
theorem encodeOk (a b x y : Nat) (s : ByteArray) (ha : a < 4294967296) (hb : b < 4294967296) (hx : x ≤ 65535) (hy : y ≤ 65535) (hs : s.size ≤ 1024) (F : Fm) (w : World) (H : Own w F []) :
    Ret Try.prog 12 #[.int .u32 a, .int .u32 b, .agg #[.int .i64 x, .int .i64 y, .string s]] w (Post F fun v L' => v = .tuple #[.string (encS a b x y s), .int .i64 0] ∧ L' = []) :=
  of_old H (Old.encode_ok a b x y s ha hb hx hy hs w)

attribute [local irreducible] Ret encS in
set_option maxHeartbeats 400000 in
theorem tin_ret (a b x y : Nat) (s : ByteArray) (ha : a < 4294967296) (hb : b < 4294967296) (hx : x < 65536) (hy : y < 65536) (hs : s.size ≤ 1024) (tb : Nat) (got : List GotV) (hg : got.length ≤ 16) (F : Fm) (w : World) (H : Own w F [TabA tb y got]) :
    Ret Try.prog 27 #[.pointer (some ⟨tb, 0, none⟩), .int .u32 a, .int .u32 b, .string (encS a b x y s)] w (Post F fun v L' => v = .int .i64 (if got.length < 16 then 0 else 5) ∧ L' = [TabA tb y (if got.length < 16 then got ++ [⟨a, x, s⟩] else got)]) := by
  refine ret_of_G Try.func27 rfl rfl ?_
  have hel : ∀ (gv : Value), ([[.int .i64 (y : Int), gv]] : List (List Value))[0]? = some [.int .i64 (y : Int), gv] := fun _ => rfl
  refine y_call (f := 13) (args := #[Value.int IntKind.u32 (↑a : Int), Value.int IntKind.u32 (↑b : Int), Value.string (encS a b x y s)]) [] (M := [TabA tb (↑y : Int) got]) H rfl rfl rfl (by kernel_rfl) (by kernel_rfl) (by kernel_rfl) (fun F' hF H' => decodeOk a b x y s ha hb hx hy hs F' _ H') ?_
  rintro v w1 L' ⟨rfl, rfl⟩ H
  simp only [List.cons_append, List.nil_append] at H
  refine y_new (c := #[Value.int IntKind.i64 (0 : Int), Value.int IntKind.i64 (0 : Int), Value.string (ByteArray.mk #[])]) (T := 24) H (by kernel_rfl) (by kernel_rfl) (fun w2 b1 H => ?_)
  refine y_store 0 (o := 0) (v := Value.int IntKind.i64 (↑x : Int)) (c' := #[Value.int IntKind.i64 (↑x : Int), Value.int IntKind.i64 (0 : Int), Value.string (ByteArray.mk #[])]) H rfl (by kernel_rfl) (by kernel_rfl) (by kernel_rfl) rfl (by kernel_rfl) (fun w3 H => ?_)
  simp only [List.set_cons_zero, List.set_cons_succ] at H
  refine y_store 0 (o := 1) (v := Value.int IntKind.i64 (↑y : Int)) (c' := #[Value.int IntKind.i64 (↑x : Int), Value.int IntKind.i64 (↑y : Int), Value.string (ByteArray.mk #[])]) H rfl (by kernel_rfl) (by kernel_rfl) (by kernel_rfl) rfl (by kernel_rfl) (fun w4 H => ?_)
  simp only [List.set_cons_zero, List.set_cons_succ] at H
  refine y_store 0 (o := 2) (v := Value.string s) (c' := #[Value.int IntKind.i64 (↑x : Int), Value.int IntKind.i64 (↑y : Int), Value.string s]) H rfl (by kernel_rfl) (by kernel_rfl) (by kernel_rfl) rfl (by kernel_rfl) (fun w5 H => ?_)
  simp only [List.set_cons_zero, List.set_cons_succ] at H
  refine s_ifF (b := false) (by kernel_rfl) rfl ?_
  refine y_load 0 (o := 1) H rfl rfl (by kernel_rfl) ?_
  refine y_call (f := 50) (args := #[Value.pointer (some (Addr.mk tb (0 : Nat) none)), Value.int IntKind.i64 (↑y : Int)]) [1] (M := [pt b1 #[Value.int IntKind.i64 (↑x : Int), Value.int IntKind.i64 (↑y : Int), Value.string s] 24]) H rfl rfl rfl (by kernel_rfl) (by kernel_rfl) (by kernel_rfl) (fun F' hF H' => find1t_ret y (by omega) (by omega) tb got F' _ H') ?_
  rintro v w6 L' ⟨rfl, rfl⟩ H
  simp only [List.cons_append, List.nil_append] at H
  refine s_ifF (b := false) (by kernel_rfl) rfl ?_
  -- load tb (0 : Nat): no piece
  obtain ⟨q, qc, ga, gc, hgc, H⟩ := openTab H
  have hel2 := hel (.slice ga got.length gc)
  have hml : (got.map encG).length = got.length := List.length_map ..
  by_cases hfull : got.length < 16
  · have t1 : decide ((got.length : Int) ≥ 16) = false := decide_eq_false (by omega)
    rw [if_pos hfull, if_pos hfull]
    refine y_load 0 (o := 0) H rfl rfl (by kernel_rfl) ?_
    refine y_idx (t := 96) (b := q) (o := (0 : Nat)) (n := (1 : Nat)) (c := qc) (kd := IntKind.i64) (i := (0 : Int)) 2 (by kernel_rfl) (by omega) (by omega) (by kernel_rfl) ?_
    refine y_elLoad 1 (i := (0 : Nat)) (j := 1) (o := (1 : Nat)) H rfl hel2 rfl (by first | rfl | omega) (by kernel_rfl) ?_
    refine s_ifF (by kernel_rfl) t1 ?_
    refine y_drawS (L0 := [pt tb #[Value.slice (some (Addr.mk q (0 : Nat) none)) (1 : Nat) qc] (98 : TypeId), rows (Value.slice (some (Addr.mk q (0 : Nat) none)) (1 : Nat) qc) 102 (2 : Nat) [[Value.int IntKind.i64 (↑y : Int), Value.slice ga got.length gc]], pt b1 #[Value.int IntKind.i64 (↑x : Int), Value.int IntKind.i64 (↑y : Int), Value.string s] 24]) (9 : Nat) 0 [0, 1, 2, 3, 4, 5, 6, 7, 8, 9, 10, 11, 12, 13, 14, 15, 17, 18] [16, 19, 20, 21, 22, 23, 24] [0, 1, 3] H rfl rfl (by kernel_rfl) (by kernel_rfl) rfl (by kernel_rfl) ?_
    refine y_sload (a := ⟨tb, 0, none⟩) (by kernel_rfl) (by kernel_rfl) (fun w' L' H => Own.cell 0 H rfl rfl) ?_
    refine y_sload (a := ⟨tb, 0, none⟩) (by kernel_rfl) (by kernel_rfl) (fun w' L' H => Own.cell 0 H rfl rfl) ?_
    refine h_idx (t := 96) (b := q) (o := (0 : Nat)) (n := (1 : Nat)) (c := qc) (kd := IntKind.i64) (i := (0 : Int)) 2 (by kernel_rfl) (by omega) (by omega) (by kernel_rfl) (by kernel_rfl) ?_
    refine y_sload (a := ⟨q, 1, none⟩) (by kernel_rfl) (by kernel_rfl) (fun w' L' H => Own.elCell (j := 1) 1 (i := (0 : Nat)) H rfl hel2 rfl (by first | rfl | omega)) ?_
    refine y_sload (a := ⟨b1, 0, none⟩) (by kernel_rfl) (by kernel_rfl) (fun w' L' H => Own.cell 2 H rfl rfl) ?_
    refine y_sload (a := ⟨b1, 2, none⟩) (by kernel_rfl) (by kernel_rfl) (fun w' L' H => Own.cell 2 H rfl rfl) ?_
    replace H := Own.drew H
    refine y_send (by kernel_rfl) ?_
    refine s_tail rfl (by kernel_rfl) ?_
    refine s_tailS rfl (by kernel_rfl) (.inr ⟨_, H.pick [0, 1, 3, 2] rfl⟩) ?_
    refine s_tail rfl (by kernel_rfl) ?_
    refine s_tailS rfl (by kernel_rfl) (.inr ⟨_, H.pick [0, 1, 3, 2] rfl⟩) ?_
    refine s_tail rfl (by kernel_rfl) ?_
    refine y_new (c := #[Value.int IntKind.u32 (↑a : Int), Value.int IntKind.i64 (↑x : Int), Value.string s]) (T := 64) H (by kernel_rfl) (by kernel_rfl) (fun w7 b2 H => ?_)
    refine s_tailS rfl (by kernel_rfl) (.inr ⟨_, H.pick [1, 2, 4, 0, 3] rfl⟩) ?_
    refine s_tail rfl (by kernel_rfl) ?_
    refine y_push (t := 100) (ty := 100) (c0 := (1 : Nat)) 3 0 (32 : Nat) (Value.agg (#[Value.int IntKind.u32 (0 : Int), Value.int IntKind.i64 (0 : Int), Value.string (ByteArray.mk #[])])) [Value.int IntKind.u32 (↑a : Int), Value.int IntKind.i64 (↑x : Int), Value.string s] H rfl rfl rfl (by simp [Value.oneCell']) (by first | omega | (simp only [List.length_map, List.length_append, List.length_cons, List.length_nil, List.length_set, Go.maxLen] at *; omega)) (by first | omega | (simp only [List.length_map, List.length_append, List.length_cons, List.length_nil, List.length_set, Go.maxLen] at *; omega)) (by kernel_rfl) (by kernel_rfl) (by kernel_rfl) (by decide) (by kernel_rfl) (by kernel_rfl) (fun a1 cap1 w8 hcap1 H => ?_)
    simp only [List.set_cons_zero, List.set_cons_succ] at H
    refine s_tailS rfl (by kernel_rfl) (.inr ⟨_, H.pick [1, 2, 4, 0, 3] rfl⟩) ?_
    refine s_tail rfl (by kernel_rfl) ?_
    refine y_idx (t := 96) (b := q) (o := (0 : Nat)) (n := (1 : Nat)) (c := qc) (kd := IntKind.i64) (i := (0 : Int)) 2 (by kernel_rfl) (by omega) (by omega) (by kernel_rfl) ?_
    refine s_tailS rfl (by kernel_rfl) (.inl (by kernel_rfl)) ?_
    refine s_tail rfl (by kernel_rfl) ?_
    refine s_tailS rfl (by kernel_rfl) (.inl (by kernel_rfl)) ?_
    refine s_tail rfl (by kernel_rfl) ?_
    refine y_elStore 2 (i := (0 : Nat)) (j := 1) (o := (1 : Nat)) (u := Value.slice (some (Addr.mk a1 (0 : Nat) none)) ((List.map encG got).length + (1 : Nat)) cap1) (c' := [Value.int IntKind.i64 (↑y : Int), Value.slice (some (Addr.mk a1 (0 : Nat) none)) ((List.map encG got).length + (1 : Nat)) cap1]) H rfl hel2 (by decide) (by first | rfl | omega) (by kernel_rfl) (by kernel_rfl) rfl rfl (fun w9 H hE1 => ?_)
    simp only [List.set_cons_zero, List.set_cons_succ] at H
    try simp only [List.set_set] at H hE1
    refine s_tailS rfl (by kernel_rfl) (.inl (by kernel_rfl)) ?_
    refine s_tailEnd rfl (by kernel_rfl) ?_
    -- stop: Req.done (Value.int IntKind.i64 (0 : Int))
    have hfin : got.map encG ++ [[.int .u32 (a : Int), .int .i64 (x : Int), .string s]] = (got ++ [(⟨a, x, s⟩ : GotV)]).map encG := by rw [List.map_append]; rfl
    rw [hfin] at H
    exact y_done (v := .int .i64 0) (by kernel_rfl) _ ⟨rfl, rfl⟩ (shutTab H.drop1).only1
  · have t1 : decide ((got.length : Int) ≥ 16) = true := decide_eq_true (by omega)
    rw [if_neg hfull, if_neg hfull]
    refine y_load 0 (o := 0) H rfl rfl (by kernel_rfl) ?_
    refine y_idx (t := 96) (b := q) (o := (0 : Nat)) (n := (1 : Nat)) (c := qc) (kd := IntKind.i64) (i := (0 : Int)) 2 (by kernel_rfl) (by omega) (by omega) (by kernel_rfl) ?_
    refine y_elLoad 1 (i := (0 : Nat)) (j := 1) (o := (1 : Nat)) H rfl hel2 rfl (by first | rfl | omega) (by kernel_rfl) ?_
    refine s_ifT (by kernel_rfl) t1 ?_
    -- stop: Req.done (Value.int IntKind.i64 (5 : Int))
    exact y_done (v := .int .i64 5) (by kernel_rfl) _ ⟨rfl, rfl⟩ (shutTab H).only1

attribute [local irreducible] Ret in
set_option maxHeartbeats 400000 in
theorem ttake_ret (y : Nat) (hy : y < 65536) (tb : Nat) (got : List GotV) (hg : got.length ≤ 16) (F : Fm) (w : World) (H : Own w F [TabA tb y got]) :
    Ret Try.prog 28 #[.pointer (some ⟨tb, 0, none⟩), .int .i64 y] w (Post F fun v L' => v = (match got with
      | [] => .tuple #[.agg #[.int .u32 0, .int .i64 0, .string ⟨#[]⟩], .bool false, .int .i64 0]
      | g :: _ => .tuple #[.agg #[.int .u32 g.addr, .int .i64 g.port, .string g.body], .bool true, .int .i64 0]) ∧ L' = [TabA tb y got.tail]) := by
  refine ret_of_G Try.func28 rfl rfl ?_
  have hel : ∀ (gv : Value), ([[.int .i64 (y : Int), gv]] : List (List Value))[0]? = some [.int .i64 (y : Int), gv] := fun _ => rfl
  refine y_new (c := #[Value.int IntKind.u32 (0 : Int), Value.int IntKind.i64 (0 : Int), Value.string (ByteArray.mk #[])]) (T := 64) H (by kernel_rfl) (by kernel_rfl) (fun w1 b1 H => ?_)
  refine y_call (f := 50) (args := #[Value.pointer (some (Addr.mk tb (0 : Nat) none)), Value.int IntKind.i64 (↑y : Int)]) [1] (M := [pt b1 #[Value.int IntKind.u32 (0 : Int), Value.int IntKind.i64 (0 : Int), Value.string (ByteArray.mk #[])] 64]) H rfl rfl rfl (by kernel_rfl) (by kernel_rfl) (by kernel_rfl) (fun F' hF H' => find1t_ret y (by omega) (by omega) tb got F' _ H') ?_
  rintro v w2 L' ⟨rfl, rfl⟩ H
  simp only [List.cons_append, List.nil_append] at H
  refine s_ifF (b := false) (by kernel_rfl) rfl ?_
  -- load tb (0 : Nat): no piece
  obtain ⟨q, qc, ga, gc, hgc, H⟩ := openTab H
  have hel2 := hel (.slice ga got.length gc)
  cases got with
  | nil =>
    simp only [List.length_nil, List.map_nil] at H hel2 ⊢
    refine y_load 0 (o := 0) H rfl rfl (by kernel_rfl) ?_
    refine y_idx (t := 96) (b := q) (o := (0 : Nat)) (n := (1 : Nat)) (c := qc) (kd := IntKind.i64) (i := (0 : Int)) 2 (by kernel_rfl) (by omega) (by omega) (by kernel_rfl) ?_
    refine y_elLoad 1 (i := (0 : Nat)) (j := 1) (o := (1 : Nat)) H rfl hel2 rfl (by first | rfl | omega) (by kernel_rfl) ?_
    refine s_ifT (b := true) (by kernel_rfl) rfl ?_
    refine y_store 3 (o := 0) (v := Value.int IntKind.u32 (0 : Int)) (c' := #[Value.int IntKind.u32 (0 : Int), Value.int IntKind.i64 (0 : Int), Value.string (ByteArray.mk #[])]) H rfl (by kernel_rfl) (by kernel_rfl) (by kernel_rfl) rfl (by kernel_rfl) (fun w3 H => ?_)
    simp only [List.set_cons_zero, List.set_cons_succ] at H
    refine y_store 3 (o := 1) (v := Value.int IntKind.i64 (0 : Int)) (c' := #[Value.int IntKind.u32 (0 : Int), Value.int IntKind.i64 (0 : Int), Value.string (ByteArray.mk #[])]) H rfl (by kernel_rfl) (by kernel_rfl) (by kernel_rfl) rfl (by kernel_rfl) (fun w4 H => ?_)
    simp only [List.set_cons_zero, List.set_cons_succ] at H
    refine y_store 3 (o := 2) (v := Value.string (ByteArray.mk #[])) (c' := #[Value.int IntKind.u32 (0 : Int), Value.int IntKind.i64 (0 : Int), Value.string (ByteArray.mk #[])]) H rfl (by kernel_rfl) (by kernel_rfl) (by kernel_rfl) rfl (by kernel_rfl) (fun w5 H => ?_)
    simp only [List.set_cons_zero, List.set_cons_succ] at H
    refine y_load 3 (o := 0) H rfl rfl (by kernel_rfl) ?_
    refine y_load 3 (o := 1) H rfl rfl (by kernel_rfl) ?_
    refine y_load 3 (o := 2) H rfl rfl (by kernel_rfl) ?_
    -- stop: Req.done (Value.tuple (#[Value.agg (#[Value.int IntKind.u32 (0 : Int), Value.int IntKind.i64 (0 : Int), Value.string (ByteArray.mk #[])]), Value.bool false, Value.int IntKind.i64 (0 : Int)]))
    exact y_done (v := .tuple #[.agg #[.int .u32 0, .int .i64 0, .string ⟨#[]⟩], .bool false, .int .i64 0]) (by kernel_rfl) _ ⟨rfl, rfl⟩ (shutTab (got := []) H).only1
  | cons g l =>
    have hml : (l.map encG).length = l.length := List.length_map ..
    obtain ⟨gb, gc2, hsv, _, _⟩ := Own.shapeN 2 H rfl (by simp)
    rw [List.length_map] at hsv
    cases hsv
    simp only [List.length_cons, List.map_cons] at H hel2 ⊢
    have t1 : (((l.length + 1 : Nat) : Int) == 0) = false := by simp; omega
    obtain ⟨g1, g2, g3⟩ := g
    have hel3 : (encG ⟨g1, g2, g3⟩ :: l.map encG)[0]? = some [.int .u32 g1, .int .i64 g2, .string g3] := rfl
    refine y_load 0 (o := 0) H rfl rfl (by kernel_rfl) ?_
    refine y_idx (t := 96) (b := q) (o := (0 : Nat)) (n := (1 : Nat)) (c := qc) (kd := IntKind.i64) (i := (0 : Int)) 2 (by kernel_rfl) (by omega) (by omega) (by kernel_rfl) ?_
    refine y_elLoad 1 (i := (0 : Nat)) (j := 1) (o := (1 : Nat)) H rfl hel2 rfl (by first | rfl | omega) (by kernel_rfl) ?_
    refine s_ifF (b := false) (by kernel_rfl) rfl ?_
    refine y_elLoad 1 (i := (0 : Nat)) (j := 1) (o := (1 : Nat)) H rfl hel2 rfl (by first | rfl | omega) (by kernel_rfl) ?_
    refine y_idx (t := 100) (b := gb) (o := (0 : Nat)) (n := l.length + (1 : Nat)) (c := gc) (kd := IntKind.i64) (i := (0 : Int)) 3 (by kernel_rfl) (by omega) (by omega) (by kernel_rfl) ?_
    refine y_elLoad 2 (i := (0 : Nat)) (j := 0) (o := (0 : Nat)) H rfl hel3 rfl (by first | rfl | omega) (by kernel_rfl) ?_
    refine y_elLoad 2 (i := (0 : Nat)) (j := 1) (o := (1 : Nat)) H rfl hel3 rfl (by first | rfl | omega) (by kernel_rfl) ?_
    refine y_elLoad 2 (i := (0 : Nat)) (j := 2) (o := (2 : Nat)) H rfl hel3 rfl (by first | rfl | omega) (by kernel_rfl) ?_
    refine y_new (c := #[Value.int IntKind.u32 (0 : Int), Value.int IntKind.i64 (0 : Int), Value.string (ByteArray.mk #[])]) (T := 64) H (by kernel_rfl) (by kernel_rfl) (fun w3 b2 H => ?_)
    refine y_store 0 (o := 0) (v := Value.int IntKind.u32 g1) (c' := #[Value.int IntKind.u32 g1, Value.int IntKind.i64 (0 : Int), Value.string (ByteArray.mk #[])]) H rfl (by kernel_rfl) (by kernel_rfl) (by kernel_rfl) rfl (by kernel_rfl) (fun w4 H => ?_)
    simp only [List.set_cons_zero, List.set_cons_succ] at H
    refine y_store 0 (o := 1) (v := Value.int IntKind.i64 g2) (c' := #[Value.int IntKind.u32 g1, Value.int IntKind.i64 g2, Value.string (ByteArray.mk #[])]) H rfl (by kernel_rfl) (by kernel_rfl) (by kernel_rfl) rfl (by kernel_rfl) (fun w5 H => ?_)
    simp only [List.set_cons_zero, List.set_cons_succ] at H
    refine y_store 0 (o := 2) (v := Value.string g3) (c' := #[Value.int IntKind.u32 g1, Value.int IntKind.i64 g2, Value.string g3]) H rfl (by kernel_rfl) (by kernel_rfl) (by kernel_rfl) rfl (by kernel_rfl) (fun w6 H => ?_)
    simp only [List.set_cons_zero, List.set_cons_succ] at H
    refine y_elLoad 2 (i := (0 : Nat)) (j := 1) (o := (1 : Nat)) H rfl hel2 rfl (by first | rfl | omega) (by kernel_rfl) ?_
    -- stop: Req.slice (100 : Nat) (Value.slice (some (Addr.mk gb (0 : Nat) none)) (l.length + (1 : Nat)) gc) (some (Value.int IntKind.i64 (1 : Int))) none none
    refine x_sliceV (t := 100) (b := gb) (o := 0) (n := l.length + 1) (c := gc) (lo := some (.int .i64 (1 : Int))) (hi := none) (l := 1) (h := l.length + 1) 3 (by kernel_rfl) (.int .i64 (1 : Int) _ (by omega)) (.none _) (by omega) (by simp only [List.length_cons] at hgc; omega) (by kernel_rfl) (fun o1 ho1 => ?_)
    replace H := H.nilRows 64 3
    refine y_appendSub (t := 100) (ty := 100) (b := gb) (os := o1) (n := l.length + 1) (cap := gc) (m := l.length) (sc := gc - 1) 0 4 1 32 (.agg #[.int .u32 0, .int .i64 0, .string ⟨#[]⟩]) H rfl rfl (by omega) (fun _ => by rw [ho1 (by simp only [List.length_cons] at hgc; omega)]) ?_ ?_ ?_ (by kernel_rfl) (by kernel_rfl) (by kernel_rfl) (by decide) (by kernel_rfl) (by kernel_rfl) (fun a5 c5 w8 H => ?_)
    · intro c hc
      exact encG_one (⟨g1, g2, g3⟩ :: l) c (List.mem_of_mem_drop (List.mem_of_mem_take hc))
    · simp only [List.length_nil, maxLen]; simp only [List.length_cons] at hg; omega
    · simp only [List.length_nil]; simp only [List.length_cons] at hg; omega
    have hrest : ([] : List (List Value)) ++ List.take l.length (List.drop 1 (encG ⟨g1, g2, g3⟩ :: l.map encG)) = l.map encG := by
      rw [List.nil_append, List.drop_one, List.tail_cons, List.take_of_length_le (by rw [hml]; exact Nat.le_refl _)]
    simp only [List.set_cons_zero, hrest, List.length_nil, Nat.zero_add] at H
    have hz : ([] : List (List Value)).length + l.length = l.length := Nat.zero_add _
    rw [hz]
    refine y_elStore 3 (i := (0 : Nat)) (j := 1) (o := (1 : Nat)) (u := Value.slice a5 l.length c5) (c' := [Value.int IntKind.i64 (↑y : Int), Value.slice a5 l.length c5]) H rfl hel2 (by decide) (by first | rfl | omega) (by kernel_rfl) (by kernel_rfl) rfl rfl (fun w9 H hE1 => ?_)
    simp only [List.set_cons_zero, List.set_cons_succ] at H
    try simp only [List.set_set] at H hE1
    refine y_load 1 (o := 0) H rfl rfl (by kernel_rfl) ?_
    refine y_load 1 (o := 1) H rfl rfl (by kernel_rfl) ?_
    refine y_load 1 (o := 2) H rfl rfl (by kernel_rfl) ?_
    refine y_store 5 (o := 0) (v := Value.int IntKind.u32 g1) (c' := #[Value.int IntKind.u32 g1, Value.int IntKind.i64 (0 : Int), Value.string (ByteArray.mk #[])]) H rfl (by kernel_rfl) (by kernel_rfl) (by kernel_rfl) rfl (by kernel_rfl) (fun w10 H => ?_)
    simp only [List.set_cons_zero, List.set_cons_succ] at H
    refine y_store 5 (o := 1) (v := Value.int IntKind.i64 g2) (c' := #[Value.int IntKind.u32 g1, Value.int IntKind.i64 g2, Value.string (ByteArray.mk #[])]) H rfl (by kernel_rfl) (by kernel_rfl) (by kernel_rfl) rfl (by kernel_rfl) (fun w11 H => ?_)
    simp only [List.set_cons_zero, List.set_cons_succ] at H
    refine y_store 5 (o := 2) (v := Value.string g3) (c' := #[Value.int IntKind.u32 g1, Value.int IntKind.i64 g2, Value.string g3]) H rfl (by kernel_rfl) (by kernel_rfl) (by kernel_rfl) rfl (by kernel_rfl) (fun w12 H => ?_)
    simp only [List.set_cons_zero, List.set_cons_succ] at H
    refine y_load 5 (o := 0) H rfl rfl (by kernel_rfl) ?_
    refine y_load 5 (o := 1) H rfl rfl (by kernel_rfl) ?_
    refine y_load 5 (o := 2) H rfl rfl (by kernel_rfl) ?_
    -- stop: Req.done (Value.tuple (#[Value.agg (#[Value.int IntKind.u32 g1, Value.int IntKind.i64 g2, Value.string g3]), Value.bool true, Value.int IntKind.i64 (0 : Int)]))
    exact y_done (v := .tuple #[.agg #[.int .u32 g1, .int .i64 g2, .string g3], .bool true, .int .i64 0]) (by kernel_rfl) _ ⟨rfl, rfl⟩ (shutTab (H.pick [2, 3, 0, 1, 4, 5] rfl)).only1
end Go.Proofs.Ytfknpeajihecdaa
