import Derived.Test.YtfknpeajihecdaaLs4
namespace Go.Proofs.Ytfknpeajihecdaa
open Go.XM Go.RowKit Go.Ls
set_option maxRecDepth 100000

theorem begin_ok {p : PoolV} {c n : Int} (h : beginV p c n = 0) : 0 ≤ c ∧ c ≤ 281474976710655 ∧ 0 ≤ n ∧ n ≤ 1000000000 ∧ p.now ≤ n := by
  unfold beginV at h
  split at h
  · omega
  · split at h
    · omega
    · omega

theorem ownV_ok {p : PoolV} {c a n : Int} (h : (ownV p c a n).2 = 0) : ∃ x, p.all[p.all.findIdx (isOf c n)]? = some x ∧ x.addr = a ∧ ownV p c a n = ((p.all.findIdx (isOf c n) : Int), 0) ∧ beginV p c n = 0 := by
  unfold ownV at h ⊢
  split at h
  · rename_i h1; exact absurd h h1
  · rename_i h1
    split at h
    · simp at h
    · rename_i h2
      rw [if_neg h1, if_neg h2]
      split at h
      · rename_i x hx
        split at h
        · rename_i h3
          exact ⟨x, hx, h3, by rw [if_pos h3], by omega⟩
        · simp at h
      · simp at h

theorem set_encE {l : List EntV} {i : Nat} {x : EntV} {f : EntV → EntV} {c : List Value} (h : l[i]? = some x) (hc : encE (f x) = c) : (l.map encE).set i c = (l.modify i f).map encE := by
  refine List.ext_getElem? fun j => ?_
  rw [List.getElem?_set, List.getElem?_map, List.getElem?_map, List.getElem?_modify]
  by_cases hij : i = j
  · subst hij
    rw [if_pos rfl, if_pos (by rw [List.length_map]; exact (List.getElem?_eq_some_iff.1 h).1), h]
    simp [hc]
  · rw [if_neg hij]
    simp [hij]

attribute [local irreducible] Ret beginV findV ownV passV in
set_option maxHeartbeats 400000 in
theorem take_ret (p : PoolV) (c ad n : Int) (b : Nat) (F : Fm) (w : World) (H : Own w F [PoolA b p]) (hl : p.all.length ≤ 1000) (hf0 : 0 ≤ p.first) (hf1 : p.first < 4294967296) (ha0 : 0 ≤ ad) (ha1 : ad < 4294967296) (ht0 : 0 ≤ p.time) (ht1 : p.time ≤ 1000000000) :
    Ret Try.prog 24 #[.pointer (some ⟨b, 0, none⟩), .int .i64 c, .int .u32 ad, .int .i64 n] w (Post F fun v L' => v = .tuple #[.int .i64 (takeV p c ad n).1.1, .int .i64 (takeV p c ad n).1.2] ∧ L' = [PoolA b (takeV p c ad n).2]) := by
  refine ret_of_G Try.func24 rfl rfl ?_
  by_cases he : (ownV p c ad n).2 = 0
  · obtain ⟨x, hx, hxa, e1, hb⟩ := ownV_ok he
    obtain ⟨q1, q2, q3, q4, q5⟩ := begin_ok hb
    have hlt := (List.getElem?_eq_some_iff.1 hx).1
    have e2 : takeV p c ad n = ((n + p.time, 0), passV { p with all := p.all.modify (p.all.findIdx (isOf c n)) fun x => { x with off := false, til := n + p.time } } n) := by unfold takeV; rw [if_neg (by omega)]
    have e3 : (ownV p c ad n).1 = (p.all.findIdx (isOf c n) : Nat) := by rw [e1]
    rw [e2]
    generalize p.all.findIdx (isOf c n) = i at hx e1 e3 hlt
    have hml : (p.all.modify i fun x => { x with off := false, til := n + p.time }).length ≤ 1000 := by rw [List.length_modify]; exact hl
    obtain ⟨x1, x2, x3, x4⟩ := x
    have hel2 : (p.all.map encE)[i]? = some [.int .u32 x1, .int .i64 x2, .bool x3, .int .i64 x4] := by rw [List.getElem?_map, hx]; rfl
    have hset := set_encE (f := fun x => { x with off := false, til := n + p.time }) hx rfl
    simp only [encE] at hset
    refine y_call (f := 48) (args := #[Value.pointer (some (Addr.mk b (0 : Nat) none)), Value.int IntKind.i64 c, Value.int IntKind.u32 ad, Value.int IntKind.i64 n]) [0] (M := []) H rfl rfl rfl (by kernel_rfl) (by kernel_rfl) (by kernel_rfl) (fun F' hF H' => own_ret p c n ad b F' _ H' hl hf0 hf1 ha0 ha1) ?_
    rintro v w1 L' ⟨rfl, rfl⟩ H
    simp only [List.cons_append, List.nil_append] at H
    rw [e3, he]
    refine s_ifF (b := false) (by kernel_rfl) rfl ?_
    -- draw (4 : Nat): no three parts: [9] [0, 1, 2, 3, 4, 5, 6, 7, 8, 10, 11, 12, 13, 14, 15, 16, 17] 18 [19, 20, 21] / load b (3 : Nat): no piece / load b (3 : Nat): no piece
    obtain ⟨g, cap2, hcap2, H⟩ := openPoolN H (by omega)
    simp only [poolC] at H
    refine y_drawS (L0 := [pt b #[Value.int IntKind.u32 p.first, Value.int IntKind.i64 p.many, Value.int IntKind.i64 p.time, Value.slice (some (Addr.mk g (0 : Nat) none)) p.all.length cap2, Value.int IntKind.i64 p.now] (89 : TypeId)]) (4 : Nat) 0 [0, 1, 2, 3, 4, 5, 6, 7, 8, 9, 10, 11, 12, 13, 14, 15, 16, 17] [18, 19, 20, 21] [0] H rfl rfl (by kernel_rfl) (by kernel_rfl) rfl (by kernel_rfl) ?_
    refine y_sload (a := ⟨b, 3, none⟩) (by kernel_rfl) (by kernel_rfl) (fun w' L' H => Own.cell 0 H rfl rfl) ?_
    refine y_sload (a := ⟨b, 3, none⟩) (by kernel_rfl) (by kernel_rfl) (fun w' L' H => Own.cell 0 H rfl rfl) ?_
    refine y_sload (a := ⟨b, 2, none⟩) (by kernel_rfl) (by kernel_rfl) (fun w' L' H => Own.cell 0 H rfl rfl) ?_
    refine h_add (t := 3) (a := n) (b := p.time) ((n) + (p.time)) (w64' (by omega) (by omega) rfl) (by kernel_rfl) (by kernel_rfl) ?_
    refine h_idx (t := 71) (b := g) (o := (0 : Nat)) (n := p.all.length) (c := cap2) (kd := IntKind.i64) (i := (↑i : Int)) 4 (by kernel_rfl) (by omega) (by omega) (by kernel_rfl) (by kernel_rfl) ?_
    replace H := Own.drew H
    refine y_send (by kernel_rfl) ?_
    refine s_tail rfl (by kernel_rfl) ?_
    refine y_elStore 1 (i := i) (j := 2) (o := (0 : Nat) + (↑i : Int).toNat * (4 : Nat) + (2 : Nat)) (u := Value.bool false) (c' := [Value.int IntKind.u32 x1, Value.int IntKind.i64 x2, Value.bool false, Value.int IntKind.i64 x4]) H rfl hel2 (by decide) (by first | rfl | omega) (by kernel_rfl) (by kernel_rfl) rfl rfl (fun w2 H hE1 => ?_)
    simp only [List.set_cons_zero, List.set_cons_succ] at H
    try simp only [List.set_set] at H hE1
    refine s_tailS rfl (by kernel_rfl) (.inr ⟨_, H.pick [0, 1] rfl⟩) ?_
    refine s_tail rfl (by kernel_rfl) ?_
    refine y_idx (t := 71) (b := g) (o := (0 : Nat)) (n := p.all.length) (c := cap2) (kd := IntKind.i64) (i := (↑i : Int)) 4 (by kernel_rfl) (by omega) (by omega) (by kernel_rfl) ?_
    refine s_tailS rfl (by kernel_rfl) (.inl (by kernel_rfl)) ?_
    refine s_tail rfl (by kernel_rfl) ?_
    refine s_tailS rfl (by kernel_rfl) (.inl (by kernel_rfl)) ?_
    refine s_tail rfl (by kernel_rfl) ?_
    refine y_elStore 1 (i := i) (j := 3) (o := (0 : Nat) + (↑i : Int).toNat * (4 : Nat) + (3 : Nat)) (u := Value.int IntKind.i64 (n + p.time)) (c' := [Value.int IntKind.u32 x1, Value.int IntKind.i64 x2, Value.bool false, Value.int IntKind.i64 (n + p.time)]) H rfl hE1 (by decide) (by first | rfl | omega) (by kernel_rfl) (by kernel_rfl) rfl rfl (fun w3 H hE2 => ?_)
    simp only [List.set_cons_zero, List.set_cons_succ] at H
    try simp only [List.set_set] at H hE2
    refine s_tailS rfl (by kernel_rfl) (.inl (by kernel_rfl)) ?_
    refine s_tailEnd rfl (by kernel_rfl) ?_
    refine y_load 0 (o := 3) H rfl rfl (by kernel_rfl) ?_
    refine y_idx (t := 71) (b := g) (o := (0 : Nat)) (n := p.all.length) (c := cap2) (kd := IntKind.i64) (i := (↑i : Int)) 4 (by kernel_rfl) (by omega) (by omega) (by kernel_rfl) ?_
    refine y_elLoad 1 (i := i) (j := 3) (o := (0 : Nat) + (↑i : Int).toNat * (4 : Nat) + (3 : Nat)) H rfl hE2 rfl (by first | rfl | omega) (by kernel_rfl) ?_
    -- stop: Req.call (43 : Nat) (#[Value.pointer (some (Addr.mk b (0 : Nat) none)), Value.int IntKind.i64 n])
    rw [hset] at H
    replace H := shutPool (p := { p with all := p.all.modify i fun x => { x with off := false, til := n + p.time } }) H rfl rfl
    refine y_call (f := 43) (args := #[Value.pointer (some (Addr.mk b (0 : Nat) none)), Value.int IntKind.i64 n]) [0] (M := []) H rfl rfl rfl (by kernel_rfl) (by kernel_rfl) (by kernel_rfl) (fun F' hF H' => pass_ret { p with all := p.all.modify i fun x => { x with off := false, til := n + p.time } } n b F' _ H' hml) ?_
    rintro v w4 L' ⟨rfl, rfl⟩ H
    simp only [List.cons_append, List.nil_append] at H
    -- stop: Req.done (Value.tuple (#[Value.int IntKind.i64 (n + p.time), Value.int IntKind.i64 (0 : Int)]))
    exact y_done (by kernel_rfl) _ ⟨rfl, rfl⟩ H
  · have t1 : ((ownV p c ad n).2 != 0) = true := by simp [he]
    have e1 : takeV p c ad n = ((0, (ownV p c ad n).2), p) := by unfold takeV; rw [if_pos he]
    rw [e1]
    refine y_call (f := 48) (args := #[Value.pointer (some (Addr.mk b (0 : Nat) none)), Value.int IntKind.i64 c, Value.int IntKind.u32 ad, Value.int IntKind.i64 n]) [0] (M := []) H rfl rfl rfl (by kernel_rfl) (by kernel_rfl) (by kernel_rfl) (fun F' hF H' => own_ret p c n ad b F' _ H' hl hf0 hf1 ha0 ha1) ?_
    rintro v w1 L' ⟨rfl, rfl⟩ H
    simp only [List.cons_append, List.nil_append] at H
    refine s_ifT (by kernel_rfl) t1 ?_
    -- stop: Req.done (Value.tuple (#[Value.int IntKind.i64 (0 : Int), Value.int IntKind.i64 (ownV p c ad n).snd]))
    exact y_done (by kernel_rfl) _ ⟨rfl, rfl⟩ H

attribute [local irreducible] Ret beginV findV ownV passV in
set_option maxHeartbeats 400000 in
theorem give_ret (p : PoolV) (c ad n : Int) (b : Nat) (F : Fm) (w : World) (H : Own w F [PoolA b p]) (hl : p.all.length ≤ 1000) (hf0 : 0 ≤ p.first) (hf1 : p.first < 4294967296) (ha0 : 0 ≤ ad) (ha1 : ad < 4294967296) :
    Ret Try.prog 29 #[.pointer (some ⟨b, 0, none⟩), .int .i64 c, .int .u32 ad, .int .i64 n] w (Post F fun v L' => v = .int .i64 (giveV p c ad n).1 ∧ L' = [PoolA b (giveV p c ad n).2]) := by
  refine ret_of_G Try.func29 rfl rfl ?_
  by_cases he : (ownV p c ad n).2 = 0
  · obtain ⟨x, hx, hxa, e1, hb⟩ := ownV_ok he
    have hlt := (List.getElem?_eq_some_iff.1 hx).1
    have e2 : giveV p c ad n = (0, passV { p with all := p.all.eraseIdx (p.all.findIdx (isOf c n)) } n) := by unfold giveV; rw [if_neg (by omega)]
    have e3 : (ownV p c ad n).1 = (p.all.findIdx (isOf c n) : Nat) := by rw [e1]
    rw [e2]
    generalize p.all.findIdx (isOf c n) = i at hx e1 e3 hlt
    have hml : (p.all.eraseIdx i).length ≤ 1000 := by rw [List.length_eraseIdx]; split <;> omega
    refine y_call (f := 48) (args := #[Value.pointer (some (Addr.mk b (0 : Nat) none)), Value.int IntKind.i64 c, Value.int IntKind.u32 ad, Value.int IntKind.i64 n]) [0] (M := []) H rfl rfl rfl (by kernel_rfl) (by kernel_rfl) (by kernel_rfl) (fun F' hF H' => own_ret p c n ad b F' _ H' hl hf0 hf1 ha0 ha1) ?_
    rintro v w1 L' ⟨rfl, rfl⟩ H
    simp only [List.cons_append, List.nil_append] at H
    rw [e3, he]
    refine s_ifF (b := false) (by kernel_rfl) rfl ?_
    -- load b (3 : Nat): no piece
    obtain ⟨g, cap2, hcap2, H⟩ := openPoolN H (by omega)
    simp only [poolC] at H
    refine y_load 0 (o := 3) H rfl rfl (by kernel_rfl) ?_
    refine x_add (t := 3) (a := (↑i : Int)) (b := (1 : Int)) (((i) + ((1 : Nat)) : Nat) : Int) (w64' (by omega) (by omega) (by omega)) (by kernel_rfl) ?_
    refine y_call (f := 52) (args := #[Value.slice (some (Addr.mk g (0 : Nat) none)) p.all.length cap2, Value.int IntKind.i64 (↑i : Int), Value.int IntKind.i64 (↑(i + (1 : Nat)) : Int)]) [1] (M := [pt b #[Value.int IntKind.u32 p.first, Value.int IntKind.i64 p.many, Value.int IntKind.i64 p.time, Value.slice (some (Addr.mk g (0 : Nat) none)) p.all.length cap2, Value.int IntKind.i64 p.now] (89 : TypeId)]) H rfl rfl rfl (by kernel_rfl) (by kernel_rfl) (by kernel_rfl) (fun F' hF H' => delete_ret p.all i (.slice (some ⟨g, 0, none⟩) p.all.length cap2) F' _ H' hlt hl) ?_
    rintro v w2 L' rfl H
    simp only [List.cons_append, List.nil_append] at H
    obtain ⟨ra, rc, rfl, hrc, _⟩ := Own.shape 0 H rfl
    refine y_store 1 (o := 3) (v := Value.slice ra (List.map encE (p.all.eraseIdx i)).length rc) (c' := #[Value.int IntKind.u32 p.first, Value.int IntKind.i64 p.many, Value.int IntKind.i64 p.time, Value.slice ra (List.map encE (p.all.eraseIdx i)).length rc, Value.int IntKind.i64 p.now]) H rfl (by kernel_rfl) (by kernel_rfl) (by kernel_rfl) rfl (by kernel_rfl) (fun w3 H => ?_)
    simp only [List.set_cons_zero, List.set_cons_succ] at H
    -- stop: Req.call (43 : Nat) (#[Value.pointer (some (Addr.mk b (0 : Nat) none)), Value.int IntKind.i64 n])
    -- [[1] | delete_ret p.all i (.slice (some ⟨g, 0, none⟩) p.all.l] at [refine y_call (f := 43) (args := #[Value.pointer (some (Addr.mk b (0 : N]: Type mismatch   Go.Proofs.Ytfknpeajihecdaa.delete_ret p.all i (Go.Value.slice (some { block := g, off := 0 }) p.all.length cap2) F'     ?m.611 ?m.612 hlt hl has type   Go.XM.Ret Go.Proofs.Try.prog 52     #[Go.Value.slice (some { block := g, off := 0 }) p.all.length cap2, Go.Value.int Go.IntKind.i64 ↑i,       Go.Value.int Go.IntKind.i64 ↑(i + 1)]     ?m.611     (Go.XM.Post F' fun v' L' => L' = [Go.XM.rows v' 75 4 (List.map Go.Proofs.Ytfknpeajihecdaa.encE (p.all.eraseIdx i))]) but is expected to h
    replace H := shutPool (p := { p with all := p.all.eraseIdx i }) (H.pick [1, 0] rfl) rfl rfl
    refine y_call (f := 43) (args := #[Value.pointer (some (Addr.mk b (0 : Nat) none)), Value.int IntKind.i64 n]) [0] (M := []) H rfl rfl rfl (by kernel_rfl) (by kernel_rfl) (by kernel_rfl) (fun F' hF H' => pass_ret { p with all := p.all.eraseIdx i } n b F' _ H' hml) ?_
    rintro v w4 L' ⟨rfl, rfl⟩ H
    simp only [List.cons_append, List.nil_append] at H
    -- stop: Req.done (Value.int IntKind.i64 (0 : Int))
    exact y_done (by kernel_rfl) _ ⟨rfl, rfl⟩ H
  · have t1 : ((ownV p c ad n).2 != 0) = true := by simp [he]
    have e1 : giveV p c ad n = ((ownV p c ad n).2, p) := by unfold giveV; rw [if_pos he]
    rw [e1]
    refine y_call (f := 48) (args := #[Value.pointer (some (Addr.mk b (0 : Nat) none)), Value.int IntKind.i64 c, Value.int IntKind.u32 ad, Value.int IntKind.i64 n]) [0] (M := []) H rfl rfl rfl (by kernel_rfl) (by kernel_rfl) (by kernel_rfl) (fun F' hF H' => own_ret p c n ad b F' _ H' hl hf0 hf1 ha0 ha1) ?_
    rintro v w1 L' ⟨rfl, rfl⟩ H
    simp only [List.cons_append, List.nil_append] at H
    refine s_ifT (by kernel_rfl) t1 ?_
    -- stop: Req.done (Value.int IntKind.i64 (ownV p c ad n).snd)
    exact y_done (by kernel_rfl) _ ⟨rfl, rfl⟩ H

attribute [local irreducible] Ret beginV findV ownV passV in
set_option maxHeartbeats 400000 in
theorem list_ret (p : PoolV) (n : Int) (b : Nat) (F : Fm) (w : World) (H : Own w F [PoolA b p]) (hl : p.all.length ≤ 1000) (hb : beginV p 0 n = 0) :
    Ret Try.prog 30 #[.pointer (some ⟨b, 0, none⟩), .int .i64 n] w (Post F fun v L' => ∃ sv, v = .tuple #[sv, .int .i64 0] ∧ L' = [rows sv 75 4 ((passV p n).all.map encE), PoolA b (passV p n)]) := by
  refine ret_of_G Try.func30 rfl rfl ?_
  have hml : (passV p n).all.length ≤ 1000 := by unfold passV liveL; exact Nat.le_trans (List.length_filter_le _ _) hl
  refine y_call (f := 41) (args := #[Value.pointer (some (Addr.mk b (0 : Nat) none)), Value.int IntKind.i64 (0 : Int), Value.int IntKind.i64 n]) [0] (M := []) H rfl rfl rfl (by kernel_rfl) (by kernel_rfl) (by kernel_rfl) (fun F' hF H' => begin_ret p 0 n b F' _ H') ?_
  rintro v w1 L' ⟨rfl, rfl⟩ H
  simp only [List.cons_append, List.nil_append] at H
  rw [hb]
  refine s_ifF (b := false) (by kernel_rfl) rfl ?_
  refine y_call (f := 43) (args := #[Value.pointer (some (Addr.mk b (0 : Nat) none)), Value.int IntKind.i64 n]) [0] (M := []) H rfl rfl rfl (by kernel_rfl) (by kernel_rfl) (by kernel_rfl) (fun F' hF H' => pass_ret p n b F' _ H' hl) ?_
  rintro v w2 L' ⟨rfl, rfl⟩ H
  simp only [List.cons_append, List.nil_append] at H
  -- load b (3 : Nat): no piece
  obtain ⟨a, cap2, hcap2, H⟩ := openPool H
  simp only [poolC] at H
  refine y_load 0 (o := 3) H rfl rfl (by kernel_rfl) ?_
  refine y_call (f := 45) (args := #[Value.slice a (passV p n).all.length cap2]) [1] (M := [pt b #[Value.int IntKind.u32 (passV p n).first, Value.int IntKind.i64 (passV p n).many, Value.int IntKind.i64 (passV p n).time, Value.slice a (passV p n).all.length cap2, Value.int IntKind.i64 (passV p n).now] (89 : TypeId)]) H rfl rfl rfl (by kernel_rfl) (by kernel_rfl) (by kernel_rfl) (fun F' hF H' => clone_ret (passV p n).all (.slice a (passV p n).all.length cap2) F' _ H' hml) ?_
  rintro v w3 L' rfl H
  simp only [List.cons_append, List.nil_append] at H
  obtain ⟨ra, rc, rfl, hrc, _⟩ := Own.shape 0 H rfl
  -- stop: Req.done (Value.tuple (#[Value.slice ra (List.map encE (passV p n).all).length rc, Value.int IntKind.i64 (0 : Int)]))
  refine y_done (v := .tuple #[.slice ra (List.map encE (passV p n).all).length rc, .int .i64 0]) (by kernel_rfl) _ ⟨_, rfl, rfl⟩ ?_
  have H := (shutPool (p := passV p n) (H.pick [2, 1, 0] rfl) rfl rfl).pick [1, 0] rfl
  exact H
end Go.Proofs.Ytfknpeajihecdaa
