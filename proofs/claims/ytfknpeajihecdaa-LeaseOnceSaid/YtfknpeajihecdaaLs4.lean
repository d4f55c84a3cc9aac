import Derived.Test.YtfknpeajihecdaaLs3
namespace Go.Proofs.Ytfknpeajihecdaa
open Go.XM Go.RowKit Go.Ls
set_option maxRecDepth 100000

def poolC (p : PoolV) (sv : Value) : Array Value := #[.int .u32 p.first, .int .i64 p.many, .int .i64 p.time, sv, .int .i64 p.now]
def PoolA (b : Nat) (p : PoolV) : Assn := ex fun sv => all [pt b (poolC p sv) 89, rows sv 75 4 (p.all.map encE)]

theorem openPool {w : World} {F : Fm} {b : Nat} {p : PoolV} {M : List Assn} (H : Own w F (PoolA b p :: M)) :
    ∃ a cap, p.all.length ≤ cap ∧ Own w F (pt b (poolC p (.slice a p.all.length cap)) 89 :: rows (.slice a p.all.length cap) 75 4 (p.all.map encE) :: M) := by
  obtain ⟨sv, H⟩ := H.ex1
  have H := H.all1
  obtain ⟨a, cap, rfl, h, _⟩ := H.shape 1 rfl
  rw [List.length_map] at h H
  exact ⟨a, cap, h, H⟩

theorem openPoolN {w : World} {F : Fm} {b : Nat} {p : PoolV} {M : List Assn} (H : Own w F (PoolA b p :: M)) (h0 : 0 < p.all.length) :
    ∃ g cap, p.all.length ≤ cap ∧ Own w F (pt b (poolC p (.slice (some ⟨g, 0, none⟩) p.all.length cap)) 89 :: rows (.slice (some ⟨g, 0, none⟩) p.all.length cap) 75 4 (p.all.map encE) :: M) := by
  obtain ⟨sv, H⟩ := H.ex1
  have H := H.all1
  obtain ⟨a, cap, rfl, h, _⟩ := H.shapeN 1 rfl (by rw [List.length_map]; exact h0)
  rw [List.length_map] at h H
  exact ⟨a, cap, h, H⟩

theorem shutPool {w : World} {F : Fm} {b : Nat} {p : PoolV} {sv : Value} {c : Array Value} {L : List (List Value)} {M : List Assn} (H : Own w F (pt b c 89 :: rows sv 75 4 L :: M))
    (hc : c = poolC p sv) (hL : L = p.all.map encE) : Own w F (PoolA b p :: M) := by
  subst hc hL
  exact H.fold [_, _] fun _ h => ⟨sv, h⟩

theorem own_all2 {w : World} {F : Fm} {A B : Assn} {M : List Assn} (H : Own w F (A :: B :: M)) : Own w F (all [A, B] :: M) := Own.inAll (M := [A, B]) H
theorem own_un2 {w : World} {F : Fm} {A B : Assn} {M : List Assn} (H : Own w F (all [A, B] :: M)) : Own w F (A :: B :: M) := H.all1

theorem Own.only2 {w : World} {F : Fm} {A B : Assn} {M : List Assn} (H : Own w F (A :: B :: M)) : Own w F [A, B] := own_un2 (own_all2 H).only1

attribute [local irreducible] Ret in
set_option maxHeartbeats 400000 in
theorem begin_ret (p : PoolV) (c n : Int) (b : Nat) (F : Fm) (w : World) (H : Own w F [PoolA b p]) :
    Ret Try.prog 41 #[.pointer (some ⟨b, 0, none⟩), .int .i64 c, .int .i64 n] w (Post F fun v L' => v = .int .i64 (beginV p c n) ∧ L' = [PoolA b p]) := by
  refine ret_of_G Try.func41 rfl rfl ?_
  obtain ⟨fi, ma, ti, al, no⟩ := p
  obtain ⟨a, cap, hcap, H⟩ := openPool H
  simp only [poolC] at H
  refine s_if (b := decide (c < (0 : Int))) (by kernel_rfl) (fun ht1 => ?_) (fun hf1 => ?_)
  · have p1 := of_decide_eq_true ht1
    refine s_done (v := Value.int IntKind.i64 (1 : Int)) (by kernel_rfl) ?_
    exact ⟨_, ⟨by unfold beginV; simp_all <;> omega, rfl⟩, shutPool H rfl rfl⟩
  · have p1 := of_decide_eq_false hf1
    refine s_if (b := decide (c > (281474976710655 : Int))) (by kernel_rfl) (fun ht2 => ?_) (fun hf2 => ?_)
    · have p2 := of_decide_eq_true ht2
      refine s_done (v := Value.int IntKind.i64 (1 : Int)) (by kernel_rfl) ?_
      exact ⟨_, ⟨by unfold beginV; simp_all <;> omega, rfl⟩, shutPool H rfl rfl⟩
    · have p2 := of_decide_eq_false hf2
      refine s_if (b := decide (n < (0 : Int))) (by kernel_rfl) (fun ht3 => ?_) (fun hf3 => ?_)
      · have p3 := of_decide_eq_true ht3
        refine s_done (v := Value.int IntKind.i64 (1 : Int)) (by kernel_rfl) ?_
        exact ⟨_, ⟨by unfold beginV; simp_all <;> omega, rfl⟩, shutPool H rfl rfl⟩
      · have p3 := of_decide_eq_false hf3
        refine s_if (b := decide (n > (1000000000 : Int))) (by kernel_rfl) (fun ht4 => ?_) (fun hf4 => ?_)
        · have p4 := of_decide_eq_true ht4
          refine s_done (v := Value.int IntKind.i64 (1 : Int)) (by kernel_rfl) ?_
          exact ⟨_, ⟨by unfold beginV; simp_all <;> omega, rfl⟩, shutPool H rfl rfl⟩
        · have p4 := of_decide_eq_false hf4
          refine y_load 0 (o := 4) H rfl rfl (by kernel_rfl) ?_
          refine s_if (b := decide (n < no)) (by kernel_rfl) (fun ht5 => ?_) (fun hf5 => ?_)
          · have p5 := of_decide_eq_true ht5
            refine s_done (v := Value.int IntKind.i64 (13 : Int)) (by kernel_rfl) ?_
            exact ⟨_, ⟨by unfold beginV; simp_all <;> omega, rfl⟩, shutPool H rfl rfl⟩
          · have p5 := of_decide_eq_false hf5
            refine s_done (v := Value.int IntKind.i64 (0 : Int)) (by kernel_rfl) ?_
            exact ⟨_, ⟨by unfold beginV; simp_all <;> omega, rfl⟩, shutPool H rfl rfl⟩

theorem find_ans (c n : Int) (b1 b2 : Nat) (F : Fm) : Answers 57 #[.pointer (some ⟨b1, 0, none⟩), .pointer (some ⟨b2, 0, none⟩)] (all [pt b1 #[.int .i64 c] 3, pt b2 #[.int .i64 n] 3]) F (isOf c n) :=
  fun x F' w _ H => Ret.mono (find1_ret x b1 b2 c n F' w (own_un2 H)) fun _ _ ⟨_, ⟨h1, h2⟩, H'⟩ => ⟨_, ⟨h1, rfl⟩, by subst h2; exact own_all2 H'⟩
theorem pass_ans (n : Int) (b2 : Nat) (F : Fm) : Answers 58 #[.pointer (some ⟨b2, 0, none⟩)] (pt b2 #[.int .i64 n] 3) F (overB n) :=
  fun x F' w _ H => pass1_ret x b2 n F' w H
theorem ask_ans (n : Int) (b2 : Nat) (F : Fm) : Answers 46 #[.pointer (some ⟨b2, 0, none⟩)] (pt b2 #[.int .i64 n] 3) F (overB n) :=
  fun x F' w _ H => ask1_ret x b2 n F' w H

attribute [local irreducible] Ret idxV in
set_option maxHeartbeats 400000 in
theorem find_ret (p : PoolV) (c n : Int) (b : Nat) (F : Fm) (w : World) (H : Own w F [PoolA b p]) (hl : p.all.length ≤ 1000) :
    Ret Try.prog 42 #[.pointer (some ⟨b, 0, none⟩), .int .i64 c, .int .i64 n] w (Post F fun v L' => v = .int .i64 (findV p c n) ∧ L' = [PoolA b p]) := by
  refine ret_of_G Try.func42 rfl rfl ?_
  obtain ⟨fi, ma, ti, al, no⟩ := p
  have hl : al.length ≤ 1000 := hl
  obtain ⟨a, cap, hcap, H⟩ := openPool H
  simp only [poolC] at H
  refine y_new (c := #[Value.int IntKind.i64 c]) (T := 3) H (by kernel_rfl) (by kernel_rfl) (fun w1 b1 H => ?_)
  refine y_new (c := #[Value.int IntKind.i64 n]) (T := 3) H (by kernel_rfl) (by kernel_rfl) (fun w2 b2 H => ?_)
  refine y_load 2 (o := 3) H rfl rfl (by kernel_rfl) ?_
  replace H := own_all2 (H.pick [1, 0, 2, 3] rfl)
  refine y_call (f := 56) (args := #[Value.slice a al.length cap, Value.func (Fn.func (57 : Nat)) (#[]) (#[Value.pointer (some (Addr.mk b1 (0 : Nat) none)), Value.pointer (some (Addr.mk b2 (0 : Nat) none))])]) [2, 0] (M := [pt b #[Value.int IntKind.u32 fi, Value.int IntKind.i64 ma, Value.int IntKind.i64 ti, Value.slice a al.length cap, Value.int IntKind.i64 no] (89 : TypeId)]) H rfl rfl rfl (by kernel_rfl) (by kernel_rfl) (by kernel_rfl) (fun F' hF H' => indexFunc_ret al (.slice a al.length cap) 57 _ _ (isOf c n) (by kernel_rfl) F' _ H' (find_ans c n b1 b2 F') hl) ?_
  rintro v w3 L' ⟨rfl, rfl⟩ H
  simp only [List.cons_append, List.nil_append] at H
  -- stop: Req.done (Value.int IntKind.i64 (idxV (isOf c n) al))
  exact y_done (by kernel_rfl) _ ⟨rfl, rfl⟩ (shutPool (Own.only2 (H.pick [2, 0, 1] rfl)) rfl rfl)

attribute [local irreducible] Ret liveL in
set_option maxHeartbeats 400000 in
theorem pass_ret (p : PoolV) (n : Int) (b : Nat) (F : Fm) (w : World) (H : Own w F [PoolA b p]) (hl : p.all.length ≤ 1000) :
    Ret Try.prog 43 #[.pointer (some ⟨b, 0, none⟩), .int .i64 n] w (Post F fun v L' => v = .tuple #[] ∧ L' = [PoolA b (passV p n)]) := by
  refine ret_of_G Try.func43 rfl rfl ?_
  obtain ⟨fi, ma, ti, al, no⟩ := p
  have hl : al.length ≤ 1000 := hl
  obtain ⟨a, cap, hcap, H⟩ := openPool H
  simp only [poolC] at H
  refine y_new (c := #[Value.int IntKind.i64 n]) (T := 3) H (by kernel_rfl) (by kernel_rfl) (fun w1 b1 H => ?_)
  refine y_load 0 (o := 0) H rfl rfl (by kernel_rfl) ?_
  refine y_store 1 (o := 4) (v := Value.int IntKind.i64 n) (c' := #[Value.int IntKind.u32 fi, Value.int IntKind.i64 ma, Value.int IntKind.i64 ti, Value.slice a al.length cap, Value.int IntKind.i64 n]) H rfl (by kernel_rfl) (by kernel_rfl) (by kernel_rfl) rfl (by kernel_rfl) (fun w2 H => ?_)
  simp only [List.set_cons_zero, List.set_cons_succ] at H
  refine y_load 1 (o := 3) H rfl rfl (by kernel_rfl) ?_
  refine y_call (f := 44) (args := #[Value.slice a al.length cap, Value.func (Fn.func (58 : Nat)) (#[]) (#[Value.pointer (some (Addr.mk b1 (0 : Nat) none))])]) [2, 0] (M := [pt b #[Value.int IntKind.u32 fi, Value.int IntKind.i64 ma, Value.int IntKind.i64 ti, Value.slice a al.length cap, Value.int IntKind.i64 n] (89 : TypeId)]) H rfl rfl rfl (by kernel_rfl) (by kernel_rfl) (by kernel_rfl) (fun F' hF H' => deleteFunc_ret al (.slice a al.length cap) 58 _ _ (overB n) (by kernel_rfl) F' _ H' (pass_ans n b1 F') hl) ?_
  rintro v w3 L' rfl H
  simp only [List.cons_append, List.nil_append] at H
  obtain ⟨ra, rc, rfl, hrc, _⟩ := Own.shape 0 H rfl
  refine y_store 2 (o := 3) (v := Value.slice ra (List.map encE (List.filter (fun x => !overB n x) al)).length rc) (c' := #[Value.int IntKind.u32 fi, Value.int IntKind.i64 ma, Value.int IntKind.i64 ti, Value.slice ra (List.map encE (List.filter (fun x => !overB n x) al)).length rc, Value.int IntKind.i64 n]) H rfl (by kernel_rfl) (by kernel_rfl) (by kernel_rfl) rfl (by kernel_rfl) (fun w4 H => ?_)
  simp only [List.set_cons_zero, List.set_cons_succ] at H
  -- stop: Req.done (Value.tuple (#[]))
  exact y_done (by kernel_rfl) _ ⟨rfl, rfl⟩ (shutPool (Own.only2 (H.pick [2, 0, 1] rfl)) rfl (by unfold passV liveL; rfl))

theorem u32_wrap (x : Int) : IntKind.u32.wrap x = x % 4294967296 := by
  simp [IntKind.wrap, IntKind.signed, IntKind.bits]

attribute [local irreducible] Ret idxV beginV findV in
set_option maxHeartbeats 400000 in
theorem own_ret (p : PoolV) (c n ad : Int) (b : Nat) (F : Fm) (w : World) (H : Own w F [PoolA b p]) (hl : p.all.length ≤ 1000) (hf0 : 0 ≤ p.first) (hf1 : p.first < 4294967296) (ha0 : 0 ≤ ad) (ha1 : ad < 4294967296) :
    Ret Try.prog 48 #[.pointer (some ⟨b, 0, none⟩), .int .i64 c, .int .u32 ad, .int .i64 n] w (Post F fun v L' => v = .tuple #[.int .i64 (ownV p c ad n).1, .int .i64 (ownV p c ad n).2] ∧ L' = [PoolA b p]) := by
  refine ret_of_G Try.func48 rfl rfl ?_
  by_cases hb : beginV p c n = 0
  · have t1 : (beginV p c n != 0) = false := by rw [hb]; rfl
    refine y_call (f := 41) (args := #[Value.pointer (some (Addr.mk b (0 : Nat) none)), Value.int IntKind.i64 c, Value.int IntKind.i64 n]) [0] (M := []) H rfl rfl rfl (by kernel_rfl) (by kernel_rfl) (by kernel_rfl) (fun F' hF H' => begin_ret p c n b F' _ H') ?_
    rintro v w1 L' ⟨rfl, rfl⟩ H
    simp only [List.cons_append, List.nil_append] at H
    refine s_ifF (by kernel_rfl) t1 ?_
    refine s_draw (4 : Nat) 12 (by kernel_rfl) (by kernel_rfl) (by kernel_rfl) ?_
    replace H := Own.drew H
    -- load b (0 : Nat): no piece
    obtain ⟨a, cap, hcap, H⟩ := openPool H
    simp only [poolC] at H
    refine y_load 0 (o := 0) H rfl rfl (by kernel_rfl) ?_
    refine x_sub (t := 22) (a := ad) (b := p.first) (IntKind.u32.wrap ((ad) - (p.first))) rfl (by kernel_rfl) ?_
    refine x_conv (s := 22) (d := 3) (k := IntKind.u32) (k' := .i64) (a := IntKind.u32.wrap (ad - p.first)) (IntKind.i64.wrap (IntKind.u32.wrap (ad - p.first))) (by kernel_rfl) (by kernel_rfl) rfl (by kernel_rfl) ?_
    refine y_load 0 (o := 1) H rfl rfl (by kernel_rfl) ?_
    -- test decide (IntKind.i64.wrap (IntKind.u32.wrap (ad - p.first)) ≥ p.many)
    have hdw : IntKind.i64.wrap (IntKind.u32.wrap (ad - p.first)) = (ad - p.first) % 4294967296 := by rw [u32_wrap]; exact w64' (by omega) (by omega) rfl
    generalize IntKind.i64.wrap (IntKind.u32.wrap (ad - p.first)) = d at hdw
    have hd0 : 0 ≤ d := by omega
    have hd1 : d < 4294967296 := by omega
    by_cases hr : d ≥ p.many
    · have t2 : decide (d ≥ p.many) = true := decide_eq_true hr
      have e1 : ownV p c ad n = (0, 10) := by unfold ownV; rw [if_neg (by omega), if_pos (by omega)]
      rw [e1]
      refine s_ifT (by kernel_rfl) t2 ?_
      -- stop: Req.done (Value.tuple (#[Value.int IntKind.i64 (0 : Int), Value.int IntKind.i64 (10 : Int)]))
      exact y_done (by kernel_rfl) _ ⟨rfl, rfl⟩ (shutPool H rfl rfl)
    · have t2 : decide (d ≥ p.many) = false := decide_eq_false hr
      refine s_ifF (by kernel_rfl) t2 ?_
      -- stop: Req.call (42 : Nat) (#[Value.pointer (some (Addr.mk b (0 : Nat) none)), Value.int IntKind.i64 c, Value.int IntKind.i64 n])
      replace H := shutPool H (by unfold poolC; rfl) rfl
      cases hx : p.all[p.all.findIdx (isOf c n)]? with
      | none =>
        have e1 : ownV p c ad n = (0, 14) := by unfold ownV; rw [if_neg (by omega), if_neg (by omega), hx]
        have e2 : findV p c n = -1 := by
          have := List.getElem?_eq_none_iff.1 hx
          unfold findV idxV; rw [if_neg (by omega)]
        rw [e1]
        refine y_call (f := 42) (args := #[Value.pointer (some (Addr.mk b (0 : Nat) none)), Value.int IntKind.i64 c, Value.int IntKind.i64 n]) [0] (M := []) H rfl rfl rfl (by kernel_rfl) (by kernel_rfl) (by kernel_rfl) (fun F' hF H' => find_ret p c n b F' _ H' hl) ?_
        rintro v w2 L' ⟨rfl, rfl⟩ H
        simp only [List.cons_append, List.nil_append] at H
        rw [e2]
        refine s_ifT (b := true) (by kernel_rfl) rfl ?_
        -- stop: Req.done (Value.tuple (#[Value.int IntKind.i64 (0 : Int), Value.int IntKind.i64 (14 : Int)]))
        exact y_done (by kernel_rfl) _ ⟨rfl, rfl⟩ H
      | some x =>
        have hlt := (List.getElem?_eq_some_iff.1 hx).1
        have e2 : findV p c n = (p.all.findIdx (isOf c n) : Nat) := by unfold findV idxV; rw [if_pos hlt]
        have e1 : ownV p c ad n = if x.addr = ad then ((p.all.findIdx (isOf c n) : Int), 0) else (0, 14) := by unfold ownV; rw [if_neg (by omega), if_neg (by omega), hx]
        generalize p.all.findIdx (isOf c n) = i at hx e1 e2 hlt
        have t3 : decide (((i : Nat) : Int) < 0) = false := decide_eq_false (by omega)
        have hel : (p.all.map encE)[i]? = some (encE x) := by rw [List.getElem?_map, hx]; rfl
        obtain ⟨x1, x2, x3, x4⟩ := x
        have hel2 : (p.all.map encE)[i]? = some [.int .u32 x1, .int .i64 x2, .bool x3, .int .i64 x4] := hel
        refine y_call (f := 42) (args := #[Value.pointer (some (Addr.mk b (0 : Nat) none)), Value.int IntKind.i64 c, Value.int IntKind.i64 n]) [0] (M := []) H rfl rfl rfl (by kernel_rfl) (by kernel_rfl) (by kernel_rfl) (fun F' hF H' => find_ret p c n b F' _ H' hl) ?_
        rintro v w2 L' ⟨rfl, rfl⟩ H
        simp only [List.cons_append, List.nil_append] at H
        rw [e2]
        refine s_ifF (b := false) (by kernel_rfl) rfl ?_
        -- load b (3 : Nat): no piece
        obtain ⟨g, cap2, hcap2, H⟩ := openPoolN H (by omega)
        simp only [poolC] at H
        by_cases hxa : x1 = ad
        · have t4 : (x1 != ad) = false := by simp [hxa]
          rw [e1, if_pos hxa]
          refine y_load 0 (o := 3) H rfl rfl (by kernel_rfl) ?_
          refine y_idx (t := 71) (b := g) (o := (0 : Nat)) (n := p.all.length) (c := cap2) (kd := IntKind.i64) (i := (↑i : Int)) 4 (by kernel_rfl) (by omega) (by omega) (by kernel_rfl) ?_
          refine y_elLoad 1 (i := i) (j := 0) (o := (0 : Nat) + (↑i : Int).toNat * (4 : Nat)) H rfl hel2 rfl (by first | rfl | omega) (by kernel_rfl) ?_
          refine s_ifF (by kernel_rfl) t4 ?_
          -- stop: Req.done (Value.tuple (#[Value.int IntKind.i64 (↑i : Int), Value.int IntKind.i64 (0 : Int)]))
          exact y_done (by kernel_rfl) _ ⟨rfl, rfl⟩ (shutPool H rfl rfl)
        · have t4 : (x1 != ad) = true := by simp [hxa]
          rw [e1, if_neg hxa]
          refine y_load 0 (o := 3) H rfl rfl (by kernel_rfl) ?_
          refine y_idx (t := 71) (b := g) (o := (0 : Nat)) (n := p.all.length) (c := cap2) (kd := IntKind.i64) (i := (↑i : Int)) 4 (by kernel_rfl) (by omega) (by omega) (by kernel_rfl) ?_
          refine y_elLoad 1 (i := i) (j := 0) (o := (0 : Nat) + (↑i : Int).toNat * (4 : Nat)) H rfl hel2 rfl (by first | rfl | omega) (by kernel_rfl) ?_
          refine s_ifT (by kernel_rfl) t4 ?_
          -- stop: Req.done (Value.tuple (#[Value.int IntKind.i64 (0 : Int), Value.int IntKind.i64 (14 : Int)]))
          exact y_done (by kernel_rfl) _ ⟨rfl, rfl⟩ (shutPool H rfl rfl)
  · have t1 : (beginV p c n != 0) = true := by simp [hb]
    have e1 : ownV p c ad n = (0, beginV p c n) := by unfold ownV; rw [if_pos hb]
    rw [e1]
    refine y_call (f := 41) (args := #[Value.pointer (some (Addr.mk b (0 : Nat) none)), Value.int IntKind.i64 c, Value.int IntKind.i64 n]) [0] (M := []) H rfl rfl rfl (by kernel_rfl) (by kernel_rfl) (by kernel_rfl) (fun F' hF H' => begin_ret p c n b F' _ H') ?_
    rintro v w1 L' ⟨rfl, rfl⟩ H
    simp only [List.cons_append, List.nil_append] at H
    refine s_ifT (by kernel_rfl) t1 ?_
    -- stop: Req.done (Value.tuple (#[Value.int IntKind.i64 (0 : Int), Value.int IntKind.i64 (beginV p c n)]))
    exact y_done (by kernel_rfl) _ ⟨rfl, rfl⟩ H
end Go.Proofs.Ytfknpeajihecdaa
