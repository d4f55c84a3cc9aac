import Derived.Test.YtfknpeajihecdaaLs1
namespace Go.Proofs.Ytfknpeajihecdaa
open Go.XM Go.RowKit Go.Ls
set_option maxRecDepth 100000

theorem Own.kind {w : World} {F : Fm} {M : List Assn} {v : Value} {e size : Nat} {L : List (List Value)} (H : Own w F (rows v e size L :: M)) : (v = .slice none 0 0 ∧ L = []) ∨ ∃ b cap, v = .slice (some ⟨b, 0, none⟩) L.length cap ∧ L.length ≤ cap ∧ cap ≤ maxLen :=
  H.of1 fun h hr => by
    obtain ⟨_, hr⟩ := hr
    rcases hr with ⟨h1, h2, _⟩ | ⟨b, cap, cur, h1, h2, h3, _⟩
    · exact .inl ⟨h1, h2⟩
    · exact .inr ⟨b, cap, h1, h2, h3⟩

theorem encE_one (l : List EntV) : ∀ c ∈ l.map encE, ∀ u ∈ c, u.oneCell' = true := by
  intro c hc u hu
  obtain ⟨x, _, rfl⟩ := List.mem_map.1 hc
  simp only [encE, List.mem_cons, List.not_mem_nil, or_false] at hu
  rcases hu with rfl | rfl | rfl | rfl <;> rfl

attribute [local irreducible] Ret in
set_option maxHeartbeats 400000 in
theorem clone_ret (l : List EntV) (v : Value) (F : Fm) (w : World) (H : Own w F [rows v 75 4 (l.map encE)]) (hl : l.length ≤ 1000) :
    Ret Try.prog 45 #[v] w (Post F fun v' L' => L' = [rows v' 75 4 (l.map encE), rows v 75 4 (l.map encE)]) := by
  have hml : (l.map encE).length = l.length := List.length_map ..
  refine ret_of_G Try.func45 rfl rfl ?_
  rcases Own.kind H with ⟨rfl, hn⟩ | ⟨b, cap, rfl, hcap, _⟩
  · rw [hn] at H ⊢
    refine s_ifT (b := true) (by kernel_rfl) rfl ?_
    -- stop: Req.done (Value.slice none (0 : Nat) (0 : Nat))
    exact y_done (v := .slice none 0 0) (by kernel_rfl) _ rfl (H.nilRows _ _)
  · rw [hml] at hcap H ⊢
    refine s_ifF (b := false) (by kernel_rfl) rfl ?_
    refine y_new (c := #[]) (T := 75) H (by kernel_rfl) (by kernel_rfl) (fun w1 b1 H => ?_)
    -- stop: Req.bi Builtin.append (#[(71 : Nat), (71 : Nat)]) (71 : Nat) (#[Value.slice (some (Addr.mk b1 (0 : Nat) none)) (0 : Nat) (0 : Nat), Value.slice (some (Addr.mk b (0 : Nat) none)) l.length cap])
    replace H := Own.asRows [] 4 H (fun _ h => nomatch h) rfl (by decide)
    refine y_appendAll (t := 71) (ty := 71) (a2 := some ⟨b, 0, none⟩) (n2 := l.length) (c2 := cap) 0 1 32 (.agg #[.int .u32 0, .int .i64 0, .bool false, .int .i64 0]) H rfl rfl (encE_one l) ?_ ?_ (by kernel_rfl) (by kernel_rfl) (by kernel_rfl) (by decide) (by kernel_rfl) (by kernel_rfl) (fun a cap2 w3 H => ?_)
    · simp only [hml, maxLen, List.length_nil]; omega
    · simp only [hml, List.length_nil]; omega
    simp only [List.set_cons_zero, List.nil_append] at H
    exact y_done (by kernel_rfl) _ rfl H

def insertRows (L Z X : List (List Value)) (i n : Nat) : List (List Value) :=
  List.take (i + 1) (List.take i (List.take i L ++ Z) ++ List.take 1 (List.drop 0 X) ++ List.drop (i + 1) (List.take i L ++ Z)) ++ List.take (n - i) (List.drop i L) ++ List.drop (i + 1 + (n - i)) (List.take i (List.take i L ++ Z) ++ List.take 1 (List.drop 0 X) ++ List.drop (i + 1) (List.take i L ++ Z))

theorem insertRows_eq (l : List EntV) (x : EntV) (Z : List (List Value)) (i : Nat) (hi : i < l.length) (hZ : Z.length = l.length + 1 - i) : insertRows (l.map encE) Z [encE x] i l.length = (insertAt l i x).map encE := by
  unfold insertRows insertAt
  have e1 : (List.take i (l.map encE)).length = i := by rw [List.length_take, List.length_map]; omega
  have e2 : List.take i (List.take i (l.map encE) ++ Z) = List.take i (l.map encE) := by rw [List.take_append_of_le_length (by omega), List.take_take, Nat.min_self]
  have e3 : (List.take i (l.map encE) ++ [encE x]).length = i + 1 := by simp [e1]
  rw [e2, List.drop_zero, List.take_of_length_le (show ([encE x] : List (List Value)).length ≤ 1 by simp)]
  have e4 : List.drop (i + 1 + (l.length - i)) (List.take i (l.map encE) ++ [encE x] ++ List.drop (i + 1) (List.take i (l.map encE) ++ Z)) = [] := List.drop_eq_nil_of_le (by simp [hZ]; omega)
  rw [e4, List.take_append_of_le_length (by omega), List.take_of_length_le (by omega), List.take_of_length_le (show (List.drop i (l.map encE)).length ≤ l.length - i by simp)]
  simp [List.map_take, List.map_drop]

theorem shift_mid (L S : List (List Value)) (i : Nat) (hi : i ≤ L.length) : List.take (L.length - i) (List.drop i (List.take (L.length + 1) (L ++ S))) = L.drop i := by
  rw [List.drop_take, List.take_take, Nat.min_eq_left (by omega), List.drop_append_of_le_length hi, List.take_append_of_le_length (by rw [List.length_drop]; exact Nat.le_refl _), List.take_of_length_le (by rw [List.length_drop]; exact Nat.le_refl _)]

def shiftRows (T X : List (List Value)) (i n : Nat) : List (List Value) :=
  List.take i (List.take (i + 1) T ++ List.take (n - i) (List.drop i T) ++ List.drop (i + 1 + (n - i)) T) ++ List.take 1 (List.drop 0 X) ++ List.drop (i + 1) (List.take (i + 1) T ++ List.take (n - i) (List.drop i T) ++ List.drop (i + 1 + (n - i)) T)

theorem shiftRows_eq (l : List EntV) (x : EntV) (S : List (List Value)) (i : Nat) (hi : i < l.length) (hS : 0 < S.length) : shiftRows (List.take (l.length + 1) (l.map encE ++ S)) [encE x] i l.length = (insertAt l i x).map encE := by
  have hml : (l.map encE).length = l.length := List.length_map ..
  have hm := shift_mid (l.map encE) S i (by omega)
  rw [hml] at hm
  have hT : List.take (l.length + 1) (l.map encE ++ S) = l.map encE ++ S.take 1 := by
    rw [List.take_append, hml, List.take_of_length_le (by omega), Nat.add_sub_cancel_left]
  unfold shiftRows insertAt
  rw [hm, hT]
  have hTl : (l.map encE ++ S.take 1).length = l.length + 1 := by simp; omega
  have e1 : List.drop (i + 1 + (l.length - i)) (l.map encE ++ S.take 1) = [] := List.drop_eq_nil_of_le (by omega)
  have e2 : (List.take (i + 1) (l.map encE ++ S.take 1)).length = i + 1 := by rw [List.length_take]; omega
  have e3 : List.take i (List.take (i + 1) (l.map encE ++ S.take 1) ++ List.drop i (l.map encE)) = List.take i (l.map encE) := by
    rw [List.take_append_of_le_length (by omega), List.take_take, Nat.min_eq_left (by omega), List.take_append_of_le_length (by omega)]
  have e4 : List.drop (i + 1) (List.take (i + 1) (l.map encE ++ S.take 1) ++ List.drop i (l.map encE)) = List.drop i (l.map encE) := List.drop_left' e2
  rw [e1, List.append_nil, e3, e4]
  simp [List.map_take, List.map_drop]

attribute [local irreducible] Ret in
set_option maxHeartbeats 400000 in
theorem insert_ret (l : List EntV) (x : EntV) (i : Nat) (v vx : Value) (F : Fm) (w : World) (H : Own w F [rows v 75 4 (l.map encE), rows vx 75 4 ([x].map encE)]) (hi : i ≤ l.length) (hl : l.length ≤ 1000) :
    Ret Try.prog 47 #[v, .int .i64 i, vx] w (Post F fun v' L' => L' = [rows v' 75 4 ((insertAt l i x).map encE)]) := by
  have hml : (l.map encE).length = l.length := List.length_map ..
  obtain ⟨bx, cx, hvx, hcx, _⟩ := Own.shapeN 1 H rfl (by simp)
  rw [List.length_map, List.length_singleton] at hvx
  subst hvx
  refine ret_of_G Try.func47 rfl rfl ?_
  by_cases hin : i = l.length
  · have t1 : ((i : Int) == (l.length : Int)) = true := by simp; omega
    rcases Own.kind H with ⟨rfl, hn⟩ | ⟨b, cap, rfl, hcap, _⟩
    · rw [hn] at H hml
      have hl0 : l.length = 0 := by rw [← hml]; rfl
      have hi0 : i = 0 := by omega
      subst hi0
      
      -- stop: Req.slice (71 : Nat) (Value.slice none (0 : Nat) (0 : Nat)) (some (Value.int IntKind.i64 (0 : Int))) none none
      refine x_sliceNil (t := 71) (lo := some (.int .i64 (0 : Int))) (hi := none) (by kernel_rfl) (.int .i64 (0 : Int) _ (by omega)) (.none _) (by kernel_rfl) ?_
      refine s_ifF (b := false) (by kernel_rfl) rfl ?_
      refine s_ifT (b := true) (by kernel_rfl) rfl ?_
      -- stop: Req.bi Builtin.append (#[(71 : Nat), (71 : Nat)]) (71 : Nat) (#[Value.slice none (0 : Nat) (0 : Nat), Value.slice (some (Addr.mk bx (0 : Nat) none)) (1 : Nat) cx])
      refine y_appendAll (t := 71) (ty := 71) (a2 := some ⟨bx, 0, none⟩) (n2 := 1) (c2 := cx) 0 1 32 (.agg #[.int .u32 0, .int .i64 0, .bool false, .int .i64 0]) H rfl rfl (encE_one [x]) ?_ ?_ (by kernel_rfl) (by kernel_rfl) (by kernel_rfl) (by decide) (by kernel_rfl) (by kernel_rfl) (fun a cap2 w3 H => ?_)
      · simp [maxLen]
      · simp
      simp only [List.set_cons_zero, List.nil_append] at H
      have hll : l = [] := List.eq_nil_of_length_eq_zero hl0
      subst hll
      exact y_done (by kernel_rfl) _ rfl H.only1
    · rw [hml] at hcap H ⊢
      
      -- stop: Req.slice (71 : Nat) (Value.slice (some (Addr.mk b (0 : Nat) none)) l.length cap) (some (Value.int IntKind.i64 (↑i : Int))) none none
      refine x_sliceV (t := 71) (b := b) (o := 0) (n := l.length) (c := cap) (lo := some (.int .i64 (i : Int))) (hi := none) (l := i) (h := l.length) 4 (by kernel_rfl) (.int .i64 (i : Int) _ (by omega)) (.none _) (by omega) (by omega) (by kernel_rfl) (fun o1 ho1 => ?_)
      refine s_ifF (b := false) (by kernel_rfl) rfl ?_
      refine s_ifT (by kernel_rfl) t1 ?_
      -- stop: Req.bi Builtin.append (#[(71 : Nat), (71 : Nat)]) (71 : Nat) (#[Value.slice (some (Addr.mk b (0 : Nat) none)) l.length cap, Value.slice (some (Addr.mk bx (0 : Nat) none)) (1 : Nat) cx])
      refine y_appendAll (t := 71) (ty := 71) (a2 := some ⟨bx, 0, none⟩) (n2 := 1) (c2 := cx) 0 1 32 (.agg #[.int .u32 0, .int .i64 0, .bool false, .int .i64 0]) H rfl rfl (encE_one [x]) ?_ ?_ (by kernel_rfl) (by kernel_rfl) (by kernel_rfl) (by decide) (by kernel_rfl) (by kernel_rfl) (fun a cap2 w3 H => ?_)
      · simp only [hml, maxLen, List.length_map, List.length_singleton]; omega
      · simp only [hml, List.length_map, List.length_singleton]; omega
      simp only [List.set_cons_zero] at H
      subst hin
      have hfin : l.map encE ++ [x].map encE = (insertAt l l.length x).map encE := by unfold insertAt; simp
      rw [hfin] at H
      exact y_done (by kernel_rfl) _ rfl H.only1
  · have t1 : ((i : Int) == (l.length : Int)) = false := by simp; omega
    rcases Own.kind H with ⟨rfl, hn⟩ | ⟨b, cap, rfl, hcap, _⟩
    · rw [hn] at hml; simp at hml; omega
    · rw [hml] at hcap H ⊢
      
      -- stop: Req.slice (71 : Nat) (Value.slice (some (Addr.mk b (0 : Nat) none)) l.length cap) (some (Value.int IntKind.i64 (↑i : Int))) none none
      refine x_sliceV (t := 71) (b := b) (o := 0) (n := l.length) (c := cap) (lo := some (.int .i64 (i : Int))) (hi := none) (l := i) (h := l.length) 4 (by kernel_rfl) (.int .i64 (i : Int) _ (by omega)) (.none _) (by omega) (by omega) (by kernel_rfl) (fun o1 ho1 => ?_)
      refine s_ifF (b := false) (by kernel_rfl) rfl ?_
      refine s_ifF (by kernel_rfl) t1 ?_
      refine x_add (t := 3) (a := (↑l.length : Int)) (b := (1 : Int)) (((l.length) + ((1 : Nat)) : Nat) : Int) (w64' (by omega) (by omega) (by omega)) (by kernel_rfl) ?_
      -- test decide ((↑(l.length + (1 : Nat)) : Int) > (↑cap : Int))
      by_cases hroom : l.length + 1 > cap
      · have t2 : decide (((l.length : Nat) : Int) + 1 > cap) = true := decide_eq_true (by omega)
        have t3 : decide (((l.length + 1 : Nat) : Int) > cap) = true := decide_eq_true (by omega)
        refine s_ifT (by kernel_rfl) t3 ?_
        -- stop: Req.slice (71 : Nat) (Value.slice (some (Addr.mk b (0 : Nat) none)) l.length cap) none (some (Value.int IntKind.i64 (↑i : Int))) none
        refine x_sliceV (t := 71) (b := b) (o := 0) (n := l.length) (c := cap) (lo := none) (hi := some (.int .i64 (i : Int))) (l := 0) (h := i) 4 (by kernel_rfl) (.none _) (.int .i64 (i : Int) _ (by omega)) (by omega) (by omega) (by kernel_rfl) (fun o2 ho2 => ?_)
        have ho3 := ho2 (by omega)
        simp only [Nat.zero_mul, Nat.add_zero] at ho3
        subst ho3
        refine x_add (t := 3) (a := (↑l.length : Int)) (b := (1 : Int)) (((l.length) + ((1 : Nat)) : Nat) : Int) (w64' (by omega) (by omega) (by omega)) (by kernel_rfl) ?_
        refine x_sub (t := 3) (a := (↑(l.length + (1 : Nat)) : Int)) (b := (↑i : Int)) (((↑(l.length + (1 : Nat)) : Int)) - ((↑i : Int))) (w64' (by omega) (by omega) rfl) (by kernel_rfl) ?_
        -- stop: Req.bi Builtin.append (#[(71 : Nat), (3 : Nat)]) (71 : Nat) (#[Value.slice (some (Addr.mk b (0 : Nat) none)) i cap, Value.int IntKind.i64 ((↑(l.length + (1 : Nat)) : Int) - (↑i : Int))])
        have hx : ((l.length + 1 : Nat) : Int) - (i : Int) = ((l.length + 1 - i : Nat) : Int) := by omega
        rw [hx]
        refine y_appendZ (t := 71) (tn := 3) (ty := 71) (kq := .i64) (kn := .i64) (b := b) (n := l.length) (i := i) (cap := cap) (x := l.length + 1 - i) 0 32 (.agg #[.int .u32 0, .int .i64 0, .bool false, .int .i64 0]) H rfl (by omega) (by omega) (by omega) (by decide) (by simp only [maxLen]; omega) (by omega) (by kernel_rfl) (by kernel_rfl) (by kernel_rfl) (by kernel_rfl) (by kernel_rfl) (by kernel_rfl) (fun g cap2 Z w4 hZ hcap2 H => ?_)
        have hn2 : i + (l.length + 1 - i) = l.length + 1 := by omega
        rw [hn2] at hcap2 H ⊢
        
        -- stop: Req.slice (71 : Nat) (Value.slice (some (Addr.mk g (0 : Nat) none)) (l.length + (1 : Nat)) cap2) (some (Value.int IntKind.i64 (↑i : Int))) none none
        refine x_sliceV (t := 71) (b := g) (o := 0) (n := l.length + 1) (c := cap2) (lo := some (.int .i64 (i : Int))) (hi := none) (l := i) (h := l.length + 1) 4 (by kernel_rfl) (.int .i64 (i : Int) _ (by omega)) (.none _) (by omega) (by omega) (by kernel_rfl) (fun o3 ho3 => ?_)
        
        -- stop: Req.bi Builtin.copy (#[(71 : Nat), (71 : Nat)]) (3 : Nat) (#[Value.slice (some (Addr.mk g o3 none)) (l.length + (1 : Nat) - i) (cap2 - i), Value.slice (some (Addr.mk bx (0 : Nat) none)) (1 : Nat) cx])
        refine y_copy (t := 71) (ty := 3) (b := g) (b' := bx) (od := o3) (os := 0) (dl := l.length + 1 - i) (dc := cap2 - i) (sl := 1) (sc := cx) 0 2 i 0 1 32 (.agg #[.int .u32 0, .int .i64 0, .bool false, .int .i64 0]) H rfl rfl (by simp only [Nat.min_def]; split <;> omega) (by omega) (by omega) (fun _ => by rw [ho3 (by omega)]; omega) (fun _ => by omega) (fun c hc => encE_one [x] c (List.mem_of_mem_drop (List.mem_of_mem_take hc))) (by kernel_rfl) (by kernel_rfl) (by kernel_rfl) (by kernel_rfl) (fun w5 H => ?_)
        simp only [List.set_cons_zero] at H
        refine s_drawT (11 : Nat) 8 (by kernel_rfl) (by kernel_rfl) (by kernel_rfl) ?_
        replace H := Own.drew H
        refine x_add (t := 3) (a := (↑i : Int)) (b := (1 : Int)) (((i) + ((1 : Nat)) : Nat) : Int) (w64' (by omega) (by omega) (by omega)) (by kernel_rfl) ?_
        -- stop: Req.slice (71 : Nat) (Value.slice (some (Addr.mk g (0 : Nat) none)) (l.length + (1 : Nat)) cap2) (some (Value.int IntKind.i64 (↑(i + (1 : Nat)) : Int))) none none
        refine x_sliceV (t := 71) (b := g) (o := 0) (n := l.length + 1) (c := cap2) (lo := some (.int .i64 (((i + 1 : Nat) : Int) : Int))) (hi := none) (l := i + 1) (h := l.length + 1) 4 (by kernel_rfl) (.int .i64 (((i + 1 : Nat) : Int) : Int) _ (by omega)) (.none _) (by omega) (by omega) (by kernel_rfl) (fun o4 ho4 => ?_)
        
        -- stop: Req.slice (71 : Nat) (Value.slice (some (Addr.mk b (0 : Nat) none)) l.length cap) (some (Value.int IntKind.i64 (↑i : Int))) none none
        refine x_sliceV (t := 71) (b := b) (o := 0) (n := l.length) (c := cap) (lo := some (.int .i64 (i : Int))) (hi := none) (l := i) (h := l.length) 4 (by kernel_rfl) (.int .i64 (i : Int) _ (by omega)) (.none _) (by omega) (by omega) (by kernel_rfl) (fun o5 ho5 => ?_)
        refine y_copy (t := 71) (ty := 3) (b := g) (b' := b) (od := o4) (os := o5) (dl := l.length + 1 - (i + 1)) (dc := cap2 - (i + 1)) (sl := l.length - i) (sc := cap - i) 0 1 (i + 1) (i) (l.length - i) 32 (.agg #[.int .u32 0, .int .i64 0, .bool false, .int .i64 0]) H rfl rfl (by simp only [Nat.min_def]; split <;> omega) (by omega) (by omega) (fun _ => by rw [ho4 (by omega)]; omega) (fun _ => by rw [ho5 (by omega)]; omega) (fun c hc => encE_one l c (List.mem_of_mem_drop (List.mem_of_mem_take hc))) (by kernel_rfl) (by kernel_rfl) (by kernel_rfl) (by kernel_rfl) (fun w6 H => ?_)
        simp only [List.set_cons_zero] at H
        
        -- stop: Req.done (Value.slice (some (Addr.mk g (0 : Nat) none)) (l.length + (1 : Nat)) cap2)
        have hfin : insertRows (l.map encE) Z [encE x] i l.length = (insertAt l i x).map encE := insertRows_eq l x Z i (by omega) (by omega)
        unfold insertRows at hfin
        rw [show [x].map encE = [encE x] from rfl, hfin] at H
        exact y_done (by kernel_rfl) _ rfl H.only1
      · have t3 : decide (((l.length + 1 : Nat) : Int) > cap) = false := decide_eq_false (by omega)
        refine s_ifF (by kernel_rfl) t3 ?_
        refine x_add (t := 3) (a := (↑l.length : Int)) (b := (1 : Int)) (((l.length) + ((1 : Nat)) : Nat) : Int) (w64' (by omega) (by omega) (by omega)) (by kernel_rfl) ?_
        -- stop: Req.slice (71 : Nat) (Value.slice (some (Addr.mk b (0 : Nat) none)) l.length cap) none (some (Value.int IntKind.i64 (↑(l.length + (1 : Nat)) : Int))) none
        refine x_sliceV (t := 71) (b := b) (o := 0) (n := l.length) (c := cap) (lo := none) (hi := some (.int .i64 (((l.length + 1 : Nat) : Int) : Int))) (l := 0) (h := l.length + 1) 4 (by kernel_rfl) (.none _) (.int .i64 (((l.length + 1 : Nat) : Int) : Int) _ (by omega)) (by omega) (by omega) (by kernel_rfl) (fun o2 ho2 => ?_)
        have ho3 := ho2 (by omega)
        simp only [Nat.zero_mul, Nat.add_zero] at ho3
        subst ho3
        obtain ⟨S, hS, H⟩ := Own.full H
        replace H := Own.cut (l.length + 1) H (by omega)
        refine x_add (t := 3) (a := (↑i : Int)) (b := (1 : Int)) (((i) + ((1 : Nat)) : Nat) : Int) (w64' (by omega) (by omega) (by omega)) (by kernel_rfl) ?_
        -- stop: Req.slice (71 : Nat) (Value.slice (some (Addr.mk b (0 : Nat) none)) (l.length + (1 : Nat) - (0 : Nat)) cap) (some (Value.int IntKind.i64 (↑(i + (1 : Nat)) : Int))) none none
        refine x_sliceV (t := 71) (b := b) (o := 0) (n := l.length + 1) (c := cap) (lo := some (.int .i64 (((i + 1 : Nat) : Int) : Int))) (hi := none) (l := i + 1) (h := l.length + 1) 4 (by kernel_rfl) (.int .i64 (((i + 1 : Nat) : Int) : Int) _ (by omega)) (.none _) (by omega) (by omega) (by kernel_rfl) (fun o3 ho3 => ?_)
        refine y_overlaps (f := 59) (fo := Try.f59) (tS := 71) (tR := 4) (a := bx) (b := b) (oa := 0) (ob := o3) (la := 1) (ca := cx) (lb := l.length + 1 - (i + 1)) (cb := cap - (i + 1)) 1 0 H rfl rfl rfl (by omega) (by decide) (by kernel_rfl) (by kernel_rfl) (by kernel_rfl) (by kernel_rfl) (by kernel_rfl) (by kernel_rfl) (by kernel_rfl) (by kernel_rfl) (by kernel_rfl) ?_
        refine s_ifT (b := true) (by kernel_rfl) rfl ?_
        refine s_drawT (15 : Nat) 8 (by kernel_rfl) (by kernel_rfl) (by kernel_rfl) ?_
        replace H := Own.drew H
        refine x_add (t := 3) (a := (↑i : Int)) (b := (1 : Int)) (((i) + ((1 : Nat)) : Nat) : Int) (w64' (by omega) (by omega) (by omega)) (by kernel_rfl) ?_
        -- stop: Req.slice (71 : Nat) (Value.slice (some (Addr.mk b (0 : Nat) none)) (l.length + (1 : Nat) - (0 : Nat)) cap) (some (Value.int IntKind.i64 (↑(i + (1 : Nat)) : Int))) none none
        refine x_sliceV (t := 71) (b := b) (o := 0) (n := l.length + 1) (c := cap) (lo := some (.int .i64 (((i + 1 : Nat) : Int) : Int))) (hi := none) (l := i + 1) (h := l.length + 1) 4 (by kernel_rfl) (.int .i64 (((i + 1 : Nat) : Int) : Int) _ (by omega)) (.none _) (by omega) (by omega) (by kernel_rfl) (fun o4 ho4 => ?_)
        
        -- stop: Req.slice (71 : Nat) (Value.slice (some (Addr.mk b (0 : Nat) none)) (l.length + (1 : Nat) - (0 : Nat)) cap) (some (Value.int IntKind.i64 (↑i : Int))) none none
        refine x_sliceV (t := 71) (b := b) (o := 0) (n := l.length + 1) (c := cap) (lo := some (.int .i64 (i : Int))) (hi := none) (l := i) (h := l.length + 1) 4 (by kernel_rfl) (.int .i64 (i : Int) _ (by omega)) (.none _) (by omega) (by omega) (by kernel_rfl) (fun o5 ho5 => ?_)
        refine y_copy (t := 71) (ty := 3) (b := b) (b' := b) (od := o4) (os := o5) (dl := l.length + 1 - (i + 1)) (dc := cap - (i + 1)) (sl := l.length + 1 - i) (sc := cap - i) 0 0 (i + 1) (i) (l.length - i) 32 (.agg #[.int .u32 0, .int .i64 0, .bool false, .int .i64 0]) H rfl rfl (by simp only [Nat.min_def]; split <;> omega) (by omega) (by omega) (fun _ => by rw [ho4 (by omega)]; omega) (fun _ => by rw [ho5 (by omega)]; omega) (fun c hc => encE_one l c ?_) (by kernel_rfl) (by kernel_rfl) (by kernel_rfl) (by kernel_rfl) (fun w6 H => ?_)
        · rw [show l.length - i = (l.map encE).length - i by rw [hml], show l.length + 1 = (l.map encE).length + 1 by rw [hml], shift_mid _ _ _ (by omega)] at hc
          exact List.mem_of_mem_drop hc
        simp only [List.set_cons_zero] at H
        
        -- stop: Req.slice (71 : Nat) (Value.slice (some (Addr.mk b (0 : Nat) none)) (l.length + (1 : Nat) - (0 : Nat)) cap) (some (Value.int IntKind.i64 (↑i : Int))) none none
        refine x_sliceV (t := 71) (b := b) (o := 0) (n := l.length + 1) (c := cap) (lo := some (.int .i64 (i : Int))) (hi := none) (l := i) (h := l.length + 1) 4 (by kernel_rfl) (.int .i64 (i : Int) _ (by omega)) (.none _) (by omega) (by omega) (by kernel_rfl) (fun o6 ho6 => ?_)
        
        -- stop: Req.bi Builtin.copy (#[(71 : Nat), (71 : Nat)]) (3 : Nat) (#[Value.slice (some (Addr.mk b o6 none)) (l.length + (1 : Nat) - i) (cap - i), Value.slice (some (Addr.mk bx (0 : Nat) none)) (1 : Nat) cx])
        refine y_copy (t := 71) (ty := 3) (b := b) (b' := bx) (od := o6) (os := 0) (dl := l.length + 1 - i) (dc := cap - i) (sl := 1) (sc := cx) 0 1 (i) (0) (1) 32 (.agg #[.int .u32 0, .int .i64 0, .bool false, .int .i64 0]) H rfl rfl (by simp only [Nat.min_def]; split <;> omega) (by omega) (by omega) (fun _ => by rw [ho6 (by omega)]; omega) (fun _ => by omega) (fun c hc => encE_one [x] c (List.mem_of_mem_drop (List.mem_of_mem_take hc))) (by kernel_rfl) (by kernel_rfl) (by kernel_rfl) (by kernel_rfl) (fun w7 H => ?_)
        simp only [List.set_cons_zero] at H
        
        -- stop: Req.done (Value.slice (some (Addr.mk b (0 : Nat) none)) (l.length + (1 : Nat) - (0 : Nat)) cap)
        have hfin : shiftRows (List.take (l.length + 1) (l.map encE ++ S)) [encE x] i l.length = (insertAt l i x).map encE := shiftRows_eq l x S i (by omega) (by omega)
        unfold shiftRows at hfin
        rw [show [x].map encE = [encE x] from rfl, hfin] at H
        exact y_done (by kernel_rfl) _ rfl H.only1
end Go.Proofs.Ytfknpeajihecdaa
