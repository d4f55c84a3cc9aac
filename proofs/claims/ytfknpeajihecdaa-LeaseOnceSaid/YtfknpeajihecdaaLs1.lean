import Derived.Test.YtfknpeajihecdaaProg
import Derived.Test.YtfknpeajihecdaaLsPure
import Derived.Test.YtfknpeajihecdaaYSl
import Derived.Test.YtfknpeajihecdaaYSlice
namespace Go.Proofs.Ytfknpeajihecdaa
open Go.XM Go.RowKit Go.Ls
set_option maxRecDepth 100000

def encE (x : EntV) : List Value := [.int .u32 x.addr, .int .i64 x.client, .bool x.off, .int .i64 x.til]
theorem encE_len (l : List EntV) : ∀ c ∈ l.map encE, c.length = 4 := fun c hc => by
  obtain ⟨x, _, rfl⟩ := List.mem_map.1 hc; rfl

/-- A function value that answers for each entry. -/
def Answers (k : FuncId) (cap : Array Value) (C : Assn) (F : Fm) (p : EntV → Bool) : Prop :=
  ∀ (x : EntV) (F' : Fm) (w : World), hle F.hl F'.hl → Own w F' [C] → Ret Try.prog k (#[] ++ #[.agg (encE x).toArray] ++ cap) w (Post F' fun v L' => v = .bool (p x) ∧ L' = [C])

attribute [local irreducible] idxV Ret in
set_option maxHeartbeats 400000 in
theorem indexFunc_ret (l : List EntV) (v : Value) (k : FuncId) (cap : Array Value) (C : Assn) (p : EntV → Bool) (hk : callableB Try.prog k = true) (F : Fm) (w : World) (H : Own w F [rows v 75 4 (l.map encE), C]) (hp : Answers k cap C F p) (hl : l.length ≤ 1000) :
    Ret Try.prog 56 #[v, .func (.func k) #[] cap] w (Post F fun v' L' => v' = .int .i64 (idxV p l) ∧ L' = [rows v 75 4 (l.map encE), C]) := by
  have hml : (l.map encE).length = l.length := List.length_map ..
  obtain ⟨a, cp, rfl, hcp, _⟩ := Own.shape 0 H rfl
  rw [hml] at hcp H ⊢
  refine ret_of_G Try.func56 rfl rfl ?_
  refine s_loop (γ := Nat) 0 [8] (fun i => [.int .i64 i]) (fun i w' => Own w' F [rows (.slice a l.length cp) 75 4 (l.map encE), C] ∧ i ≤ l.findIdx p) (fun i => l.length - i) 0 [.int .i64 0] (by kernel_rfl) (by kernel_rfl) rfl (by kernel_rfl) rfl ⟨H, Nat.zero_le _⟩ ?_
  clear H
  rintro i w1 ⟨H, hi⟩
  have hfl := List.findIdx_le_length (p := p) (xs := l)
  by_cases hlt : i < l.length
  · have t1 : decide ((i : Int) < l.length) = true := decide_eq_true (by omega)
    have hel := List.getElem?_eq_getElem hlt
    have hpx : p l[i] = true → l.findIdx p = i := fun h => by
      rcases Nat.lt_or_ge i (l.findIdx p) with h1 | h1
      · have := List.not_of_lt_findIdx h1
        simp [h] at this
      · omega
    have hpn : p l[i] = false → i + 1 ≤ l.findIdx p := fun h => by
      rcases Nat.lt_or_ge i (l.findIdx p) with h1 | h1
      · exact h1
      · have h2 : l.findIdx p = i := by omega
        have := List.findIdx_getElem (p := p) (xs := l) (w := by omega)
        simp only [h2] at this
        rw [h] at this; cases this
    generalize l[i] = x at hel hpx hpn
    obtain ⟨x1, x2, x3, x4⟩ := x
    have hel2 : (l.map encE)[i]? = some [.int .u32 x1, .int .i64 x2, .bool x3, .int .i64 x4] := by rw [List.getElem?_map, hel]; rfl
    obtain ⟨g, capx, hsv, _, _⟩ := Own.shapeN 0 H rfl (by rw [hml]; omega)
    rw [hml] at hsv
    cases hsv
    refine s_ifT (by kernel_rfl) t1 ?_
    refine y_idx (t := 71) (b := g) (o := (0 : Nat)) (n := l.length) (c := cp) (kd := IntKind.i64) (i := (↑i : Int)) 4 (by kernel_rfl) (by omega) (by omega) (by kernel_rfl) ?_
    refine y_elLoad 0 (i := i) (j := 0) (o := (0 : Nat) + (↑i : Int).toNat * (4 : Nat)) H rfl hel2 rfl (by first | rfl | omega) (by kernel_rfl) ?_
    refine y_elLoad 0 (i := i) (j := 1) (o := (0 : Nat) + (↑i : Int).toNat * (4 : Nat) + (1 : Nat)) H rfl hel2 rfl (by first | rfl | omega) (by kernel_rfl) ?_
    refine y_elLoad 0 (i := i) (j := 2) (o := (0 : Nat) + (↑i : Int).toNat * (4 : Nat) + (2 : Nat)) H rfl hel2 rfl (by first | rfl | omega) (by kernel_rfl) ?_
    refine y_elLoad 0 (i := i) (j := 3) (o := (0 : Nat) + (↑i : Int).toNat * (4 : Nat) + (3 : Nat)) H rfl hel2 rfl (by first | rfl | omega) (by kernel_rfl) ?_
    -- stop: Req.call k (Decidable.rec (fun h => (fun h => (fun stop h => Array.foldlM.loop (fun x1 x2 => pure ((fun xs v => xs.push v) x1 x2)) cap stop h (stop - (0 : Nat)) (0 : Nat) (#[] ++ argsOf (nx Try.prog Try.f56 (nx Try.prog Try.f56 (nx Try.prog Try.f56 (nx Try.prog Try.f56 (nx Try.prog Try.f56 (nx Try.prog Try.f56 (nxl Try.prog Try.f56 (st0 Try.prog Try.f56 [Value.slice (some (Addr.mk g (0 : Nat) none)) l.length cp, Value.func (Fn.func k) #[] cap]) [(8 : Nat)] [Value.int IntKind.i64 (↑i : Int)]) (Rsp.b true)) (Rsp.v (Value.pointer (some (Addr.mk g ((0 : Nat) + (↑i : Int).toNat * (4 : Nat)) none))))) (Rsp.v (Value.int IntKind.u32 x1))) (Rsp.v (Value.int IntKind.i64 x2))) (Rsp.v (Value.bool x3))) (Rsp.v (Value.int IntKind.i64 x4))).fr (Call.mk (Callee.value (Operand.tmp (11 : Nat))) #[Operand.tmp (15 : Nat)] #[(75 : Nat)]).args)) cap.size (Array.forIn'._proof_2 cap)) h) (fun h => (fun h => (fun stop h => Array.foldlM.loop (fun x1 x2 => pure ((fun xs v => xs.push v) x1 x2)) cap stop h (stop - (0 : Nat)) (0 : Nat) (#[] ++ argsOf (nx Try.prog Try.f56 (nx Try.prog Try.f56 (nx Try.prog Try.f56 (nx Try.prog Try.f56 (nx Try.prog Try.f56 (nx Try.prog Try.f56 (nxl Try.prog Try.f56 (st0 Try.prog Try.f56 [Value.slice (some (Addr.mk g (0 : Nat) none)) l.length cp, Value.func (Fn.func k) #[] cap]) [(8 : Nat)] [Value.int IntKind.i64 (↑i : Int)]) (Rsp.b true)) (Rsp.v (Value.pointer (some (Addr.mk g ((0 : Nat) + (↑i : Int).toNat * (4 : Nat)) none))))) (Rsp.v (Value.int IntKind.u32 x1))) (Rsp.v (Value.int IntKind.i64 x2))) (Rsp.v (Value.bool x3))) (Rsp.v (Value.int IntKind.i64 x4))).fr (Call.mk (Callee.value (Operand.tmp (11 : Nat))) #[Operand.tmp (15 : Nat)] #[(75 : Nat)]).args)) cap.size h) h) (cap.size.decLe cap.size))
    refine y_call (f := k) (args := #[] ++ #[.agg #[.int .u32 x1, .int .i64 x2, .bool x3, .int .i64 x4]] ++ cap) [1] (M := [rows (.slice (some ⟨g, 0, none⟩) l.length cp) 75 4 (l.map encE)]) H rfl rfl rfl (by kernel_rfl) (by kernel_rfl) hk (fun F' hF H' => hp ⟨x1, x2, x3, x4⟩ F' _ hF H') ?_
    rintro v w2 L' ⟨rfl, rfl⟩ H
    replace H := H.pick [1, 0] rfl
    refine s_if (b := p ⟨x1, x2, x3, x4⟩) (by kernel_rfl) (fun ht => ?_) (fun hf => ?_)
    · have hx := hpx ht
      
      -- stop: Req.done (Value.int IntKind.i64 (↑i : Int))
      exact y_done (v := .int .i64 i) (by kernel_rfl) _ ⟨by unfold idxV; rw [if_pos (by omega), hx], rfl⟩ H
    · have hx := hpn hf
      refine x_add (t := 3) (a := (↑i : Int)) (b := (1 : Int)) (((i) + ((1 : Nat)) : Nat) : Int) (w64' (by omega) (by omega) (by omega)) (by kernel_rfl) ?_
      -- stop: Req.again (0 : Nat)
      exact s_again 0 (i + 1) [.int .i64 ((i + 1 : Nat) : Int)] rfl (by kernel_rfl) (by kernel_rfl) (by kernel_rfl) rfl ⟨H, hx⟩ (by omega)
  · have t1 : decide ((i : Int) < l.length) = false := decide_eq_false (by omega)
    refine s_ifF (by kernel_rfl) t1 ?_
    -- stop: Req.done (Value.int IntKind.i64 (-1 : Int))
    exact y_done (v := .int .i64 (-1)) (by kernel_rfl) _ ⟨by unfold idxV; rw [if_neg (by omega)], rfl⟩ H

/-- The state of DeleteFunc's loop. -/
structure DelI (p : EntV → Bool) (l : List EntV) (j i : Nat) (C : List EntV) : Prop where
  took : C.take i = (l.take j).filter fun x => !p x
  len : C.length = l.length
  lt : i + 1 ≤ j
  le : j ≤ l.length
  rest : ∀ m, j ≤ m → C[m]? = l[m]?

theorem DelI.start {p : EntV → Bool} {l : List EntV} (h : l.findIdx p < l.length) : DelI p l (l.findIdx p + 1) (l.findIdx p) l := by
  have hp : p l[l.findIdx p] = true := List.findIdx_getElem
  refine ⟨?_, rfl, Nat.le_refl _, h, fun _ _ => rfl⟩
  rw [List.take_add_one, List.getElem?_eq_getElem h, List.filter_append]
  have h1 : (l.take (l.findIdx p)).filter (fun x => !p x) = l.take (l.findIdx p) := by
    refine List.filter_eq_self.2 fun x hx => ?_
    obtain ⟨k, hk⟩ := List.mem_iff_getElem?.1 hx
    rw [List.getElem?_take] at hk
    split at hk
    · rename_i hlt
      obtain ⟨h3, rfl⟩ := List.getElem?_eq_some_iff.1 hk
      have := List.not_of_lt_findIdx hlt
      simpa using this
    · cases hk
  rw [h1]
  simp [hp]

theorem DelI.skip {p : EntV → Bool} {l C : List EntV} {j i : Nat} {x : EntV} (h : DelI p l j i C) (hx : l[j]? = some x) (hp : p x = true) : DelI p l (j + 1) i C := by
  have hj := (List.getElem?_eq_some_iff.1 hx).1
  refine ⟨?_, h.len, by have := h.lt; omega, hj, fun m hm => h.rest m (by omega)⟩
  rw [h.took, List.take_add_one, hx, List.filter_append]
  simp [hp]

theorem DelI.keep {p : EntV → Bool} {l C : List EntV} {j i : Nat} {x : EntV} (h : DelI p l j i C) (hx : l[j]? = some x) (hp : p x = false) : DelI p l (j + 1) (i + 1) (C.set i x) := by
  have hj := (List.getElem?_eq_some_iff.1 hx).1
  have hlt := h.lt
  have hlen := h.len
  refine ⟨?_, by rw [List.length_set]; exact hlen, by omega, hj, fun m hm => ?_⟩
  · rw [List.take_add_one, List.take_set_of_le (Nat.le_refl _), h.took, List.getElem?_set, if_pos rfl, if_pos (by omega), List.take_add_one, hx, List.filter_append]
    simp [hp]
  · rw [List.getElem?_set, if_neg (by omega)]
    exact h.rest m (by omega)

attribute [local irreducible] idxV Ret in
set_option maxHeartbeats 400000 in
theorem deleteFunc_ret (l : List EntV) (v : Value) (k : FuncId) (cap : Array Value) (C : Assn) (p : EntV → Bool) (hk : callableB Try.prog k = true) (F : Fm) (w : World) (H : Own w F [rows v 75 4 (l.map encE), C]) (hp : Answers k cap C F p) (hl : l.length ≤ 1000) :
    Ret Try.prog 44 #[v, .func (.func k) #[] cap] w (Post F fun v' L' => L' = [rows v' 75 4 ((l.filter fun x => !p x).map encE), C]) := by
  have hml : (l.map encE).length = l.length := List.length_map ..
  obtain ⟨a, cp, rfl, hcp, _⟩ := Own.shape 0 H rfl
  rw [hml] at hcp H ⊢
  refine ret_of_G Try.func44 rfl rfl ?_
  have hfl := List.findIdx_le_length (p := p) (xs := l)
  rcases Nat.lt_or_ge (l.findIdx p) l.length with hin | hin
  · have e1 : idxV p l = ((l.findIdx p : Nat) : Int) := by unfold idxV; rw [if_pos hin]
    have hI := DelI.start hin
    generalize l.findIdx p = i0 at e1 hI hin
    have t1 : (((i0 : Nat) : Int) == (-1 : Int)) = false := by simp
    obtain ⟨g, capx, hsv, _, hmx⟩ := Own.shapeN 0 H rfl (by rw [hml]; omega)
    rw [hml] at hsv
    cases hsv
    refine y_call (f := 56) (args := #[Value.slice (some (Addr.mk g (0 : Nat) none)) l.length cp, Value.func (Fn.func k) (#[]) cap]) [0, 1] (M := []) H rfl rfl rfl (by kernel_rfl) (by kernel_rfl) (by kernel_rfl) (fun F' hF H' => indexFunc_ret l (.slice (some ⟨g, 0, none⟩) l.length cp) k cap C p hk F' _ H' (fun x F2 w2 h2 => hp x F2 w2 (fun i o hi => h2 i o (hF i o hi))) hl) ?_
    rintro v w1 L' ⟨rfl, rfl⟩ H
    simp only [List.cons_append, List.nil_append] at H
    rw [e1]
    refine s_ifF (b := false) (by kernel_rfl) rfl ?_
    refine x_add (t := 3) (a := (↑i0 : Int)) (b := (1 : Int)) (((i0) + ((1 : Nat)) : Nat) : Int) (w64' (by omega) (by omega) (by omega)) (by kernel_rfl) ?_
    -- stop: Req.loop
    refine s_loop (γ := Nat × Nat × List EntV) 0 [6, 5] (fun q => [.int .i64 q.1, .int .i64 q.2.1]) (fun q w' => Own w' F [rows (.slice (some ⟨g, 0, none⟩) l.length cp) 75 4 (q.2.2.map encE), C] ∧ DelI p l q.1 q.2.1 q.2.2) (fun q => l.length - q.1) (i0 + 1, i0, l) [.int .i64 ((i0 + 1 : Nat) : Int), .int .i64 i0] (by kernel_rfl) (by kernel_rfl) rfl (by kernel_rfl) rfl ⟨H, hI⟩ ?_
    clear H hI t1 e1 hin
    rintro ⟨j, i, K⟩ w2 ⟨H, hI⟩
    simp only at H hI ⊢
    have hK := hI.len
    have hlt := hI.lt
    have hle := hI.le
    have hmK : (K.map encE).length = l.length := by rw [List.length_map, hK]
    by_cases hj : j < l.length
    · have t2 : decide ((j : Int) < l.length) = true := decide_eq_true (by omega)
      have hel := List.getElem?_eq_getElem hj
      have hKj := hI.rest j (Nat.le_refl _)
      rw [hel] at hKj
      have hskip := hI.skip hel
      have hkeep := hI.keep hel
      generalize l[j] = x at hel hKj hskip hkeep
      obtain ⟨x1, x2, x3, x4⟩ := x
      have hel2 : (K.map encE)[j]? = some [.int .u32 x1, .int .i64 x2, .bool x3, .int .i64 x4] := by rw [List.getElem?_map, hKj]; rfl
      refine s_ifT (by kernel_rfl) t2 ?_
      refine y_idx (t := 71) (b := g) (o := (0 : Nat)) (n := l.length) (c := cp) (kd := IntKind.i64) (i := (↑j : Int)) 4 (by kernel_rfl) (by omega) (by omega) (by kernel_rfl) ?_
      refine y_elLoad 0 (i := j) (j := 0) (o := (0 : Nat) + (↑j : Int).toNat * (4 : Nat)) H rfl hel2 rfl (by first | rfl | omega) (by kernel_rfl) ?_
      refine y_elLoad 0 (i := j) (j := 1) (o := (0 : Nat) + (↑j : Int).toNat * (4 : Nat) + (1 : Nat)) H rfl hel2 rfl (by first | rfl | omega) (by kernel_rfl) ?_
      refine y_elLoad 0 (i := j) (j := 2) (o := (0 : Nat) + (↑j : Int).toNat * (4 : Nat) + (2 : Nat)) H rfl hel2 rfl (by first | rfl | omega) (by kernel_rfl) ?_
      refine y_elLoad 0 (i := j) (j := 3) (o := (0 : Nat) + (↑j : Int).toNat * (4 : Nat) + (3 : Nat)) H rfl hel2 rfl (by first | rfl | omega) (by kernel_rfl) ?_
      refine y_new (c := #[Value.int IntKind.u32 (0 : Int), Value.int IntKind.i64 (0 : Int), Value.bool false, Value.int IntKind.i64 (0 : Int)]) (T := 75) H (by kernel_rfl) (by kernel_rfl) (fun w3 b1 H => ?_)
      refine y_store 0 (o := 0) (v := Value.int IntKind.u32 x1) (c' := #[Value.int IntKind.u32 x1, Value.int IntKind.i64 (0 : Int), Value.bool false, Value.int IntKind.i64 (0 : Int)]) H rfl (by kernel_rfl) (by kernel_rfl) (by kernel_rfl) rfl (by kernel_rfl) (fun w4 H => ?_)
      simp only [List.set_cons_zero, List.set_cons_succ] at H
      refine y_store 0 (o := 1) (v := Value.int IntKind.i64 x2) (c' := #[Value.int IntKind.u32 x1, Value.int IntKind.i64 x2, Value.bool false, Value.int IntKind.i64 (0 : Int)]) H rfl (by kernel_rfl) (by kernel_rfl) (by kernel_rfl) rfl (by kernel_rfl) (fun w5 H => ?_)
      simp only [List.set_cons_zero, List.set_cons_succ] at H
      refine y_store 0 (o := 2) (v := Value.bool x3) (c' := #[Value.int IntKind.u32 x1, Value.int IntKind.i64 x2, Value.bool x3, Value.int IntKind.i64 (0 : Int)]) H rfl (by kernel_rfl) (by kernel_rfl) (by kernel_rfl) rfl (by kernel_rfl) (fun w6 H => ?_)
      simp only [List.set_cons_zero, List.set_cons_succ] at H
      refine y_store 0 (o := 3) (v := Value.int IntKind.i64 x4) (c' := #[Value.int IntKind.u32 x1, Value.int IntKind.i64 x2, Value.bool x3, Value.int IntKind.i64 x4]) H rfl (by kernel_rfl) (by kernel_rfl) (by kernel_rfl) rfl (by kernel_rfl) (fun w7 H => ?_)
      simp only [List.set_cons_zero, List.set_cons_succ] at H
      refine y_load 0 (o := 0) H rfl rfl (by kernel_rfl) ?_
      refine y_load 0 (o := 1) H rfl rfl (by kernel_rfl) ?_
      refine y_load 0 (o := 2) H rfl rfl (by kernel_rfl) ?_
      refine y_load 0 (o := 3) H rfl rfl (by kernel_rfl) ?_
      -- stop: Req.call k (Decidable.rec (fun h => (fun h => (fun stop h => Array.foldlM.loop (fun x1 x2 => pure ((fun xs v => xs.push v) x1 x2)) cap stop h (stop - (0 : Nat)) (0 : Nat) (#[] ++ argsOf (nx Try.prog Try.f44 (nx Try.prog Try.f44 (nx Try.prog Try.f44 (nx Try.prog Try.f44 (nx Try.prog Try.f44 (nx Try.prog Try.f44 (nx Try.prog Try.f44 (nx Try.prog Try.f44 (nx Try.prog Try.f44 (nx Try.prog Try.f44 (nx Try.prog Try.f44 (nx Try.prog Try.f44 (nx Try.prog Try.f44 (nx Try.prog Try.f44 (nx Try.prog Try.f44 (nxl Try.prog Try.f44 (nx Try.prog Try.f44 (nx Try.prog Try.f44 (nx Try.prog Try.f44 (st0 Try.prog Try.f44 [Value.slice (some (Addr.mk g (0 : Nat) none)) l.length cp, Value.func (Fn.func k) #[] cap]) (Rsp.v (Value.int IntKind.i64 (↑i0 : Int)))) (Rsp.b false)) (Rsp.v (Value.int IntKind.i64 (↑(i0 + (1 : Nat)) : Int)))) [(6 : Nat), (5 : Nat)] [Value.int IntKind.i64 (↑j : Int), Value.int IntKind.i64 (↑i : Int)]) (Rsp.b true)) (Rsp.v (Value.pointer (some (Addr.mk g ((0 : Nat) + (↑j : Int).toNat * (4 : Nat)) none))))) (Rsp.v (Value.int IntKind.u32 x1))) (Rsp.v (Value.int IntKind.i64 x2))) (Rsp.v (Value.bool x3))) (Rsp.v (Value.int IntKind.i64 x4))) (Rsp.n b1)) Rsp.u) Rsp.u) Rsp.u) Rsp.u) (Rsp.v #[Value.int IntKind.u32 x1, Value.int IntKind.i64 x2, Value.bool x3, Value.int IntKind.i64 x4][(0 : Nat)])) (Rsp.v #[Value.int IntKind.u32 x1, Value.int IntKind.i64 x2, Value.bool x3, Value.int IntKind.i64 x4][(1 : Nat)])) (Rsp.v #[Value.int IntKind.u32 x1, Value.int IntKind.i64 x2, Value.bool x3, Value.int IntKind.i64 x4][(2 : Nat)])) (Rsp.v #[Value.int IntKind.u32 x1, Value.int IntKind.i64 x2, Value.bool x3, Value.int IntKind.i64 x4][(3 : Nat)])).fr (Call.mk (Callee.value (Operand.tmp (26 : Nat))) #[Operand.tmp (27 : Nat)] #[(75 : Nat)]).args)) cap.size (Array.forIn'._proof_2 cap)) h) (fun h => (fun h => (fun stop h => Array.foldlM.loop (fun x1 x2 => pure ((fun xs v => xs.push v) x1 x2)) cap stop h (stop - (0 : Nat)) (0 : Nat) (#[] ++ argsOf (nx Try.prog Try.f44 (nx Try.prog Try.f44 (nx Try.prog Try.f44 (nx Try.prog Try.f44 (nx Try.prog Try.f44 (nx Try.prog Try.f44 (nx Try.prog Try.f44 (nx Try.prog Try.f44 (nx Try.prog Try.f44 (nx Try.prog Try.f44 (nx Try.prog Try.f44 (nx Try.prog Try.f44 (nx Try.prog Try.f44 (nx Try.prog Try.f44 (nx Try.prog Try.f44 (nxl Try.prog Try.f44 (nx Try.prog Try.f44 (nx Try.prog Try.f44 (nx Try.prog Try.f44 (st0 Try.prog Try.f44 [Value.slice (some (Addr.mk g (0 : Nat) none)) l.length cp, Value.func (Fn.func k) #[] cap]) (Rsp.v (Value.int IntKind.i64 (↑i0 : Int)))) (Rsp.b false)) (Rsp.v (Value.int IntKind.i64 (↑(i0 + (1 : Nat)) : Int)))) [(6 : Nat), (5 : Nat)] [Value.int IntKind.i64 (↑j : Int), Value.int IntKind.i64 (↑i : Int)]) (Rsp.b true)) (Rsp.v (Value.pointer (some (Addr.mk g ((0 : Nat) + (↑j : Int).toNat * (4 : Nat)) none))))) (Rsp.v (Value.int IntKind.u32 x1))) (Rsp.v (Value.int IntKind.i64 x2))) (Rsp.v (Value.bool x3))) (Rsp.v (Value.int IntKind.i64 x4))) (Rsp.n b1)) Rsp.u) Rsp.u) Rsp.u) Rsp.u) (Rsp.v #[Value.int IntKind.u32 x1, Value.int IntKind.i64 x2, Value.bool x3, Value.int IntKind.i64 x4][(0 : Nat)])) (Rsp.v #[Value.int IntKind.u32 x1, Value.int IntKind.i64 x2, Value.bool x3, Value.int IntKind.i64 x4][(1 : Nat)])) (Rsp.v #[Value.int IntKind.u32 x1, Value.int IntKind.i64 x2, Value.bool x3, Value.int IntKind.i64 x4][(2 : Nat)])) (Rsp.v #[Value.int IntKind.u32 x1, Value.int IntKind.i64 x2, Value.bool x3, Value.int IntKind.i64 x4][(3 : Nat)])).fr (Call.mk (Callee.value (Operand.tmp (26 : Nat))) #[Operand.tmp (27 : Nat)] #[(75 : Nat)]).args)) cap.size h) h) (cap.size.decLe cap.size))
      refine y_call (f := k) (args := #[] ++ #[.agg #[.int .u32 x1, .int .i64 x2, .bool x3, .int .i64 x4]] ++ cap) [2] (M := [pt b1 #[.int .u32 x1, .int .i64 x2, .bool x3, .int .i64 x4] 75, rows (.slice (some ⟨g, 0, none⟩) l.length cp) 75 4 (K.map encE)]) H rfl rfl rfl (by kernel_rfl) (by kernel_rfl) hk (fun F' hF H' => hp ⟨x1, x2, x3, x4⟩ F' _ hF H') ?_
      rintro v w9 L' ⟨rfl, rfl⟩ H
      replace H : Own w9 F [_, _, _] := H.pick [1, 2, 0] rfl
      refine s_if (b := !p ⟨x1, x2, x3, x4⟩) (by kernel_rfl) (fun ht => ?_) (fun hf => ?_)
      · have hI' := hkeep (by simpa using ht)
        have hil := List.getElem?_eq_getElem (show i < K.length by omega)
        generalize K[i] = y at hil
        obtain ⟨y1, y2, y3, y4⟩ := y
        have hel3 : (K.map encE)[i]? = some [.int .u32 y1, .int .i64 y2, .bool y3, .int .i64 y4] := by rw [List.getElem?_map, hil]; rfl
        refine y_load 0 (o := 0) H rfl rfl (by kernel_rfl) ?_
        refine y_load 0 (o := 1) H rfl rfl (by kernel_rfl) ?_
        refine y_load 0 (o := 2) H rfl rfl (by kernel_rfl) ?_
        refine y_load 0 (o := 3) H rfl rfl (by kernel_rfl) ?_
        refine y_idx (t := 71) (b := g) (o := (0 : Nat)) (n := l.length) (c := cp) (kd := IntKind.i64) (i := (↑i : Int)) 4 (by kernel_rfl) (by omega) (by omega) (by kernel_rfl) ?_
        refine y_elStore 1 (i := i) (j := 0) (o := (0 : Nat) + (↑i : Int).toNat * (4 : Nat)) (u := Value.int IntKind.u32 x1) (c' := [Value.int IntKind.u32 x1, Value.int IntKind.i64 y2, Value.bool y3, Value.int IntKind.i64 y4]) H rfl hel3 (by decide) (by first | rfl | omega) (by kernel_rfl) (by kernel_rfl) rfl rfl (fun w10 H hE1 => ?_)
        simp only [List.set_cons_zero, List.set_cons_succ] at H
        try simp only [List.set_set] at H hE1
        refine y_elStore 1 (i := i) (j := 1) (o := (0 : Nat) + (↑i : Int).toNat * (4 : Nat) + (1 : Nat)) (u := Value.int IntKind.i64 x2) (c' := [Value.int IntKind.u32 x1, Value.int IntKind.i64 x2, Value.bool y3, Value.int IntKind.i64 y4]) H rfl hE1 (by decide) (by first | rfl | omega) (by kernel_rfl) (by kernel_rfl) rfl rfl (fun w11 H hE2 => ?_)
        simp only [List.set_cons_zero, List.set_cons_succ] at H
        try simp only [List.set_set] at H hE2
        refine y_elStore 1 (i := i) (j := 2) (o := (0 : Nat) + (↑i : Int).toNat * (4 : Nat) + (2 : Nat)) (u := Value.bool x3) (c' := [Value.int IntKind.u32 x1, Value.int IntKind.i64 x2, Value.bool x3, Value.int IntKind.i64 y4]) H rfl hE2 (by decide) (by first | rfl | omega) (by kernel_rfl) (by kernel_rfl) rfl rfl (fun w12 H hE3 => ?_)
        simp only [List.set_cons_zero, List.set_cons_succ] at H
        try simp only [List.set_set] at H hE3
        refine y_elStore 1 (i := i) (j := 3) (o := (0 : Nat) + (↑i : Int).toNat * (4 : Nat) + (3 : Nat)) (u := Value.int IntKind.i64 x4) (c' := [Value.int IntKind.u32 x1, Value.int IntKind.i64 x2, Value.bool x3, Value.int IntKind.i64 x4]) H rfl hE3 (by decide) (by first | rfl | omega) (by kernel_rfl) (by kernel_rfl) rfl rfl (fun w13 H hE4 => ?_)
        simp only [List.set_cons_zero, List.set_cons_succ] at H
        try simp only [List.set_set] at H hE4
        refine x_add (t := 3) (a := (↑i : Int)) (b := (1 : Int)) (((i) + ((1 : Nat)) : Nat) : Int) (w64' (by omega) (by omega) (by omega)) (by kernel_rfl) ?_
        refine x_add (t := 3) (a := (↑j : Int)) (b := (1 : Int)) (((j) + ((1 : Nat)) : Nat) : Int) (w64' (by omega) (by omega) (by omega)) (by kernel_rfl) ?_
        -- stop: Req.again (0 : Nat)
        have hset : (K.map encE).set i [.int .u32 x1, .int .i64 x2, .bool x3, .int .i64 x4] = (K.set i ⟨x1, x2, x3, x4⟩).map encE := by rw [List.map_set]; rfl
        rw [hset] at H
        exact s_again 0 (j + 1, i + 1, K.set i ⟨x1, x2, x3, x4⟩) [.int .i64 ((j + 1 : Nat) : Int), .int .i64 ((i + 1 : Nat) : Int)] rfl (by kernel_rfl) (by kernel_rfl) (by kernel_rfl) rfl ⟨H.drop1, hI'⟩ (by show l.length - (j + 1) < l.length - j; omega)
      · have hI' := hskip (by simpa using hf)
        refine x_add (t := 3) (a := (↑j : Int)) (b := (1 : Int)) (((j) + ((1 : Nat)) : Nat) : Int) (w64' (by omega) (by omega) (by omega)) (by kernel_rfl) ?_
        -- stop: Req.again (0 : Nat)
        exact s_again 0 (j + 1, i, K) [.int .i64 ((j + 1 : Nat) : Int), .int .i64 i] rfl (by kernel_rfl) (by kernel_rfl) (by kernel_rfl) rfl ⟨H.drop1, hI'⟩ (by show l.length - (j + 1) < l.length - j; omega)
    · have t2 : decide ((j : Int) < l.length) = false := decide_eq_false (by omega)
      obtain rfl : j = l.length := by omega
      refine s_ifF (by kernel_rfl) t2 ?_
      -- stop: Req.slice (71 : Nat) (Value.slice (some (Addr.mk g (0 : Nat) none)) l.length cp) (some (Value.int IntKind.i64 (↑i : Int))) none none
      refine x_sliceV (t := 71) (b := g) (o := 0) (n := l.length) (c := cp) (lo := some (.int .i64 (i : Int))) (hi := none) (l := i) (h := l.length) 4 (by kernel_rfl) (.int .i64 (i : Int) _ (by omega)) (.none _) (by omega) (by omega) (by kernel_rfl) (fun o1 ho1 => ?_)
      refine y_clear (t := 71) (ty := 0) (b := g) (o := o1) (m := l.length - i) (c := cp - i) 0 i 32 (.agg #[.int .u32 0, .int .i64 0, .bool false, .int .i64 0]) H rfl (by omega) (fun h => by rw [ho1 (by omega)]; omega) (by kernel_rfl) (by kernel_rfl) (by kernel_rfl) (by kernel_rfl) (by kernel_rfl) (by kernel_rfl) (fun w5 H => ?_)
      simp only [List.set_cons_zero] at H
      refine x_sliceV (t := 71) (b := g) (o := 0) (n := l.length) (c := cp) (lo := none) (hi := some (.int .i64 (i : Int))) (l := 0) (h := i) 4 (by kernel_rfl) (.none _) (.int .i64 (i : Int) _ (by omega)) (by omega) (by omega) (by kernel_rfl) (fun o2 ho2 => ?_)
      have ho3 := ho2 (by omega)
      simp only [Nat.zero_mul, Nat.add_zero] at ho3
      subst ho3
      have hfin : (K.map encE).take i = (l.filter fun x => !p x).map encE := by
        rw [← List.map_take, hI.took, List.take_length]
      rw [hfin] at H
      exact y_done (v := .slice (some ⟨g, 0, none⟩) i cp) (by kernel_rfl) _ rfl H
  · have e1 : idxV p l = -1 := by unfold idxV; rw [if_neg (by omega)]
    have e2 : (l.filter fun x => !p x) = l := by
      refine List.filter_eq_self.2 fun x hx => ?_
      obtain ⟨k, hk⟩ := List.mem_iff_getElem?.1 hx
      obtain ⟨h3, rfl⟩ := List.getElem?_eq_some_iff.1 hk
      have := List.not_of_lt_findIdx (p := p) (xs := l) (i := k) (by omega)
      simpa using this
    rw [e2]
    refine y_call (f := 56) (args := #[Value.slice a l.length cp, Value.func (Fn.func k) (#[]) cap]) [0, 1] (M := []) H rfl rfl rfl (by kernel_rfl) (by kernel_rfl) (by kernel_rfl) (fun F' hF H' => indexFunc_ret l (.slice a l.length cp) k cap C p hk F' _ H' (fun x F2 w2 h2 => hp x F2 w2 (fun i o hi => h2 i o (hF i o hi))) hl) ?_
    rintro v w1 L' ⟨rfl, rfl⟩ H
    simp only [List.cons_append, List.nil_append] at H
    rw [e1]
    refine s_ifT (b := true) (by kernel_rfl) rfl ?_
    -- stop: Req.done (Value.slice a l.length cp)
    exact y_done (v := .slice a l.length cp) (by kernel_rfl) _ rfl H
end Go.Proofs.Ytfknpeajihecdaa
