import Derived.Test.YtgpcjoofcmfidaaCb7
namespace Go.Proofs.Ytgpcjoofcmfidaa
open Go.XM Go.RowKit Go.Ca
set_option maxRecDepth 100000

theorem castFact_ret (F : Fm) (w : World) (H : Own w F []) : Ret Try.prog 9 #[] w (Post F fun v L' => v = .bool true ∧ L' = []) := by
  refine ret_of_G Try.func9 rfl rfl ?_
  refine y_call (f := 16) (args := #[Value.int IntKind.i64 (0 : Int)]) [] (M := []) H rfl rfl rfl (by kernel_rfl) (by kernel_rfl) (by kernel_rfl) (fun F' hF H' => new_ret 0 (by omega) (by omega) F' _ H') ?_
  rintro v w1 L' ⟨b1, rfl, rfl⟩ H
  simp only [List.cons_append, List.nil_append] at H
  refine s_ifF (b := false) (by kernel_rfl) rfl ?_
  refine s_ifF (b := false) (by kernel_rfl) rfl ?_
  refine y_call (f := 10) (args := #[Value.pointer (some (Addr.mk b1 (0 : Nat) none)), Value.string (ByteArray.mk #[(97 : UInt8)])]) [0] (M := []) H rfl rfl rfl (by kernel_rfl) (by kernel_rfl) (by kernel_rfl) (fun F' hF H' => say_ret ⟨0, [], 0, 0, 0⟩ ⟨#[97]⟩ b1 F' _ H' rfl (by decide) (by decide)) ?_
  rintro v w2 L' ⟨rfl, rfl⟩ H
  simp only [List.cons_append, List.nil_append] at H
  refine s_ifF (b := false) (by kernel_rfl) rfl ?_
  refine y_call (f := 12) (args := #[Value.pointer (some (Addr.mk b1 (0 : Nat) none)), Value.int IntKind.i64 (0 : Int)]) [0] (M := []) H rfl rfl rfl (by kernel_rfl) (by kernel_rfl) (by kernel_rfl) (fun F' hF H' => out_ret (sayV ⟨0, [], 0, 0, 0⟩ ⟨#[97]⟩) 0 b1 F' _ H' (by decide) (by omega) (by omega) (by decide) (by decide) (by decide)) ?_
  rintro v w3 L' ⟨sv, rfl, rfl⟩ H
  simp only [List.cons_append, List.nil_append] at H
  obtain ⟨sa, sc, hss, _, _⟩ := Own.shape 1 H rfl
  subst hss
  refine s_ifT (b := true) (by kernel_rfl) rfl ?_
  refine s_ifT (b := true) (by kernel_rfl) rfl ?_
  -- stop: Req.idx (36 : Nat) (Value.slice sa (2 : Nat) sc) (Value.int IntKind.i64 (0 : Int))
  obtain ⟨ga, capx, hsv, hsc, _⟩ := Own.shapeN 1 H rfl (by decide)
  simp only [Value.slice.injEq] at hsv
  obtain ⟨rfl, _, rfl⟩ := hsv
  have hel : ((outAir (⟨#[]⟩ : ByteArray) (sayV ⟨0, [], 0, 0, 0⟩ ⟨#[97]⟩) 0).map encN)[0]? = some [.int .i64 1, .int .i64 0, .int .i64 0, .string ⟨#[97]⟩] := by kernel_rfl
  refine y_idx (t := 36) (b := ga) (o := 0) (n := 2) (c := sc) (kd := IntKind.i64) (i := 0) 4 (by kernel_rfl) (by omega) (by omega) (by kernel_rfl) ?_
  refine y_elLoad 1 (i := (0 : Nat)) (j := 0) (o := (0 : Nat)) H rfl hel rfl (by first | rfl | omega) (by kernel_rfl) ?_
  refine y_elLoad 1 (i := (0 : Nat)) (j := 1) (o := (1 : Nat)) H rfl hel rfl (by first | rfl | omega) (by kernel_rfl) ?_
  refine y_elLoad 1 (i := (0 : Nat)) (j := 2) (o := (2 : Nat)) H rfl hel rfl (by first | rfl | omega) (by kernel_rfl) ?_
  refine y_elLoad 1 (i := (0 : Nat)) (j := 3) (o := (3 : Nat)) H rfl hel rfl (by first | rfl | omega) (by kernel_rfl) ?_
  -- stop: Req.bin BinOp.eql (44 : Nat) (Value.agg (#[Value.int IntKind.i64 (1 : Int), Value.int IntKind.i64 (0 : Int), Value.int IntKind.i64 (0 : Int), Value.string (ByteArray.mk #[(97 : UInt8)])])) (Value.agg (#[Value.int IntKind.i64 (1 : Int), Value.int IntKind.i64 (0 : Int), Value.int IntKind.i64 (0 : Int), Value.string (ByteArray.mk #[(97 : UInt8)])]))
  refine x_eql (t := 44) (xs := #[.int .i64 1, .int .i64 0, .int .i64 0, .string ⟨#[97]⟩]) (ys := #[.int .i64 1, .int .i64 0, .int .i64 0, .string ⟨#[97]⟩]) (b := true) (by kernel_rfl) (by kernel_rfl) (by kernel_rfl) ?_
  
  -- stop: Req.done (Value.bool true)
  exact s_done (v := .bool true) (by kernel_rfl) ⟨_, ⟨rfl, rfl⟩, H.drop1.drop1⟩

/-- Two rows of texts that are the same. -/
theorem same_ret (L : List ByteArray) (v1 v2 : Value) (F : Fm) (w : World) (H : Own w F [rows v1 9 1 (L.map fun s => [.string s]), rows v2 9 1 (L.map fun s => [.string s])]) (hL : L.length ≤ 100) :
    Ret Try.prog 14 #[v1, v2] w (Post F fun v L' => v = .bool true ∧ L' = [rows v1 9 1 (L.map fun s => [.string s]), rows v2 9 1 (L.map fun s => [.string s])]) := by
  obtain ⟨a1, c1, rfl, _, _⟩ := Own.shape 0 H rfl
  obtain ⟨a2, c2, rfl, _, _⟩ := Own.shape 1 H rfl
  have hL1 : (L.map fun s => [Value.string s]).length = L.length := List.length_map ..
  rw [hL1] at H ⊢
  refine ret_of_G Try.func14 rfl rfl ?_
  have t1 : (((L.length : Nat) : Int) != ((L.length : Nat) : Int)) = false := by simp
  refine s_ifF (by kernel_rfl) t1 ?_
  -- stop: Req.loop
  refine s_loop (γ := Nat) 0 [13] (fun q => [.int .i64 q]) (fun q w' => Own w' F [rows (.slice a1 L.length c1) 9 1 (L.map fun s => [.string s]), rows (.slice a2 L.length c2) 9 1 (L.map fun s => [.string s])] ∧ q ≤ L.length) (fun q => L.length - q) 0 [.int .i64 0] (by kernel_rfl) (by kernel_rfl) rfl (by kernel_rfl) rfl ⟨H, Nat.zero_le _⟩ ?_
  rintro i w1 ⟨H, hi⟩
  by_cases hlt : i < L.length
  · have t2 : decide ((i : Int) < L.length) = true := decide_eq_true (by omega)
    have hel := List.getElem?_eq_getElem hlt
    generalize L[i] = s at hel
    have hel2 : (L.map fun s => [Value.string s])[i]? = some [.string s] := by simp [hel]
    obtain ⟨g1, d1, h1, _, _⟩ := Own.shapeN 0 H rfl (by simp; omega)
    simp only [List.length_map, Value.slice.injEq] at h1
    obtain ⟨rfl, _, rfl⟩ := h1
    obtain ⟨g2, d2, h2, _, _⟩ := Own.shapeN 1 H rfl (by simp; omega)
    simp only [List.length_map, Value.slice.injEq] at h2
    obtain ⟨rfl, _, rfl⟩ := h2
    have t3 : (!(s.toList == s.toList)) = false := by simp
    refine s_ifT (by kernel_rfl) t2 ?_
    refine s_draw (6 : Nat) 9 (by kernel_rfl) (by kernel_rfl) (by kernel_rfl) ?_
    replace H := Own.drew H
    refine y_idx (t := 22) (b := g1) (o := (0 : Nat)) (n := L.length) (c := c1) (kd := IntKind.i64) (i := (↑i : Int)) 1 (by kernel_rfl) (by omega) (by omega) (by kernel_rfl) ?_
    refine y_elLoad 0 (i := i) (j := 0) (o := (0 : Nat) + (↑i : Int).toNat * (1 : Nat)) H rfl hel2 rfl (by first | rfl | omega) (by kernel_rfl) ?_
    refine y_idx (t := 22) (b := g2) (o := (0 : Nat)) (n := L.length) (c := c2) (kd := IntKind.i64) (i := (↑i : Int)) 1 (by kernel_rfl) (by omega) (by omega) (by kernel_rfl) ?_
    refine y_elLoad 1 (i := i) (j := 0) (o := (0 : Nat) + (↑i : Int).toNat * (1 : Nat)) H rfl hel2 rfl (by first | rfl | omega) (by kernel_rfl) ?_
    refine s_ifF (by kernel_rfl) t3 ?_
    refine x_add (t := 3) (a := (↑i : Int)) (b := (1 : Int)) (((i) + ((1 : Nat)) : Nat) : Int) (w64' (by omega) (by omega) (by omega)) (by kernel_rfl) ?_
    -- stop: Req.again (0 : Nat)
    refine s_again 0 (i + 1) [.int .i64 ((i + 1 : Nat) : Int)] rfl (by kernel_rfl) (by kernel_rfl) (by kernel_rfl) rfl ⟨H, hlt⟩ (by show L.length - (i + 1) < L.length - i; omega)
  · have t2 : decide ((i : Int) < L.length) = false := decide_eq_false (by omega)
    refine s_ifF (by kernel_rfl) t2 ?_
    -- stop: Req.done (Value.bool true)
    exact s_done (v := .bool true) (by kernel_rfl) ⟨_, ⟨rfl, rfl⟩, H⟩

theorem same_ret1 (L : List ByteArray) (v1 : Value) (F : Fm) (w : World) (H : Own w F [rows v1 9 1 (L.map fun s => [.string s])]) (hL : L.length ≤ 100) :
    Ret Try.prog 14 #[v1, v1] w (Post F fun v L' => v = .bool true ∧ L' = [rows v1 9 1 (L.map fun s => [.string s])]) := by
  obtain ⟨a1, c1, rfl, _, _⟩ := Own.shape 0 H rfl
  have hL1 : (L.map fun s => [Value.string s]).length = L.length := List.length_map ..
  rw [hL1] at H ⊢
  refine ret_of_G Try.func14 rfl rfl ?_
  have t1 : (((L.length : Nat) : Int) != ((L.length : Nat) : Int)) = false := by simp
  refine s_ifF (by kernel_rfl) t1 ?_
  -- stop: Req.loop
  refine s_loop (γ := Nat) 0 [13] (fun q => [.int .i64 q]) (fun q w' => Own w' F [rows (.slice a1 L.length c1) 9 1 (L.map fun s => [.string s])] ∧ q ≤ L.length) (fun q => L.length - q) 0 [.int .i64 0] (by kernel_rfl) (by kernel_rfl) rfl (by kernel_rfl) rfl ⟨H, Nat.zero_le _⟩ ?_
  rintro i w1 ⟨H, hi⟩
  by_cases hlt : i < L.length
  · have t2 : decide ((i : Int) < L.length) = true := decide_eq_true (by omega)
    have hel := List.getElem?_eq_getElem hlt
    generalize L[i] = s at hel
    have hel2 : (L.map fun s => [Value.string s])[i]? = some [.string s] := by simp [hel]
    obtain ⟨g1, d1, h1, _, _⟩ := Own.shapeN 0 H rfl (by simp; omega)
    simp only [List.length_map, Value.slice.injEq] at h1
    obtain ⟨rfl, _, rfl⟩ := h1
    have t3 : (!(s.toList == s.toList)) = false := by simp
    refine s_ifT (by kernel_rfl) t2 ?_
    refine s_draw (6 : Nat) 9 (by kernel_rfl) (by kernel_rfl) (by kernel_rfl) ?_
    replace H := Own.drew H
    refine y_idx (t := 22) (b := g1) (o := (0 : Nat)) (n := L.length) (c := c1) (kd := IntKind.i64) (i := (↑i : Int)) 1 (by kernel_rfl) (by omega) (by omega) (by kernel_rfl) ?_
    refine y_elLoad 0 (i := i) (j := 0) (o := (0 : Nat) + (↑i : Int).toNat * (1 : Nat)) H rfl hel2 rfl (by first | rfl | omega) (by kernel_rfl) ?_
    refine y_idx (t := 22) (b := g1) (o := (0 : Nat)) (n := L.length) (c := c1) (kd := IntKind.i64) (i := (↑i : Int)) 1 (by kernel_rfl) (by omega) (by omega) (by kernel_rfl) ?_
    refine y_elLoad 0 (i := i) (j := 0) (o := (0 : Nat) + (↑i : Int).toNat * (1 : Nat)) H rfl hel2 rfl (by first | rfl | omega) (by kernel_rfl) ?_
    refine s_ifF (by kernel_rfl) t3 ?_
    refine x_add (t := 3) (a := (↑i : Int)) (b := (1 : Int)) (((i) + ((1 : Nat)) : Nat) : Int) (w64' (by omega) (by omega) (by omega)) (by kernel_rfl) ?_
    -- stop: Req.again (0 : Nat)
    refine s_again 0 (i + 1) [.int .i64 ((i + 1 : Nat) : Int)] rfl (by kernel_rfl) (by kernel_rfl) (by kernel_rfl) rfl ⟨H, hlt⟩ (by show L.length - (i + 1) < L.length - i; omega)
  · have t2 : decide ((i : Int) < L.length) = false := decide_eq_false (by omega)
    refine s_ifF (by kernel_rfl) t2 ?_
    -- stop: Req.done (Value.bool true)
    exact s_done (v := .bool true) (by kernel_rfl) ⟨_, ⟨rfl, rfl⟩, H⟩
end Go.Proofs.Ytgpcjoofcmfidaa
