import Derived.Test.YtfknpeajihecdaaDo2
import Derived.Test.YtfknpeajihecdaaYEq
namespace Go.Proofs.Ytfknpeajihecdaa
open Go.XM Go.RowKit Go.Dg Go.Do
set_option maxRecDepth 100000

theorem drest (n m : Int) (h0 : -9223372036854775808 ≤ n) (h1 : n ≤ 9223372036854775807) (hm : 0 < m) (hm2 : m < 1000000) (F : Fm) (w : World) (H : Own w F []) : Ret Try.prog 14 #[.int .i64 n, .int .i64 m] w (Post F fun v L' => v = .int .i64 (n % m) ∧ L' = []) :=
  of_old H ((Old.rest_ret n m w hm hm2 ⟨h0, h1⟩).mono fun _ _ ⟨a, b⟩ => ⟨a, by rw [b]; exact Go.XO.Keep.refl _ _⟩)

theorem take_min {α : Type} (l : List α) (n : Nat) : l.take (min l.length n) = l.take n := by
  rcases Nat.le_total l.length n with h | h
  · rw [Nat.min_eq_left h, List.take_length, List.take_of_length_le h]
  · rw [Nat.min_eq_right h]

theorem ttakeN (y : Nat) (hy : y < 65536) (tb : Nat) (F : Fm) (w : World) (H : Own w F [TabA tb y []]) :
    Ret Try.prog 28 #[.pointer (some ⟨tb, 0, none⟩), .int .i64 y] w (Post F fun v L' => v = .tuple #[.agg #[.int .u32 0, .int .i64 0, .string ⟨#[]⟩], .bool false, .int .i64 0] ∧ L' = [TabA tb y []]) :=
  ttake_ret y hy tb [] (by simp) F w H
theorem ttakeC (y : Nat) (hy : y < 65536) (tb : Nat) (g : GotV) (got : List GotV) (hg : (g :: got).length ≤ 16) (F : Fm) (w : World) (H : Own w F [TabA tb y (g :: got)]) :
    Ret Try.prog 28 #[.pointer (some ⟨tb, 0, none⟩), .int .i64 y] w (Post F fun v L' => v = .tuple #[.agg #[.int .u32 g.addr, .int .i64 g.port, .string g.body], .bool true, .int .i64 0] ∧ L' = [TabA tb y got]) :=
  ttake_ret y hy tb (g :: got) hg F w H

attribute [local irreducible] Ret encS gotL in
set_option maxHeartbeats 0 in
theorem dgramOrder_ret (a b : Nat) (tx : List ByteArray) (tv : Value) (port : Int) (ha : a < 4294967296) (hb : b < 4294967296) (F : Fm) (w : World) (H : Own w F []) (h0 : -9223372036854775808 ≤ port) (h1 : port ≤ 9223372036854775807)
    (hV : View F.hl tv 1 (tx.map fun s => [.string s])) (hs : ∀ s ∈ tx, s.size ≤ maxLen) :
    Ret Try.prog 8 #[.int .u32 a, .int .u32 b, tv, .int .i64 port] w (Post F fun v _ => v = .bool true) := by
  obtain ⟨ta, tc, rfl, htc⟩ := hV.shape
  have htl : (tx.map fun s => [Value.string s]).length = tx.length := List.length_map ..
  rw [htl] at hV htc ⊢
  refine ret_of_G Try.func8 rfl rfl ?_
  refine y_call (f := 25) (args := #[]) [] (M := []) H rfl rfl rfl (by kernel_rfl) (by kernel_rfl) (by kernel_rfl) (fun F' hF H' => tnew_ret F' _ H') ?_
  rintro v w1 L' ⟨tb, rfl, rfl⟩ H
  simp only [List.cons_append, List.nil_append] at H
  refine y_call (f := 11) (args := #[]) [] (M := [pt tb #[Value.slice none (0 : Nat) (0 : Nat)] (98 : TypeId)]) H rfl rfl rfl (by kernel_rfl) (by kernel_rfl) (by kernel_rfl) (fun F' hF H' => dgFact F' _ H') ?_
  rintro v w2 L' ⟨rfl, rfl⟩ H
  simp only [List.cons_append, List.nil_append] at H
  refine s_ifF (b := false) (by kernel_rfl) rfl ?_
  refine s_ifF (b := false) (by kernel_rfl) rfl ?_
  refine y_call (f := 14) (args := #[Value.int IntKind.i64 port, Value.int IntKind.i64 (65535 : Int)]) [] (M := [pt tb #[Value.slice none (0 : Nat) (0 : Nat)] (98 : TypeId)]) H rfl rfl rfl (by kernel_rfl) (by kernel_rfl) (by kernel_rfl) (fun F' hF H' => drest port 65535 h0 h1 (by omega) (by omega) F' _ H') ?_
  rintro v w3 L' ⟨rfl, rfl⟩ H
  simp only [List.cons_append, List.nil_append] at H
  refine x_add (t := 3) (a := (1 : Int)) (b := port % (65535 : Int)) (((1 : Int)) + (port % (65535 : Int))) (w64' (by omega) (by omega) rfl) (by kernel_rfl) ?_
  -- stop: Req.call (26 : Nat) (#[Value.pointer (some (Addr.mk tb (0 : Nat) none)), Value.int IntKind.i64 ((1 : Int) + port % (65535 : Int))])
  -- [[] | tnew_ret F' _ H' | ⟨tb, rfl, rfl⟩] at [refine y_call (f := 26) (args := #[Value.pointer (some (Addr.mk tb (0 : ]: Type mismatch   Go.Proofs.Ytfknpeajihecdaa.tnew_ret F' w3 H' has type   Go.XM.Ret Go.Proofs.Try.prog 25 #[] w3     (Go.XM.Post F' fun v L' =>       ∃ tb, v = Go.Value.pointer (some { block := tb, off := 0 }) ∧ L' = [Go.XM.pt tb #[Go.Value.slice none 0 0] 98]) but is expected to have type   Go.XM.Ret Go.Proofs.Try.prog 26     #[Go.Value.pointer (some { block := tb, off := 0 }), Go.Value.int Go.IntKind.i64 (1 + port % 65535)] w3     (Go.XM.Post F' ?m.454)
  -- [[] | dgFact F' _ H' | ⟨rfl, rfl⟩] at [refine y_call (f := 26) (args := #[Value.pointer (some (Addr.mk tb (0 : ]: Type mismatch   Go.Proofs.Ytfknpeajihecdaa.dgFact F' w3 H' has type   Go.XM.Ret Go.Proofs.Try.prog 11 #[] w3 (Go.XM.Post F' fun v L' => v = Go.Value.bool true ∧ L' = []) but is expected to have type   Go.XM.Ret Go.Proofs.Try.prog 26     #[Go.Value.pointer (some { block := tb, off := 0 }), Go.Value.int Go.IntKind.i64 (1 + port % 65535)] w3     (Go.XM.Post F' ?m.454)
  -- [[] | drest port 65535 h0 h1 (by omega) (by omega) F' _ H' | ] at [refine y_call (f := 26) (args := #[Value.pointer (some (Addr.mk tb (0 : ]: Type mismatch   Go.Proofs.Ytfknpeajihecdaa.drest port 65535 h0 h1 ?m.483 ?m.484 F' w3 H' has type   Go.XM.Ret Go.Proofs.Try.prog 14 #[Go.Value.int Go.IntKind.i64 port, Go.Value.int Go.IntKind.i64 65535] w3     (Go.XM.Post F' fun v L' => v = Go.Value.int Go.IntKind.i64 (port % 65535) ∧ L' = []) but is expected to have type   Go.XM.Ret Go.Proofs.Try.prog 26     #[Go.Value.pointer (some { block := tb, off := 0 }), Go.Value.int Go.IntKind.i64 (1 + port % 65535)] w3     (Go.XM.Post F' ?m.454)
  have p0 : 0 ≤ port % 65535 := Int.emod_nonneg _ (by omega)
  have p1 : port % 65535 < 65535 := Int.emod_lt_of_pos _ (by omega)
  obtain ⟨y, hy⟩ : ∃ y : Nat, 1 + port % 65535 = y := ⟨(1 + port % 65535).toNat, by omega⟩
  rw [hy]
  have hy0 : 1 ≤ y := by omega
  have hy1 : y ≤ 65535 := by omega
  clear hy p0 p1
  have t1 : ((y : Int) != (y : Int)) = false := by simp
  have t1a : ((a : Int) != (a : Int)) = false := by simp
  refine y_call (f := 26) (args := #[Value.pointer (some (Addr.mk tb (0 : Nat) none)), Value.int IntKind.i64 (↑y : Int)]) [0] (M := []) H rfl rfl rfl (by kernel_rfl) (by kernel_rfl) (by kernel_rfl) (fun F' hF H' => bind_ret y (by omega) (by omega) tb F' _ H') ?_
  rintro v w4 L' ⟨rfl, rfl⟩ H
  simp only [List.cons_append, List.nil_append] at H
  refine s_ifF (by kernel_rfl) t1 ?_
  refine s_ifF (b := false) (by kernel_rfl) rfl ?_
  refine x_min (ts := #[(3 : Nat), (3 : Nat)]) (t := 3) (k := IntKind.i64) (k' := IntKind.i64) (x := (↑tx.length : Int)) (y := (20 : Int)) ((min (tx.length) ((20 : Nat)) : Nat) : Int) (by split <;> omega) (by kernel_rfl) ?_
  refine y_vslice hV (t := 56) (lo := none) (hi := some (Value.int IntKind.i64 (↑(min tx.length (20 : Nat)) : Int))) (l := 0) (h := (min tx.length (20 : Nat))) (.none _) (.int IntKind.i64 ((↑(min tx.length (20 : Nat)) : Int)) _ (by omega)) (by first | omega | (simp only [List.length_map, List.length_take, List.length_drop]; omega)) (by first | omega | (simp only [List.length_map, List.length_take, List.length_drop]; omega)) (by kernel_rfl) (by kernel_rfl) (fun va1 vc1 hV1 => ?_)
  -- stop: Req.loop
  have e1 : min tx.length 20 - 0 = (tx.take 20).length := by simp; omega
  have e9 : (tx.take 20).length ≤ 20 := by simp; omega
  rw [e1] at hV1 ⊢
  rw [List.drop_zero, ← List.map_take, take_min] at hV1
  have hs' : ∀ s ∈ tx.take 20, s.size ≤ maxLen := fun s hx => hs s (List.mem_of_mem_take hx)
  generalize tx.take 20 = U at hV1 hs' e9 ⊢
  clear e1 hV htl htc hs
  rw [← gotL_zero (a : Int) U] at H
  refine s_loop (γ := Nat) 0 [53] (fun i => [.int .i64 i]) (fun i w' => Own w' F [TabA tb y (gotL a U i)] ∧ i ≤ U.length) (fun i => U.length - i) 0 [.int .i64 0] (by kernel_rfl) (by kernel_rfl) rfl (by kernel_rfl) rfl ⟨H, Nat.zero_le _⟩ ?_
  clear H
  rintro i w5 ⟨H, hi⟩
  by_cases hlt : i < U.length
  · have t4 : decide ((i : Int) < U.length) = true := decide_eq_true (by omega)
    have hel := List.getElem?_eq_getElem hlt
    generalize U[i] = s at hel
    have hss := hs' s (List.mem_of_getElem? hel)
    have hel2 : (U.map fun s => [Value.string s])[i]? = some [.string s] := by rw [List.getElem?_map, hel]; rfl
    obtain ⟨nb, no2, cz, hva, _, _⟩ := hV1.open (by simp; omega)
    simp only [Value.slice.injEq] at hva
    obtain ⟨rfl, _, rfl⟩ := hva
    have hcs := cut50_size s
    have hgl := gotL_len a U i
    have hsucc := fun h => gotL_succ (a := (a : Int)) (T := U) (i := i) (s := s) h hel
    have hfull := fun h => gotL_full (a := (a : Int)) (T := U) (i := i) h
    by_cases h16 : i < 16
    · have t5 : decide ((i : Int) < 16) = true := decide_eq_true (by omega)
      have t6 : decide ((i : Int) ≥ 16) = false := decide_eq_false (by omega)
      have e5 : (gotL a U i).length < 16 := by rw [hgl]; omega
      refine s_ifT (by kernel_rfl) t4 ?_
      refine y_idx (t := 56) (b := nb) (o := no2) (n := U.length) (c := vc1) (kd := IntKind.i64) (i := (↑i : Int)) 1 (by kernel_rfl) (by omega) (by omega) (by kernel_rfl) ?_
      refine y_vload (k := i) (j := 0) (o := no2 + (↑i : Int).toNat * (1 : Nat)) (x := [Value.string s]) H hV1 hel2 rfl (by first | rfl | omega) (by kernel_rfl) ?_
      refine x_min (ts := #[(3 : Nat), (3 : Nat)]) (t := 3) (k := IntKind.i64) (k' := IntKind.i64) (x := (↑s.size : Int)) (y := (50 : Int)) ((min (s.size) ((50 : Nat)) : Nat) : Int) (by split <;> omega) (by kernel_rfl) ?_
      refine x_sliceStr (t := 9) (s := s) (lo := none) (hi := some (Value.int IntKind.i64 (↑(min s.size (50 : Nat)) : Int))) (l := 0) (h := (min s.size (50 : Nat))) (by kernel_rfl) (.none _) (.int IntKind.i64 ((↑(min s.size (50 : Nat)) : Int)) _ (by omega)) (by omega) (by omega) (by kernel_rfl) ?_
      refine y_call (f := 12) (args := #[Value.int IntKind.u32 (↑a : Int), Value.int IntKind.u32 (↑b : Int), Value.agg (#[Value.int IntKind.i64 (↑i : Int), Value.int IntKind.i64 (↑y : Int), Value.string (s.extract (0 : Nat) (min s.size (50 : Nat)))])]) [] (M := [TabA tb (↑y : Int) (gotL (↑a : Int) U i)]) H rfl rfl rfl (by kernel_rfl) (by kernel_rfl) (by kernel_rfl) (fun F' hF H' => encodeOk a b i y (cut50 s) ha hb (by omega) (by omega) (by omega) F' _ H') ?_
      rintro v w6 L' ⟨rfl, rfl⟩ H
      simp only [List.cons_append, List.nil_append] at H
      refine y_call (f := 27) (args := #[Value.pointer (some (Addr.mk tb (0 : Nat) none)), Value.int IntKind.u32 (↑a : Int), Value.int IntKind.u32 (↑b : Int), Value.string (encS a b i y (cut50 s))]) [0] (M := []) H rfl rfl rfl (by kernel_rfl) (by kernel_rfl) (by kernel_rfl) (fun F' hF H' => tin_ret a b i y (cut50 s) ha hb (by omega) (by omega) (by omega) tb (gotL a U i) (by rw [hgl]; omega) F' _ H') ?_
      rintro v w7 L' ⟨rfl, rfl⟩ H
      simp only [List.cons_append, List.nil_append] at H
      rw [if_pos e5] at H
      rw [if_pos e5]
      refine s_ifT (by kernel_rfl) t5 ?_
      refine s_ifF (b := false) (by kernel_rfl) rfl ?_
      refine s_ifF (by kernel_rfl) t6 ?_
      refine x_add (t := 3) (a := (↑i : Int)) (b := (1 : Int)) (((i) + ((1 : Nat)) : Nat) : Int) (w64' (by omega) (by omega) (by omega)) (by kernel_rfl) ?_
      -- stop: Req.again (0 : Nat)
      rw [← hsucc h16] at H
      exact s_again 0 (i + 1) [.int .i64 ((i + 1 : Nat) : Int)] rfl (by kernel_rfl) (by kernel_rfl) (by kernel_rfl) rfl ⟨H, hlt⟩ (by omega)
    · have t5 : decide ((i : Int) < 16) = false := decide_eq_false (by omega)
      have t6 : decide ((i : Int) ≥ 16) = true := decide_eq_true (by omega)
      have e5 : ¬ (gotL a U i).length < 16 := by rw [hgl]; omega
      refine s_ifT (by kernel_rfl) t4 ?_
      refine y_idx (t := 56) (b := nb) (o := no2) (n := U.length) (c := vc1) (kd := IntKind.i64) (i := (↑i : Int)) 1 (by kernel_rfl) (by omega) (by omega) (by kernel_rfl) ?_
      refine y_vload (k := i) (j := 0) (o := no2 + (↑i : Int).toNat * (1 : Nat)) (x := [Value.string s]) H hV1 hel2 rfl (by first | rfl | omega) (by kernel_rfl) ?_
      refine x_min (ts := #[(3 : Nat), (3 : Nat)]) (t := 3) (k := IntKind.i64) (k' := IntKind.i64) (x := (↑s.size : Int)) (y := (50 : Int)) ((min (s.size) ((50 : Nat)) : Nat) : Int) (by split <;> omega) (by kernel_rfl) ?_
      refine x_sliceStr (t := 9) (s := s) (lo := none) (hi := some (Value.int IntKind.i64 (↑(min s.size (50 : Nat)) : Int))) (l := 0) (h := (min s.size (50 : Nat))) (by kernel_rfl) (.none _) (.int IntKind.i64 ((↑(min s.size (50 : Nat)) : Int)) _ (by omega)) (by omega) (by omega) (by kernel_rfl) ?_
      refine y_call (f := 12) (args := #[Value.int IntKind.u32 (↑a : Int), Value.int IntKind.u32 (↑b : Int), Value.agg (#[Value.int IntKind.i64 (↑i : Int), Value.int IntKind.i64 (↑y : Int), Value.string (s.extract (0 : Nat) (min s.size (50 : Nat)))])]) [] (M := [TabA tb (↑y : Int) (gotL (↑a : Int) U i)]) H rfl rfl rfl (by kernel_rfl) (by kernel_rfl) (by kernel_rfl) (fun F' hF H' => encodeOk a b i y (cut50 s) ha hb (by omega) (by omega) (by omega) F' _ H') ?_
      rintro v w6 L' ⟨rfl, rfl⟩ H
      simp only [List.cons_append, List.nil_append] at H
      refine y_call (f := 27) (args := #[Value.pointer (some (Addr.mk tb (0 : Nat) none)), Value.int IntKind.u32 (↑a : Int), Value.int IntKind.u32 (↑b : Int), Value.string (encS a b i y (cut50 s))]) [0] (M := []) H rfl rfl rfl (by kernel_rfl) (by kernel_rfl) (by kernel_rfl) (fun F' hF H' => tin_ret a b i y (cut50 s) ha hb (by omega) (by omega) (by omega) tb (gotL a U i) (by rw [hgl]; omega) F' _ H') ?_
      rintro v w7 L' ⟨rfl, rfl⟩ H
      simp only [List.cons_append, List.nil_append] at H
      rw [if_neg e5] at H
      rw [if_neg e5]
      refine s_ifF (by kernel_rfl) t5 ?_
      refine s_ifT (by kernel_rfl) t6 ?_
      refine s_ifF (b := false) (by kernel_rfl) rfl ?_
      refine x_add (t := 3) (a := (↑i : Int)) (b := (1 : Int)) (((i) + ((1 : Nat)) : Nat) : Int) (w64' (by omega) (by omega) (by omega)) (by kernel_rfl) ?_
      -- stop: Req.again (0 : Nat)
      rw [← hfull (by omega)] at H
      exact s_again 0 (i + 1) [.int .i64 ((i + 1 : Nat) : Int)] rfl (by kernel_rfl) (by kernel_rfl) (by kernel_rfl) rfl ⟨H, hlt⟩ (by omega)
  · have t4 : decide ((i : Int) < U.length) = false := decide_eq_false (by omega)
    obtain rfl : i = U.length := by omega
    refine s_ifF (b := decide (((U.length : Nat) : Int) < U.length)) (by kernel_rfl) t4 ?_
    refine s_out 0 rfl (by kernel_rfl) ?_
    
    -- stop: Req.loop
    have hgl := gotL_len a U U.length
    rw [show gotL a U U.length = (gotL a U U.length).drop 0 from rfl] at H
    refine s_loop (γ := Nat) 0 [17] (fun j => [.int .i64 j]) (fun j w' => Own w' F [TabA tb y ((gotL a U U.length).drop j)] ∧ j ≤ min U.length 16) (fun j => 16 - j) 0 [.int .i64 0] (by kernel_rfl) (by kernel_rfl) rfl (by kernel_rfl) rfl ⟨H, Nat.zero_le _⟩ ?_
    clear H
    rintro j w7 ⟨H, hj⟩
    have hdl : ((gotL a U U.length).drop j).length ≤ 16 := by rw [List.length_drop, hgl]; omega
    by_cases hjl : j < min U.length 16
    · have t5 : decide ((j : Int) < ((min U.length 16 : Nat) : Int)) = true := decide_eq_true (by omega)
      have hd := gotL_drop (a := (a : Int)) (T := U) hjl
      have hel := List.getElem?_eq_getElem (show j < U.length by omega)
      generalize U[j] = s at hel
      have hss := hs' s (List.mem_of_getElem? hel)
      have hgd : U.getD j ⟨#[]⟩ = s := by rw [List.getD_eq_getElem?_getD, hel]; rfl
      rw [hgd] at hd
      have hel2 : (U.map fun s => [Value.string s])[j]? = some [.string s] := by rw [List.getElem?_map, hel]; rfl
      obtain ⟨nb, no2, cz, hva, _, _⟩ := hV1.open (by simp; omega)
      simp only [Value.slice.injEq] at hva
      obtain ⟨rfl, _, rfl⟩ := hva
      rw [hd] at H hdl
      generalize hrest : (gotL a U U.length).drop (j + 1) = rest at H hdl
      have t7 : eqT Try.prog 100 62 (.agg #[.int .u32 a, .int .i64 j]) (.agg #[.int .u32 a, .int .i64 j]) = some true := by
        have : eqT Try.prog 100 62 (.agg #[.int .u32 a, .int .i64 j]) (.agg #[.int .u32 a, .int .i64 j]) = some (((a : Int) == a) && (((j : Int) == j) && true)) := by kernel_rfl
        simpa using this
      have t8 : (!((cut50 s).toList == (s.extract 0 (min s.size 50)).toList)) = false := by
        rw [show s.extract 0 (min s.size 50) = cut50 s from rfl]; simp
      refine x_min (ts := #[(3 : Nat), (3 : Nat)]) (t := 3) (k := IntKind.i64) (k' := IntKind.i64) (x := (↑U.length : Int)) (y := (16 : Int)) ((min (U.length) ((16 : Nat)) : Nat) : Int) (by split <;> omega) (by kernel_rfl) ?_
      refine s_ifT (by kernel_rfl) t5 ?_
      refine y_call (f := 28) (args := #[Value.pointer (some (Addr.mk tb (0 : Nat) none)), Value.int IntKind.i64 (↑y : Int)]) [0] (M := []) H rfl rfl rfl (by kernel_rfl) (by kernel_rfl) (by kernel_rfl) (fun F' hF H' => ttakeC y (by omega) tb ⟨(a : Int), (j : Int), cut50 s⟩ rest hdl F' _ H') ?_
      rintro v w8 L' ⟨rfl, rfl⟩ H
      simp only [List.cons_append, List.nil_append] at H
      refine y_new (c := #[Value.int IntKind.u32 (0 : Int), Value.int IntKind.i64 (0 : Int), Value.string (ByteArray.mk #[])]) (T := 64) H (by kernel_rfl) (by kernel_rfl) (fun w9 b1 H => ?_)
      refine y_store 0 (o := 0) (v := Value.int IntKind.u32 (↑a : Int)) (c' := #[Value.int IntKind.u32 (↑a : Int), Value.int IntKind.i64 (0 : Int), Value.string (ByteArray.mk #[])]) H rfl (by kernel_rfl) (by kernel_rfl) (by kernel_rfl) rfl (by kernel_rfl) (fun w10 H => ?_)
      simp only [List.set_cons_zero, List.set_cons_succ] at H
      refine y_store 0 (o := 1) (v := Value.int IntKind.i64 (↑j : Int)) (c' := #[Value.int IntKind.u32 (↑a : Int), Value.int IntKind.i64 (↑j : Int), Value.string (ByteArray.mk #[])]) H rfl (by kernel_rfl) (by kernel_rfl) (by kernel_rfl) rfl (by kernel_rfl) (fun w11 H => ?_)
      simp only [List.set_cons_zero, List.set_cons_succ] at H
      refine y_store 0 (o := 2) (v := Value.string (cut50 s)) (c' := #[Value.int IntKind.u32 (↑a : Int), Value.int IntKind.i64 (↑j : Int), Value.string (cut50 s)]) H rfl (by kernel_rfl) (by kernel_rfl) (by kernel_rfl) rfl (by kernel_rfl) (fun w12 H => ?_)
      simp only [List.set_cons_zero, List.set_cons_succ] at H
      refine y_drawQ (22 : Nat) 30 H (by kernel_rfl) (by kernel_rfl) (by kernel_rfl) ?_
      refine q_if (b := false) (by kernel_rfl) (by kernel_rfl) (by kernel_rfl) (fun h => by cases h) (fun _ => ?_)
      refine q_if (b := false) (by kernel_rfl) (by kernel_rfl) (by kernel_rfl) (fun h => by cases h) (fun _ => ?_)
      refine y_qload (a := ⟨b1, 0, none⟩) (by kernel_rfl) (by kernel_rfl) (fun w' H => Own.cell 0 H rfl rfl) ?_
      refine y_qload (a := ⟨b1, 1, none⟩) (by kernel_rfl) (by kernel_rfl) (fun w' H => Own.cell 0 H rfl rfl) ?_
      refine h_neqS (t := 62) (xs := #[Value.int IntKind.u32 (↑a : Int), Value.int IntKind.i64 (↑j : Int)]) (ys := #[Value.int IntKind.u32 (↑a : Int), Value.int IntKind.i64 (↑j : Int)]) (b := true) t7 (by kernel_rfl) (by kernel_rfl) (by kernel_rfl) ?_
      refine q_if (b := false) (by kernel_rfl) (by kernel_rfl) (by kernel_rfl) (fun h => by cases h) (fun _ => ?_)
      refine y_qload (a := ⟨b1, 2, none⟩) (by kernel_rfl) (by kernel_rfl) (fun w' H => Own.cell 0 H rfl rfl) ?_
      refine h_idx (t := 56) (b := nb) (o := no2) (n := U.length) (c := vc1) (kd := IntKind.i64) (i := (↑j : Int)) 1 (by kernel_rfl) (by omega) (by omega) (by kernel_rfl) (by kernel_rfl) ?_
      refine y_qload (a := ⟨nb, no2 + (↑j : Int).toNat * (1 : Nat), none⟩) (by kernel_rfl) (by kernel_rfl) (fun w' H => View.cell (k := j) (j := 0) (x := [Value.string s]) H hV1 hel2 rfl (by first | rfl | omega)) ?_
      refine h_idx (t := 56) (b := nb) (o := no2) (n := U.length) (c := vc1) (kd := IntKind.i64) (i := (↑j : Int)) 1 (by kernel_rfl) (by omega) (by omega) (by kernel_rfl) (by kernel_rfl) ?_
      refine y_qload (a := ⟨nb, no2 + (↑j : Int).toNat * (1 : Nat), none⟩) (by kernel_rfl) (by kernel_rfl) (fun w' H => View.cell (k := j) (j := 0) (x := [Value.string s]) H hV1 hel2 rfl (by first | rfl | omega)) ?_
      refine h_min (ts := #[(3 : Nat), (3 : Nat)]) (t := 3) (k := IntKind.i64) (k' := IntKind.i64) (x := (↑s.size : Int)) (y := (50 : Int)) ((min (s.size) ((50 : Nat)) : Nat) : Int) (by split <;> omega) (by kernel_rfl) (by kernel_rfl) ?_
      refine q_sliceStr (t := 9) (s := s) (lo := none) (hi := some (Value.int IntKind.i64 (↑(min s.size (50 : Nat)) : Int))) (l := 0) (h := (min s.size (50 : Nat))) (by kernel_rfl) (.none _) (.int IntKind.i64 ((↑(min s.size (50 : Nat)) : Int)) _ (by omega)) (by omega) (by omega) (by kernel_rfl) (by kernel_rfl) ?_
      refine y_qend (by kernel_rfl) (fun w13 H => ?_)
      refine s_ifF (by kernel_rfl) t8 ?_
      refine x_add (t := 3) (a := (↑j : Int)) (b := (1 : Int)) (((j) + ((1 : Nat)) : Nat) : Int) (w64' (by omega) (by omega) (by omega)) (by kernel_rfl) ?_
      -- stop: Req.again (0 : Nat)
      have H : Own _ F [_] := H.drop1
      rw [← hrest] at H
      exact s_again 0 (j + 1) [.int .i64 ((j + 1 : Nat) : Int)] rfl (by kernel_rfl) (by kernel_rfl) (by kernel_rfl) rfl ⟨H, hjl⟩ (by omega)
    · have t5 : decide ((j : Int) < ((min U.length 16 : Nat) : Int)) = false := decide_eq_false (by omega)
      have hnil : (gotL a U U.length).drop j = [] := List.drop_eq_nil_of_le (by omega)
      rw [hnil] at H
      refine x_min (ts := #[(3 : Nat), (3 : Nat)]) (t := 3) (k := IntKind.i64) (k' := IntKind.i64) (x := (↑U.length : Int)) (y := (16 : Int)) ((min (U.length) ((16 : Nat)) : Nat) : Int) (by split <;> omega) (by kernel_rfl) ?_
      refine s_ifF (by kernel_rfl) t5 ?_
      refine y_call (f := 28) (args := #[Value.pointer (some (Addr.mk tb (0 : Nat) none)), Value.int IntKind.i64 (↑y : Int)]) [0] (M := []) H rfl rfl rfl (by kernel_rfl) (by kernel_rfl) (by kernel_rfl) (fun F' hF H' => ttakeN y (by omega) tb F' _ H') ?_
      rintro v w8 L' ⟨rfl, rfl⟩ H
      simp only [List.cons_append, List.nil_append] at H
      refine y_new (c := #[Value.int IntKind.u32 (0 : Int), Value.int IntKind.i64 (0 : Int), Value.string (ByteArray.mk #[])]) (T := 64) H (by kernel_rfl) (by kernel_rfl) (fun w9 b1 H => ?_)
      refine y_store 0 (o := 0) (v := Value.int IntKind.u32 (0 : Int)) (c' := #[Value.int IntKind.u32 (0 : Int), Value.int IntKind.i64 (0 : Int), Value.string (ByteArray.mk #[])]) H rfl (by kernel_rfl) (by kernel_rfl) (by kernel_rfl) rfl (by kernel_rfl) (fun w10 H => ?_)
      simp only [List.set_cons_zero, List.set_cons_succ] at H
      refine y_store 0 (o := 1) (v := Value.int IntKind.i64 (0 : Int)) (c' := #[Value.int IntKind.u32 (0 : Int), Value.int IntKind.i64 (0 : Int), Value.string (ByteArray.mk #[])]) H rfl (by kernel_rfl) (by kernel_rfl) (by kernel_rfl) rfl (by kernel_rfl) (fun w11 H => ?_)
      simp only [List.set_cons_zero, List.set_cons_succ] at H
      refine y_store 0 (o := 2) (v := Value.string (ByteArray.mk #[])) (c' := #[Value.int IntKind.u32 (0 : Int), Value.int IntKind.i64 (0 : Int), Value.string (ByteArray.mk #[])]) H rfl (by kernel_rfl) (by kernel_rfl) (by kernel_rfl) rfl (by kernel_rfl) (fun w12 H => ?_)
      simp only [List.set_cons_zero, List.set_cons_succ] at H
      refine s_ifT (b := true) (by kernel_rfl) rfl ?_
      -- stop: Req.done (Value.bool true)
      exact y_done (v := .bool true) (by kernel_rfl) _ rfl H
end Go.Proofs.Ytfknpeajihecdaa
