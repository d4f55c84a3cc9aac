import Derived.Test.YtgpcjoofcmfidaaCaLaw7
import Derived.Test.YtgpcjoofcmfidaaCg1
import Derived.Test.YtgpcjoofcmfidaaYSlice
namespace Go.Proofs.Ytgpcjoofcmfidaa
open Go.XM Go.RowKit Go.Ca
set_option maxRecDepth 100000

theorem saidM_zero (T : List ByteArray) : saidM T 0 = initM 0 := rfl
theorem saidM_succ (T : List ByteArray) (j : Nat) : saidM T (j + 1) = sayV (saidM T j) (T.getD j ⟨#[]⟩) := rfl
theorem runQ_zero (T : List ByteArray) (M : Nat) : runQ T M 0 = ((List.range M).map initM).set 0 (saidM T T.length) := rfl
theorem runQ_succ (T : List ByteArray) (M i : Nat) : runQ T M (i + 1) = (tickM ⟨#[]⟩ (-1) i [] (runQ T M i)).1 := rfl
theorem lastQ_zero (T : List ByteArray) (M : Nat) : lastQ T M 0 = runQ T M 60 := rfl
theorem lastQ_succ (T : List ByteArray) (M i : Nat) : lastQ T M (i + 1) = (lastQ T M i).map fun m => outMem ⟨#[]⟩ m (60 + i : Nat) := rfl

attribute [local irreducible] outMem outAir outD airD tells upto inCore inV hearM deliver tickM okD saidM runQ lastQ sayV Ret in
set_option maxHeartbeats 0 in
theorem castQuiet_ret (many : Int) (tx : List ByteArray) (tv : Value) (F : Fm) (w : World) (H : Own w F []) (h0 : -9223372036854775808 ≤ many) (h1 : many ≤ 9223372036854775807)
    (hV : View F.hl tv 1 (tx.map fun s => [.string s])) (hs : ∀ s ∈ tx, s.size ≤ maxLen) :
    Ret Try.prog 3 #[.int .i64 many, tv] w (Post F fun v _ => v = .bool true) := by
  obtain ⟨ta, tc, rfl, htc⟩ := hV.shape
  have htl : (tx.map fun s => [Value.string s]).length = tx.length := List.length_map ..
  rw [htl] at hV htc ⊢
  refine ret_of_G Try.func3 rfl rfl ?_
  refine y_call (f := 8) (args := #[Value.int IntKind.i64 many, Value.int IntKind.i64 (4 : Int)]) [] (M := []) H rfl rfl rfl (by kernel_rfl) (by kernel_rfl) (by kernel_rfl) (fun F' hF H' => rest_ret many 4 h0 h1 (by omega) (by omega) F' _ H') ?_
  rintro v w1 L' ⟨rfl, rfl⟩ H
  simp only [List.cons_append, List.nil_append] at H
  refine x_add (t := 3) (a := (2 : Int)) (b := many % (4 : Int)) (((2 : Int)) + (many % (4 : Int))) (w64' (by omega) (by omega) rfl) (by kernel_rfl) ?_
  -- stop: Req.call (7 : Nat) (#[Value.int IntKind.i64 ((2 : Int) + many % (4 : Int)), Value.slice none (0 : Nat) (0 : Nat)])
  -- [[] | rest_ret many 4 h0 h1 (by omega) (by omega) F' _ H' | ⟨] at [refine y_call (f := 7) (args := #[Value.int IntKind.i64 ((2 : Int) + man]: Type mismatch   Go.Proofs.Ytgpcjoofcmfidaa.rest_ret many 4 h0 h1 ?m.294 ?m.295 F' w1 H' has type   Go.XM.Ret Go.Proofs.Try.prog 8 #[Go.Value.int Go.IntKind.i64 many, Go.Value.int Go.IntKind.i64 4] w1     (Go.XM.Post F' fun v L' => v = Go.Value.int Go.IntKind.i64 (many % 4) ∧ L' = []) but is expected to have type   Go.XM.Ret Go.Proofs.Try.prog 7 #[Go.Value.int Go.IntKind.i64 (2 + many % 4), Go.Value.slice none 0 0] w1     (Go.XM.Post F' ?m.276)
  obtain ⟨M, hM⟩ : ∃ M : Nat, 2 + many % 4 = M := ⟨(2 + many % 4).toNat, by omega⟩
  have hM3 : 2 ≤ M := by omega
  have hM6 : M ≤ 5 := by omega
  rw [hM]
  clear hM
  refine y_call (f := 7) (args := #[Value.int IntKind.i64 (↑M : Int), Value.slice none (0 : Nat) (0 : Nat)]) [] (M := []) H rfl rfl rfl (by kernel_rfl) (by kernel_rfl) (by kernel_rfl) (fun F' hF H' => newGroup_ret M none 0 0 F' _ H' (by omega)) ?_
  rintro v w2 L' ⟨b, rb, bs, rfl, hbs, rfl⟩ H
  simp only [List.cons_append, List.nil_append] at H
  refine y_call (f := 9) (args := #[]) [] (M := [GrpA b (Value.slice none (0 : Nat) (0 : Nat)) (0 : Int) (Value.slice (some (Addr.mk rb (0 : Nat) none)) M M) bs (List.map initM (List.range M)), rows (Value.slice (some (Addr.mk rb (0 : Nat) none)) M M) 22 (1 : Nat) (List.replicate M [Value.slice none (0 : Nat) (0 : Nat)])]) H rfl rfl rfl (by kernel_rfl) (by kernel_rfl) (by kernel_rfl) (fun F' hF H' => castFact_ret F' _ H') ?_
  rintro v w3 L' ⟨rfl, rfl⟩ H
  simp only [List.cons_append, List.nil_append] at H
  refine s_ifF (b := false) (by kernel_rfl) rfl ?_
  refine s_ifF (b := false) (by kernel_rfl) rfl ?_
  refine x_min (ts := #[(3 : Nat), (3 : Nat)]) (t := 3) (k := IntKind.i64) (k' := IntKind.i64) (x := (↑tx.length : Int)) (y := (8 : Int)) ((min (tx.length) ((8 : Nat)) : Nat) : Int) (by split <;> omega) (by kernel_rfl) ?_
  refine y_vslice hV (t := 22) (lo := none) (hi := some (Value.int IntKind.i64 (↑(min tx.length (8 : Nat)) : Int))) (l := 0) (h := (min tx.length (8 : Nat))) (.none _) (.int IntKind.i64 ((↑(min tx.length (8 : Nat)) : Int)) _ (by omega)) (by first | omega | (simp only [List.length_map, List.length_take, List.length_drop]; omega)) (by first | omega | (simp only [List.length_map, List.length_take, List.length_drop]; omega)) (by kernel_rfl) (by kernel_rfl) (fun va1 vc1 hV1 => ?_)
  -- stop: Req.loop
  have e1 : min tx.length 8 - 0 = (tx.take 8).length := by simp; omega
  have e9 : (tx.take 8).length ≤ 8 := by simp; omega
  rw [e1] at hV1 ⊢
  rw [List.drop_zero, ← List.map_take, take_min] at hV1
  have hs' : ∀ s ∈ tx.take 8, s.size ≤ maxLen := fun s hx => hs s (List.mem_of_mem_take hx)
  generalize tx.take 8 = U at hV1 hs' e9 ⊢
  clear e1 hV htl htc hs
  obtain ⟨T, hT⟩ : ∃ T, U.map tr = T := ⟨_, rfl⟩
  have hTl : T.length = U.length := by rw [← hT, List.length_map]
  have hTs : ∀ s ∈ T, s.size ≤ 100 := by
    intro s hx
    rw [← hT] at hx
    obtain ⟨x, _, rfl⟩ := List.mem_map.1 hx
    exact tr_size x
  obtain ⟨ga, gc, hgc, H⟩ := openGrpN H (by omega)
  have hi0 : ((List.range M).map initM)[0]? = some (saidM T 0) := by rw [List.getElem?_map, List.getElem?_range (by omega), saidM_zero]; rfl
  have hbo := List.getElem?_eq_getElem (show 0 < bs.length by omega)
  generalize bs[0] = bo at hbo
  have hbo2 : (bs.map fun k => [ptrV k])[0]? = some [ptrV bo] := by rw [List.getElem?_map, hbo]; rfl
  have hml : ((List.range M).map initM).length = M := by simp
  refine s_loop (γ := Nat) 0 [32] (fun j => [.int .i64 j]) (fun j w' => Own w' F [pt b #[.slice (some ⟨ga, 0, none⟩) bs.length gc, .slice none 0 0, .int .i64 0, .slice (some ⟨rb, 0, none⟩) M M] 33, rows (.slice (some ⟨ga, 0, none⟩) bs.length gc) 28 1 (bs.map fun k => [ptrV k]), Each memP (bs.zip (((List.range M).map initM).set 0 (saidM T j))), rows (.slice (some ⟨rb, 0, none⟩) M M) 22 1 (List.replicate M [.slice none 0 0])] ∧ j ≤ U.length) (fun j => U.length - j) 0 [.int .i64 0] (by kernel_rfl) (by kernel_rfl) rfl (by kernel_rfl) rfl ⟨by rw [set_same hi0]; exact H, Nat.zero_le _⟩ ?_
  clear H
  rintro j w5 ⟨H, hj⟩
  by_cases hjl : j < U.length
  · have t4 : decide ((j : Int) < U.length) = true := decide_eq_true (by omega)
    have hel := List.getElem?_eq_getElem hjl
    generalize U[j] = s at hel
    have hss := hs' s (List.mem_of_getElem? hel)
    have hel2 : (U.map fun s => [Value.string s])[j]? = some [.string s] := by rw [List.getElem?_map, hel]; rfl
    have hTj : T[j]? = some (tr s) := by rw [← hT, List.getElem?_map, hel]; rfl
    have hTd : T.getD j ⟨#[]⟩ = tr s := by rw [List.getD_eq_getElem?_getD, hTj]; rfl
    obtain ⟨nb, no2, cz, hva, _, _⟩ := hV1.open (by simp; omega)
    simp only [Value.slice.injEq] at hva
    obtain ⟨rfl, _, rfl⟩ := hva
    have hmi := saidM_MI (T := T) j (by omega)
    have hlen := hmi.len
    have hid := saidM_id T j
    have hz : (bs.zip (((List.range M).map initM).set 0 (saidM T j)))[0]? = some (bo, saidM T j) := List.getElem?_zip_eq_some.2 ⟨hbo, by rw [List.getElem?_set, if_pos rfl, if_pos (by omega)]⟩
    have hlz : 0 < (bs.zip (((List.range M).map initM).set 0 (saidM T j))).length := (List.getElem?_eq_some_iff.1 hz).1
    replace H := Own.focus (H.pick [2, 0, 1, 3] rfl) hz
    have htrs := tr_size s
    refine s_ifT (by kernel_rfl) t4 ?_
    refine y_idx (t := 22) (b := nb) (o := no2) (n := U.length) (c := vc1) (kd := IntKind.i64) (i := (↑j : Int)) 1 (by kernel_rfl) (by omega) (by omega) (by kernel_rfl) ?_
    refine y_vload (k := j) (j := 0) (o := no2 + (↑j : Int).toNat * (1 : Nat)) (x := [Value.string s]) H hV1 hel2 rfl (by first | rfl | omega) (by kernel_rfl) ?_
    refine y_drawP (8 : Nat) [] [0, 1, 2, 3, 4, 5, 6, 7, 8, 9, 10] 11 [12] H (by kernel_rfl) (by kernel_rfl) (by kernel_rfl) (by kernel_rfl) ?_
    refine y_qload (a := ⟨b, 0, none⟩) (by kernel_rfl) (by kernel_rfl) (fun w' H => Own.cell 2 H rfl rfl) ?_
    refine h_idx (t := 29) (b := ga) (o := (0 : Nat)) (n := bs.length) (c := gc) (kd := IntKind.i64) (i := (0 : Int)) 1 (by kernel_rfl) (by omega) (by omega) (by kernel_rfl) (by kernel_rfl) ?_
    refine y_qload (a := ⟨ga, 0, none⟩) (by kernel_rfl) (by kernel_rfl) (fun w' H => Own.elCell (j := 0) 3 (i := (0 : Nat)) H rfl hbo2 rfl (by first | rfl | omega)) ?_
    refine h_min (ts := #[(3 : Nat), (3 : Nat)]) (t := 3) (k := IntKind.i64) (k' := IntKind.i64) (x := (↑s.size : Int)) (y := (100 : Int)) ((min (s.size) ((100 : Nat)) : Nat) : Int) (by split <;> omega) (by kernel_rfl) (by kernel_rfl) ?_
    refine q_sliceStr (t := 9) (s := s) (lo := none) (hi := some (Value.int IntKind.i64 (↑(min s.size (100 : Nat)) : Int))) (l := 0) (h := (min s.size (100 : Nat))) (by kernel_rfl) (.none _) (.int IntKind.i64 ((↑(min s.size (100 : Nat)) : Int)) _ (by omega)) (by omega) (by omega) (by kernel_rfl) (by kernel_rfl) ?_
    refine y_qend (by kernel_rfl) (fun w6 H => ?_)
    refine y_call (f := 10) (args := #[Value.pointer (some (Addr.mk bo (0 : Nat) none)), Value.string (s.extract (0 : Nat) (min s.size (100 : Nat)))]) [0] (M := [Each memP ((bs.zip ((List.map initM (List.range M)).set (0 : Nat) (saidM T j))).eraseIdx (0 : Nat)), pt b #[Value.slice (some (Addr.mk ga (0 : Nat) none)) bs.length gc, Value.slice none (0 : Nat) (0 : Nat), Value.int IntKind.i64 (0 : Int), Value.slice (some (Addr.mk rb (0 : Nat) none)) M M] (33 : TypeId), rows (Value.slice (some (Addr.mk ga (0 : Nat) none)) bs.length gc) 28 (1 : Nat) (List.map (fun k => [ptrV k]) bs), rows (Value.slice (some (Addr.mk rb (0 : Nat) none)) M M) 22 (1 : Nat) (List.replicate M [Value.slice none (0 : Nat) (0 : Nat)])]) H rfl rfl rfl (by kernel_rfl) (by kernel_rfl) (by kernel_rfl) (fun F' hF H' => say_ret (saidM T j) (tr s) bo F' _ H' hid (by omega) (by omega)) ?_
    rintro v w7 L' ⟨rfl, rfl⟩ H
    simp only [List.cons_append, List.nil_append] at H
    refine s_ifF (b := false) (by kernel_rfl) rfl ?_
    refine x_add (t := 3) (a := (↑j : Int)) (b := (1 : Int)) (((j) + ((1 : Nat)) : Nat) : Int) (w64' (by omega) (by omega) (by omega)) (by kernel_rfl) ?_
    -- stop: Req.again (0 : Nat)
    replace H := Own.unfocus (f := memP) (k := 0) (y := (bo, sayV (saidM T j) (tr s))) hlz H
    rw [zip_set hbo, List.set_set, ← hTd, ← saidM_succ] at H
    exact s_again 0 (j + 1) [.int .i64 ((j + 1 : Nat) : Int)] rfl (by kernel_rfl) (by kernel_rfl) (by kernel_rfl) rfl ⟨H.pick [1, 2, 0, 3] rfl, hjl⟩ (by omega)
  · have t4 : decide ((j : Int) < U.length) = false := decide_eq_false (by omega)
    obtain rfl : j = U.length := by omega
    rw [← hTl, ← runQ_zero] at H
    refine s_ifF (b := decide (((U.length : Nat) : Int) < U.length)) (by kernel_rfl) t4 ?_
    refine s_out 0 rfl (by kernel_rfl) ?_
    
    -- stop: Req.loop
    replace H := shutGrp H rfl rfl
    have hok := runQ_ok (T := T) (M := M) (by omega) (by omega) hTs
    refine s_loop (γ := Nat × Option Addr × Nat) 0 [8] (fun g => [.int .i64 g.1]) (fun g w' => Own w' F [GrpA b (.slice g.2.1 0 g.2.2) g.1 (.slice (some ⟨rb, 0, none⟩) M M) bs (runQ T M g.1), rows (.slice (some ⟨rb, 0, none⟩) M M) 22 1 (List.replicate M [.slice none 0 0])] ∧ View F.hl (.slice g.2.1 0 g.2.2) 1 [] ∧ g.1 ≤ 60) (fun g => 60 - g.1) (0, none, 0) [.int .i64 0] (by kernel_rfl) (by kernel_rfl) rfl (by kernel_rfl) rfl ⟨H, View.nil _ _, Nat.zero_le _⟩ ?_
    clear H
    rintro ⟨i, fa, fc⟩ w8 ⟨H, hVf, hi⟩
    simp only at H hVf hi
    have hRi := hok i
    have hsl := hRi.len
    have hidm : ∀ m ∈ runQ T M i, m.id ≠ -1 := fun m hm => by
      obtain ⟨k, hk⟩ := List.mem_iff_getElem?.1 hm
      have := hRi.ids k m hk; omega
    refine s_if (b := decide ((i : Int) < 60)) (by kernel_rfl) (fun ht => ?_) (fun hf => ?_)
    · have p := of_decide_eq_true ht
      have hti := tick_inv (fs := []) hRi.alive (by omega) (by omega) hTs
      have hout : ∀ m ∈ runQ T M i, m.items.length ≤ 64 ∧ m.now ≤ (i : Int) := fun m hm => ⟨(hRi.alive m hm).1, ((hRi.alive m hm).2 (hidm m hm)).now⟩
      have e2 : (tickM ⟨#[]⟩ (-1) i [] (runQ T M i)).2 = [] := by rw [tick_quiet]
      refine y_call (f := 11) (args := #[Value.pointer (some (Addr.mk b (0 : Nat) none)), Value.int IntKind.i64 (-1 : Int)]) [0] (M := [rows (Value.slice (some (Addr.mk rb (0 : Nat) none)) M M) 22 (1 : Nat) (List.replicate M [Value.slice none (0 : Nat) (0 : Nat)])]) H rfl rfl rfl (by kernel_rfl) (by kernel_rfl) (by kernel_rfl) (fun F' hF H' => tick_ret (-1) i [] (runQ T M i) bs b _ _ F.hl F' hF _ H' fa fc rfl hVf (fun f hf => by cases hf) (by omega) hRi.ids (by omega) (by omega) (by omega) hout hti.1) ?_
      rintro v w9 L' ⟨fa', fc', rfl, hVn, hfn, rfl⟩ H
      simp only [List.cons_append, List.nil_append] at H
      rw [e2] at H hVn
      refine s_ifF (b := false) (by kernel_rfl) rfl ?_
      refine x_add (t := 3) (a := (↑i : Int)) (b := (1 : Int)) (((i) + ((1 : Nat)) : Nat) : Int) (w64' (by omega) (by omega) (by omega)) (by kernel_rfl) ?_
      -- stop: Req.again (0 : Nat)
      exact s_again 0 (i + 1, fa', fc') [.int .i64 ((i + 1 : Nat) : Int)] rfl (by kernel_rfl) (by kernel_rfl) (by kernel_rfl) rfl ⟨by simp only [runQ_succ]; exact H, hVn, by show i + 1 ≤ 60; omega⟩ (by show 60 - (i + 1) < 60 - i; omega)
    · have p := of_decide_eq_false hf
      obtain rfl : i = 60 := by omega
      refine s_out 0 rfl (by kernel_rfl) ?_
      
      -- stop: Req.loop
      rw [← lastQ_zero] at H
      have hall := lastQ_len hsl
      have hcalm := lastQ_calm (T := T) (M := M) (by omega)
      clear hVf hsl hRi
      refine s_loop (γ := Nat) 0 [10, 9] (fun i => [.int .i64 i, .int .i64 (sentQ T.length i)]) (fun i w' => Own w' F [GrpA b (.slice fa 0 fc) ((60 + i : Nat) : Int) (.slice (some ⟨rb, 0, none⟩) M M) bs (lastQ T M i), rows (.slice (some ⟨rb, 0, none⟩) M M) 22 1 (List.replicate M [.slice none 0 0])] ∧ i ≤ 50) (fun i => 50 - i) 0 [.int .i64 0, .int .i64 0] (by kernel_rfl) (by kernel_rfl) rfl (by kernel_rfl) (by simp [sentQ]) ⟨H, Nat.zero_le _⟩ ?_
      clear H
      rintro i w9 ⟨H, hi⟩
      have hsn := sentQ_le T.length i
      have hsm := sentQ_mono T.length i
      have hsn1 := sentQ_le T.length (i + 1)
      refine s_if (b := decide ((i : Int) < 50)) (by kernel_rfl) (fun ht => ?_) (fun hf => ?_)
      · have p := of_decide_eq_true ht
        have hli := hall i
        obtain ⟨xa, xc, hxc, H⟩ := openGrpN H (by omega)
        refine y_load 0 (o := 0) H rfl rfl (by kernel_rfl) ?_
        -- stop: Req.loop
        refine s_loop (γ := Nat) 1 [66, 9] (fun k => [.int .i64 k, .int .i64 ((if k = 0 then sentQ T.length i else sentQ T.length (i + 1) : Nat) : Int)]) (fun k w' => Own w' F [pt b #[.slice (some ⟨xa, 0, none⟩) bs.length xc, .slice fa 0 fc, .int .i64 ((60 + i : Nat) : Int), .slice (some ⟨rb, 0, none⟩) M M] 33, rows (.slice (some ⟨xa, 0, none⟩) bs.length xc) 28 1 (bs.map fun k => [ptrV k]), Each memP (bs.zip (upto (fun m => outMem ⟨#[]⟩ m ((60 + i : Nat) : Int)) k (lastQ T M i))), rows (.slice (some ⟨rb, 0, none⟩) M M) 22 1 (List.replicate M [.slice none 0 0])] ∧ k ≤ M) (fun k => M - k) 0 [.int .i64 0, .int .i64 (sentQ T.length i)] (by kernel_rfl) (by kernel_rfl) rfl (by kernel_rfl) rfl ⟨by rw [upto_zero]; exact H, Nat.zero_le _⟩ ?_
        clear H
        rintro k w10 ⟨H, hk⟩
        by_cases hkl : k < M
        · have t5 : decide ((k : Int) < bs.length) = true := decide_eq_true (by omega)
          have hx := List.getElem?_eq_getElem (show k < (lastQ T M i).length by omega)
          generalize (lastQ T M i)[k] = x at hx
          have hbk := List.getElem?_eq_getElem (show k < bs.length by omega)
          generalize bs[k] = bk at hbk
          have hbk2 : (bs.map fun k => [ptrV k])[k]? = some [ptrV bk] := by rw [List.getElem?_map, hbk]; rfl
          have hz : (bs.zip (upto (fun m => outMem ⟨#[]⟩ m ((60 + i : Nat) : Int)) k (lastQ T M i)))[k]? = some (bk, x) := List.getElem?_zip_eq_some.2 ⟨hbk, upto_get hx⟩
          have hlz : k < (bs.zip (upto (fun m => outMem ⟨#[]⟩ m ((60 + i : Nat) : Int)) k (lastQ T M i))).length := (List.getElem?_eq_some_iff.1 hz).1
          have hxid := (hcalm i).ids k x hx
          have hxc := (hcalm i).calm x (List.mem_of_getElem? hx)
          have hxl := hxc.len
          have hxn := hxc.now
          have hair := lastQ_air (T := T) (M := M) (by omega) (by omega) hx
          replace H := Own.focus (H.pick [2, 0, 1, 3] rfl) hz
          by_cases hk0 : k = 0
          · subst hk0
            rw [if_pos rfl] at hair
            rw [if_pos rfl]
            have t5 : decide ((0 : Int) < bs.length) = true := decide_eq_true (by omega)
            have t6 : decide (((0 : Nat) : Int) > 0) = false := decide_eq_false (by omega)
            have t7 : decide ((0 : Int) > 0) = false := decide_eq_false (by omega)
            refine s_ifT (by kernel_rfl) t5 ?_
            refine y_idx (t := 29) (b := xa) (o := (0 : Nat)) (n := bs.length) (c := xc) (kd := IntKind.i64) (i := (0 : Int)) 1 (by kernel_rfl) (by omega) (by omega) (by kernel_rfl) ?_
            refine y_elLoad 3 (i := (0 : Nat)) (j := 0) (o := (0 : Nat)) H rfl hbk2 rfl (by first | rfl | omega) (by kernel_rfl) ?_
            refine y_load 2 (o := 2) H rfl rfl (by kernel_rfl) ?_
            refine y_call (f := 12) (args := #[Value.pointer (some (Addr.mk bk (0 : Nat) none)), Value.int IntKind.i64 (↑((60 : Nat) + i) : Int)]) [0] (M := [Each memP ((bs.zip (upto (fun m => outMem (ByteArray.mk #[]) m (↑((60 : Nat) + i) : Int)) (0 : Nat) (lastQ T M i))).eraseIdx (0 : Nat)), pt b #[Value.slice (some (Addr.mk xa (0 : Nat) none)) bs.length xc, Value.slice fa (0 : Nat) fc, Value.int IntKind.i64 (↑((60 : Nat) + i) : Int), Value.slice (some (Addr.mk rb (0 : Nat) none)) M M] (33 : TypeId), rows (Value.slice (some (Addr.mk xa (0 : Nat) none)) bs.length xc) 28 (1 : Nat) (List.map (fun k => [ptrV k]) bs), rows (Value.slice (some (Addr.mk rb (0 : Nat) none)) M M) 22 (1 : Nat) (List.replicate M [Value.slice none (0 : Nat) (0 : Nat)])]) H rfl rfl rfl (by kernel_rfl) (by kernel_rfl) (by kernel_rfl) (fun F' hF H' => out_ret x ((60 + i : Nat) : Int) bk F' _ H' (by omega) (by omega) (by omega) (by omega) (by omega) hxn) ?_
            rintro v w11 L' ⟨sv2, rfl, rfl⟩ H
            simp only [List.cons_append, List.nil_append] at H
            obtain ⟨sa2, sc2, hs2, _, _⟩ := Own.shape 1 H rfl
            simp only [List.length_map, hair] at hs2
            subst hs2
            replace H := Own.unfocus (f := memP) (k := 0) (y := (bk, outMem (⟨#[]⟩ : ByteArray) x ((60 + i : Nat) : Int))) hlz (H.pick [0, 2, 1, 3, 4, 5] rfl)
            rw [zip_set hbk, upto_set (f := fun m => outMem ⟨#[]⟩ m ((60 + i : Nat) : Int)) hx] at H
            refine s_ifF (b := false) (by kernel_rfl) rfl ?_
            refine s_ifF (b := false) (by kernel_rfl) rfl ?_
            refine x_add (t := 3) (a := (↑(sentQ T.length i) : Int)) (b := (↑(sentQ T.length (i + (1 : Nat)) - sentQ T.length i) : Int)) (((sentQ T.length i) + (sentQ T.length (i + (1 : Nat)) - sentQ T.length i) : Nat) : Int) (w64' (by omega) (by omega) (by omega)) (by kernel_rfl) ?_
            refine x_add (t := 3) (a := (0 : Int)) (b := (1 : Int)) ((((0 : Nat)) + ((1 : Nat)) : Nat) : Int) (w64' (by omega) (by omega) (by omega)) (by kernel_rfl) ?_
            -- stop: Req.again (1 : Nat)
            have hsum : ((sentQ T.length i : Nat) : Int) + ((sentQ T.length (i + 1) - sentQ T.length i : Nat) : Int) = ((sentQ T.length (i + 1) : Nat) : Int) := by omega
            refine s_again 1 1 [.int .i64 1, .int .i64 (((sentQ T.length i : Nat) : Int) + ((sentQ T.length (i + 1) - sentQ T.length i : Nat) : Int))] rfl (by kernel_rfl) (by kernel_rfl) (by kernel_rfl) ?_ ⟨(H.pick [1, 2, 3, 0, 4] rfl).drop1, by omega⟩ (by omega)
            rw [hsum]; rfl
          · rw [if_neg hk0] at hair
            rw [if_neg hk0]
            have t6 : decide ((k : Int) > 0) = true := decide_eq_true (by omega)
            refine s_ifT (by kernel_rfl) t5 ?_
            refine y_idx (t := 29) (b := xa) (o := (0 : Nat)) (n := bs.length) (c := xc) (kd := IntKind.i64) (i := (↑k : Int)) 1 (by kernel_rfl) (by omega) (by omega) (by kernel_rfl) ?_
            refine y_elLoad 3 (i := k) (j := 0) (o := (0 : Nat) + (↑k : Int).toNat * (1 : Nat)) H rfl hbk2 rfl (by first | rfl | omega) (by kernel_rfl) ?_
            refine y_load 2 (o := 2) H rfl rfl (by kernel_rfl) ?_
            refine y_call (f := 12) (args := #[Value.pointer (some (Addr.mk bk (0 : Nat) none)), Value.int IntKind.i64 (↑((60 : Nat) + i) : Int)]) [0] (M := [Each memP ((bs.zip (upto (fun m => outMem (ByteArray.mk #[]) m (↑((60 : Nat) + i) : Int)) k (lastQ T M i))).eraseIdx k), pt b #[Value.slice (some (Addr.mk xa (0 : Nat) none)) bs.length xc, Value.slice fa (0 : Nat) fc, Value.int IntKind.i64 (↑((60 : Nat) + i) : Int), Value.slice (some (Addr.mk rb (0 : Nat) none)) M M] (33 : TypeId), rows (Value.slice (some (Addr.mk xa (0 : Nat) none)) bs.length xc) 28 (1 : Nat) (List.map (fun k => [ptrV k]) bs), rows (Value.slice (some (Addr.mk rb (0 : Nat) none)) M M) 22 (1 : Nat) (List.replicate M [Value.slice none (0 : Nat) (0 : Nat)])]) H rfl rfl rfl (by kernel_rfl) (by kernel_rfl) (by kernel_rfl) (fun F' hF H' => out_ret x ((60 + i : Nat) : Int) bk F' _ H' (by omega) (by omega) (by omega) (by omega) (by omega) hxn) ?_
            rintro v w11 L' ⟨sv2, rfl, rfl⟩ H
            simp only [List.cons_append, List.nil_append] at H
            obtain ⟨sa2, sc2, hs2, _, _⟩ := Own.shape 1 H rfl
            simp only [List.length_map, hair] at hs2
            subst hs2
            replace H := Own.unfocus (f := memP) (k := k) (y := (bk, outMem (⟨#[]⟩ : ByteArray) x ((60 + i : Nat) : Int))) hlz (H.pick [0, 2, 1, 3, 4, 5] rfl)
            rw [zip_set hbk, upto_set (f := fun m => outMem ⟨#[]⟩ m ((60 + i : Nat) : Int)) hx] at H
            refine s_ifF (b := false) (by kernel_rfl) rfl ?_
            refine s_ifT (by kernel_rfl) t6 ?_
            refine s_ifF (b := false) (by kernel_rfl) rfl ?_
            refine x_add (t := 3) (a := (↑(sentQ T.length (i + (1 : Nat))) : Int)) (b := (0 : Int)) (((sentQ T.length (i + (1 : Nat))) + ((0 : Nat)) : Nat) : Int) (w64' (by omega) (by omega) (by omega)) (by kernel_rfl) ?_
            refine x_add (t := 3) (a := (↑k : Int)) (b := (1 : Int)) (((k) + ((1 : Nat)) : Nat) : Int) (w64' (by omega) (by omega) (by omega)) (by kernel_rfl) ?_
            -- stop: Req.again (1 : Nat)
            exact s_again 1 (k + 1) [.int .i64 ((k + 1 : Nat) : Int), .int .i64 (sentQ T.length (i + 1))] rfl (by kernel_rfl) (by kernel_rfl) (by kernel_rfl) (by simp only [Nat.succ_ne_zero, if_false]) ⟨(H.pick [1, 2, 3, 0, 4] rfl).drop1, by omega⟩ (by omega)
        · have t5 : decide ((k : Int) < bs.length) = false := decide_eq_false (by omega)
          obtain rfl : k = M := by omega
          rw [if_neg (show ¬ k = 0 by omega)]
          have hu : upto (fun m => outMem ⟨#[]⟩ m ((60 + i : Nat) : Int)) k (lastQ T k i) = lastQ T k (i + 1) := by
            have := upto_all (fun m => outMem ⟨#[]⟩ m ((60 + i : Nat) : Int)) (lastQ T k i)
            rw [hli] at this
            rw [this, lastQ_succ]
          rw [hu] at H
          refine s_ifF (by kernel_rfl) t5 ?_
          refine y_load 0 (o := 2) H rfl rfl (by kernel_rfl) ?_
          refine x_add (t := 3) (a := (↑((60 : Nat) + i) : Int)) (b := (1 : Int)) ((((60 : Nat) + i) + ((1 : Nat)) : Nat) : Int) (w64' (by omega) (by omega) (by omega)) (by kernel_rfl) ?_
          refine y_store 0 (o := 2) (v := Value.int IntKind.i64 (↑((60 : Nat) + i + (1 : Nat)) : Int)) (c' := #[Value.slice (some (Addr.mk xa (0 : Nat) none)) bs.length xc, Value.slice fa (0 : Nat) fc, Value.int IntKind.i64 (↑((60 : Nat) + i + (1 : Nat)) : Int), Value.slice (some (Addr.mk rb (0 : Nat) none)) k k]) H rfl (by kernel_rfl) (by kernel_rfl) (by kernel_rfl) rfl (by kernel_rfl) (fun w11 H => ?_)
          simp only [List.set_cons_zero, List.set_cons_succ] at H
          refine x_add (t := 3) (a := (↑i : Int)) (b := (1 : Int)) (((i) + ((1 : Nat)) : Nat) : Int) (w64' (by omega) (by omega) (by omega)) (by kernel_rfl) ?_
          -- stop: Req.again (0 : Nat)
          refine s_out 1 rfl (by kernel_rfl) ?_
          
          -- stop: Req.again (0 : Nat)
          replace H := shutGrp H rfl rfl
          exact s_again 0 (i + 1) [.int .i64 ((i + 1 : Nat) : Int), .int .i64 ((sentQ T.length (i + 1) : Nat) : Int)] rfl (by kernel_rfl) (by kernel_rfl) (by kernel_rfl) rfl ⟨H, by omega⟩ (by omega)
      · have p := of_decide_eq_false hf
        obtain rfl : i = 50 := by omega
        have hse := sentQ_end T.length
        refine s_out 0 rfl (by kernel_rfl) ?_
        refine x_min (ts := #[(3 : Nat), (3 : Nat)]) (t := 3) (k := IntKind.i64) (k' := IntKind.i64) (x := (↑U.length : Int)) (y := (1 : Int)) ((min (U.length) ((1 : Nat)) : Nat) : Int) (by split <;> omega) (by kernel_rfl) ?_
        -- stop: Req.done (Value.bool ((↑(sentQ T.length (50 : Nat)) : Int) == (↑(min U.length (1 : Nat)) : Int)))
        have he : ((sentQ T.length 50 : Nat) : Int) = ((min U.length 1 : Nat) : Int) := by rw [hse, hTl]
        exact s_done (v := .bool (((sentQ T.length 50 : Nat) : Int) == ((min U.length 1 : Nat) : Int))) (by kernel_rfl) ⟨_, by rw [he]; simp, H⟩
end Go.Proofs.Ytgpcjoofcmfidaa
