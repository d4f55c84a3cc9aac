import Derived.Test.YtgpcjoofcmfidaaCaLaw6
import Derived.Test.YtgpcjoofcmfidaaCg1
import Derived.Test.YtgpcjoofcmfidaaYSlice
namespace Go.Proofs.Ytgpcjoofcmfidaa
open Go.XM Go.RowKit Go.Ca
set_option maxRecDepth 100000

theorem ownM_zero (T : List ByteArray) (o : Nat) : ownM T o 0 = initM o := rfl
theorem ownM_succ (T : List ByteArray) (o j : Nat) : ownM T o (j + 1) = inCore ⟨#[]⟩ (ownM T o j) ⟨1, 0, j, T.getD j ⟨#[]⟩⟩ 0 := rfl
theorem runB_zero (T : List ByteArray) (M o : Nat) : runB T M o 0 = (((List.range M).map initM).set o (ownM T o T.length)).map (toldM T.length) := rfl
theorem runB_succ (T : List ByteArray) (M o i : Nat) : runB T M o (i + 1) = (tickM ⟨#[]⟩ 0 i [] (runB T M o i)).1 := rfl

theorem toldM_zero {N : Nat} : toldM N (initM 0) = initM 0 := by unfold toldM; exact if_pos (show (initM 0).id = 0 from rfl)

theorem toldM_ne {N N' : Nat} {m : MemV ByteArray} (e : N = N') (h : m.id ≠ 0) : toldM N m = inCore ⟨#[]⟩ m ⟨3, 0, N', ⟨#[]⟩⟩ 0 := by subst e; unfold toldM; exact if_neg h

theorem erase_other {α : Type} {l : List α} {q o : Nat} {x : α} (h : l[o]? = some x) (hn : o ≠ q) : ∃ o' : Nat, (l.eraseIdx q)[o']? = some x := by
  rcases Nat.lt_or_ge o q with h1 | h1
  · exact ⟨o, by rw [List.getElem?_eraseIdx_of_lt h1]; exact h⟩
  · refine ⟨o - 1, ?_⟩
    rw [List.getElem?_eraseIdx_of_ge (by omega), show o - 1 + 1 = o by omega]
    exact h

attribute [local irreducible] outMem outAir outD airD tells upto inCore inV hearM deliver tickM okD ownM runB toldM Ret in
set_option maxHeartbeats 0 in
theorem castRepairs_ret (many owner : Int) (tx : List ByteArray) (tv : Value) (F : Fm) (w : World) (H : Own w F []) (h0 : -9223372036854775808 ≤ many) (h1 : many ≤ 9223372036854775807) (g0 : -9223372036854775808 ≤ owner) (g1 : owner ≤ 9223372036854775807)
    (hV : View F.hl tv 1 (tx.map fun s => [.string s])) (hs : ∀ s ∈ tx, s.size ≤ maxLen) :
    Ret Try.prog 5 #[.int .i64 many, tv, .int .i64 owner] w (Post F fun v _ => v = .bool true) := by
  obtain ⟨ta, tc, rfl, htc⟩ := hV.shape
  have htl : (tx.map fun s => [Value.string s]).length = tx.length := List.length_map ..
  rw [htl] at hV htc ⊢
  refine ret_of_G Try.func5 rfl rfl ?_
  refine y_call (f := 8) (args := #[Value.int IntKind.i64 many, Value.int IntKind.i64 (4 : Int)]) [] (M := []) H rfl rfl rfl (by kernel_rfl) (by kernel_rfl) (by kernel_rfl) (fun F' hF H' => rest_ret many 4 h0 h1 (by omega) (by omega) F' _ H') ?_
  rintro v w1 L' ⟨rfl, rfl⟩ H
  simp only [List.cons_append, List.nil_append] at H
  refine x_add (t := 3) (a := (3 : Int)) (b := many % (4 : Int)) (((3 : Int)) + (many % (4 : Int))) (w64' (by omega) (by omega) rfl) (by kernel_rfl) ?_
  -- stop: Req.call (7 : Nat) (#[Value.int IntKind.i64 ((3 : Int) + many % (4 : Int)), Value.slice none (0 : Nat) (0 : Nat)])
  -- [[] | rest_ret many 4 h0 h1 (by omega) (by omega) F' _ H' | ⟨] at [refine y_call (f := 7) (args := #[Value.int IntKind.i64 ((3 : Int) + man]: Type mismatch   Go.Proofs.Ytgpcjoofcmfidaa.rest_ret many 4 h0 h1 ?m.305 ?m.306 F' w1 H' has type   Go.XM.Ret Go.Proofs.Try.prog 8 #[Go.Value.int Go.IntKind.i64 many, Go.Value.int Go.IntKind.i64 4] w1     (Go.XM.Post F' fun v L' => v = Go.Value.int Go.IntKind.i64 (many % 4) ∧ L' = []) but is expected to have type   Go.XM.Ret Go.Proofs.Try.prog 7 #[Go.Value.int Go.IntKind.i64 (3 + many % 4), Go.Value.slice none 0 0] w1     (Go.XM.Post F' ?m.287)
  obtain ⟨M, hM⟩ : ∃ M : Nat, 3 + many % 4 = M := ⟨(3 + many % 4).toNat, by omega⟩
  have hM3 : 3 ≤ M := by omega
  have hM6 : M ≤ 6 := by omega
  rw [hM]
  clear hM
  refine y_call (f := 7) (args := #[Value.int IntKind.i64 (↑M : Int), Value.slice none (0 : Nat) (0 : Nat)]) [] (M := []) H rfl rfl rfl (by kernel_rfl) (by kernel_rfl) (by kernel_rfl) (fun F' hF H' => newGroup_ret M none 0 0 F' _ H' (by omega)) ?_
  rintro v w2 L' ⟨b, rb, bs, rfl, hbs, rfl⟩ H
  simp only [List.cons_append, List.nil_append] at H
  refine y_call (f := 9) (args := #[]) [] (M := [GrpA b (Value.slice none (0 : Nat) (0 : Nat)) (0 : Int) (Value.slice (some (Addr.mk rb (0 : Nat) none)) M M) bs (List.map initM (List.range M)), rows (Value.slice (some (Addr.mk rb (0 : Nat) none)) M M) 22 (1 : Nat) (List.replicate M [Value.slice none (0 : Nat) (0 : Nat)])]) H rfl rfl rfl (by kernel_rfl) (by kernel_rfl) (by kernel_rfl) (fun F' hF H' => castFact_ret F' _ H') ?_
  rintro v w3 L' ⟨rfl, rfl⟩ H
  simp only [List.cons_append, List.nil_append] at H
  refine s_ifF (b := false) (by kernel_rfl) rfl ?_
  refine s_ifF (b := false) (by kernel_rfl) rfl ?_
  refine x_min (ts := #[(3 : Nat), (3 : Nat)]) (t := 3) (k := IntKind.i64) (k' := IntKind.i64) (x := (↑tx.length : Int)) (y := (8 : Int)) ((min (tx.length) ((8 : Nat)) : Nat) : Int) (by split <;> omega) (by kernel_rfl) ?_
  refine y_vslice hV (t := 22) (lo := none) (hi := some (Value.int IntKind.i64 (↑(min tx.length (8 : Nat)) : Int))) (l := 0) (h := (min tx.length (8 : Nat))) (.none _) (.int IntKind.i64 ((↑(min tx.length (8 : Nat)) : Int)) _ (by omega)) (by first | omega | (simp only [List.length_map, List.length_take, List.length_drop]; omega)) (by first | omega | (simp only [List.length_map, List.length_take, List.length_drop]; omega)) (by kernel_rfl) (by kernel_rfl) (fun va1 vc1 hV1 => ?_)
  -- load b (0 : Nat): no piece
  have e1 : min tx.length 8 - 0 = (tx.take 8).length := by simp; omega
  have e9 : (tx.take 8).length ≤ 8 := by simp; omega
  rw [e1] at hV1 ⊢
  rw [List.drop_zero, ← List.map_take, take_min] at hV1
  have hs' : ∀ s ∈ tx.take 8, s.size ≤ maxLen := fun s hx => hs s (List.mem_of_mem_take hx)
  generalize tx.take 8 = U at hV1 hs' e9 ⊢
  clear e1 hV htl htc hs
  obtain ⟨T, hT⟩ : ∃ T, U.map tr = T := ⟨_, rfl⟩
  have hTl : T.length = U.length := by rw [← hT, List.length_map]
  have hTs : ∀ s ∈ T, s.size ≤ 100 := by
    intro s hx
    rw [← hT] at hx
    obtain ⟨x, _, rfl⟩ := List.mem_map.1 hx
    exact tr_size x
  obtain ⟨ga, gc, hgc, H⟩ := openGrpN H (by omega)
  have q0 := Int.emod_nonneg owner (show ((bs.length : Int) - 1) ≠ 0 by omega)
  have q1 := Int.emod_lt_of_pos owner (show 0 < ((bs.length : Int) - 1) by omega)
  refine y_load 0 (o := 0) H rfl rfl (by kernel_rfl) ?_
  refine x_sub (t := 3) (a := (↑bs.length : Int)) (b := (1 : Int)) (((↑bs.length : Int)) - ((1 : Int))) (w64' (by omega) (by omega) rfl) (by kernel_rfl) ?_
  refine y_call (f := 8) (args := #[Value.int IntKind.i64 owner, Value.int IntKind.i64 ((↑bs.length : Int) - (1 : Int))]) [] (M := [pt b #[Value.slice (some (Addr.mk ga (0 : Nat) none)) bs.length gc, Value.slice none (0 : Nat) (0 : Nat), Value.int IntKind.i64 (0 : Int), Value.slice (some (Addr.mk rb (0 : Nat) none)) M M] (33 : TypeId), rows (Value.slice (some (Addr.mk ga (0 : Nat) none)) bs.length gc) 28 (1 : Nat) (List.map (fun k => [ptrV k]) bs), Each memP (bs.zip (List.map initM (List.range M))), rows (Value.slice (some (Addr.mk rb (0 : Nat) none)) M M) 22 (1 : Nat) (List.replicate M [Value.slice none (0 : Nat) (0 : Nat)])]) H rfl rfl rfl (by kernel_rfl) (by kernel_rfl) (by kernel_rfl) (fun F' hF H' => rest_ret owner ((bs.length : Int) - (1 : Int)) g0 g1 (by omega) (by omega) F' _ H') ?_
  rintro v w4 L' ⟨rfl, rfl⟩ H
  simp only [List.cons_append, List.nil_append] at H
  refine x_add (t := 3) (a := (1 : Int)) (b := owner % ((↑bs.length : Int) - (1 : Int))) (((1 : Int)) + (owner % ((↑bs.length : Int) - (1 : Int)))) (w64' (by omega) (by omega) rfl) (by kernel_rfl) ?_
  -- stop: Req.loop
  obtain ⟨o, ho⟩ : ∃ o : Nat, 1 + owner % ((bs.length : Int) - 1) = o := ⟨(1 + owner % ((bs.length : Int) - 1)).toNat, by omega⟩
  have ho0 : o ≠ 0 := by omega
  have hoM : o < M := by omega
  rw [ho]
  clear ho q0 q1 hM3 g0 g1
  have hown := ownM_ok (T := T) ho0 (by omega) (by omega) hTs
  have hi0 : ((List.range M).map initM)[o]? = some (ownM T o 0) := by rw [List.getElem?_map, List.getElem?_range hoM, ownM_zero]; rfl
  have hbo := List.getElem?_eq_getElem (show o < bs.length by omega)
  generalize bs[o] = bo at hbo
  have hbo2 : (bs.map fun k => [ptrV k])[o]? = some [ptrV bo] := by rw [List.getElem?_map, hbo]; rfl
  have hml : ((List.range M).map initM).length = M := by simp
  refine s_loop (γ := Nat) 0 [39] (fun j => [.int .i64 j]) (fun j w' => Own w' F [pt b #[.slice (some ⟨ga, 0, none⟩) bs.length gc, .slice none 0 0, .int .i64 0, .slice (some ⟨rb, 0, none⟩) M M] 33, rows (.slice (some ⟨ga, 0, none⟩) bs.length gc) 28 1 (bs.map fun k => [ptrV k]), Each memP (bs.zip (((List.range M).map initM).set o (ownM T o j))), rows (.slice (some ⟨rb, 0, none⟩) M M) 22 1 (List.replicate M [.slice none 0 0])] ∧ j ≤ U.length) (fun j => U.length - j) 0 [.int .i64 0] (by kernel_rfl) (by kernel_rfl) rfl (by kernel_rfl) rfl ⟨by rw [set_same hi0]; exact H, Nat.zero_le _⟩ ?_
  clear H
  rintro j w5 ⟨H, hj⟩
  by_cases hjl : j < U.length
  · have t4 : decide ((j : Int) < U.length) = true := decide_eq_true (by omega)
    have hel := List.getElem?_eq_getElem hjl
    generalize U[j] = s at hel
    have hss := hs' s (List.mem_of_getElem? hel)
    have hel2 : (U.map fun s => [Value.string s])[j]? = some [.string s] := by rw [List.getElem?_map, hel]; rfl
    have hTj : T[j]? = some (tr s) := by rw [← hT, List.getElem?_map, hel]; rfl
    have hTd : T.getD j ⟨#[]⟩ = tr s := by rw [List.getD_eq_getElem?_getD, hTj]; rfl
    obtain ⟨nb, no2, cz, hva, _, _⟩ := hV1.open (by simp; omega)
    simp only [Value.slice.injEq] at hva
    obtain ⟨rfl, _, rfl⟩ := hva
    obtain ⟨k1, k2, _⟩ := hown j (by omega)
    have hh := hear k1 (data_NI (j := j) (by omega)) (by rw [k2]; show (0 : Int) ≠ o; omega) (Int.le_refl _) (by omega) hTs
    rw [hTd] at hh
    have hI := inV_ok hh.1
    have hlen := k1.len
    have hidL := k1.idL
    have hidU := k1.idU
    have hz : (bs.zip (((List.range M).map initM).set o (ownM T o j)))[o]? = some (bo, ownM T o j) := List.getElem?_zip_eq_some.2 ⟨hbo, by rw [List.getElem?_set, if_pos rfl, if_pos (by omega)]⟩
    have hlz : o < (bs.zip (((List.range M).map initM).set o (ownM T o j))).length := (List.getElem?_eq_some_iff.1 hz).1
    replace H := Own.focus (H.pick [2, 0, 1, 3] rfl) hz
    have htrs := tr_size s
    refine s_ifT (by kernel_rfl) t4 ?_
    refine y_idx (t := 22) (b := nb) (o := no2) (n := U.length) (c := vc1) (kd := IntKind.i64) (i := (↑j : Int)) 1 (by kernel_rfl) (by omega) (by omega) (by kernel_rfl) ?_
    refine y_vload (k := j) (j := 0) (o := no2 + (↑j : Int).toNat * (1 : Nat)) (x := [Value.string s]) H hV1 hel2 rfl (by first | rfl | omega) (by kernel_rfl) ?_
    refine y_drawP (9 : Nat) [] [0, 1, 2, 3, 4, 5, 6, 7, 8, 9, 10, 11, 12, 13] 14 [15] H (by kernel_rfl) (by kernel_rfl) (by kernel_rfl) (by kernel_rfl) ?_
    refine y_qload (a := ⟨b, 0, none⟩) (by kernel_rfl) (by kernel_rfl) (fun w' H => Own.cell 2 H rfl rfl) ?_
    refine h_idx (t := 29) (b := ga) (o := (0 : Nat)) (n := bs.length) (c := gc) (kd := IntKind.i64) (i := (↑o : Int)) 1 (by kernel_rfl) (by omega) (by omega) (by kernel_rfl) (by kernel_rfl) ?_
    refine y_qload (a := ⟨ga, (0 : Nat) + (↑o : Int).toNat * (1 : Nat), none⟩) (by kernel_rfl) (by kernel_rfl) (fun w' H => Own.elCell (j := 0) 3 (i := o) H rfl hbo2 rfl (by first | rfl | omega)) ?_
    refine h_min (ts := #[(3 : Nat), (3 : Nat)]) (t := 3) (k := IntKind.i64) (k' := IntKind.i64) (x := (↑s.size : Int)) (y := (100 : Int)) ((min (s.size) ((100 : Nat)) : Nat) : Int) (by split <;> omega) (by kernel_rfl) (by kernel_rfl) ?_
    refine q_sliceStr (t := 9) (s := s) (lo := none) (hi := some (Value.int IntKind.i64 (↑(min s.size (100 : Nat)) : Int))) (l := 0) (h := (min s.size (100 : Nat))) (by kernel_rfl) (.none _) (.int IntKind.i64 ((↑(min s.size (100 : Nat)) : Int)) _ (by omega)) (by omega) (by omega) (by kernel_rfl) (by kernel_rfl) ?_
    refine y_qend (by kernel_rfl) (fun w6 H => ?_)
    refine y_call (f := 15) (args := #[Value.pointer (some (Addr.mk bo (0 : Nat) none)), Value.agg (#[Value.int IntKind.i64 (1 : Int), Value.int IntKind.i64 (0 : Int), Value.int IntKind.i64 (↑j : Int), Value.string (s.extract (0 : Nat) (min s.size (100 : Nat)))]), Value.int IntKind.i64 (0 : Int)]) [0] (M := [Each memP ((bs.zip ((List.map initM (List.range M)).set o (ownM T o j))).eraseIdx o), pt b #[Value.slice (some (Addr.mk ga (0 : Nat) none)) bs.length gc, Value.slice none (0 : Nat) (0 : Nat), Value.int IntKind.i64 (0 : Int), Value.slice (some (Addr.mk rb (0 : Nat) none)) M M] (33 : TypeId), rows (Value.slice (some (Addr.mk ga (0 : Nat) none)) bs.length gc) 28 (1 : Nat) (List.map (fun k => [ptrV k]) bs), rows (Value.slice (some (Addr.mk rb (0 : Nat) none)) M M) 22 (1 : Nat) (List.replicate M [Value.slice none (0 : Nat) (0 : Nat)])]) H rfl rfl rfl (by kernel_rfl) (by kernel_rfl) (by kernel_rfl) (fun F' hF H' => in_ret (ownM T o j) ⟨1, 0, j, tr s⟩ 0 bo F' _ H' (by omega) (by omega) (by omega) hidL hidU) ?_
    rintro v w7 L' ⟨rfl, rfl⟩ H
    simp only [List.cons_append, List.nil_append] at H
    rw [hI] at H
    rw [hI]
    refine s_ifF (b := false) (by kernel_rfl) rfl ?_
    refine x_add (t := 3) (a := (↑j : Int)) (b := (1 : Int)) (((j) + ((1 : Nat)) : Nat) : Int) (w64' (by omega) (by omega) (by omega)) (by kernel_rfl) ?_
    -- stop: Req.again (0 : Nat)
    replace H := Own.unfocus (f := memP) (k := o) (y := (bo, inCore ⟨#[]⟩ (ownM T o j) ⟨1, 0, j, tr s⟩ 0)) hlz H
    rw [zip_set hbo, List.set_set, ← hTd, ← ownM_succ] at H
    exact s_again 0 (j + 1) [.int .i64 ((j + 1 : Nat) : Int)] rfl (by kernel_rfl) (by kernel_rfl) (by kernel_rfl) rfl ⟨H.pick [1, 2, 0, 3] rfl, hjl⟩ (by omega)
  · have t4 : decide ((j : Int) < U.length) = false := decide_eq_false (by omega)
    obtain rfl : j = U.length := by omega
    rw [← hTl] at H
    refine s_ifF (b := decide (((U.length : Nat) : Int) < U.length)) (by kernel_rfl) t4 ?_
    refine s_out 0 rfl (by kernel_rfl) ?_
    
    -- stop: Req.loop
    have hm0 : (((List.range M).map initM).set o (ownM T o T.length))[0]? = some (initM 0) := by
      rw [List.getElem?_set, if_neg ho0, List.getElem?_map, List.getElem?_range (by omega)]; rfl
    have ht0 : toldM T.length (initM 0) = initM 0 := toldM_zero
    have hu1 : upto (toldM T.length) 1 (((List.range M).map initM).set o (ownM T o T.length)) = ((List.range M).map initM).set o (ownM T o T.length) := by
      rw [← upto_set hm0, upto_zero, ht0, set_same hm0]
    rw [← hu1] at H
    refine s_loop (γ := Nat) 0 [10] (fun k => [.int .i64 k]) (fun k w' => Own w' F [pt b #[.slice (some ⟨ga, 0, none⟩) bs.length gc, .slice none 0 0, .int .i64 0, .slice (some ⟨rb, 0, none⟩) M M] 33, rows (.slice (some ⟨ga, 0, none⟩) bs.length gc) 28 1 (bs.map fun k => [ptrV k]), Each memP (bs.zip (upto (toldM T.length) k (((List.range M).map initM).set o (ownM T o T.length)))), rows (.slice (some ⟨rb, 0, none⟩) M M) 22 1 (List.replicate M [.slice none 0 0])] ∧ 1 ≤ k ∧ k ≤ M) (fun k => M - k) 1 [.int .i64 1] (by kernel_rfl) (by kernel_rfl) rfl (by kernel_rfl) rfl ⟨H, by omega, by omega⟩ ?_
    clear H
    rintro k w6 ⟨H, hk1, hk⟩
    by_cases hkl : k < M
    · have t5 : decide ((k : Int) < bs.length) = true := decide_eq_true (by omega)
      have hx : ∃ x, (((List.range M).map initM).set o (ownM T o T.length))[k]? = some x ∧ MI T T.length 0 x ∧ x.id = k := by
        by_cases e : o = k
        · subst e
          exact ⟨_, by rw [List.getElem?_set, if_pos rfl, if_pos (by omega)], (hown _ (Nat.le_refl _)).1, (hown _ (Nat.le_refl _)).2.1⟩
        · exact ⟨initM k, by rw [List.getElem?_set, if_neg e, List.getElem?_map, List.getElem?_range hkl]; rfl, initM_MI (by omega) (fun h => by omega), rfl⟩
      obtain ⟨x, hx, hMI, hxid⟩ := hx
      have hh := hear hMI (told_NI (T := T)) (by rw [hxid]; show (0 : Int) ≠ k; omega) (Int.le_refl _) (by omega) hTs
      rw [hTl] at hh
      have hI := inV_ok hh.1
      have hlen := hMI.len
      have hidL := hMI.idL
      have hidU := hMI.idU
      have htold : toldM T.length x = inCore ⟨#[]⟩ x ⟨3, 0, U.length, ⟨#[]⟩⟩ 0 := toldM_ne hTl (by omega)
      have hbk := List.getElem?_eq_getElem (show k < bs.length by omega)
      generalize bs[k] = bk at hbk
      have hbk2 : (bs.map fun k => [ptrV k])[k]? = some [ptrV bk] := by rw [List.getElem?_map, hbk]; rfl
      have hz : (bs.zip (upto (toldM T.length) k (((List.range M).map initM).set o (ownM T o T.length))))[k]? = some (bk, x) := List.getElem?_zip_eq_some.2 ⟨hbk, upto_get hx⟩
      have hlz : k < (bs.zip (upto (toldM T.length) k (((List.range M).map initM).set o (ownM T o T.length)))).length := (List.getElem?_eq_some_iff.1 hz).1
      replace H := Own.focus (H.pick [2, 0, 1, 3] rfl) hz
      refine y_load 2 (o := 0) H rfl rfl (by kernel_rfl) ?_
      refine s_ifT (by kernel_rfl) t5 ?_
      refine y_load 2 (o := 0) H rfl rfl (by kernel_rfl) ?_
      refine y_idx (t := 29) (b := ga) (o := (0 : Nat)) (n := bs.length) (c := gc) (kd := IntKind.i64) (i := (↑k : Int)) 1 (by kernel_rfl) (by omega) (by omega) (by kernel_rfl) ?_
      refine y_elLoad 3 (i := k) (j := 0) (o := (0 : Nat) + (↑k : Int).toNat * (1 : Nat)) H rfl hbk2 rfl (by first | rfl | omega) (by kernel_rfl) ?_
      refine y_call (f := 15) (args := #[Value.pointer (some (Addr.mk bk (0 : Nat) none)), Value.agg (#[Value.int IntKind.i64 (3 : Int), Value.int IntKind.i64 (0 : Int), Value.int IntKind.i64 (↑U.length : Int), Value.string (ByteArray.mk #[])]), Value.int IntKind.i64 (0 : Int)]) [0] (M := [Each memP ((bs.zip (upto (toldM T.length) k ((List.map initM (List.range M)).set o (ownM T o T.length)))).eraseIdx k), pt b #[Value.slice (some (Addr.mk ga (0 : Nat) none)) bs.length gc, Value.slice none (0 : Nat) (0 : Nat), Value.int IntKind.i64 (0 : Int), Value.slice (some (Addr.mk rb (0 : Nat) none)) M M] (33 : TypeId), rows (Value.slice (some (Addr.mk ga (0 : Nat) none)) bs.length gc) 28 (1 : Nat) (List.map (fun k => [ptrV k]) bs), rows (Value.slice (some (Addr.mk rb (0 : Nat) none)) M M) 22 (1 : Nat) (List.replicate M [Value.slice none (0 : Nat) (0 : Nat)])]) H rfl rfl rfl (by kernel_rfl) (by kernel_rfl) (by kernel_rfl) (fun F' hF H' => in_ret x ⟨3, 0, U.length, ⟨#[]⟩⟩ 0 bk F' _ H' (by omega) (by omega) (by omega) hidL hidU) ?_
      rintro v w7 L' ⟨rfl, rfl⟩ H
      simp only [List.cons_append, List.nil_append] at H
      rw [hI] at H
      rw [hI]
      refine s_ifF (b := false) (by kernel_rfl) rfl ?_
      refine x_add (t := 3) (a := (↑k : Int)) (b := (1 : Int)) (((k) + ((1 : Nat)) : Nat) : Int) (w64' (by omega) (by omega) (by omega)) (by kernel_rfl) ?_
      -- stop: Req.again (0 : Nat)
      replace H := Own.unfocus (f := memP) (k := k) (y := (bk, inCore ⟨#[]⟩ x ⟨3, 0, U.length, ⟨#[]⟩⟩ 0)) hlz H
      rw [zip_set hbk, ← htold, upto_set hx] at H
      exact s_again 0 (k + 1) [.int .i64 ((k + 1 : Nat) : Int)] rfl (by kernel_rfl) (by kernel_rfl) (by kernel_rfl) rfl ⟨H.pick [1, 2, 0, 3] rfl, by omega, hkl⟩ (by omega)
    · have t5 : decide ((k : Int) < bs.length) = false := decide_eq_false (by omega)
      obtain rfl : k = M := by omega
      have hall : upto (toldM T.length) k (((List.range k).map initM).set o (ownM T o T.length)) = runB T k o 0 := by
        have := upto_all (toldM T.length) (((List.range k).map initM).set o (ownM T o T.length))
        rw [List.length_set, hml] at this
        rw [this, runB_zero]
      rw [hall] at H
      refine y_load 0 (o := 0) H rfl rfl (by kernel_rfl) ?_
      refine s_ifF (by kernel_rfl) t5 ?_
      -- stop: Req.loop
      refine s_out 0 rfl (by kernel_rfl) ?_
      
      -- stop: Req.loop
      replace H := shutGrp H rfl rfl
      have hok := runB_ok (T := T) (M := k) ho0 hoM (by omega) (by omega) hTs
      have hend := runB_end (T := T) (M := k) ho0 hoM (by omega) (by omega) hTs
      refine s_loop (γ := Nat × Option Addr × Nat) 0 [11] (fun g => [.int .i64 g.1]) (fun g w' => Own w' F [GrpA b (.slice g.2.1 0 g.2.2) g.1 (.slice (some ⟨rb, 0, none⟩) k k) bs (runB T k o g.1), rows (.slice (some ⟨rb, 0, none⟩) k k) 22 1 (List.replicate k [.slice none 0 0])] ∧ View F.hl (.slice g.2.1 0 g.2.2) 1 [] ∧ g.1 ≤ 100) (fun g => 100 - g.1) (0, none, 0) [.int .i64 0] (by kernel_rfl) (by kernel_rfl) rfl (by kernel_rfl) rfl ⟨H, View.nil _ _, Nat.zero_le _⟩ ?_
      clear H
      rintro ⟨i, fa, fc⟩ w8 ⟨H, hVf, hi⟩
      simp only at H hVf hi
      refine s_if (b := decide ((i : Int) < 100)) (by kernel_rfl) (fun ht => ?_) (fun hf => ?_)
      · have p := of_decide_eq_true ht
        have hRi := hok i
        have hti := tick_inv (fs := []) hRi.alive (by omega) (by omega) hTs
        have hsl := hRi.len
        have hout : ∀ m ∈ runB T k o i, m.items.length ≤ 64 ∧ m.now ≤ (i : Int) := fun m hm => ⟨(hRi.alive m hm).1, by
          by_cases hd : m.id = 0
          · rw [hRi.dead m hm hd]; show (0 : Int) ≤ i; omega
          · exact ((hRi.alive m hm).2 hd).now⟩
        have e2 : (tickM ⟨#[]⟩ 0 i [] (runB T k o i)).2 = [] := by rw [tick_quiet]
        refine y_call (f := 11) (args := #[Value.pointer (some (Addr.mk b (0 : Nat) none)), Value.int IntKind.i64 (0 : Int)]) [0] (M := [rows (Value.slice (some (Addr.mk rb (0 : Nat) none)) k k) 22 (1 : Nat) (List.replicate k [Value.slice none (0 : Nat) (0 : Nat)])]) H rfl rfl rfl (by kernel_rfl) (by kernel_rfl) (by kernel_rfl) (fun F' hF H' => tick_ret 0 i [] (runB T k o i) bs b _ _ F.hl F' hF _ H' fa fc rfl hVf (fun f hf => by cases hf) (by omega) hRi.ids (by omega) (by omega) (by omega) hout hti.1) ?_
        rintro v w9 L' ⟨fa', fc', rfl, hVn, hfn, rfl⟩ H
        simp only [List.cons_append, List.nil_append] at H
        rw [e2] at H hVn
        refine s_ifF (b := false) (by kernel_rfl) rfl ?_
        refine x_add (t := 3) (a := (↑i : Int)) (b := (1 : Int)) (((i) + ((1 : Nat)) : Nat) : Int) (w64' (by omega) (by omega) (by omega)) (by kernel_rfl) ?_
        -- stop: Req.again (0 : Nat)
        exact s_again 0 (i + 1, fa', fc') [.int .i64 ((i + 1 : Nat) : Int)] rfl (by kernel_rfl) (by kernel_rfl) (by kernel_rfl) rfl ⟨by simp only [runB_succ]; exact H, hVn, by show i + 1 ≤ 100; omega⟩ (by show 100 - (i + 1) < 100 - i; omega)
      · have p := of_decide_eq_false hf
        obtain rfl : i = 100 := by omega
        have hln := (hok 100).len
        have hread : ∀ m ∈ runB T k o 100, m.items.length ≤ 64 ∧ m.read = 0 := fun m hm => ⟨(hend m hm).1, (hend m hm).2.1⟩
        refine s_out 0 rfl (by kernel_rfl) ?_
        refine y_call (f := 13) (args := #[Value.pointer (some (Addr.mk b (0 : Nat) none))]) [0, 1] (M := []) H rfl rfl rfl (by kernel_rfl) (by kernel_rfl) (by kernel_rfl) (fun F' hF H' => collect_ret (runB T k o 100) bs b rb k _ _ F' _ H' hln hbs (by omega) hread) ?_
        rintro v w9 L' ⟨svs, rfl, hsv, rfl⟩ H
        simp only [List.cons_append, List.nil_append] at H
        obtain ⟨xa, xc, hxc, H⟩ := openGrp H
        -- stop: Req.loop
        have htx : ∀ q, 1 ≤ q → q < k → ((runB T k o 100).map texts)[q]? = some T := fun q h1 h2 => by
          have hq := List.getElem?_eq_getElem (show q < (runB T k o 100).length by omega)
          rw [List.getElem?_map, hq]
          have := (hok 100).ids q _ hq
          exact congrArg some ((hend _ (List.mem_of_getElem? hq)).2.2 (by omega))
        generalize (runB T k o 100).map texts = TX at htx H
        refine s_loop (γ := Nat) 0 [12] (fun q => [.int .i64 q]) (fun q w' => Own w' F [pt b #[.slice xa bs.length xc, .slice fa 0 fc, .int .i64 100, .slice (some ⟨rb, 0, none⟩) k k] 33, rows (.slice xa bs.length xc) 28 1 (bs.map fun k => [ptrV k]), Each memP (bs.zip ((runB T k o 100).map readM)), rows (.slice (some ⟨rb, 0, none⟩) k k) 22 1 (svs.map fun v => [v]), Each readP (svs.zip TX)] ∧ 1 ≤ q ∧ q ≤ k) (fun q => k - q) 1 [.int .i64 1] (by kernel_rfl) (by kernel_rfl) rfl (by kernel_rfl) rfl ⟨H, by omega, by omega⟩ ?_
        clear H
        rintro q w10 ⟨H, hq1, hq⟩
        by_cases hqk : q < k
        · have t7 : decide ((q : Int) < bs.length) = true := decide_eq_true (by omega)
          have h1v := List.getElem?_eq_getElem (show q < svs.length by omega)
          generalize svs[q] = sv at h1v
          have h0v := List.getElem?_eq_getElem (show o < svs.length by omega)
          generalize svs[o] = sv0 at h0v
          have h1e : (svs.map fun v => [v])[q]? = some [sv] := by rw [List.getElem?_map, h1v]; rfl
          have h0e : (svs.map fun v => [v])[o]? = some [sv0] := by rw [List.getElem?_map, h0v]; rfl
          have hz1 : (svs.zip TX)[q]? = some (sv, T) := List.getElem?_zip_eq_some.2 ⟨h1v, htx q hq1 hqk⟩
          have hz0 : (svs.zip TX)[o]? = some (sv0, T) := List.getElem?_zip_eq_some.2 ⟨h0v, htx o (by omega) hoM⟩
          have hlz : q < (svs.zip TX).length := (List.getElem?_eq_some_iff.1 hz1).1
          have t8 : ((U.length : Int) != (U.length : Int)) = false := by simp
          replace H := Own.focus (H.pick [4, 0, 1, 2, 3] rfl) hz1
          obtain ⟨sa, sc, hsvv, _, _⟩ := Own.shape 0 H rfl
          simp only [List.length_map, hTl] at hsvv
          subst hsvv
          by_cases hqo : o = q
          · subst hqo
            rw [h1v] at h0v
            cases h0v
            refine y_load 2 (o := 0) H rfl rfl (by kernel_rfl) ?_
            refine s_ifT (by kernel_rfl) t7 ?_
            refine y_drawP (26 : Nat) [] [0, 1, 2, 3, 4, 5, 6, 7, 8, 9, 10, 11, 12, 13, 14, 15, 16, 17, 18, 19, 20, 21, 22, 23, 24, 25] 26 [27, 28] H (by kernel_rfl) (by kernel_rfl) (by kernel_rfl) (by kernel_rfl) ?_
            refine y_qload (a := ⟨b, 3, none⟩) (by kernel_rfl) (by kernel_rfl) (fun w' H => Own.cell 2 H rfl rfl) ?_
            refine h_idx (t := 31) (b := rb) (o := (0 : Nat)) (n := k) (c := k) (kd := IntKind.i64) (i := (↑o : Int)) 1 (by kernel_rfl) (by omega) (by omega) (by kernel_rfl) (by kernel_rfl) ?_
            refine y_qload (a := ⟨rb, (0 : Nat) + (↑o : Int).toNat * (1 : Nat), none⟩) (by kernel_rfl) (by kernel_rfl) (fun w' H => Own.elCell (j := 0) 5 (i := o) H rfl h0e rfl (by first | rfl | omega)) ?_
            refine q_if (b := (↑U.length : Int) != (↑U.length : Int)) (by kernel_rfl) (by kernel_rfl) (by kernel_rfl) (fun h => by rw [t8] at h; cases h) (fun _ => ?_)
            refine y_qload (a := ⟨b, 3, none⟩) (by kernel_rfl) (by kernel_rfl) (fun w' H => Own.cell 2 H rfl rfl) ?_
            refine h_idx (t := 31) (b := rb) (o := (0 : Nat)) (n := k) (c := k) (kd := IntKind.i64) (i := (↑o : Int)) 1 (by kernel_rfl) (by omega) (by omega) (by kernel_rfl) (by kernel_rfl) ?_
            refine y_qload (a := ⟨rb, (0 : Nat) + (↑o : Int).toNat * (1 : Nat), none⟩) (by kernel_rfl) (by kernel_rfl) (fun w' H => Own.elCell (j := 0) 5 (i := o) H rfl h0e rfl (by first | rfl | omega)) ?_
            refine y_qload (a := ⟨b, 3, none⟩) (by kernel_rfl) (by kernel_rfl) (fun w' H => Own.cell 2 H rfl rfl) ?_
            refine h_idx (t := 31) (b := rb) (o := (0 : Nat)) (n := k) (c := k) (kd := IntKind.i64) (i := (↑o : Int)) 1 (by kernel_rfl) (by omega) (by omega) (by kernel_rfl) (by kernel_rfl) ?_
            refine y_qload (a := ⟨rb, (0 : Nat) + (↑o : Int).toNat * (1 : Nat), none⟩) (by kernel_rfl) (by kernel_rfl) (fun w' H => Own.elCell (j := 0) 5 (i := o) H rfl h0e rfl (by first | rfl | omega)) ?_
            refine y_qend (by kernel_rfl) (fun w11 H => ?_)
            refine y_call (f := 14) (args := #[Value.slice sa U.length sc, Value.slice sa U.length sc]) [0] (M := [Each readP ((svs.zip TX).eraseIdx o), pt b #[Value.slice xa bs.length xc, Value.slice fa (0 : Nat) fc, Value.int IntKind.i64 (100 : Int), Value.slice (some (Addr.mk rb (0 : Nat) none)) k k] (33 : TypeId), rows (Value.slice xa bs.length xc) 28 (1 : Nat) (List.map (fun k => [ptrV k]) bs), Each memP (bs.zip (List.map readM (runB T k o (100 : Nat)))), rows (Value.slice (some (Addr.mk rb (0 : Nat) none)) k k) 22 (1 : Nat) (List.map (fun v => [v]) svs)]) H rfl rfl rfl (by kernel_rfl) (by kernel_rfl) (by kernel_rfl) (fun F' hF H' => same_ret1 T _ F' _ H' (by omega)) ?_
            rintro v w12 L' ⟨rfl, rfl⟩ H
            simp only [List.cons_append, List.nil_append] at H
            refine s_ifF (b := false) (by kernel_rfl) rfl ?_
            refine x_add (t := 3) (a := (↑o : Int)) (b := (1 : Int)) (((o) + ((1 : Nat)) : Nat) : Int) (w64' (by omega) (by omega) (by omega)) (by kernel_rfl) ?_
            -- stop: Req.again (0 : Nat)
            replace H := Own.unfocus (f := readP) (k := o) (y := (.slice sa U.length sc, T)) hlz H
            rw [set_same hz1] at H
            exact s_again 0 (o + 1) [.int .i64 ((o + 1 : Nat) : Int)] rfl (by kernel_rfl) (by kernel_rfl) (by kernel_rfl) rfl ⟨H.pick [1, 2, 3, 4, 0] rfl, by omega, by omega⟩ (by omega)
          · obtain ⟨o', hz0'⟩ := erase_other hz0 hqo
            have hlz0 : o' < ((svs.zip TX).eraseIdx q).length := (List.getElem?_eq_some_iff.1 hz0').1
            replace H := Own.focus (H.pick [1, 0, 2, 3, 4, 5] rfl) hz0'
            obtain ⟨s0a, s0c, hsvv, _, _⟩ := Own.shape 0 H rfl
            simp only [List.length_map, hTl] at hsvv
            subst hsvv
            refine y_load 3 (o := 0) H rfl rfl (by kernel_rfl) ?_
            refine s_ifT (by kernel_rfl) t7 ?_
            refine y_drawP (26 : Nat) [] [0, 1, 2, 3, 4, 5, 6, 7, 8, 9, 10, 11, 12, 13, 14, 15, 16, 17, 18, 19, 20, 21, 22, 23, 24, 25] 26 [27, 28] H (by kernel_rfl) (by kernel_rfl) (by kernel_rfl) (by kernel_rfl) ?_
            refine y_qload (a := ⟨b, 3, none⟩) (by kernel_rfl) (by kernel_rfl) (fun w' H => Own.cell 3 H rfl rfl) ?_
            refine h_idx (t := 31) (b := rb) (o := (0 : Nat)) (n := k) (c := k) (kd := IntKind.i64) (i := (↑q : Int)) 1 (by kernel_rfl) (by omega) (by omega) (by kernel_rfl) (by kernel_rfl) ?_
            refine y_qload (a := ⟨rb, (0 : Nat) + (↑q : Int).toNat * (1 : Nat), none⟩) (by kernel_rfl) (by kernel_rfl) (fun w' H => Own.elCell (j := 0) 6 (i := q) H rfl h1e rfl (by first | rfl | omega)) ?_
            refine q_if (b := (↑U.length : Int) != (↑U.length : Int)) (by kernel_rfl) (by kernel_rfl) (by kernel_rfl) (fun h => by rw [t8] at h; cases h) (fun _ => ?_)
            refine y_qload (a := ⟨b, 3, none⟩) (by kernel_rfl) (by kernel_rfl) (fun w' H => Own.cell 3 H rfl rfl) ?_
            refine h_idx (t := 31) (b := rb) (o := (0 : Nat)) (n := k) (c := k) (kd := IntKind.i64) (i := (↑q : Int)) 1 (by kernel_rfl) (by omega) (by omega) (by kernel_rfl) (by kernel_rfl) ?_
            refine y_qload (a := ⟨rb, (0 : Nat) + (↑q : Int).toNat * (1 : Nat), none⟩) (by kernel_rfl) (by kernel_rfl) (fun w' H => Own.elCell (j := 0) 6 (i := q) H rfl h1e rfl (by first | rfl | omega)) ?_
            refine y_qload (a := ⟨b, 3, none⟩) (by kernel_rfl) (by kernel_rfl) (fun w' H => Own.cell 3 H rfl rfl) ?_
            refine h_idx (t := 31) (b := rb) (o := (0 : Nat)) (n := k) (c := k) (kd := IntKind.i64) (i := (↑o : Int)) 1 (by kernel_rfl) (by omega) (by omega) (by kernel_rfl) (by kernel_rfl) ?_
            refine y_qload (a := ⟨rb, (0 : Nat) + (↑o : Int).toNat * (1 : Nat), none⟩) (by kernel_rfl) (by kernel_rfl) (fun w' H => Own.elCell (j := 0) 6 (i := o) H rfl h0e rfl (by first | rfl | omega)) ?_
            refine y_qend (by kernel_rfl) (fun w11 H => ?_)
            refine y_call (f := 14) (args := #[Value.slice sa U.length sc, Value.slice s0a U.length s0c]) [2, 0] (M := [Each readP (((svs.zip TX).eraseIdx q).eraseIdx o'), pt b #[Value.slice xa bs.length xc, Value.slice fa (0 : Nat) fc, Value.int IntKind.i64 (100 : Int), Value.slice (some (Addr.mk rb (0 : Nat) none)) k k] (33 : TypeId), rows (Value.slice xa bs.length xc) 28 (1 : Nat) (List.map (fun k => [ptrV k]) bs), Each memP (bs.zip (List.map readM (runB T k o (100 : Nat)))), rows (Value.slice (some (Addr.mk rb (0 : Nat) none)) k k) 22 (1 : Nat) (List.map (fun v => [v]) svs)]) H rfl rfl rfl (by kernel_rfl) (by kernel_rfl) (by kernel_rfl) (fun F' hF H' => same_ret T _ _ F' _ H' (by omega)) ?_
            rintro v w12 L' ⟨rfl, rfl⟩ H
            simp only [List.cons_append, List.nil_append] at H
            refine s_ifF (b := false) (by kernel_rfl) rfl ?_
            refine x_add (t := 3) (a := (↑q : Int)) (b := (1 : Int)) (((q) + ((1 : Nat)) : Nat) : Int) (w64' (by omega) (by omega) (by omega)) (by kernel_rfl) ?_
            -- stop: Req.again (0 : Nat)
            replace H := Own.unfocus (f := readP) (k := o') (y := (.slice s0a U.length s0c, T)) hlz0 (H.pick [1, 2, 0, 3, 4, 5, 6] rfl)
            rw [set_same hz0'] at H
            replace H := Own.unfocus (f := readP) (k := q) (y := (.slice sa U.length sc, T)) hlz (H.pick [1, 0, 2, 3, 4, 5] rfl)
            rw [set_same hz1] at H
            exact s_again 0 (q + 1) [.int .i64 ((q + 1 : Nat) : Int)] rfl (by kernel_rfl) (by kernel_rfl) (by kernel_rfl) rfl ⟨H.pick [1, 2, 3, 4, 0] rfl, by omega, by omega⟩ (by omega)
        · have t7 : decide ((q : Int) < bs.length) = false := decide_eq_false (by omega)
          refine y_load 0 (o := 0) H rfl rfl (by kernel_rfl) ?_
          refine s_ifF (by kernel_rfl) t7 ?_
          -- stop: Req.done (Value.bool true)
          exact s_done (v := .bool true) (by kernel_rfl) ⟨_, rfl, H⟩
end Go.Proofs.Ytgpcjoofcmfidaa
