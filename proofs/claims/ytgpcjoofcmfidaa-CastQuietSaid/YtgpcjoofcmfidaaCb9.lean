import Derived.Test.YtgpcjoofcmfidaaCb8
namespace Go.Proofs.Ytgpcjoofcmfidaa
open Go.XM Go.RowKit Go.Ca
set_option maxRecDepth 100000

/-- The texts that were read, member by member: the slices and their rows. -/
def readP (p : Value × List ByteArray) : Assn := rows p.1 9 1 (p.2.map fun s => [.string s])
/-- What a member holds without a gap, and the member once it was read. -/
def texts (m : MemV ByteArray) : List ByteArray := (m.items.take (gotN m.items)).map (·.body)
def readM (m : MemV ByteArray) : MemV ByteArray := { m with read := gotN m.items }

theorem zip_set2 {α β : Type} : ∀ (l : List α) (l' : List β) (k : Nat) (x : α) (y : β), (l.zip l').set k (x, y) = (l.set k x).zip (l'.set k y)
  | [], _, _, _, _ => by simp
  | _ :: _, [], _, _, _ => by simp
  | a :: l, b :: l', 0, x, y => rfl
  | a :: l, b :: l', k + 1, x, y => by simp [zip_set2 l l' k x y]

theorem readNil : ∀ (h : Hl), h = hnil → readP (.slice none 0 0, []) h := fun _ hh => ⟨(fun _ h => nomatch h), .inl ⟨rfl, rfl, hh⟩⟩

theorem eachNils {w : World} {F : Fm} {M : List Assn} : ∀ (n : Nat), Own w F M → Own w F (Each readP (List.replicate n (Value.slice none 0 0, ([] : List ByteArray))) :: M)
  | 0, H => H.eachNil readP
  | n + 1, H => by
    have H1 := eachNils n H
    have H2 : Own w F (readP (.slice none 0 0, []) :: Each readP (List.replicate n (Value.slice none 0 0, ([] : List ByteArray))) :: M) := Own.fold [] H1 readNil
    have H3 := H2.eachPush
    rw [← List.replicate_succ'] at H3
    exact H3

attribute [local irreducible] texts readM readV gotN upto uptoC Ret in
set_option maxHeartbeats 0 in
theorem collect_ret (ms : List (MemV ByteArray)) (bs : List Nat) (b rb n : Nat) (now : Int) (fv : Value) (F : Fm) (w : World) (H : Own w F [GrpA b fv now (.slice (some ⟨rb, 0, none⟩) n n) bs ms, rows (.slice (some ⟨rb, 0, none⟩) n n) 22 1 (List.replicate n [.slice none 0 0])])
    (hn : ms.length = n) (hb : bs.length = n) (hn16 : n ≤ 16) (hm : ∀ m ∈ ms, m.items.length ≤ 64 ∧ m.read = 0) :
    Ret Try.prog 13 #[ptrV b] w (Post F fun v L' => ∃ svs : List Value, v = .tuple #[] ∧ svs.length = n ∧
      L' = [GrpA b fv now (.slice (some ⟨rb, 0, none⟩) n n) bs (ms.map readM), rows (.slice (some ⟨rb, 0, none⟩) n n) 22 1 (svs.map fun v => [v]), Each readP (svs.zip (ms.map texts))]) := by
  refine ret_of_G Try.func13 rfl rfl ?_
  obtain ⟨a, cap, hcap, H⟩ := openGrp H
  replace H := (eachNils n H).pick [1, 2, 3, 4, 0] rfl
  refine y_load 0 (o := 0) H rfl rfl (by kernel_rfl) ?_
  -- stop: Req.loop
  refine s_loop (γ := Nat × List Value) 0 [11] (fun q => [.int .i64 q.1]) (fun q w' => Own w' F [pt b #[.slice a bs.length cap, fv, .int .i64 now, .slice (some ⟨rb, 0, none⟩) n n] 33, rows (.slice a bs.length cap) 28 1 (bs.map fun k => [ptrV k]), Each memP (bs.zip (upto readM q.1 ms)), rows (.slice (some ⟨rb, 0, none⟩) n n) 22 1 (q.2.map fun v => [v]), Each readP (q.2.zip (uptoC texts [] q.1 ms))] ∧ q.1 ≤ n ∧ q.2.length = n) (fun q => n - q.1) (0, List.replicate n (.slice none 0 0)) [.int .i64 0] (by kernel_rfl) (by kernel_rfl) rfl (by kernel_rfl) rfl ⟨?_, Nat.zero_le _, by simp⟩ ?_
  · rw [upto_zero, uptoC_zero, hn, List.map_replicate, List.zip_replicate]
    rw [Nat.min_self]
    exact H
  rintro ⟨k, svs⟩ w1 ⟨H, hk, hsl⟩
  simp only at H hk hsl
  by_cases hlt : k < n
  · have t4 : decide ((k : Int) < bs.length) = true := decide_eq_true (by omega)
    have hel := List.getElem?_eq_getElem (show k < ms.length by omega)
    generalize ms[k] = m at hel
    have hmm := hm m (List.mem_of_getElem? hel)
    have hbi := List.getElem?_eq_getElem (show k < bs.length by omega)
    generalize bs[k] = bi at hbi
    have hbi2 : (bs.map fun k => [ptrV k])[k]? = some [ptrV bi] := by simp [hbi]
    have hsv := List.getElem?_eq_getElem (show k < svs.length by omega)
    generalize svs[k] = sv0 at hsv
    obtain ⟨g, capx, hgv, _, _⟩ := Own.shapeN 1 H rfl (by simp; omega)
    simp only [List.length_map, Value.slice.injEq] at hgv
    obtain ⟨rfl, _, rfl⟩ := hgv
    have hz : (bs.zip (upto readM k ms))[k]? = some (bi, m) := List.getElem?_zip_eq_some.2 ⟨hbi, upto_get hel⟩
    have hlz : k < (bs.zip (upto readM k ms)).length := (List.getElem?_eq_some_iff.1 hz).1
    have hz2 : (svs.zip (uptoC texts [] k ms))[k]? = some (sv0, []) := List.getElem?_zip_eq_some.2 ⟨hsv, uptoC_get (by omega)⟩
    have hlz2 : k < (svs.zip (uptoC texts [] k ms)).length := (List.getElem?_eq_some_iff.1 hz2).1
    refine s_ifT (by kernel_rfl) t4 ?_
    refine y_idx (t := 29) (b := g) (o := (0 : Nat)) (n := bs.length) (c := cap) (kd := IntKind.i64) (i := (↑k : Int)) 1 (by kernel_rfl) (by omega) (by omega) (by kernel_rfl) ?_
    refine y_elLoad 1 (i := k) (j := 0) (o := (0 : Nat) + (↑k : Int).toNat * (1 : Nat)) H rfl hbi2 rfl (by first | rfl | omega) (by kernel_rfl) ?_
    -- stop: Req.loop
    replace H := Own.focus (H.pick [2, 0, 1, 3, 4] rfl) hz
    replace H := Own.focus (H.pick [5, 0, 1, 2, 3, 4] rfl) hz2
    have hgl := gotN_le m.items
    have htl : (texts m).length = gotN m.items := by unfold texts; simp; omega
    refine s_loop (γ := Nat × Value) 1 [] (fun _ => []) (fun q w' => Own w' F [pt b #[.slice (some ⟨g, 0, none⟩) bs.length cap, fv, .int .i64 now, .slice (some ⟨rb, 0, none⟩) n n] 33, rows (.slice (some ⟨g, 0, none⟩) bs.length cap) 28 1 (bs.map fun k => [ptrV k]), MemA bi { m with read := q.1 }, Each memP ((bs.zip (upto readM k ms)).eraseIdx k), rows (.slice (some ⟨rb, 0, none⟩) n n) 22 1 ((svs.set k q.2).map fun v => [v]), rows q.2 9 1 (((texts m).take q.1).map fun s => [.string s]), Each readP ((svs.zip (uptoC texts [] k ms)).eraseIdx k)] ∧ q.1 ≤ gotN m.items) (fun q => gotN m.items - q.1) (0, sv0) [] (by kernel_rfl) (by kernel_rfl) rfl (by kernel_rfl) rfl ⟨?_, Nat.zero_le _⟩ ?_
    · rw [set_same hsv, show ({ m with read := ((0 : Nat) : Int) } : MemV ByteArray) = m by have := hmm.2; cases m; simp_all]
      exact H.pick [4, 5, 2, 3, 6, 0, 1] rfl
    rintro ⟨r, sv⟩ w3 ⟨H, hr⟩
    simp only at H hr
    obtain ⟨sa, sc, hsvv, _, _⟩ := Own.shape 5 H rfl
    subst hsvv
    by_cases hlr : r < gotN m.items
    · have hir := List.getElem?_eq_getElem (show r < m.items.length by omega)
      generalize m.items[r] = x at hir
      have hrd : readV { m with read := (r : Int) } = (some x.body, { m with read := ((r + 1 : Nat) : Int) }) := by
        unfold readV
        rw [if_pos (by show (r : Int) < (gotN m.items : Int); omega)]
        simp only [Int.toNat_natCast]
        rw [hir]
        rfl
      have htx : (texts m).take (r + 1) = (texts m).take r ++ [x.body] := by
        rw [List.take_add_one]
        congr 1
        unfold texts
        rw [List.getElem?_map, List.getElem?_take_of_lt hlr, hir]
        rfl
      have hse : ((svs.set k (.slice sa (((texts m).take r).map fun s => [Value.string s]).length sc)).map fun v => [v])[k]? = some [.slice sa (((texts m).take r).map fun s => [Value.string s]).length sc] := by
        rw [List.getElem?_map, List.getElem?_set]; simp; omega
      have hbnd : (((texts m).take r).map fun s => [Value.string s]).length ≤ 64 := by simp; omega
      refine y_call (f := 17) (args := #[Value.pointer (some (Addr.mk bi (0 : Nat) none))]) [2] (M := [pt b #[Value.slice (some (Addr.mk g (0 : Nat) none)) bs.length cap, fv, Value.int IntKind.i64 now, Value.slice (some (Addr.mk rb (0 : Nat) none)) n n] (33 : TypeId), rows (Value.slice (some (Addr.mk g (0 : Nat) none)) bs.length cap) 28 (1 : Nat) (List.map (fun k => [ptrV k]) bs), Each memP ((bs.zip (upto readM k ms)).eraseIdx k), rows (Value.slice (some (Addr.mk rb (0 : Nat) none)) n n) 22 (1 : Nat) (List.map (fun v => [v]) (svs.set k (Value.slice sa (List.map (fun s => [Value.string s]) (List.take r (texts m))).length sc))), rows (Value.slice sa (List.map (fun s => [Value.string s]) (List.take r (texts m))).length sc) 9 (1 : Nat) (List.map (fun s => [Value.string s]) (List.take r (texts m))), Each readP ((svs.zip (uptoC texts [] k ms)).eraseIdx k)]) H rfl rfl rfl (by kernel_rfl) (by kernel_rfl) (by kernel_rfl) (fun F' hF H' => read_ret { m with read := (r : Int) } bi F' _ H' hmm.1 (by show (0 : Int) ≤ (r : Int); omega)) ?_
      rintro v w4 L' ⟨rfl, rfl⟩ H
      simp only [List.cons_append, List.nil_append] at H
      rw [hrd] at H
      rw [hrd]
      replace H := H.pick [1, 2, 0, 3, 4, 5, 6] rfl
      refine s_ifF (b := false) (by kernel_rfl) rfl ?_
      refine y_drawS (L0 := [pt b #[Value.slice (some (Addr.mk g (0 : Nat) none)) bs.length cap, fv, Value.int IntKind.i64 now, Value.slice (some (Addr.mk rb (0 : Nat) none)) n n] (33 : TypeId), rows (Value.slice (some (Addr.mk rb (0 : Nat) none)) n n) 22 (1 : Nat) (List.map (fun v => [v]) (svs.set k (Value.slice sa (List.map (fun s => [Value.string s]) (List.take r (texts m))).length sc)))]) (5 : Nat) 2 [0, 1, 2, 3, 4, 5, 6, 7, 8, 9, 10, 11, 12] [13, 14, 15, 16] [0, 4] H rfl rfl (by kernel_rfl) (by kernel_rfl) rfl (by kernel_rfl) ?_
      refine y_sload (a := ⟨b, 3, none⟩) (by kernel_rfl) (by kernel_rfl) (fun w' L' H => Own.cell 0 H rfl rfl) ?_
      refine y_sload (a := ⟨b, 3, none⟩) (by kernel_rfl) (by kernel_rfl) (fun w' L' H => Own.cell 0 H rfl rfl) ?_
      refine h_idx (t := 31) (b := rb) (o := (0 : Nat)) (n := n) (c := n) (kd := IntKind.i64) (i := (↑k : Int)) 1 (by kernel_rfl) (by omega) (by omega) (by kernel_rfl) (by kernel_rfl) ?_
      refine y_sload (a := ⟨rb, (0 : Nat) + (↑k : Int).toNat * (1 : Nat), none⟩) (by kernel_rfl) (by kernel_rfl) (fun w' L' H => Own.elCell (j := 0) 1 (i := k) H rfl hse rfl (by first | rfl | omega)) ?_
      replace H := Own.drew H
      refine y_send (by kernel_rfl) ?_
      refine s_tail rfl (by kernel_rfl) ?_
      refine y_new (c := #[Value.string ((some x.body).getD (ByteArray.mk #[]))]) (T := 9) H (by kernel_rfl) (by kernel_rfl) (fun w5 b1 H => ?_)
      refine s_tailS rfl (by kernel_rfl) (.inr ⟨_, H.pick [1, 5, 0, 2, 3, 4, 6, 7] rfl⟩) ?_
      refine s_tail rfl (by kernel_rfl) ?_
      refine y_push (t := 22) (ty := 22) (c0 := (1 : Nat)) 6 0 (16 : Nat) (Value.string (ByteArray.mk #[])) [Value.string ((some x.body).getD (ByteArray.mk #[]))] H rfl rfl rfl (by simp [Value.oneCell']) (by first | omega | (simp only [List.length_map, List.length_append, List.length_cons, List.length_nil, List.length_set, Go.maxLen] at *; omega)) (by first | omega | (simp only [List.length_map, List.length_append, List.length_cons, List.length_nil, List.length_set, Go.maxLen] at *; omega)) (by kernel_rfl) (by kernel_rfl) (by kernel_rfl) (by decide) (by kernel_rfl) (by kernel_rfl) (fun a1 cap1 w6 hcap1 H => ?_)
      simp only [List.set_cons_zero, List.set_cons_succ] at H
      refine s_tailS rfl (by kernel_rfl) (.inr ⟨_, H.pick [1, 5, 0, 2, 3, 4, 6, 7] rfl⟩) ?_
      refine s_tail rfl (by kernel_rfl) ?_
      refine y_idx (t := 31) (b := rb) (o := (0 : Nat)) (n := n) (c := n) (kd := IntKind.i64) (i := (↑k : Int)) 1 (by kernel_rfl) (by omega) (by omega) (by kernel_rfl) ?_
      refine s_tailS rfl (by kernel_rfl) (.inl (by kernel_rfl)) ?_
      refine s_tail rfl (by kernel_rfl) ?_
      refine y_elStore 5 (i := k) (j := 0) (o := (0 : Nat) + (↑k : Int).toNat * (1 : Nat)) (u := Value.slice (some (Addr.mk a1 (0 : Nat) none)) ((List.map (fun s => [Value.string s]) (List.take r (texts m))).length + (1 : Nat)) cap1) (c' := [Value.slice (some (Addr.mk a1 (0 : Nat) none)) ((List.map (fun s => [Value.string s]) (List.take r (texts m))).length + (1 : Nat)) cap1]) H rfl hse (by decide) (by first | rfl | omega) (by kernel_rfl) (by kernel_rfl) rfl rfl (fun w7 H hE1 => ?_)
      simp only [List.set_cons_zero, List.set_cons_succ] at H
      try simp only [List.set_set] at H hE1
      refine s_tailS rfl (by kernel_rfl) (.inl (by kernel_rfl)) ?_
      refine s_tailEnd rfl (by kernel_rfl) ?_
      -- stop: Req.again (1 : Nat)
      replace H := H.drop1
      refine s_again 1 (r + 1, Value.slice (some ⟨a1, 0, none⟩) ((((texts m).take r).map fun s => [Value.string s]).length + 1) cap1) [] rfl (by kernel_rfl) (by kernel_rfl) (by kernel_rfl) rfl ⟨?_, hlr⟩ (by show gotN m.items - (r + 1) < gotN m.items - r; omega)
      show Own _ F [_, _, _, _, rows _ _ _ ((svs.set k (Value.slice (some ⟨a1, 0, none⟩) ((((texts m).take r).map fun s => [Value.string s]).length + 1) cap1)).map fun v => [v]), rows (Value.slice (some ⟨a1, 0, none⟩) ((((texts m).take r).map fun s => [Value.string s]).length + 1) cap1) _ _ (((texts m).take (r + 1)).map fun s => [Value.string s]), _]
      rw [htx, List.map_append, ← List.set_set (a := Value.slice sa (((texts m).take r).map fun s => [Value.string s]).length sc), List.map_set]
      exact H
    · have hrd : readV { m with read := (r : Int) } = (none, { m with read := (r : Int) }) := by
        unfold readV
        rw [if_neg (by show ¬ ((r : Int) < (gotN m.items : Int)); omega)]
      obtain rfl : r = gotN m.items := by omega
      rw [List.take_of_length_le (by omega)] at H
      refine y_call (f := 17) (args := #[Value.pointer (some (Addr.mk bi (0 : Nat) none))]) [2] (M := [pt b #[Value.slice (some (Addr.mk g (0 : Nat) none)) bs.length cap, fv, Value.int IntKind.i64 now, Value.slice (some (Addr.mk rb (0 : Nat) none)) n n] (33 : TypeId), rows (Value.slice (some (Addr.mk g (0 : Nat) none)) bs.length cap) 28 (1 : Nat) (List.map (fun k => [ptrV k]) bs), Each memP ((bs.zip (upto readM k ms)).eraseIdx k), rows (Value.slice (some (Addr.mk rb (0 : Nat) none)) n n) 22 (1 : Nat) (List.map (fun v => [v]) (svs.set k (Value.slice sa (List.map (fun s => [Value.string s]) (texts m)).length sc))), rows (Value.slice sa (List.map (fun s => [Value.string s]) (texts m)).length sc) 9 (1 : Nat) (List.map (fun s => [Value.string s]) (texts m)), Each readP ((svs.zip (uptoC texts [] k ms)).eraseIdx k)]) H rfl rfl rfl (by kernel_rfl) (by kernel_rfl) (by kernel_rfl) (fun F' hF H' => read_ret { m with read := (gotN m.items : Int) } bi F' _ H' hmm.1 (by show (0 : Int) ≤ (gotN m.items : Int); omega)) ?_
      rintro v w4 L' ⟨rfl, rfl⟩ H
      simp only [List.cons_append, List.nil_append] at H
      rw [hrd] at H
      rw [hrd]
      replace H := H.pick [1, 2, 0, 3, 4, 5, 6] rfl
      refine s_ifT (b := true) (by kernel_rfl) rfl ?_
      refine x_add (t := 3) (a := (↑k : Int)) (b := (1 : Int)) (((k) + ((1 : Nat)) : Nat) : Int) (w64' (by omega) (by omega) (by omega)) (by kernel_rfl) ?_
      -- stop: Req.again (0 : Nat)
      refine s_out 1 rfl (by kernel_rfl) ?_
      replace H := Own.unfocus (f := memP) (k := k) (y := (bi, { m with read := (gotN m.items : Int) })) hlz (H.pick [2, 3, 0, 1, 4, 5, 6] rfl)
      replace H := Own.unfocus (f := readP) (k := k) (y := (Value.slice sa ((texts m).map fun s => [Value.string s]).length sc, texts m)) hlz2 (H.pick [4, 5, 0, 1, 2, 3] rfl)
      have e1 : upto readM (k + 1) ms = (upto readM k ms).set k { m with read := (gotN m.items : Int) } := by
        have e0 : ({ m with read := (gotN m.items : Int) } : MemV ByteArray) = readM m := by unfold readM; rfl
        rw [e0]; exact (upto_set hel).symm
      have e2 : uptoC texts [] (k + 1) ms = (uptoC texts [] k ms).set k (texts m) := (uptoC_set hel).symm
      rw [zip_set hbi, ← e1] at H
      have e3 : (svs.zip (uptoC texts [] k ms)).set k (Value.slice sa ((texts m).map fun s => [Value.string s]).length sc, texts m) = (svs.set k (Value.slice sa ((texts m).map fun s => [Value.string s]).length sc)).zip ((uptoC texts [] k ms).set k (texts m)) := zip_set2 _ _ _ _ _
      rw [e3, ← e2] at H
      refine s_again 0 (k + 1, svs.set k (Value.slice sa ((texts m).map fun s => [Value.string s]).length sc)) [.int .i64 ((k + 1 : Nat) : Int)] rfl (by kernel_rfl) (by kernel_rfl) (by kernel_rfl) rfl ⟨H.pick [2, 3, 1, 4, 0] rfl, hlt, by simp [hsl]⟩ (by show n - (k + 1) < n - k; omega)
  · have t4 : decide ((k : Int) < bs.length) = false := decide_eq_false (by omega)
    obtain rfl : k = n := by omega
    rw [← hn, upto_all, uptoC_all] at H
    refine s_ifF (by kernel_rfl) t4 ?_
    -- stop: Req.done (Value.tuple (#[]))
    exact s_done (v := .tuple #[]) (by kernel_rfl) ⟨_, ⟨svs, rfl, hsl, rfl⟩, by rw [← hn]; exact shutGrp H rfl rfl⟩
end Go.Proofs.Ytgpcjoofcmfidaa
