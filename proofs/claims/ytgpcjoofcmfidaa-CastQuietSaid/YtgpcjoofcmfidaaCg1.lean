import Derived.Test.YtgpcjoofcmfidaaCaLaw5
import Derived.Test.YtgpcjoofcmfidaaYSlice
namespace Go.Proofs.Ytgpcjoofcmfidaa
open Go.XM Go.RowKit Go.Ca
set_option maxRecDepth 100000

/-- A text as the law says it. -/
def tr (s : ByteArray) : ByteArray := s.extract 0 (min s.size 100)
theorem tr_size (s : ByteArray) : (tr s).size ≤ 100 := by unfold tr; rw [ByteArray.size_extract]; omega
/-- The law's texts. -/
def lawT (tx : List ByteArray) : List ByteArray := (tx.take 8).map tr
theorem lawT_len (tx : List ByteArray) : (lawT tx).length = min tx.length 8 := by simp [lawT, Nat.min_comm]
theorem lawT_size (tx : List ByteArray) : ∀ s ∈ lawT tx, s.size ≤ 100 := by
  intro s hs
  obtain ⟨x, _, rfl⟩ := List.mem_map.1 hs
  exact tr_size x

theorem runA_zero (T : List ByteArray) (M : Nat) (fs0 : List Int) : runA T M fs0 0 = ((List.range M).map initM, fs0) := rfl
theorem runA_succ (T : List ByteArray) (M : Nat) (fs0 : List Int) (i : Nat) : runA T M fs0 (i + 1) = tickM ⟨#[]⟩ (-1) i (runA T M fs0 i).2 (sayAt T i (runA T M fs0 i).1) := rfl
theorem sayAt_some {T : List ByteArray} {i : Nat} {s : ByteArray} {ms : List (MemV ByteArray)} {m : MemV ByteArray} (h : T[i]? = some s) (hm : ms[0]? = some m) : sayAt T i ms = ms.set 0 (sayV m s) := by
  unfold sayAt
  rw [h]
  cases ms with
  | nil => cases hm
  | cons x l => simp at hm; subst hm; rfl
theorem sayAt_none {T : List ByteArray} {i : Nat} {ms : List (MemV ByteArray)} (h : T.length ≤ i) : sayAt T i ms = ms := by
  unfold sayAt
  rw [List.getElem?_eq_none h]

theorem take_min {α : Type} (l : List α) (n : Nat) : l.take (min l.length n) = l.take n := by
  rcases Nat.le_total l.length n with h | h
  · rw [Nat.min_eq_left h, List.take_length, List.take_of_length_le h]
  · rw [Nat.min_eq_right h]

attribute [local irreducible] outMem outAir outD airD tells upto inCore inV hearM deliver tickM okD sayAt lawT runA Ret in
set_option maxHeartbeats 0 in
theorem castArrives_ret (many : Int) (tx : List ByteArray) (fs : List Int) (tv fv : Value) (F : Fm) (w : World) (H : Own w F []) (h0 : -9223372036854775808 ≤ many) (h1 : many ≤ 9223372036854775807)
    (hV : View F.hl tv 1 (tx.map fun s => [.string s])) (hs : ∀ s ∈ tx, s.size ≤ maxLen) (hFa : View F.hl fv 1 (fs.map fun n => [.int .i64 n])) (hfb : ∀ n ∈ fs, -9223372036854775808 ≤ n ∧ n ≤ 9223372036854775807) :
    Ret Try.prog 4 #[.int .i64 many, tv, fv] w (Post F fun v _ => v = .bool true) := by
  obtain ⟨ta, tc, rfl, htc⟩ := hV.shape
  obtain ⟨fa, fc, rfl, hfc⟩ := hFa.shape
  have hfl : (fs.map fun n => [Value.int .i64 n]).length = fs.length := List.length_map ..
  have htl : (tx.map fun s => [Value.string s]).length = tx.length := List.length_map ..
  rw [hfl] at hFa hfc ⊢
  rw [htl] at hV htc ⊢
  refine ret_of_G Try.func4 rfl rfl ?_
  refine y_drawP (1 : Nat) [] [0, 1, 2, 3, 4, 5, 6, 7] 8 [9] H (by kernel_rfl) (by kernel_rfl) (by kernel_rfl) (by kernel_rfl) ?_
  refine y_qcall (f := 8) (args := #[Value.int IntKind.i64 many, Value.int IntKind.i64 (4 : Int)]) (.int .i64 (many % 4)) [] rfl rfl (by kernel_rfl) (by kernel_rfl) (by kernel_rfl) (fun F' w _ H' => rest_ret many 4 h0 h1 (by omega) (by omega) F' w H') ?_
  refine h_add (t := 3) (a := (2 : Int)) (b := many % (4 : Int)) (((2 : Int)) + (many % (4 : Int))) (w64' (by omega) (by omega) rfl) (by kernel_rfl) (by kernel_rfl) ?_
  refine h_min (ts := #[(3 : Nat), (3 : Nat)]) (t := 3) (k := IntKind.i64) (k' := IntKind.i64) (x := (↑fs.length : Int)) (y := (8 : Int)) ((min (fs.length) ((8 : Nat)) : Nat) : Int) (by split <;> omega) (by kernel_rfl) (by kernel_rfl) ?_
  refine h_vslice hFa (t := 30) (lo := none) (hi := some (Value.int IntKind.i64 (↑(min fs.length (8 : Nat)) : Int))) (l := 0) (h := (min fs.length (8 : Nat))) (.none _) (.int IntKind.i64 ((↑(min fs.length (8 : Nat)) : Int)) _ (by omega)) (by first | omega | (simp only [List.length_map, List.length_take, List.length_drop]; omega)) (by first | omega | (simp only [List.length_map, List.length_take, List.length_drop]; omega)) (by kernel_rfl) (by kernel_rfl) (by kernel_rfl) (fun va1 vc1 hV1 => ?_)
  refine y_qend (by kernel_rfl) (fun w1 H => ?_)
  -- stop: Req.call (7 : Nat) (#[Value.int IntKind.i64 ((2 : Int) + many % (4 : Int)), Value.slice va1 (min fs.length (8 : Nat) - (0 : Nat)) vc1])
  obtain ⟨M, hM⟩ : ∃ M : Nat, 2 + many % 4 = M := ⟨(2 + many % 4).toNat, by omega⟩
  have hM2 : 2 ≤ M := by omega
  have hM5 : M ≤ 5 := by omega
  rw [hM]
  have e1 : min fs.length 8 - 0 = (fs.take 8).length := by simp; omega
  have e8 : (fs.take 8).length ≤ 8 := by simp; omega
  rw [e1] at hV1 ⊢
  rw [List.drop_zero, ← List.map_take, take_min] at hV1
  have hfb' : ∀ n ∈ fs.take 8, -9223372036854775808 ≤ n ∧ n ≤ 9223372036854775807 := fun n hn => hfb n (List.mem_of_mem_take hn)
  generalize fs.take 8 = fs0 at hV1 hfb' e8 ⊢
  clear e1 hM hFa hfl hfc hfb
  refine y_call (f := 7) (args := #[Value.int IntKind.i64 (↑M : Int), Value.slice va1 fs0.length vc1]) [] (M := []) H rfl rfl rfl (by kernel_rfl) (by kernel_rfl) (by kernel_rfl) (fun F' hF H' => newGroup_ret M va1 fs0.length vc1 F' _ H' (by omega)) ?_
  rintro v w2 L' ⟨b, rb, bs, rfl, hbs, rfl⟩ H
  simp only [List.cons_append, List.nil_append] at H
  refine y_call (f := 9) (args := #[]) [] (M := [GrpA b (Value.slice va1 fs0.length vc1) (0 : Int) (Value.slice (some (Addr.mk rb (0 : Nat) none)) M M) bs (List.map initM (List.range M)), rows (Value.slice (some (Addr.mk rb (0 : Nat) none)) M M) 22 (1 : Nat) (List.replicate M [Value.slice none (0 : Nat) (0 : Nat)])]) H rfl rfl rfl (by kernel_rfl) (by kernel_rfl) (by kernel_rfl) (fun F' hF H' => castFact_ret F' _ H') ?_
  rintro v w3 L' ⟨rfl, rfl⟩ H
  simp only [List.cons_append, List.nil_append] at H
  refine s_ifF (b := false) (by kernel_rfl) rfl ?_
  refine s_ifF (b := false) (by kernel_rfl) rfl ?_
  refine x_min (ts := #[(3 : Nat), (3 : Nat)]) (t := 3) (k := IntKind.i64) (k' := IntKind.i64) (x := (↑tx.length : Int)) (y := (8 : Int)) ((min (tx.length) ((8 : Nat)) : Nat) : Int) (by split <;> omega) (by kernel_rfl) ?_
  refine y_vslice hV (t := 22) (lo := none) (hi := some (Value.int IntKind.i64 (↑(min tx.length (8 : Nat)) : Int))) (l := 0) (h := (min tx.length (8 : Nat))) (.none _) (.int IntKind.i64 ((↑(min tx.length (8 : Nat)) : Int)) _ (by omega)) (by first | omega | (simp only [List.length_map, List.length_take, List.length_drop]; omega)) (by first | omega | (simp only [List.length_map, List.length_take, List.length_drop]; omega)) (by kernel_rfl) (by kernel_rfl) (fun va2 vc2 hV2 => ?_)
  -- stop: Req.loop
  have e1 : min tx.length 8 - 0 = (tx.take 8).length := by simp; omega
  have e9 : (tx.take 8).length ≤ 8 := by simp; omega
  rw [e1] at hV2 ⊢
  rw [List.drop_zero, ← List.map_take, take_min] at hV2
  have hs' : ∀ s ∈ tx.take 8, s.size ≤ maxLen := fun s hx => hs s (List.mem_of_mem_take hx)
  generalize tx.take 8 = U at hV2 hs' e9 ⊢
  clear e1 hV htl htc hs
  obtain ⟨T, hT⟩ : ∃ T, U.map tr = T := ⟨_, rfl⟩
  have hTl : T.length = U.length := by rw [← hT, List.length_map]
  have hTs : ∀ s ∈ T, s.size ≤ 100 := by
    intro s hx
    rw [← hT] at hx
    obtain ⟨x, _, rfl⟩ := List.mem_map.1 hx
    exact tr_size x
  have hok := runA_ok (T := T) (M := M) (fs0 := fs0) (by omega) hTs hM2 (by omega) e8
  have hend := runA_end (T := T) (M := M) (fs0 := fs0) (by omega) hTs hM2 (by omega) e8
  refine s_loop (γ := Nat × Option Addr × Nat) 0 [8] (fun g => [.int .i64 g.1]) (fun g w' => Own w' F [GrpA b (.slice g.2.1 (runA T M fs0 g.1).2.length g.2.2) g.1 (.slice (some ⟨rb, 0, none⟩) M M) bs (runA T M fs0 g.1).1, rows (.slice (some ⟨rb, 0, none⟩) M M) 22 1 (List.replicate M [.slice none 0 0])] ∧ View F.hl (.slice g.2.1 (runA T M fs0 g.1).2.length g.2.2) 1 ((runA T M fs0 g.1).2.map fun n => [.int .i64 n]) ∧ (∀ n ∈ (runA T M fs0 g.1).2, -9223372036854775808 ≤ n ∧ n ≤ 9223372036854775807) ∧ g.1 ≤ 250) (fun g => 250 - g.1) (0, va1, vc1) [.int .i64 0] (by kernel_rfl) (by kernel_rfl) rfl (by kernel_rfl) rfl ⟨by rw [runA_zero]; exact H, by rw [runA_zero]; exact hV1, by rw [runA_zero]; exact hfb', Nat.zero_le _⟩ ?_
  clear hV1 hfb'
  rintro ⟨i, fa, fc⟩ w4 ⟨H, hV1, hfb, hi⟩
  simp only at H hV1 hfb hi
  refine s_if (b := decide ((i : Int) < 250)) (by kernel_rfl) (fun ht => ?_) (fun hf => ?_)
  · have p := of_decide_eq_true ht
    have hRi := hok i
    have hsay := say_at (T := T) (i := i) hRi.ids hRi.alive (by omega)
    have hti := tick_inv (fs := (runA T M fs0 i).2) hsay.1 (by omega) (by omega) hTs
    have hsl := hRi.len
    have hbl : bs.length = (sayAt T i (runA T M fs0 i).1).length := by rw [hsay.2.2, hsl, hbs]
    have ho : ∀ m ∈ sayAt T i (runA T M fs0 i).1, m.items.length ≤ 64 ∧ m.now ≤ (i : Int) := fun m hm => ⟨(hsay.1 m hm).1, ((hsay.1 m hm).2 (by obtain ⟨k, hk⟩ := List.mem_iff_getElem?.1 hm; have := hsay.2.1 k m hk; omega)).now⟩
    by_cases hlt : i < U.length
    · have t4 : decide ((i : Int) < U.length) = true := decide_eq_true (by omega)
      have hel := List.getElem?_eq_getElem hlt
      generalize U[i] = s at hel
      have hss := hs' s (List.mem_of_getElem? hel)
      have hel2 : (U.map fun s => [Value.string s])[i]? = some [.string s] := by rw [List.getElem?_map, hel]; rfl
      have hTi : T[i]? = some (tr s) := by rw [← hT, List.getElem?_map, hel]; rfl
      obtain ⟨nb, no2, cz, hva, _, _⟩ := hV2.open (by simp; omega)
      simp only [Value.slice.injEq] at hva
      obtain ⟨rfl, _, rfl⟩ := hva
      have hm0 := List.getElem?_eq_getElem (show 0 < (runA T M fs0 i).1.length by omega)
      generalize (runA T M fs0 i).1[0] = m0 at hm0
      have hid0 := hRi.ids 0 m0 hm0
      have hal0 := (hRi.alive m0 (List.mem_of_getElem? hm0)).2 (by omega)
      have hl0 := hal0.len
      have hb0 := List.getElem?_eq_getElem (show 0 < bs.length by omega)
      generalize bs[0] = b0 at hb0
      have hb02 : (bs.map fun k => [ptrV k])[0]? = some [ptrV b0] := by simp [hb0]
      obtain ⟨ga, gc, hgc, H⟩ := openGrpN H (by omega)
      have hz : (bs.zip (runA T M fs0 i).1)[0]? = some (b0, m0) := List.getElem?_zip_eq_some.2 ⟨hb0, hm0⟩
      have hlz : 0 < (bs.zip (runA T M fs0 i).1).length := (List.getElem?_eq_some_iff.1 hz).1
      replace H := Own.focus (H.pick [2, 0, 1, 3] rfl) hz
      have htrs := tr_size s
      refine y_drawP (8 : Nat) [] [0, 1, 2, 3, 4, 5, 6, 7, 8, 9, 10, 11, 12, 13, 14, 15, 16, 17, 18, 19, 20, 21] 22 [23, 24] H (by kernel_rfl) (by kernel_rfl) (by kernel_rfl) (by kernel_rfl) ?_
      refine q_if (b := decide ((↑i : Int) < (↑U.length : Int))) (by kernel_rfl) (by kernel_rfl) (by kernel_rfl) (fun _ => ?_) (fun h => by rw [t4] at h; cases h)
      refine y_qload (a := ⟨b, 0, none⟩) (by kernel_rfl) (by kernel_rfl) (fun w' H => Own.cell 2 H rfl rfl) ?_
      refine h_idx (t := 29) (b := ga) (o := (0 : Nat)) (n := bs.length) (c := gc) (kd := IntKind.i64) (i := (0 : Int)) 1 (by kernel_rfl) (by omega) (by omega) (by kernel_rfl) (by kernel_rfl) ?_
      refine y_qload (a := ⟨ga, 0, none⟩) (by kernel_rfl) (by kernel_rfl) (fun w' H => Own.elCell (j := 0) 3 (i := (0 : Nat)) H rfl hb02 rfl (by first | rfl | omega)) ?_
      refine h_idx (t := 22) (b := nb) (o := no2) (n := U.length) (c := vc2) (kd := IntKind.i64) (i := (↑i : Int)) 1 (by kernel_rfl) (by omega) (by omega) (by kernel_rfl) (by kernel_rfl) ?_
      refine y_qload (a := ⟨nb, no2 + (↑i : Int).toNat * (1 : Nat), none⟩) (by kernel_rfl) (by kernel_rfl) (fun w' H => View.cell (k := i) (j := 0) (x := [Value.string s]) H hV2 hel2 rfl (by first | rfl | omega)) ?_
      refine h_idx (t := 22) (b := nb) (o := no2) (n := U.length) (c := vc2) (kd := IntKind.i64) (i := (↑i : Int)) 1 (by kernel_rfl) (by omega) (by omega) (by kernel_rfl) (by kernel_rfl) ?_
      refine y_qload (a := ⟨nb, no2 + (↑i : Int).toNat * (1 : Nat), none⟩) (by kernel_rfl) (by kernel_rfl) (fun w' H => View.cell (k := i) (j := 0) (x := [Value.string s]) H hV2 hel2 rfl (by first | rfl | omega)) ?_
      refine h_min (ts := #[(3 : Nat), (3 : Nat)]) (t := 3) (k := IntKind.i64) (k' := IntKind.i64) (x := (↑s.size : Int)) (y := (100 : Int)) ((min (s.size) ((100 : Nat)) : Nat) : Int) (by split <;> omega) (by kernel_rfl) (by kernel_rfl) ?_
      refine q_sliceStr (t := 9) (s := s) (lo := none) (hi := some (Value.int IntKind.i64 (↑(min s.size (100 : Nat)) : Int))) (l := 0) (h := (min s.size (100 : Nat))) (by kernel_rfl) (.none _) (.int IntKind.i64 ((↑(min s.size (100 : Nat)) : Int)) _ (by omega)) (by omega) (by omega) (by kernel_rfl) (by kernel_rfl) ?_
      refine y_qend (by kernel_rfl) (fun w5 H => ?_)
      refine y_call (f := 10) (args := #[Value.pointer (some (Addr.mk b0 (0 : Nat) none)), Value.string (s.extract (0 : Nat) (min s.size (100 : Nat)))]) [0] (M := [Each memP ((bs.zip (runA T M fs0 i).fst).eraseIdx (0 : Nat)), pt b #[Value.slice (some (Addr.mk ga (0 : Nat) none)) bs.length gc, Value.slice fa (runA T M fs0 i).snd.length fc, Value.int IntKind.i64 (↑i : Int), Value.slice (some (Addr.mk rb (0 : Nat) none)) M M] (33 : TypeId), rows (Value.slice (some (Addr.mk ga (0 : Nat) none)) bs.length gc) 28 (1 : Nat) (List.map (fun k => [ptrV k]) bs), rows (Value.slice (some (Addr.mk rb (0 : Nat) none)) M M) 22 (1 : Nat) (List.replicate M [Value.slice none (0 : Nat) (0 : Nat)])]) H rfl rfl rfl (by kernel_rfl) (by kernel_rfl) (by kernel_rfl) (fun F' hF H' => say_ret m0 (tr s) b0 F' _ H' hid0 (by omega) (by omega)) ?_
      rintro v w6 L' ⟨rfl, rfl⟩ H
      simp only [List.cons_append, List.nil_append] at H
      replace H := Own.unfocus (f := memP) (k := 0) (y := (b0, sayV m0 (tr s))) hlz H
      rw [zip_set hb0, ← sayAt_some hTi hm0] at H
      replace H := shutGrp (H.pick [1, 2, 0, 3] rfl) rfl rfl
      refine s_ifF (b := false) (by kernel_rfl) rfl ?_
      refine y_call (f := 11) (args := #[Value.pointer (some (Addr.mk b (0 : Nat) none)), Value.int IntKind.i64 (-1 : Int)]) [0] (M := [rows (Value.slice (some (Addr.mk rb (0 : Nat) none)) M M) 22 (1 : Nat) (List.replicate M [Value.slice none (0 : Nat) (0 : Nat)])]) H rfl rfl rfl (by kernel_rfl) (by kernel_rfl) (by kernel_rfl) (fun F' hF H' => tick_ret (-1) i (runA T M fs0 i).2 (sayAt T i (runA T M fs0 i).1) bs b _ _ F.hl F' hF _ H' fa fc rfl hV1 hfb hbl hsay.2.1 (by omega) (by omega) (by omega) ho hti.1) ?_
      rintro v w7 L' ⟨fa', fc', rfl, hVn, hfn, rfl⟩ H
      simp only [List.cons_append, List.nil_append] at H
      refine s_ifF (b := false) (by kernel_rfl) rfl ?_
      refine x_add (t := 3) (a := (↑i : Int)) (b := (1 : Int)) (((i) + ((1 : Nat)) : Nat) : Int) (w64' (by omega) (by omega) (by omega)) (by kernel_rfl) ?_
      -- stop: Req.again (0 : Nat)
      exact s_again 0 (i + 1, fa', fc') [.int .i64 ((i + 1 : Nat) : Int)] rfl (by kernel_rfl) (by kernel_rfl) (by kernel_rfl) rfl ⟨by simp only [runA_succ]; exact H, by simp only [runA_succ]; exact hVn, by simp only [runA_succ]; exact hfn, by show i + 1 ≤ 250; omega⟩ (by show 250 - (i + 1) < 250 - i; omega)
    · have t4 : decide ((i : Int) < U.length) = false := decide_eq_false (by omega)
      have hSn : sayAt T i (runA T M fs0 i).1 = (runA T M fs0 i).1 := sayAt_none (by omega)
      rw [← hSn] at H
      refine y_drawP (8 : Nat) [] [0, 1, 2, 3, 4, 5, 6, 7, 8, 9, 10, 11, 12, 13, 14, 15, 16, 17, 18, 19, 20, 21] 22 [23, 24] H (by kernel_rfl) (by kernel_rfl) (by kernel_rfl) (by kernel_rfl) ?_
      refine q_if (b := decide ((↑i : Int) < (↑U.length : Int))) (by kernel_rfl) (by kernel_rfl) (by kernel_rfl) (fun h => by rw [t4] at h; cases h) (fun _ => ?_)
      refine y_qend (by kernel_rfl) (fun w5 H => ?_)
      refine y_call (f := 11) (args := #[Value.pointer (some (Addr.mk b (0 : Nat) none)), Value.int IntKind.i64 (-1 : Int)]) [0] (M := [rows (Value.slice (some (Addr.mk rb (0 : Nat) none)) M M) 22 (1 : Nat) (List.replicate M [Value.slice none (0 : Nat) (0 : Nat)])]) H rfl rfl rfl (by kernel_rfl) (by kernel_rfl) (by kernel_rfl) (fun F' hF H' => tick_ret (-1) i (runA T M fs0 i).2 (sayAt T i (runA T M fs0 i).1) bs b _ _ F.hl F' hF _ H' fa fc rfl hV1 hfb hbl hsay.2.1 (by omega) (by omega) (by omega) ho hti.1) ?_
      rintro v w6 L' ⟨fa', fc', rfl, hVn, hfn, rfl⟩ H
      simp only [List.cons_append, List.nil_append] at H
      refine s_ifF (b := false) (by kernel_rfl) rfl ?_
      refine x_add (t := 3) (a := (↑i : Int)) (b := (1 : Int)) (((i) + ((1 : Nat)) : Nat) : Int) (w64' (by omega) (by omega) (by omega)) (by kernel_rfl) ?_
      -- stop: Req.again (0 : Nat)
      exact s_again 0 (i + 1, fa', fc') [.int .i64 ((i + 1 : Nat) : Int)] rfl (by kernel_rfl) (by kernel_rfl) (by kernel_rfl) rfl ⟨by simp only [runA_succ]; exact H, by simp only [runA_succ]; exact hVn, by simp only [runA_succ]; exact hfn, by show i + 1 ≤ 250; omega⟩ (by show 250 - (i + 1) < 250 - i; omega)
  · have p := of_decide_eq_false hf
    obtain rfl : i = 250 := by omega
    have hR250 := hok 250
    have hln := hR250.len
    have htx : (runA T M fs0 250).1.map texts = List.replicate M T := List.eq_replicate_iff.2 ⟨by rw [List.length_map, hln], fun x hx => by obtain ⟨m, hm, rfl⟩ := List.mem_map.1 hx; exact (hend m hm).2.2⟩
    refine s_out 0 rfl (by kernel_rfl) ?_
    refine y_call (f := 13) (args := #[Value.pointer (some (Addr.mk b (0 : Nat) none))]) [0, 1] (M := []) H rfl rfl rfl (by kernel_rfl) (by kernel_rfl) (by kernel_rfl) (fun F' hF H' => collect_ret (runA T M fs0 250).1 bs b rb M _ _ F' _ H' hln hbs (by omega) (fun m hm => ⟨(hend m hm).1, (hend m hm).2.1⟩)) ?_
    rintro v w5 L' ⟨svs, rfl, hsv, rfl⟩ H
    simp only [List.cons_append, List.nil_append] at H
    rw [htx] at H
    obtain ⟨ga, gc, hgc, H⟩ := openGrp H
    refine y_load 0 (o := 0) H rfl rfl (by kernel_rfl) ?_
    -- stop: Req.loop
    refine s_loop (γ := Nat) 0 [69] (fun k => [.int .i64 k]) (fun k w' => Own w' F [pt b #[.slice ga bs.length gc, .slice fa (runA T M fs0 250).2.length fc, .int .i64 250, .slice (some ⟨rb, 0, none⟩) M M] 33, rows (.slice ga bs.length gc) 28 1 (bs.map fun k => [ptrV k]), Each memP (bs.zip ((runA T M fs0 250).1.map readM)), rows (.slice (some ⟨rb, 0, none⟩) M M) 22 1 (svs.map fun v => [v]), Each readP (svs.zip (List.replicate M T))] ∧ k ≤ M) (fun k => M - k) 0 [.int .i64 0] (by kernel_rfl) (by kernel_rfl) rfl (by kernel_rfl) rfl ⟨H, Nat.zero_le _⟩ ?_
    clear H
    rintro k w8 ⟨H, hk⟩
    by_cases hkl : k < M
    · have t4 : decide ((k : Int) < bs.length) = true := decide_eq_true (by omega)
      have h1v := List.getElem?_eq_getElem (show k < svs.length by omega)
      generalize svs[k] = sv at h1v
      have h0v := List.getElem?_eq_getElem (show 0 < svs.length by omega)
      generalize svs[0] = sv0 at h0v
      have h1e : (svs.map fun v => [v])[k]? = some [sv] := by rw [List.getElem?_map, h1v]; rfl
      have h0e : (svs.map fun v => [v])[0]? = some [sv0] := by rw [List.getElem?_map, h0v]; rfl
      have hz1 : (svs.zip (List.replicate M T))[k]? = some (sv, T) := List.getElem?_zip_eq_some.2 ⟨h1v, by rw [List.getElem?_replicate, if_pos hkl]⟩
      have hz0 : (svs.zip (List.replicate M T))[0]? = some (sv0, T) := List.getElem?_zip_eq_some.2 ⟨h0v, by rw [List.getElem?_replicate, if_pos (by omega)]⟩
      have hlz : k < (svs.zip (List.replicate M T)).length := (List.getElem?_eq_some_iff.1 hz1).1
      replace H := Own.focus (H.pick [4, 0, 1, 2, 3] rfl) hz1
      obtain ⟨sa, sc, hsvv, _, _⟩ := Own.shape 0 H rfl
      simp only [List.length_map, hTl] at hsvv
      subst hsvv
      have t5 : ((U.length : Int) != (U.length : Int)) = false := by simp
      have t6 : decide ((0 : Int) < bs.length) = true := decide_eq_true (by omega)
      by_cases hk0 : k = 0
      · subst hk0
        rw [h1v] at h0v
        cases h0v
        refine s_ifT (by kernel_rfl) t6 ?_
        refine y_drawP (16 : Nat) [] [0, 1, 2, 3, 4, 5, 6, 7, 8, 9, 10, 11, 12, 13, 14, 15, 16, 17, 18, 19, 20, 21, 22, 23, 24] 25 [26, 27] H (by kernel_rfl) (by kernel_rfl) (by kernel_rfl) (by kernel_rfl) ?_
        refine y_qload (a := ⟨b, 3, none⟩) (by kernel_rfl) (by kernel_rfl) (fun w' H => Own.cell 2 H rfl rfl) ?_
        refine h_idx (t := 31) (b := rb) (o := (0 : Nat)) (n := M) (c := M) (kd := IntKind.i64) (i := (0 : Int)) 1 (by kernel_rfl) (by omega) (by omega) (by kernel_rfl) (by kernel_rfl) ?_
        refine y_qload (a := ⟨rb, 0, none⟩) (by kernel_rfl) (by kernel_rfl) (fun w' H => Own.elCell (j := 0) 5 (i := (0 : Nat)) H rfl h0e rfl (by first | rfl | omega)) ?_
        refine q_if (b := (↑U.length : Int) != (↑U.length : Int)) (by kernel_rfl) (by kernel_rfl) (by kernel_rfl) (fun h => by rw [t5] at h; cases h) (fun _ => ?_)
        refine y_qload (a := ⟨b, 3, none⟩) (by kernel_rfl) (by kernel_rfl) (fun w' H => Own.cell 2 H rfl rfl) ?_
        refine h_idx (t := 31) (b := rb) (o := (0 : Nat)) (n := M) (c := M) (kd := IntKind.i64) (i := (0 : Int)) 1 (by kernel_rfl) (by omega) (by omega) (by kernel_rfl) (by kernel_rfl) ?_
        refine y_qload (a := ⟨rb, 0, none⟩) (by kernel_rfl) (by kernel_rfl) (fun w' H => Own.elCell (j := 0) 5 (i := (0 : Nat)) H rfl h0e rfl (by first | rfl | omega)) ?_
        refine y_qload (a := ⟨b, 3, none⟩) (by kernel_rfl) (by kernel_rfl) (fun w' H => Own.cell 2 H rfl rfl) ?_
        refine h_idx (t := 31) (b := rb) (o := (0 : Nat)) (n := M) (c := M) (kd := IntKind.i64) (i := (0 : Int)) 1 (by kernel_rfl) (by omega) (by omega) (by kernel_rfl) (by kernel_rfl) ?_
        refine y_qload (a := ⟨rb, 0, none⟩) (by kernel_rfl) (by kernel_rfl) (fun w' H => Own.elCell (j := 0) 5 (i := (0 : Nat)) H rfl h0e rfl (by first | rfl | omega)) ?_
        refine y_qend (by kernel_rfl) (fun w9 H => ?_)
        refine y_call (f := 14) (args := #[Value.slice sa U.length sc, Value.slice sa U.length sc]) [0] (M := [Each readP ((svs.zip (List.replicate M T)).eraseIdx (0 : Nat)), pt b #[Value.slice ga bs.length gc, Value.slice fa (runA T M fs0 (250 : Nat)).snd.length fc, Value.int IntKind.i64 (250 : Int), Value.slice (some (Addr.mk rb (0 : Nat) none)) M M] (33 : TypeId), rows (Value.slice ga bs.length gc) 28 (1 : Nat) (List.map (fun k => [ptrV k]) bs), Each memP (bs.zip (List.map readM (runA T M fs0 (250 : Nat)).fst)), rows (Value.slice (some (Addr.mk rb (0 : Nat) none)) M M) 22 (1 : Nat) (List.map (fun v => [v]) svs)]) H rfl rfl rfl (by kernel_rfl) (by kernel_rfl) (by kernel_rfl) (fun F' hF H' => same_ret1 T _ F' _ H' (by omega)) ?_
        rintro v w10 L' ⟨rfl, rfl⟩ H
        simp only [List.cons_append, List.nil_append] at H
        refine s_ifF (b := false) (by kernel_rfl) rfl ?_
        refine x_add (t := 3) (a := (0 : Int)) (b := (1 : Int)) ((((0 : Nat)) + ((1 : Nat)) : Nat) : Int) (w64' (by omega) (by omega) (by omega)) (by kernel_rfl) ?_
        -- stop: Req.again (0 : Nat)
        replace H := Own.unfocus (f := readP) (k := 0) (y := (.slice sa U.length sc, T)) hlz H
        rw [set_same hz1] at H
        exact s_again 0 1 [.int .i64 1] rfl (by kernel_rfl) (by kernel_rfl) (by kernel_rfl) rfl ⟨H.pick [1, 2, 3, 4, 0] rfl, by omega⟩ (by omega)
      · have hz0' : ((svs.zip (List.replicate M T)).eraseIdx k)[0]? = some (sv0, T) := by
          rw [List.getElem?_eraseIdx_of_lt (by omega)]; exact hz0
        have hlz0 : 0 < ((svs.zip (List.replicate M T)).eraseIdx k).length := (List.getElem?_eq_some_iff.1 hz0').1
        replace H := Own.focus (H.pick [1, 0, 2, 3, 4, 5] rfl) hz0'
        obtain ⟨s0a, s0c, hsvv, _, _⟩ := Own.shape 0 H rfl
        simp only [List.length_map, hTl] at hsvv
        subst hsvv
        refine s_ifT (by kernel_rfl) t4 ?_
        refine y_drawP (16 : Nat) [] [0, 1, 2, 3, 4, 5, 6, 7, 8, 9, 10, 11, 12, 13, 14, 15, 16, 17, 18, 19, 20, 21, 22, 23, 24] 25 [26, 27] H (by kernel_rfl) (by kernel_rfl) (by kernel_rfl) (by kernel_rfl) ?_
        refine y_qload (a := ⟨b, 3, none⟩) (by kernel_rfl) (by kernel_rfl) (fun w' H => Own.cell 3 H rfl rfl) ?_
        refine h_idx (t := 31) (b := rb) (o := (0 : Nat)) (n := M) (c := M) (kd := IntKind.i64) (i := (↑k : Int)) 1 (by kernel_rfl) (by omega) (by omega) (by kernel_rfl) (by kernel_rfl) ?_
        refine y_qload (a := ⟨rb, (0 : Nat) + (↑k : Int).toNat * (1 : Nat), none⟩) (by kernel_rfl) (by kernel_rfl) (fun w' H => Own.elCell (j := 0) 6 (i := k) H rfl h1e rfl (by first | rfl | omega)) ?_
        refine q_if (b := (↑U.length : Int) != (↑U.length : Int)) (by kernel_rfl) (by kernel_rfl) (by kernel_rfl) (fun h => by rw [t5] at h; cases h) (fun _ => ?_)
        refine y_qload (a := ⟨b, 3, none⟩) (by kernel_rfl) (by kernel_rfl) (fun w' H => Own.cell 3 H rfl rfl) ?_
        refine h_idx (t := 31) (b := rb) (o := (0 : Nat)) (n := M) (c := M) (kd := IntKind.i64) (i := (↑k : Int)) 1 (by kernel_rfl) (by omega) (by omega) (by kernel_rfl) (by kernel_rfl) ?_
        refine y_qload (a := ⟨rb, (0 : Nat) + (↑k : Int).toNat * (1 : Nat), none⟩) (by kernel_rfl) (by kernel_rfl) (fun w' H => Own.elCell (j := 0) 6 (i := k) H rfl h1e rfl (by first | rfl | omega)) ?_
        refine y_qload (a := ⟨b, 3, none⟩) (by kernel_rfl) (by kernel_rfl) (fun w' H => Own.cell 3 H rfl rfl) ?_
        refine h_idx (t := 31) (b := rb) (o := (0 : Nat)) (n := M) (c := M) (kd := IntKind.i64) (i := (0 : Int)) 1 (by kernel_rfl) (by omega) (by omega) (by kernel_rfl) (by kernel_rfl) ?_
        refine y_qload (a := ⟨rb, 0, none⟩) (by kernel_rfl) (by kernel_rfl) (fun w' H => Own.elCell (j := 0) 6 (i := (0 : Nat)) H rfl h0e rfl (by first | rfl | omega)) ?_
        refine y_qend (by kernel_rfl) (fun w9 H => ?_)
        refine y_call (f := 14) (args := #[Value.slice sa U.length sc, Value.slice s0a U.length s0c]) [2, 0] (M := [Each readP (((svs.zip (List.replicate M T)).eraseIdx k).eraseIdx (0 : Nat)), pt b #[Value.slice ga bs.length gc, Value.slice fa (runA T M fs0 (250 : Nat)).snd.length fc, Value.int IntKind.i64 (250 : Int), Value.slice (some (Addr.mk rb (0 : Nat) none)) M M] (33 : TypeId), rows (Value.slice ga bs.length gc) 28 (1 : Nat) (List.map (fun k => [ptrV k]) bs), Each memP (bs.zip (List.map readM (runA T M fs0 (250 : Nat)).fst)), rows (Value.slice (some (Addr.mk rb (0 : Nat) none)) M M) 22 (1 : Nat) (List.map (fun v => [v]) svs)]) H rfl rfl rfl (by kernel_rfl) (by kernel_rfl) (by kernel_rfl) (fun F' hF H' => same_ret T _ _ F' _ H' (by omega)) ?_
        rintro v w10 L' ⟨rfl, rfl⟩ H
        simp only [List.cons_append, List.nil_append] at H
        refine s_ifF (b := false) (by kernel_rfl) rfl ?_
        refine x_add (t := 3) (a := (↑k : Int)) (b := (1 : Int)) (((k) + ((1 : Nat)) : Nat) : Int) (w64' (by omega) (by omega) (by omega)) (by kernel_rfl) ?_
        -- stop: Req.again (0 : Nat)
        replace H := Own.unfocus (f := readP) (k := 0) (y := (.slice s0a U.length s0c, T)) hlz0 (H.pick [1, 2, 0, 3, 4, 5, 6] rfl)
        rw [set_same hz0'] at H
        replace H := Own.unfocus (f := readP) (k := k) (y := (.slice sa U.length sc, T)) hlz (H.pick [1, 0, 2, 3, 4, 5] rfl)
        rw [set_same hz1] at H
        exact s_again 0 (k + 1) [.int .i64 ((k + 1 : Nat) : Int)] rfl (by kernel_rfl) (by kernel_rfl) (by kernel_rfl) rfl ⟨H.pick [1, 2, 3, 4, 0] rfl, by omega⟩ (by omega)
    · have t4 : decide ((k : Int) < bs.length) = false := decide_eq_false (by omega)
      refine s_ifF (by kernel_rfl) t4 ?_
      -- stop: Req.done (Value.bool true)
      exact s_done (v := .bool true) (by kernel_rfl) ⟨_, rfl, H⟩
end Go.Proofs.Ytgpcjoofcmfidaa
