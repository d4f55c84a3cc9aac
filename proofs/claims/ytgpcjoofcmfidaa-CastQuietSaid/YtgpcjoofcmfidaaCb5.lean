import Derived.Test.YtgpcjoofcmfidaaCb4
namespace Go.Proofs.Ytgpcjoofcmfidaa
open Go.XM Go.RowKit Go.Ca
set_option maxRecDepth 100000

def encA (x : NoteV ByteArray) : List Value := encN x

theorem out_some {id now : Int} {i : Nat} {items : List (ItemV ByteArray)} {x y : ItemV ByteArray} {n : NoteV ByteArray} {L : List (List Value)} {c : List Value} (h : items[i]? = some x) (ho : outI ⟨#[]⟩ id now i x = (some n, y)) (hL : L = (upto (outItem ⟨#[]⟩ id now) i items).map encI) (hc : c = encI y) :
    L.set i c = (upto (outItem ⟨#[]⟩ id now) (i + 1) items).map encI ∧ (outNotes ⟨#[]⟩ id now 0 (items.take i)).map encN ++ [encN n] = (outNotes ⟨#[]⟩ id now 0 (items.take (i + 1))).map encN := by
  have hlt := (List.getElem?_eq_some_iff.1 h).1
  have e : outItem ⟨#[]⟩ id now x = y := by rw [← outI_snd ⟨#[]⟩ id now i x, ho]
  subst hL hc
  refine ⟨by rw [← upto_set h, e, List.map_set], ?_⟩
  rw [List.take_add_one, h, Option.toList_some, outNotes_append, List.map_append]
  simp [outNotes, Nat.min_eq_left (Nat.le_of_lt hlt), ho]

theorem out_none {id now : Int} {i : Nat} {items : List (ItemV ByteArray)} {x : ItemV ByteArray} (h : items[i]? = some x) (ho : outI ⟨#[]⟩ id now i x = (none, x)) :
    (upto (outItem ⟨#[]⟩ id now) i items) = upto (outItem ⟨#[]⟩ id now) (i + 1) items ∧ outNotes ⟨#[]⟩ id now 0 (items.take i) = outNotes ⟨#[]⟩ id now 0 (items.take (i + 1)) := by
  have hlt := (List.getElem?_eq_some_iff.1 h).1
  have e : outItem ⟨#[]⟩ id now x = x := by rw [← outI_snd ⟨#[]⟩ id now i x, ho]
  have hg := upto_get (f := outItem ⟨#[]⟩ id now) h
  refine ⟨?_, ?_⟩
  · rw [← upto_set h, e]
    refine (List.ext_getElem? fun k => ?_)
    rw [List.getElem?_set]
    split
    · rename_i hk; subst hk; rw [hg]; simp [upto_len, hlt]
    · rfl
  · rw [List.take_add_one, h, Option.toList_some, outNotes_append]
    simp [outNotes, Nat.min_eq_left (Nat.le_of_lt hlt), ho]

theorem out_own {w : World} {F : Fm} {pA : Assn} {v1 v2 : Value} {e1 e2 : Nat} {id now : Int} {i : Nat} {items : List (ItemV ByteArray)} {x y : ItemV ByteArray} {n : NoteV ByteArray} {c cn : List Value} (h : items[i]? = some x) (ho : outI ⟨#[]⟩ id now i x = (some n, y))
    (H : Own w F [pA, rows v1 e1 5 (((upto (outItem ⟨#[]⟩ id now) i items).map encI).set i c), rows v2 e2 4 ((outNotes ⟨#[]⟩ id now 0 (items.take i)).map encN ++ [cn])]) (hc : c = encI y) (hn : cn = encN n) :
    Own w F [pA, rows v1 e1 5 ((upto (outItem ⟨#[]⟩ id now) (i + 1) items).map encI), rows v2 e2 4 ((outNotes ⟨#[]⟩ id now 0 (items.take (i + 1))).map encN)] := by
  have hs := out_some h ho rfl hc
  subst hn
  rw [hs.1, hs.2] at H
  exact H

theorem out_own0 {w : World} {F : Fm} {pA : Assn} {v1 v2 : Value} {e1 e2 : Nat} {id now : Int} {i : Nat} {items : List (ItemV ByteArray)} {x : ItemV ByteArray} (h : items[i]? = some x) (ho : outI ⟨#[]⟩ id now i x = (none, x))
    (H : Own w F [pA, rows v1 e1 5 ((upto (outItem ⟨#[]⟩ id now) i items).map encI), rows v2 e2 4 ((outNotes ⟨#[]⟩ id now 0 (items.take i)).map encN)]) :
    Own w F [pA, rows v1 e1 5 ((upto (outItem ⟨#[]⟩ id now) (i + 1) items).map encI), rows v2 e2 4 ((outNotes ⟨#[]⟩ id now 0 (items.take (i + 1))).map encN)] := by
  have hs := out_none h ho
  rw [hs.1, hs.2] at H
  exact H

theorem outNotes_len (id now : Int) : ∀ (l : List (ItemV ByteArray)) (k : Nat), (outNotes ⟨#[]⟩ id now k l).length ≤ l.length
  | [], _ => Nat.le_refl _
  | x :: l, k => by
    have := outNotes_len id now l (k + 1)
    simp only [outNotes, List.length_append, List.length_cons]
    have h2 : (outI ⟨#[]⟩ id now k x).1.toList.length ≤ 1 := by cases (outI ⟨#[]⟩ id now k x).1 <;> simp
    omega

attribute [local irreducible] outI outNotes outItem outMem outAir tells upto Ret in
set_option maxHeartbeats 0 in
theorem out_ret (m : MemV ByteArray) (now : Int) (b : Nat) (F : Fm) (w : World) (H : Own w F [MemA b m]) (hl : m.items.length ≤ 64) (h0 : 0 ≤ now) (h1 : now ≤ 1000000000) (h2 : 0 ≤ m.id) (h3 : m.id < 16) (h4 : m.now ≤ now) :
    Ret Try.prog 12 #[.pointer (some ⟨b, 0, none⟩), .int .i64 now] w (Post F fun v L' => ∃ sv, v = .tuple #[sv, .int .i64 0] ∧ L' = [MemA b (outMem ⟨#[]⟩ m now), rows sv 44 4 ((outAir ⟨#[]⟩ m now).map encN)]) := by
  refine ret_of_G Try.func12 rfl rfl ?_
  have t1 : decide (now < 0) = false := decide_eq_false (by omega)
  have t2 : decide (now > 1000000000) = false := decide_eq_false (by omega)
  obtain ⟨id, items, read, hello, now'⟩ := m
  have hl : items.length ≤ 64 := hl
  have t3 : decide (now < now') = false := decide_eq_false (by have : now' ≤ now := h4; omega)
  obtain ⟨a, cap, hcap, H⟩ := openMem H
  have hcap : items.length ≤ cap := hcap
  simp only [memC] at H
  refine s_ifF (by kernel_rfl) t1 ?_
  refine s_ifF (by kernel_rfl) t2 ?_
  refine y_load 0 (o := 4) H rfl rfl (by kernel_rfl) ?_
  refine s_ifF (by kernel_rfl) t3 ?_
  refine y_store 0 (o := 4) (v := Value.int IntKind.i64 now) (c' := #[Value.int IntKind.i64 id, Value.slice a items.length cap, Value.int IntKind.i64 read, Value.int IntKind.i64 hello, Value.int IntKind.i64 now]) H rfl (by kernel_rfl) (by kernel_rfl) (by kernel_rfl) rfl (by kernel_rfl) (fun w1 H => ?_)
  simp only [List.set_cons_zero, List.set_cons_succ] at H
  refine y_load 0 (o := 1) H rfl rfl (by kernel_rfl) ?_
  -- stop: Req.loop
  replace H := (Own.nilRows H 44 4).pick [1, 2, 0] rfl
  have e0 : (outNotes (⟨#[]⟩ : ByteArray) id now 0 (items.take 0)).map encN = [] := by simp [outNotes]
  refine s_loop (γ := Nat × Value) 0 [32, 6] (fun q => [.int .i64 q.1, q.2]) (fun q w' => Own w' F [pt b #[.int .i64 id, .slice a items.length cap, .int .i64 read, .int .i64 hello, .int .i64 now] 53, rows (.slice a items.length cap) 55 5 ((upto (outItem ⟨#[]⟩ id now) q.1 items).map encI), rows q.2 44 4 ((outNotes ⟨#[]⟩ id now 0 (items.take q.1)).map encN)] ∧ q.1 ≤ items.length) (fun q => items.length - q.1) (0, .slice none 0 0) [.int .i64 0, .slice none 0 0] (by kernel_rfl) (by kernel_rfl) rfl (by kernel_rfl) rfl ⟨by rw [upto_zero, e0]; exact H, Nat.zero_le _⟩ ?_
  rintro ⟨i, sv⟩ w2 ⟨H, hi⟩
  simp only at H hi ⊢
  by_cases hlt : i < items.length
  · have t4 : decide ((i : Int) < items.length) = true := decide_eq_true (by omega)
    have hel := List.getElem?_eq_getElem hlt
    generalize items[i] = x at hel
    obtain ⟨g, capx, hsv, _, _⟩ := Own.shapeN 1 H rfl (by simp [upto_len]; omega)
    simp only [List.length_map, upto_len, Value.slice.injEq] at hsv
    obtain ⟨rfl, _, rfl⟩ := hsv
    obtain ⟨there, body, ask, rep, fresh⟩ := x
    have hel2 : ((upto (outItem ⟨#[]⟩ id now) i items).map encI)[i]? = some [.bool there, .string body, .int .i64 ask, .int .i64 rep, .bool fresh] := enc_at (upto_get hel)
    have hnl : (outNotes ⟨#[]⟩ id now 0 (items.take i)).length ≤ 64 := by have := outNotes_len id now (items.take i) 0; simp at this; omega
    have hnl2 : ((outNotes ⟨#[]⟩ id now 0 (items.take i)).map encN).length = (outNotes ⟨#[]⟩ id now 0 (items.take i)).length := List.length_map ..
    refine s_ifT (by kernel_rfl) t4 ?_
    refine y_load 0 (o := 1) H rfl rfl (by kernel_rfl) ?_
    refine y_idx (t := 51) (b := g) (o := (0 : Nat)) (n := items.length) (c := cap) (kd := IntKind.i64) (i := (↑i : Int)) 5 (by kernel_rfl) (by omega) (by omega) (by kernel_rfl) ?_
    refine y_elLoad 1 (i := i) (j := 4) (o := (0 : Nat) + (↑i : Int).toNat * (5 : Nat) + (4 : Nat)) H rfl hel2 rfl (by first | rfl | omega) (by kernel_rfl) ?_
    refine s_if (b := fresh) (by kernel_rfl) (fun ht1 => ?_) (fun hf1 => ?_)
    · subst ht1
      refine y_drawP (12 : Nat) [0] [1, 2, 3, 4, 5, 6, 7, 8, 9, 10] 11 [12, 13] H (by kernel_rfl) (by kernel_rfl) (by kernel_rfl) (by kernel_rfl) ?_
      refine y_qload (a := ⟨b, 0, none⟩) (by kernel_rfl) (by kernel_rfl) (fun w' H => Own.cell 0 H rfl rfl) ?_
      refine y_qload (a := ⟨g, (0 : Nat) + (↑i : Int).toNat * (5 : Nat) + (1 : Nat), none⟩) (by kernel_rfl) (by kernel_rfl) (fun w' H => Own.elCell (j := 1) 1 (i := i) H rfl hel2 rfl (by first | rfl | omega)) ?_
      refine y_qend (by kernel_rfl) (fun w3 H => ?_)
      refine y_new (c := #[Value.int IntKind.i64 (1 : Int), Value.int IntKind.i64 id, Value.int IntKind.i64 (↑i : Int), Value.string body]) (T := 44) H (by kernel_rfl) (by kernel_rfl) (fun w4 b1 H => ?_)
      refine y_push (t := 36) (ty := 36) (c0 := (1 : Nat)) 3 0 (40 : Nat) (Value.agg (#[Value.int IntKind.i64 (0 : Int), Value.int IntKind.i64 (0 : Int), Value.int IntKind.i64 (0 : Int), Value.string (ByteArray.mk #[])])) [Value.int IntKind.i64 (1 : Int), Value.int IntKind.i64 id, Value.int IntKind.i64 (↑i : Int), Value.string body] H rfl rfl rfl (by simp [Value.oneCell']) (by first | omega | (simp only [List.length_map, List.length_append, List.length_cons, List.length_nil, List.length_set, Go.maxLen] at *; omega)) (by first | omega | (simp only [List.length_map, List.length_append, List.length_cons, List.length_nil, List.length_set, Go.maxLen] at *; omega)) (by kernel_rfl) (by kernel_rfl) (by kernel_rfl) (by decide) (by kernel_rfl) (by kernel_rfl) (fun a1 cap1 w5 hcap1 H => ?_)
      simp only [List.set_cons_zero, List.set_cons_succ] at H
      refine y_elStore 2 (i := i) (j := 4) (o := (0 : Nat) + (↑i : Int).toNat * (5 : Nat) + (4 : Nat)) (u := Value.bool false) (c' := [Value.bool there, Value.string body, Value.int IntKind.i64 ask, Value.int IntKind.i64 rep, Value.bool false]) H rfl hel2 (by decide) (by first | rfl | omega) (by kernel_rfl) (by kernel_rfl) rfl rfl (fun w6 H hE1 => ?_)
      simp only [List.set_cons_zero, List.set_cons_succ] at H
      try simp only [List.set_set] at H hE1
      refine y_elStore 2 (i := i) (j := 3) (o := (0 : Nat) + (↑i : Int).toNat * (5 : Nat) + (3 : Nat)) (u := Value.int IntKind.i64 (-1 : Int)) (c' := [Value.bool there, Value.string body, Value.int IntKind.i64 ask, Value.int IntKind.i64 (-1 : Int), Value.bool false]) H rfl hE1 (by decide) (by first | rfl | omega) (by kernel_rfl) (by kernel_rfl) rfl rfl (fun w7 H hE2 => ?_)
      simp only [List.set_cons_zero, List.set_cons_succ] at H
      try simp only [List.set_set] at H hE2
      refine x_add (t := 3) (a := (↑i : Int)) (b := (1 : Int)) (((i) + ((1 : Nat)) : Nat) : Int) (w64' (by omega) (by omega) (by omega)) (by kernel_rfl) ?_
      first
            | (have ho : outI (⟨#[]⟩ : ByteArray) id now i (⟨there, body, ask, rep, true⟩ : ItemV ByteArray) = (some ⟨1, id, i, body⟩, ⟨there, body, ask, -1, false⟩) := by simp [outI, *]
               exact s_again 0 (i + 1, Value.slice (some ⟨a1, 0, none⟩) _ cap1) [.int .i64 ((i + 1 : Nat) : Int), .slice (some ⟨a1, 0, none⟩) (((outNotes ⟨#[]⟩ id now 0 (items.take i)).map encN).length + 1) cap1] rfl (by kernel_rfl) (by kernel_rfl) (by kernel_rfl) rfl ⟨out_own hel ho H.drop1 rfl rfl, hlt⟩ (by show items.length - (i + 1) < items.length - i; omega))
            | (have ho : outI (⟨#[]⟩ : ByteArray) id now i (⟨true, body, ask, rep, false⟩ : ItemV ByteArray) = (some ⟨1, id, i, body⟩, ⟨true, body, ask, -1, false⟩) := by simp [outI, *]
               exact s_again 0 (i + 1, Value.slice (some ⟨a1, 0, none⟩) _ cap1) [.int .i64 ((i + 1 : Nat) : Int), .slice (some ⟨a1, 0, none⟩) (((outNotes ⟨#[]⟩ id now 0 (items.take i)).map encN).length + 1) cap1] rfl (by kernel_rfl) (by kernel_rfl) (by kernel_rfl) rfl ⟨out_own hel ho H.drop1 rfl rfl, hlt⟩ (by show items.length - (i + 1) < items.length - i; omega))
            | (have ho : outI (⟨#[]⟩ : ByteArray) id now i (⟨false, body, ask, rep, false⟩ : ItemV ByteArray) = (some ⟨2, id, i, ⟨#[]⟩⟩, ⟨false, body, now + 20, rep, false⟩) := by simp [outI, *]
               exact s_again 0 (i + 1, Value.slice (some ⟨a1, 0, none⟩) _ cap1) [.int .i64 ((i + 1 : Nat) : Int), .slice (some ⟨a1, 0, none⟩) (((outNotes ⟨#[]⟩ id now 0 (items.take i)).map encN).length + 1) cap1] rfl (by kernel_rfl) (by kernel_rfl) (by kernel_rfl) rfl ⟨out_own hel ho H.drop1 rfl rfl, hlt⟩ (by show items.length - (i + 1) < items.length - i; omega))
            | (have ho : ∀ x : ItemV ByteArray, items[i]? = some x → outI (⟨#[]⟩ : ByteArray) id now i x = (none, x) := by
                 intro x hx; rw [hel] at hx; cases hx; simp [outI, *]
               exact s_again 0 (i + 1, sv) [.int .i64 ((i + 1 : Nat) : Int), sv] rfl (by kernel_rfl) (by kernel_rfl) (by kernel_rfl) rfl ⟨out_own0 hel (ho _ hel) H, hlt⟩ (by show items.length - (i + 1) < items.length - i; omega))
    · subst hf1
      refine y_elLoad 1 (i := i) (j := 0) (o := (0 : Nat) + (↑i : Int).toNat * (5 : Nat)) H rfl hel2 rfl (by first | rfl | omega) (by kernel_rfl) ?_
      refine s_if (b := there) (by kernel_rfl) (fun ht1 => ?_) (fun hf1 => ?_)
      · subst ht1
        refine y_elLoad 1 (i := i) (j := 3) (o := (0 : Nat) + (↑i : Int).toNat * (5 : Nat) + (3 : Nat)) H rfl hel2 rfl (by first | rfl | omega) (by kernel_rfl) ?_
        refine s_if (b := decide (rep ≥ (0 : Int))) (by kernel_rfl) (fun ht1 => ?_) (fun hf1 => ?_)
        · have p1 := of_decide_eq_true ht1
          refine y_elLoad 1 (i := i) (j := 3) (o := (0 : Nat) + (↑i : Int).toNat * (5 : Nat) + (3 : Nat)) H rfl hel2 rfl (by first | rfl | omega) (by kernel_rfl) ?_
          refine s_if (b := decide (rep ≤ now)) (by kernel_rfl) (fun ht2 => ?_) (fun hf2 => ?_)
          · have p2 := of_decide_eq_true ht2
            refine y_drawP (12 : Nat) [0] [1, 2, 3, 4, 5, 6, 7, 8, 9, 10] 11 [12, 13] H (by kernel_rfl) (by kernel_rfl) (by kernel_rfl) (by kernel_rfl) ?_
            refine y_qload (a := ⟨b, 0, none⟩) (by kernel_rfl) (by kernel_rfl) (fun w' H => Own.cell 0 H rfl rfl) ?_
            refine y_qload (a := ⟨g, (0 : Nat) + (↑i : Int).toNat * (5 : Nat) + (1 : Nat), none⟩) (by kernel_rfl) (by kernel_rfl) (fun w' H => Own.elCell (j := 1) 1 (i := i) H rfl hel2 rfl (by first | rfl | omega)) ?_
            refine y_qend (by kernel_rfl) (fun w3 H => ?_)
            refine y_new (c := #[Value.int IntKind.i64 (1 : Int), Value.int IntKind.i64 id, Value.int IntKind.i64 (↑i : Int), Value.string body]) (T := 44) H (by kernel_rfl) (by kernel_rfl) (fun w4 b1 H => ?_)
            refine y_push (t := 36) (ty := 36) (c0 := (1 : Nat)) 3 0 (40 : Nat) (Value.agg (#[Value.int IntKind.i64 (0 : Int), Value.int IntKind.i64 (0 : Int), Value.int IntKind.i64 (0 : Int), Value.string (ByteArray.mk #[])])) [Value.int IntKind.i64 (1 : Int), Value.int IntKind.i64 id, Value.int IntKind.i64 (↑i : Int), Value.string body] H rfl rfl rfl (by simp [Value.oneCell']) (by first | omega | (simp only [List.length_map, List.length_append, List.length_cons, List.length_nil, List.length_set, Go.maxLen] at *; omega)) (by first | omega | (simp only [List.length_map, List.length_append, List.length_cons, List.length_nil, List.length_set, Go.maxLen] at *; omega)) (by kernel_rfl) (by kernel_rfl) (by kernel_rfl) (by decide) (by kernel_rfl) (by kernel_rfl) (fun a1 cap1 w5 hcap1 H => ?_)
            simp only [List.set_cons_zero, List.set_cons_succ] at H
            refine y_elStore 2 (i := i) (j := 4) (o := (0 : Nat) + (↑i : Int).toNat * (5 : Nat) + (4 : Nat)) (u := Value.bool false) (c' := [Value.bool true, Value.string body, Value.int IntKind.i64 ask, Value.int IntKind.i64 rep, Value.bool false]) H rfl hel2 (by decide) (by first | rfl | omega) (by kernel_rfl) (by kernel_rfl) rfl rfl (fun w6 H hE1 => ?_)
            simp only [List.set_cons_zero, List.set_cons_succ] at H
            try simp only [List.set_set] at H hE1
            refine y_elStore 2 (i := i) (j := 3) (o := (0 : Nat) + (↑i : Int).toNat * (5 : Nat) + (3 : Nat)) (u := Value.int IntKind.i64 (-1 : Int)) (c' := [Value.bool true, Value.string body, Value.int IntKind.i64 ask, Value.int IntKind.i64 (-1 : Int), Value.bool false]) H rfl hE1 (by decide) (by first | rfl | omega) (by kernel_rfl) (by kernel_rfl) rfl rfl (fun w7 H hE2 => ?_)
            simp only [List.set_cons_zero, List.set_cons_succ] at H
            try simp only [List.set_set] at H hE2
            refine x_add (t := 3) (a := (↑i : Int)) (b := (1 : Int)) (((i) + ((1 : Nat)) : Nat) : Int) (w64' (by omega) (by omega) (by omega)) (by kernel_rfl) ?_
            first
                  | (have ho : outI (⟨#[]⟩ : ByteArray) id now i (⟨there, body, ask, rep, true⟩ : ItemV ByteArray) = (some ⟨1, id, i, body⟩, ⟨there, body, ask, -1, false⟩) := by simp [outI, *]
                     exact s_again 0 (i + 1, Value.slice (some ⟨a1, 0, none⟩) _ cap1) [.int .i64 ((i + 1 : Nat) : Int), .slice (some ⟨a1, 0, none⟩) (((outNotes ⟨#[]⟩ id now 0 (items.take i)).map encN).length + 1) cap1] rfl (by kernel_rfl) (by kernel_rfl) (by kernel_rfl) rfl ⟨out_own hel ho H.drop1 rfl rfl, hlt⟩ (by show items.length - (i + 1) < items.length - i; omega))
                  | (have ho : outI (⟨#[]⟩ : ByteArray) id now i (⟨true, body, ask, rep, false⟩ : ItemV ByteArray) = (some ⟨1, id, i, body⟩, ⟨true, body, ask, -1, false⟩) := by simp [outI, *]
                     exact s_again 0 (i + 1, Value.slice (some ⟨a1, 0, none⟩) _ cap1) [.int .i64 ((i + 1 : Nat) : Int), .slice (some ⟨a1, 0, none⟩) (((outNotes ⟨#[]⟩ id now 0 (items.take i)).map encN).length + 1) cap1] rfl (by kernel_rfl) (by kernel_rfl) (by kernel_rfl) rfl ⟨out_own hel ho H.drop1 rfl rfl, hlt⟩ (by show items.length - (i + 1) < items.length - i; omega))
                  | (have ho : outI (⟨#[]⟩ : ByteArray) id now i (⟨false, body, ask, rep, false⟩ : ItemV ByteArray) = (some ⟨2, id, i, ⟨#[]⟩⟩, ⟨false, body, now + 20, rep, false⟩) := by simp [outI, *]
                     exact s_again 0 (i + 1, Value.slice (some ⟨a1, 0, none⟩) _ cap1) [.int .i64 ((i + 1 : Nat) : Int), .slice (some ⟨a1, 0, none⟩) (((outNotes ⟨#[]⟩ id now 0 (items.take i)).map encN).length + 1) cap1] rfl (by kernel_rfl) (by kernel_rfl) (by kernel_rfl) rfl ⟨out_own hel ho H.drop1 rfl rfl, hlt⟩ (by show items.length - (i + 1) < items.length - i; omega))
                  | (have ho : ∀ x : ItemV ByteArray, items[i]? = some x → outI (⟨#[]⟩ : ByteArray) id now i x = (none, x) := by
                       intro x hx; rw [hel] at hx; cases hx; simp [outI, *]
                     exact s_again 0 (i + 1, sv) [.int .i64 ((i + 1 : Nat) : Int), sv] rfl (by kernel_rfl) (by kernel_rfl) (by kernel_rfl) rfl ⟨out_own0 hel (ho _ hel) H, hlt⟩ (by show items.length - (i + 1) < items.length - i; omega))
          · have p2 := of_decide_eq_false hf2
            refine y_elLoad 1 (i := i) (j := 0) (o := (0 : Nat) + (↑i : Int).toNat * (5 : Nat)) H rfl hel2 rfl (by first | rfl | omega) (by kernel_rfl) ?_
            refine s_ifF (b := false) (by kernel_rfl) rfl ?_
            refine x_add (t := 3) (a := (↑i : Int)) (b := (1 : Int)) (((i) + ((1 : Nat)) : Nat) : Int) (w64' (by omega) (by omega) (by omega)) (by kernel_rfl) ?_
            first
                  | (have ho : outI (⟨#[]⟩ : ByteArray) id now i (⟨there, body, ask, rep, true⟩ : ItemV ByteArray) = (some ⟨1, id, i, body⟩, ⟨there, body, ask, -1, false⟩) := by simp [outI, *]
                     exact s_again 0 (i + 1, Value.slice (some ⟨a1, 0, none⟩) _ cap1) [.int .i64 ((i + 1 : Nat) : Int), .slice (some ⟨a1, 0, none⟩) (((outNotes ⟨#[]⟩ id now 0 (items.take i)).map encN).length + 1) cap1] rfl (by kernel_rfl) (by kernel_rfl) (by kernel_rfl) rfl ⟨out_own hel ho H.drop1 rfl rfl, hlt⟩ (by show items.length - (i + 1) < items.length - i; omega))
                  | (have ho : outI (⟨#[]⟩ : ByteArray) id now i (⟨true, body, ask, rep, false⟩ : ItemV ByteArray) = (some ⟨1, id, i, body⟩, ⟨true, body, ask, -1, false⟩) := by simp [outI, *]
                     exact s_again 0 (i + 1, Value.slice (some ⟨a1, 0, none⟩) _ cap1) [.int .i64 ((i + 1 : Nat) : Int), .slice (some ⟨a1, 0, none⟩) (((outNotes ⟨#[]⟩ id now 0 (items.take i)).map encN).length + 1) cap1] rfl (by kernel_rfl) (by kernel_rfl) (by kernel_rfl) rfl ⟨out_own hel ho H.drop1 rfl rfl, hlt⟩ (by show items.length - (i + 1) < items.length - i; omega))
                  | (have ho : outI (⟨#[]⟩ : ByteArray) id now i (⟨false, body, ask, rep, false⟩ : ItemV ByteArray) = (some ⟨2, id, i, ⟨#[]⟩⟩, ⟨false, body, now + 20, rep, false⟩) := by simp [outI, *]
                     exact s_again 0 (i + 1, Value.slice (some ⟨a1, 0, none⟩) _ cap1) [.int .i64 ((i + 1 : Nat) : Int), .slice (some ⟨a1, 0, none⟩) (((outNotes ⟨#[]⟩ id now 0 (items.take i)).map encN).length + 1) cap1] rfl (by kernel_rfl) (by kernel_rfl) (by kernel_rfl) rfl ⟨out_own hel ho H.drop1 rfl rfl, hlt⟩ (by show items.length - (i + 1) < items.length - i; omega))
                  | (have ho : ∀ x : ItemV ByteArray, items[i]? = some x → outI (⟨#[]⟩ : ByteArray) id now i x = (none, x) := by
                       intro x hx; rw [hel] at hx; cases hx; simp [outI, *]
                     exact s_again 0 (i + 1, sv) [.int .i64 ((i + 1 : Nat) : Int), sv] rfl (by kernel_rfl) (by kernel_rfl) (by kernel_rfl) rfl ⟨out_own0 hel (ho _ hel) H, hlt⟩ (by show items.length - (i + 1) < items.length - i; omega))
        · have p1 := of_decide_eq_false hf1
          refine y_elLoad 1 (i := i) (j := 0) (o := (0 : Nat) + (↑i : Int).toNat * (5 : Nat)) H rfl hel2 rfl (by first | rfl | omega) (by kernel_rfl) ?_
          refine s_ifF (b := false) (by kernel_rfl) rfl ?_
          refine x_add (t := 3) (a := (↑i : Int)) (b := (1 : Int)) (((i) + ((1 : Nat)) : Nat) : Int) (w64' (by omega) (by omega) (by omega)) (by kernel_rfl) ?_
          first
                | (have ho : outI (⟨#[]⟩ : ByteArray) id now i (⟨there, body, ask, rep, true⟩ : ItemV ByteArray) = (some ⟨1, id, i, body⟩, ⟨there, body, ask, -1, false⟩) := by simp [outI, *]
                   exact s_again 0 (i + 1, Value.slice (some ⟨a1, 0, none⟩) _ cap1) [.int .i64 ((i + 1 : Nat) : Int), .slice (some ⟨a1, 0, none⟩) (((outNotes ⟨#[]⟩ id now 0 (items.take i)).map encN).length + 1) cap1] rfl (by kernel_rfl) (by kernel_rfl) (by kernel_rfl) rfl ⟨out_own hel ho H.drop1 rfl rfl, hlt⟩ (by show items.length - (i + 1) < items.length - i; omega))
                | (have ho : outI (⟨#[]⟩ : ByteArray) id now i (⟨true, body, ask, rep, false⟩ : ItemV ByteArray) = (some ⟨1, id, i, body⟩, ⟨true, body, ask, -1, false⟩) := by simp [outI, *]
                   exact s_again 0 (i + 1, Value.slice (some ⟨a1, 0, none⟩) _ cap1) [.int .i64 ((i + 1 : Nat) : Int), .slice (some ⟨a1, 0, none⟩) (((outNotes ⟨#[]⟩ id now 0 (items.take i)).map encN).length + 1) cap1] rfl (by kernel_rfl) (by kernel_rfl) (by kernel_rfl) rfl ⟨out_own hel ho H.drop1 rfl rfl, hlt⟩ (by show items.length - (i + 1) < items.length - i; omega))
                | (have ho : outI (⟨#[]⟩ : ByteArray) id now i (⟨false, body, ask, rep, false⟩ : ItemV ByteArray) = (some ⟨2, id, i, ⟨#[]⟩⟩, ⟨false, body, now + 20, rep, false⟩) := by simp [outI, *]
                   exact s_again 0 (i + 1, Value.slice (some ⟨a1, 0, none⟩) _ cap1) [.int .i64 ((i + 1 : Nat) : Int), .slice (some ⟨a1, 0, none⟩) (((outNotes ⟨#[]⟩ id now 0 (items.take i)).map encN).length + 1) cap1] rfl (by kernel_rfl) (by kernel_rfl) (by kernel_rfl) rfl ⟨out_own hel ho H.drop1 rfl rfl, hlt⟩ (by show items.length - (i + 1) < items.length - i; omega))
                | (have ho : ∀ x : ItemV ByteArray, items[i]? = some x → outI (⟨#[]⟩ : ByteArray) id now i x = (none, x) := by
                     intro x hx; rw [hel] at hx; cases hx; simp [outI, *]
                   exact s_again 0 (i + 1, sv) [.int .i64 ((i + 1 : Nat) : Int), sv] rfl (by kernel_rfl) (by kernel_rfl) (by kernel_rfl) rfl ⟨out_own0 hel (ho _ hel) H, hlt⟩ (by show items.length - (i + 1) < items.length - i; omega))
      · subst hf1
        refine y_elLoad 1 (i := i) (j := 0) (o := (0 : Nat) + (↑i : Int).toNat * (5 : Nat)) H rfl hel2 rfl (by first | rfl | omega) (by kernel_rfl) ?_
        refine s_ifT (b := true) (by kernel_rfl) rfl ?_
        refine y_elLoad 1 (i := i) (j := 2) (o := (0 : Nat) + (↑i : Int).toNat * (5 : Nat) + (2 : Nat)) H rfl hel2 rfl (by first | rfl | omega) (by kernel_rfl) ?_
        refine s_if (b := decide (ask ≤ now)) (by kernel_rfl) (fun ht1 => ?_) (fun hf1 => ?_)
        · have p1 := of_decide_eq_true ht1
          refine y_load 0 (o := 0) H rfl rfl (by kernel_rfl) ?_
          refine y_new (c := #[Value.int IntKind.i64 (2 : Int), Value.int IntKind.i64 id, Value.int IntKind.i64 (↑i : Int), Value.string (ByteArray.mk #[])]) (T := 44) H (by kernel_rfl) (by kernel_rfl) (fun w3 b1 H => ?_)
          refine y_push (t := 36) (ty := 36) (c0 := (1 : Nat)) 3 0 (40 : Nat) (Value.agg (#[Value.int IntKind.i64 (0 : Int), Value.int IntKind.i64 (0 : Int), Value.int IntKind.i64 (0 : Int), Value.string (ByteArray.mk #[])])) [Value.int IntKind.i64 (2 : Int), Value.int IntKind.i64 id, Value.int IntKind.i64 (↑i : Int), Value.string (ByteArray.mk #[])] H rfl rfl rfl (by simp [Value.oneCell']) (by first | omega | (simp only [List.length_map, List.length_append, List.length_cons, List.length_nil, List.length_set, Go.maxLen] at *; omega)) (by first | omega | (simp only [List.length_map, List.length_append, List.length_cons, List.length_nil, List.length_set, Go.maxLen] at *; omega)) (by kernel_rfl) (by kernel_rfl) (by kernel_rfl) (by decide) (by kernel_rfl) (by kernel_rfl) (fun a1 cap1 w4 hcap1 H => ?_)
          simp only [List.set_cons_zero, List.set_cons_succ] at H
          refine x_add (t := 3) (a := now) (b := (20 : Int)) ((now) + ((20 : Int))) (w64' (by omega) (by omega) rfl) (by kernel_rfl) ?_
          refine y_elStore 2 (i := i) (j := 2) (o := (0 : Nat) + (↑i : Int).toNat * (5 : Nat) + (2 : Nat)) (u := Value.int IntKind.i64 (now + (20 : Int))) (c' := [Value.bool false, Value.string body, Value.int IntKind.i64 (now + (20 : Int)), Value.int IntKind.i64 rep, Value.bool false]) H rfl hel2 (by decide) (by first | rfl | omega) (by kernel_rfl) (by kernel_rfl) rfl rfl (fun w5 H hE1 => ?_)
          simp only [List.set_cons_zero, List.set_cons_succ] at H
          try simp only [List.set_set] at H hE1
          refine x_add (t := 3) (a := (↑i : Int)) (b := (1 : Int)) (((i) + ((1 : Nat)) : Nat) : Int) (w64' (by omega) (by omega) (by omega)) (by kernel_rfl) ?_
          first
                | (have ho : outI (⟨#[]⟩ : ByteArray) id now i (⟨there, body, ask, rep, true⟩ : ItemV ByteArray) = (some ⟨1, id, i, body⟩, ⟨there, body, ask, -1, false⟩) := by simp [outI, *]
                   exact s_again 0 (i + 1, Value.slice (some ⟨a1, 0, none⟩) _ cap1) [.int .i64 ((i + 1 : Nat) : Int), .slice (some ⟨a1, 0, none⟩) (((outNotes ⟨#[]⟩ id now 0 (items.take i)).map encN).length + 1) cap1] rfl (by kernel_rfl) (by kernel_rfl) (by kernel_rfl) rfl ⟨out_own hel ho H.drop1 rfl rfl, hlt⟩ (by show items.length - (i + 1) < items.length - i; omega))
                | (have ho : outI (⟨#[]⟩ : ByteArray) id now i (⟨true, body, ask, rep, false⟩ : ItemV ByteArray) = (some ⟨1, id, i, body⟩, ⟨true, body, ask, -1, false⟩) := by simp [outI, *]
                   exact s_again 0 (i + 1, Value.slice (some ⟨a1, 0, none⟩) _ cap1) [.int .i64 ((i + 1 : Nat) : Int), .slice (some ⟨a1, 0, none⟩) (((outNotes ⟨#[]⟩ id now 0 (items.take i)).map encN).length + 1) cap1] rfl (by kernel_rfl) (by kernel_rfl) (by kernel_rfl) rfl ⟨out_own hel ho H.drop1 rfl rfl, hlt⟩ (by show items.length - (i + 1) < items.length - i; omega))
                | (have ho : outI (⟨#[]⟩ : ByteArray) id now i (⟨false, body, ask, rep, false⟩ : ItemV ByteArray) = (some ⟨2, id, i, ⟨#[]⟩⟩, ⟨false, body, now + 20, rep, false⟩) := by simp [outI, *]
                   exact s_again 0 (i + 1, Value.slice (some ⟨a1, 0, none⟩) _ cap1) [.int .i64 ((i + 1 : Nat) : Int), .slice (some ⟨a1, 0, none⟩) (((outNotes ⟨#[]⟩ id now 0 (items.take i)).map encN).length + 1) cap1] rfl (by kernel_rfl) (by kernel_rfl) (by kernel_rfl) rfl ⟨out_own hel ho H.drop1 rfl rfl, hlt⟩ (by show items.length - (i + 1) < items.length - i; omega))
                | (have ho : ∀ x : ItemV ByteArray, items[i]? = some x → outI (⟨#[]⟩ : ByteArray) id now i x = (none, x) := by
                     intro x hx; rw [hel] at hx; cases hx; simp [outI, *]
                   exact s_again 0 (i + 1, sv) [.int .i64 ((i + 1 : Nat) : Int), sv] rfl (by kernel_rfl) (by kernel_rfl) (by kernel_rfl) rfl ⟨out_own0 hel (ho _ hel) H, hlt⟩ (by show items.length - (i + 1) < items.length - i; omega))
        · have p1 := of_decide_eq_false hf1
          refine x_add (t := 3) (a := (↑i : Int)) (b := (1 : Int)) (((i) + ((1 : Nat)) : Nat) : Int) (w64' (by omega) (by omega) (by omega)) (by kernel_rfl) ?_
          first
                | (have ho : outI (⟨#[]⟩ : ByteArray) id now i (⟨there, body, ask, rep, true⟩ : ItemV ByteArray) = (some ⟨1, id, i, body⟩, ⟨there, body, ask, -1, false⟩) := by simp [outI, *]
                   exact s_again 0 (i + 1, Value.slice (some ⟨a1, 0, none⟩) _ cap1) [.int .i64 ((i + 1 : Nat) : Int), .slice (some ⟨a1, 0, none⟩) (((outNotes ⟨#[]⟩ id now 0 (items.take i)).map encN).length + 1) cap1] rfl (by kernel_rfl) (by kernel_rfl) (by kernel_rfl) rfl ⟨out_own hel ho H.drop1 rfl rfl, hlt⟩ (by show items.length - (i + 1) < items.length - i; omega))
                | (have ho : outI (⟨#[]⟩ : ByteArray) id now i (⟨true, body, ask, rep, false⟩ : ItemV ByteArray) = (some ⟨1, id, i, body⟩, ⟨true, body, ask, -1, false⟩) := by simp [outI, *]
                   exact s_again 0 (i + 1, Value.slice (some ⟨a1, 0, none⟩) _ cap1) [.int .i64 ((i + 1 : Nat) : Int), .slice (some ⟨a1, 0, none⟩) (((outNotes ⟨#[]⟩ id now 0 (items.take i)).map encN).length + 1) cap1] rfl (by kernel_rfl) (by kernel_rfl) (by kernel_rfl) rfl ⟨out_own hel ho H.drop1 rfl rfl, hlt⟩ (by show items.length - (i + 1) < items.length - i; omega))
                | (have ho : outI (⟨#[]⟩ : ByteArray) id now i (⟨false, body, ask, rep, false⟩ : ItemV ByteArray) = (some ⟨2, id, i, ⟨#[]⟩⟩, ⟨false, body, now + 20, rep, false⟩) := by simp [outI, *]
                   exact s_again 0 (i + 1, Value.slice (some ⟨a1, 0, none⟩) _ cap1) [.int .i64 ((i + 1 : Nat) : Int), .slice (some ⟨a1, 0, none⟩) (((outNotes ⟨#[]⟩ id now 0 (items.take i)).map encN).length + 1) cap1] rfl (by kernel_rfl) (by kernel_rfl) (by kernel_rfl) rfl ⟨out_own hel ho H.drop1 rfl rfl, hlt⟩ (by show items.length - (i + 1) < items.length - i; omega))
                | (have ho : ∀ x : ItemV ByteArray, items[i]? = some x → outI (⟨#[]⟩ : ByteArray) id now i x = (none, x) := by
                     intro x hx; rw [hel] at hx; cases hx; simp [outI, *]
                   exact s_again 0 (i + 1, sv) [.int .i64 ((i + 1 : Nat) : Int), sv] rfl (by kernel_rfl) (by kernel_rfl) (by kernel_rfl) rfl ⟨out_own0 hel (ho _ hel) H, hlt⟩ (by show items.length - (i + 1) < items.length - i; omega))
  · have t4 : decide ((i : Int) < items.length) = false := decide_eq_false (by omega)
    obtain rfl : i = items.length := by omega
    rw [upto_all, List.take_length] at H
    have hnl : (outNotes ⟨#[]⟩ id now 0 items).length ≤ 64 := by have := outNotes_len id now items 0; omega
    have hnl2 : ((outNotes ⟨#[]⟩ id now 0 items).map encN).length = (outNotes ⟨#[]⟩ id now 0 items).length := List.length_map ..
    refine s_ifF (by kernel_rfl) t4 ?_
    refine y_load 0 (o := 0) H rfl rfl (by kernel_rfl) ?_
    refine s_if (b := id == (0 : Int)) (by kernel_rfl) (fun ht1 => ?_) (fun hf1 => ?_)
    · have p1 := eq_of_beq ht1
      refine y_load 0 (o := 1) H rfl rfl (by kernel_rfl) ?_
      refine s_if (b := decide ((↑items.length : Int) > (0 : Int))) (by kernel_rfl) (fun ht2 => ?_) (fun hf2 => ?_)
      · have p2 := of_decide_eq_true ht2
        refine y_load 0 (o := 3) H rfl rfl (by kernel_rfl) ?_
        refine s_if (b := decide (hello ≤ now)) (by kernel_rfl) (fun ht3 => ?_) (fun hf3 => ?_)
        · have p3 := of_decide_eq_true ht3
          refine y_load 0 (o := 1) H rfl rfl (by kernel_rfl) ?_
          refine y_new (c := #[Value.int IntKind.i64 (3 : Int), Value.int IntKind.i64 (0 : Int), Value.int IntKind.i64 (↑items.length : Int), Value.string (ByteArray.mk #[])]) (T := 44) H (by kernel_rfl) (by kernel_rfl) (fun w3 b1 H => ?_)
          refine y_push (t := 36) (ty := 36) (c0 := (1 : Nat)) 3 0 (40 : Nat) (Value.agg (#[Value.int IntKind.i64 (0 : Int), Value.int IntKind.i64 (0 : Int), Value.int IntKind.i64 (0 : Int), Value.string (ByteArray.mk #[])])) [Value.int IntKind.i64 (3 : Int), Value.int IntKind.i64 (0 : Int), Value.int IntKind.i64 (↑items.length : Int), Value.string (ByteArray.mk #[])] H rfl rfl rfl (by simp [Value.oneCell']) (by first | omega | (simp only [List.length_map, List.length_append, List.length_cons, List.length_nil, List.length_set, Go.maxLen] at *; omega)) (by first | omega | (simp only [List.length_map, List.length_append, List.length_cons, List.length_nil, List.length_set, Go.maxLen] at *; omega)) (by kernel_rfl) (by kernel_rfl) (by kernel_rfl) (by decide) (by kernel_rfl) (by kernel_rfl) (fun a1 cap1 w4 hcap1 H => ?_)
          simp only [List.set_cons_zero, List.set_cons_succ] at H
          refine x_add (t := 3) (a := now) (b := (50 : Int)) ((now) + ((50 : Int))) (w64' (by omega) (by omega) rfl) (by kernel_rfl) ?_
          refine y_store 1 (o := 3) (v := Value.int IntKind.i64 (now + (50 : Int))) (c' := #[Value.int IntKind.i64 id, Value.slice a items.length cap, Value.int IntKind.i64 read, Value.int IntKind.i64 (now + (50 : Int)), Value.int IntKind.i64 now]) H rfl (by kernel_rfl) (by kernel_rfl) (by kernel_rfl) rfl (by kernel_rfl) (fun w5 H => ?_)
          simp only [List.set_cons_zero, List.set_cons_succ] at H
          refine s_done (v := Value.tuple (#[Value.slice (some (Addr.mk a1 (0 : Nat) none)) ((List.map encN (outNotes (ByteArray.mk #[]) id now (0 : Nat) items)).length + (1 : Nat)) cap1, Value.int IntKind.i64 (0 : Int)])) (by kernel_rfl) ?_
          first
                | (have ht : tells ⟨id, items, read, hello, now'⟩ now = false := by
                     simp only [tells, Bool.and_eq_false_iff, decide_eq_false_iff_not]; omega
                   exact ⟨_, ⟨_, rfl, by simp only [outMem, outAir, ht]; simp⟩, shutMem (m := ⟨id, items.map (outItem ⟨#[]⟩ id now), read, hello, now⟩) H (by simp [memC]) rfl⟩)
                | (have ht : tells ⟨id, items, read, hello, now'⟩ now = true := by
                     simp only [tells, Bool.and_eq_true, decide_eq_true_eq]; omega
                   exact ⟨_, ⟨_, rfl, by simp only [outMem, outAir, ht]; simp [encN]⟩, shutMem (m := ⟨id, items.map (outItem ⟨#[]⟩ id now), read, now + 50, now⟩) H.drop1 (by simp [memC]) rfl⟩)
        · have p3 := of_decide_eq_false hf3
          refine s_done (v := Value.tuple (#[sv, Value.int IntKind.i64 (0 : Int)])) (by kernel_rfl) ?_
          first
                | (have ht : tells ⟨id, items, read, hello, now'⟩ now = false := by
                     simp only [tells, Bool.and_eq_false_iff, decide_eq_false_iff_not]; omega
                   exact ⟨_, ⟨_, rfl, by simp only [outMem, outAir, ht]; simp⟩, shutMem (m := ⟨id, items.map (outItem ⟨#[]⟩ id now), read, hello, now⟩) H (by simp [memC]) rfl⟩)
                | (have ht : tells ⟨id, items, read, hello, now'⟩ now = true := by
                     simp only [tells, Bool.and_eq_true, decide_eq_true_eq]; omega
                   exact ⟨_, ⟨_, rfl, by simp only [outMem, outAir, ht]; simp [encN]⟩, shutMem (m := ⟨id, items.map (outItem ⟨#[]⟩ id now), read, now + 50, now⟩) H.drop1 (by simp [memC]) rfl⟩)
      · have p2 := of_decide_eq_false hf2
        refine s_done (v := Value.tuple (#[sv, Value.int IntKind.i64 (0 : Int)])) (by kernel_rfl) ?_
        first
              | (have ht : tells ⟨id, items, read, hello, now'⟩ now = false := by
                   simp only [tells, Bool.and_eq_false_iff, decide_eq_false_iff_not]; omega
                 exact ⟨_, ⟨_, rfl, by simp only [outMem, outAir, ht]; simp⟩, shutMem (m := ⟨id, items.map (outItem ⟨#[]⟩ id now), read, hello, now⟩) H (by simp [memC]) rfl⟩)
              | (have ht : tells ⟨id, items, read, hello, now'⟩ now = true := by
                   simp only [tells, Bool.and_eq_true, decide_eq_true_eq]; omega
                 exact ⟨_, ⟨_, rfl, by simp only [outMem, outAir, ht]; simp [encN]⟩, shutMem (m := ⟨id, items.map (outItem ⟨#[]⟩ id now), read, now + 50, now⟩) H.drop1 (by simp [memC]) rfl⟩)
    · have p1 := ne_of_beq_false hf1
      refine s_done (v := Value.tuple (#[sv, Value.int IntKind.i64 (0 : Int)])) (by kernel_rfl) ?_
      first
            | (have ht : tells ⟨id, items, read, hello, now'⟩ now = false := by
                 simp only [tells, Bool.and_eq_false_iff, decide_eq_false_iff_not]; omega
               exact ⟨_, ⟨_, rfl, by simp only [outMem, outAir, ht]; simp⟩, shutMem (m := ⟨id, items.map (outItem ⟨#[]⟩ id now), read, hello, now⟩) H (by simp [memC]) rfl⟩)
            | (have ht : tells ⟨id, items, read, hello, now'⟩ now = true := by
                 simp only [tells, Bool.and_eq_true, decide_eq_true_eq]; omega
               exact ⟨_, ⟨_, rfl, by simp only [outMem, outAir, ht]; simp [encN]⟩, shutMem (m := ⟨id, items.map (outItem ⟨#[]⟩ id now), read, now + 50, now⟩) H.drop1 (by simp [memC]) rfl⟩)
end Go.Proofs.Ytgpcjoofcmfidaa
