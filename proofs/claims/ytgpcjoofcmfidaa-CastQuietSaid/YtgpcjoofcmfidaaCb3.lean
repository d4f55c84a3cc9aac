import Derived.Test.YtgpcjoofcmfidaaCb2
namespace Go.Proofs.Ytgpcjoofcmfidaa
open Go.XM Go.RowKit Go.Ca
set_option maxRecDepth 100000

theorem enc_at {l : List (ItemV ByteArray)} {i : Nat} {x : ItemV ByteArray} (h : l[i]? = some x) : (l.map encI)[i]? = some (encI x) := by simp [h]

theorem modify_enc {l : List (ItemV ByteArray)} {i : Nat} {x : ItemV ByteArray} {f : ItemV ByteArray → ItemV ByteArray} {c : List Value} (h : l[i]? = some x) (hc : encI (f x) = c) : (l.map encI).set i c = (l.modify i f).map encI := by
  subst hc
  refine List.ext_getElem? fun k => ?_
  rw [List.getElem?_set, List.getElem?_map, List.getElem?_map, List.getElem?_modify]
  by_cases hk : i = k
  · subst hk
    have hlt := (List.getElem?_eq_some_iff.1 h).1
    rw [h]
    simp [hlt]
  · simp [hk]

theorem modify_none {l : List (ItemV ByteArray)} {i : Nat} {x : ItemV ByteArray} {f : ItemV ByteArray → ItemV ByteArray} (h : l[i]? = some x) (hc : f x = x) : l.modify i f = l := by
  refine List.ext_getElem? fun k => ?_
  rw [List.getElem?_modify]
  by_cases hk : i = k
  · subst hk; rw [h]; simp [hc]
  · simp [hk]

theorem asked_ret (m : MemV ByteArray) (no : Nat) (now : Int) (b : Nat) (F : Fm) (w : World) (H : Own w F [MemA b m]) (hn : no < 64) (hl : m.items.length ≤ 64) (h0 : 0 ≤ now) (h1 : now ≤ 1000000000) (h2 : 0 ≤ m.id) (h3 : m.id < 16) :
    Ret Try.prog 21 #[.pointer (some ⟨b, 0, none⟩), .int .i64 no, .int .i64 now] w (Post F fun v L' => v = .tuple #[] ∧ L' = [MemA b (asked ⟨#[]⟩ m no now)]) := by
  refine ret_of_G Try.func21 rfl rfl ?_
  refine x_add (t := 3) (a := (↑no : Int)) (b := (1 : Int)) (((no) + ((1 : Nat)) : Nat) : Int) (w64' (by omega) (by omega) (by omega)) (by kernel_rfl) ?_
  -- stop: Req.call (20 : Nat) (#[Value.pointer (some (Addr.mk b (0 : Nat) none)), Value.int IntKind.i64 (↑(no + (1 : Nat)) : Int), Value.int IntKind.i64 now])
  refine y_call [0] H rfl rfl rfl (by kernel_rfl) (by kernel_rfl) (by kernel_rfl) (fun F' _ H' => knows_ret m ((no + 1 : Nat) : Int) now b F' w H' (by omega) hl) ?_
  rintro v w1 L' ⟨rfl, rfl⟩ H
  unfold asked
  generalize hm' : knows ⟨#[]⟩ m ((no + 1 : Nat) : Int) now = m' at H ⊢
  have hlen : no < m'.items.length := by have := knows_len ⟨#[]⟩ m ((no + 1 : Nat) : Int) now; rw [hm'] at this; omega
  have hid : m'.id = m.id := by rw [← hm']; rfl
  rw [← hid]
  rw [← hid] at h2 h3
  obtain ⟨id, items, read, hello, now'⟩ := m'
  clear hm' hid
  have hlen : no < items.length := hlen
  have h2 : 0 ≤ id := h2
  have h3 : id < 16 := h3
  obtain ⟨a, cap, hcap, H⟩ := openMemN H (by show 0 < items.length; omega)
  have hel := List.getElem?_eq_getElem hlen
  generalize items[no] = x at hel
  obtain ⟨there, body, ask, rep, fresh⟩ := x
  have hel2 : (items.map encI)[no]? = some [.bool there, .string body, .int .i64 ask, .int .i64 rep, .bool fresh] := enc_at hel
  simp only [memC] at H
  cases there
  · refine y_load 0 (o := 1) H rfl rfl (by kernel_rfl) ?_
    refine y_idx (t := 51) (b := a) (o := (0 : Nat)) (n := items.length) (c := cap) (kd := IntKind.i64) (i := (↑no : Int)) 5 (by kernel_rfl) (by omega) (by omega) (by kernel_rfl) ?_
    refine y_elLoad 1 (i := no) (j := 0) (o := (0 : Nat) + (↑no : Int).toNat * (5 : Nat)) H rfl hel2 rfl (by first | rfl | omega) (by kernel_rfl) ?_
    refine s_ifT (b := true) (by kernel_rfl) rfl ?_
    refine x_add (t := 3) (a := now) (b := (20 : Int)) ((now) + ((20 : Int))) (w64' (by omega) (by omega) rfl) (by kernel_rfl) ?_
    refine y_elStore 1 (i := no) (j := 2) (o := (0 : Nat) + (↑no : Int).toNat * (5 : Nat) + (2 : Nat)) (u := Value.int IntKind.i64 (now + (20 : Int))) (c' := [Value.bool false, Value.string body, Value.int IntKind.i64 (now + (20 : Int)), Value.int IntKind.i64 rep, Value.bool fresh]) H rfl hel2 (by decide) (by first | rfl | omega) (by kernel_rfl) (by kernel_rfl) rfl rfl (fun w2 H hE1 => ?_)
    simp only [List.set_cons_zero, List.set_cons_succ] at H
    try simp only [List.set_set] at H hE1
    refine s_done (v := Value.tuple (#[])) (by kernel_rfl) ?_
    exact ⟨_, ⟨rfl, rfl⟩, shutMem H rfl (modify_enc hel (by simp [askI, encI]))⟩
  · refine y_load 0 (o := 1) H rfl rfl (by kernel_rfl) ?_
    refine y_idx (t := 51) (b := a) (o := (0 : Nat)) (n := items.length) (c := cap) (kd := IntKind.i64) (i := (↑no : Int)) 5 (by kernel_rfl) (by omega) (by omega) (by kernel_rfl) ?_
    refine y_elLoad 1 (i := no) (j := 0) (o := (0 : Nat) + (↑no : Int).toNat * (5 : Nat)) H rfl hel2 rfl (by first | rfl | omega) (by kernel_rfl) ?_
    refine s_ifF (b := false) (by kernel_rfl) rfl ?_
    refine y_elLoad 1 (i := no) (j := 3) (o := (0 : Nat) + (↑no : Int).toNat * (5 : Nat) + (3 : Nat)) H rfl hel2 rfl (by first | rfl | omega) (by kernel_rfl) ?_
    refine s_if (b := decide (rep < (0 : Int))) (by kernel_rfl) (fun ht1 => ?_) (fun hf1 => ?_)
    · have p1 := of_decide_eq_true ht1
      refine y_load 0 (o := 0) H rfl rfl (by kernel_rfl) ?_
      refine x_add (t := 3) (a := now) (b := id) ((now) + (id)) (w64' (by omega) (by omega) rfl) (by kernel_rfl) ?_
      refine y_elStore 1 (i := no) (j := 3) (o := (0 : Nat) + (↑no : Int).toNat * (5 : Nat) + (3 : Nat)) (u := Value.int IntKind.i64 (now + id)) (c' := [Value.bool true, Value.string body, Value.int IntKind.i64 ask, Value.int IntKind.i64 (now + id), Value.bool fresh]) H rfl hel2 (by decide) (by first | rfl | omega) (by kernel_rfl) (by kernel_rfl) rfl rfl (fun w2 H hE1 => ?_)
      simp only [List.set_cons_zero, List.set_cons_succ] at H
      try simp only [List.set_set] at H hE1
      refine s_done (v := Value.tuple (#[])) (by kernel_rfl) ?_
      first | exact ⟨_, ⟨rfl, rfl⟩, shutMem H rfl (modify_enc hel (by simp [askI, encI, *]))⟩ | exact ⟨_, ⟨rfl, rfl⟩, shutMem H rfl (by rw [modify_none hel (by simp [askI, *])])⟩
    · have p1 := of_decide_eq_false hf1
      refine s_done (v := Value.tuple (#[])) (by kernel_rfl) ?_
      first | exact ⟨_, ⟨rfl, rfl⟩, shutMem H rfl (modify_enc hel (by simp [askI, encI, *]))⟩ | exact ⟨_, ⟨rfl, rfl⟩, shutMem H rfl (by rw [modify_none hel (by simp [askI, *])])⟩

theorem openKnown {w : World} {F : Fm} {b no : Nat} {m : MemV ByteArray} {now : Int} {M : List Assn} (H : Own w F (MemA b (knows ⟨#[]⟩ m ((no + 1 : Nat) : Int) now) :: M)) :
    ∃ g cap items x, (knows ⟨#[]⟩ m ((no + 1 : Nat) : Int) now).items = items ∧ items[no]? = some x ∧ no < items.length ∧ items.length ≤ cap ∧
      Own w F (pt b #[.int .i64 m.id, .slice (some ⟨g, 0, none⟩) items.length cap, .int .i64 m.read, .int .i64 m.hello, .int .i64 m.now] 53 :: rows (.slice (some ⟨g, 0, none⟩) items.length cap) 55 5 (items.map encI) :: M) := by
  have hlen : no < (knows ⟨#[]⟩ m ((no + 1 : Nat) : Int) now).items.length := by have := knows_len ⟨#[]⟩ m ((no + 1 : Nat) : Int) now; omega
  obtain ⟨g, cap, hc, H⟩ := openMemN H (by omega)
  exact ⟨g, cap, _, _, rfl, List.getElem?_eq_getElem hlen, hlen, hc, H⟩

theorem shutGot {w : World} {F : Fm} {b no g cap : Nat} {id read hello now : Int} {items items2 : List (ItemV ByteArray)} {M : List Assn} {there2 : Bool} {body body2 : ByteArray} {ask2 rep2 : Int} {fresh2 : Bool} {c : List Value}
    (hit : (knows ⟨#[]⟩ (⟨id, items, read, hello, now⟩ : MemV ByteArray) ((no + 1 : Nat) : Int) now).items = items2) (hel : items2[no]? = some ⟨there2, body2, ask2, rep2, fresh2⟩)
    (H : Own w F (pt b #[.int .i64 id, .slice (some ⟨g, 0, none⟩) items2.length cap, .int .i64 read, .int .i64 hello, .int .i64 now] 53 :: rows (.slice (some ⟨g, 0, none⟩) items2.length cap) 55 5 ((items2.map encI).set no c) :: M))
    (hc : c = encI (gotI body ⟨there2, body2, ask2, rep2, fresh2⟩)) : Own w F (MemA b (gotM ⟨#[]⟩ ⟨id, items, read, hello, now⟩ no body now) :: M) := by
  subst hit
  exact shutMem H rfl (modify_enc hel hc.symm)

/-- In: its answer and the member behind it. -/
def inV (m : MemV ByteArray) (n : NoteV ByteArray) (now : Int) : Int × MemV ByteArray :=
  if badN n = true then (3, m)
  else if now < m.now then (13, m)
  else if m.id = 0 ∧ beyondV m n = true then (10, m)
  else (0, inCore ⟨#[]⟩ m n now)

attribute [local irreducible] inV inCore knows asked gotM badN beyondV Ret in
set_option maxHeartbeats 0 in
theorem in_ret (m : MemV ByteArray) (n : NoteV ByteArray) (now : Int) (b : Nat) (F : Fm) (w : World) (H : Own w F [MemA b m]) (hl : m.items.length ≤ 64) (h0 : 0 ≤ now) (h1 : now ≤ 1000000000) (h2 : 0 ≤ m.id) (h3 : m.id < 16) :
    Ret Try.prog 15 #[.pointer (some ⟨b, 0, none⟩), .agg (encN n).toArray, .int .i64 now] w (Post F fun v L' => v = .int .i64 (inV m n now).1 ∧ L' = [MemA b (inV m n now).2]) := by
  refine ret_of_G Try.func15 rfl rfl ?_
  have t1 : decide (now < 0) = false := decide_eq_false (by omega)
  have t2 : decide (now > 1000000000) = false := decide_eq_false (by omega)
  obtain ⟨kind, src, no, body⟩ := n
  refine y_new (c := #[Value.int IntKind.i64 kind, Value.int IntKind.i64 src, Value.int IntKind.i64 no, Value.string body]) (T := 44) H (by kernel_rfl) (by kernel_rfl) (fun w1 b1 H => ?_)
  refine s_ifF (by kernel_rfl) t1 ?_
  refine s_ifF (by kernel_rfl) t2 ?_
  refine y_load 0 (o := 0) H rfl rfl (by kernel_rfl) ?_
  refine y_load 0 (o := 1) H rfl rfl (by kernel_rfl) ?_
  refine y_load 0 (o := 2) H rfl rfl (by kernel_rfl) ?_
  refine y_load 0 (o := 3) H rfl rfl (by kernel_rfl) ?_
  refine y_call (f := 18) (args := #[Value.agg (#[Value.int IntKind.i64 kind, Value.int IntKind.i64 src, Value.int IntKind.i64 no, Value.string body])]) [] (M := [pt b1 #[Value.int IntKind.i64 kind, Value.int IntKind.i64 src, Value.int IntKind.i64 no, Value.string body] 44, MemA b m]) H rfl rfl rfl (by kernel_rfl) (by kernel_rfl) (by kernel_rfl) (fun F' hF H' => badNote_ret ⟨kind, src, no, body⟩ F' _ H') ?_
  rintro v w2 L' ⟨rfl, rfl⟩ H
  simp only [List.cons_append, List.nil_append] at H
  -- test badN (NoteV.mk kind src no body)
  refine s_if (b := badN ⟨kind, src, no, body⟩) (by kernel_rfl) (fun ht => ?_) (fun hf => ?_)
  · 
    -- stop: Req.done (Value.int IntKind.i64 (3 : Int))
    exact s_done (by kernel_rfl) ⟨_, ⟨by rw [inV, if_pos ht], rfl⟩, by rw [inV, if_pos ht]; exact H.drop1⟩
  obtain ⟨id, items, read, hello, now'⟩ := m
  have hg : 1 ≤ kind ∧ kind ≤ 3 ∧ 0 ≤ no ∧ no ≤ 64 ∧ (kind ≠ 3 → no ≤ 63) := by
    simp only [badN, Bool.or_eq_false_iff, decide_eq_false_iff_not] at hf
    have := hf.1.1
    refine ⟨by omega, by omega, by omega, ?_, ?_⟩
    · by_cases hk : kind = 3 <;> simp [hk] at this <;> omega
    · intro hk; simp [hk] at this; omega
  obtain ⟨g1, g2, g3, g4, g5⟩ := hg
  obtain ⟨no, rfl⟩ : ∃ k : Nat, no = k := ⟨no.toNat, by omega⟩
  have g4 : no ≤ 64 := by omega
  have h2 : 0 ≤ id := h2
  have h3 : id < 16 := h3
  have hl : items.length ≤ 64 := hl
  obtain ⟨a, cap, hcap, H⟩ := openMem (H.pick [1, 0] rfl)
  simp only [memC] at H
  have e0 : inV ⟨id, items, read, hello, now'⟩ ⟨kind, src, no, body⟩ now = if now < now' then (13, ⟨id, items, read, hello, now'⟩) else if id = 0 ∧ beyondV ⟨id, items, read, hello, now'⟩ ⟨kind, src, no, body⟩ = true then (10, ⟨id, items, read, hello, now'⟩) else (0, inCore ⟨#[]⟩ ⟨id, items, read, hello, now'⟩ ⟨kind, src, no, body⟩ now) := by unfold inV; rw [if_neg (by rw [hf]; simp)]
  clear hf
  have e1 : ¬ now < now' → ¬ (id = 0 ∧ beyondV ⟨id, items, read, hello, now'⟩ ⟨kind, src, no, body⟩ = true) → inV ⟨id, items, read, hello, now'⟩ ⟨kind, src, no, body⟩ now = (0, inCore ⟨#[]⟩ ⟨id, items, read, hello, now'⟩ ⟨kind, src, no, body⟩ now) := fun a b => by rw [e0, if_neg a, if_neg b]
  have nb : id ≠ 0 ∨ beyondV ⟨id, items, read, hello, now'⟩ ⟨kind, src, no, body⟩ = false → ¬ (id = 0 ∧ beyondV ⟨id, items, read, hello, now'⟩ ⟨kind, src, no, body⟩ = true) := fun h k => by
    rcases h with h | h
    · exact h k.1
    · rw [h] at k; cases k.2
  refine y_load 0 (o := 4) H rfl rfl (by kernel_rfl) ?_
  refine s_if (b := decide (now < now')) (by kernel_rfl) (fun ht1 => ?_) (fun hf1 => ?_)
  · have p1 := of_decide_eq_true ht1
    refine s_done (v := Value.int IntKind.i64 (13 : Int)) (by kernel_rfl) ?_
    first
          | exact ⟨_, ⟨by rw [e0, if_pos (by assumption)], by rw [e0, if_pos (by assumption)]⟩, (shutMem (m := ⟨id, items, read, hello, now'⟩) H rfl rfl).only1⟩
          | exact ⟨_, ⟨by rw [e0, if_neg (by assumption), if_pos ⟨by assumption, by assumption⟩], by rw [e0, if_neg (by assumption), if_pos ⟨by assumption, by assumption⟩]⟩, (shutMem (m := ⟨id, items, read, hello, now'⟩) H rfl rfl).only1⟩
          | exact ⟨_, ⟨by rw [e1 (by assumption) (nb (by first | (left; assumption) | (right; assumption)))], by rw [e1 (by assumption) (nb (by first | (left; assumption) | (right; assumption)))]; simp only [inCore]; rw [if_pos (by assumption)]⟩, (shutMem (m := ⟨id, items, read, hello, now⟩) H rfl rfl).only1⟩
          | exact ⟨_, ⟨by rw [e1 (by assumption) (nb (by first | (left; assumption) | (right; assumption)))], by rw [e1 (by assumption) (nb (by first | (left; assumption) | (right; assumption)))]; simp only [inCore]; rw [if_neg (by assumption), if_pos (by assumption)]⟩, H.only1⟩
          | exact ⟨_, ⟨by rw [e1 (by assumption) (nb (by first | (left; assumption) | (right; assumption)))], by rw [e1 (by assumption) (nb (by first | (left; assumption) | (right; assumption)))]; simp only [inCore]; rw [if_neg (by assumption), if_neg (by assumption), if_neg (by assumption)]; simp only [Int.toNat_natCast]⟩, H.only1⟩
          | exact ⟨_, ⟨by rw [e1 (by assumption) (nb (by first | (left; assumption) | (right; assumption)))], by rw [e1 (by assumption) (nb (by first | (left; assumption) | (right; assumption)))]; simp only [inCore]; rw [if_neg (by assumption), if_neg (by assumption), if_pos (by assumption)]; simp only [Int.toNat_natCast]⟩, (shutGot (body := body) hit hel H (by simp [gotI, encI, *])).only1⟩
          | (exfalso; omega)
  · have p1 := of_decide_eq_false hf1
    refine y_load 0 (o := 0) H rfl rfl (by kernel_rfl) ?_
    refine s_if (b := id == (0 : Int)) (by kernel_rfl) (fun ht2 => ?_) (fun hf2 => ?_)
    · have p2 := eq_of_beq ht2
      refine y_load 2 (o := 0) H rfl rfl (by kernel_rfl) ?_
      refine y_load 2 (o := 1) H rfl rfl (by kernel_rfl) ?_
      refine y_load 2 (o := 2) H rfl rfl (by kernel_rfl) ?_
      refine y_load 2 (o := 3) H rfl rfl (by kernel_rfl) ?_
      replace H := shutMem (m := ⟨id, items, read, hello, now'⟩) H rfl rfl
      refine y_call (f := 19) (args := #[Value.pointer (some (Addr.mk b (0 : Nat) none)), Value.agg (#[Value.int IntKind.i64 kind, Value.int IntKind.i64 src, Value.int IntKind.i64 (↑no : Int), Value.string body])]) [0] (M := [pt b1 #[Value.int IntKind.i64 kind, Value.int IntKind.i64 src, Value.int IntKind.i64 (↑no : Int), Value.string body] 44]) H rfl rfl rfl (by kernel_rfl) (by kernel_rfl) (by kernel_rfl) (fun F' hF H' => beyond_ret ⟨id, items, read, hello, now'⟩ ⟨kind, src, no, body⟩ b F' _ H') ?_
      rintro v w3 L' ⟨rfl, rfl⟩ H
      simp only [List.cons_append, List.nil_append] at H
      obtain ⟨a, cap, hcap, H⟩ := openMem H
      simp only [memC] at H
      refine s_if (b := beyondV (MemV.mk id items read hello now') (NoteV.mk kind src (↑no : Int) body)) (by kernel_rfl) (fun ht3 => ?_) (fun hf3 => ?_)
      · refine s_done (v := Value.int IntKind.i64 (10 : Int)) (by kernel_rfl) ?_
        first
              | exact ⟨_, ⟨by rw [e0, if_pos (by assumption)], by rw [e0, if_pos (by assumption)]⟩, (shutMem (m := ⟨id, items, read, hello, now'⟩) H rfl rfl).only1⟩
              | exact ⟨_, ⟨by rw [e0, if_neg (by assumption), if_pos ⟨by assumption, by assumption⟩], by rw [e0, if_neg (by assumption), if_pos ⟨by assumption, by assumption⟩]⟩, (shutMem (m := ⟨id, items, read, hello, now'⟩) H rfl rfl).only1⟩
              | exact ⟨_, ⟨by rw [e1 (by assumption) (nb (by first | (left; assumption) | (right; assumption)))], by rw [e1 (by assumption) (nb (by first | (left; assumption) | (right; assumption)))]; simp only [inCore]; rw [if_pos (by assumption)]⟩, (shutMem (m := ⟨id, items, read, hello, now⟩) H rfl rfl).only1⟩
              | exact ⟨_, ⟨by rw [e1 (by assumption) (nb (by first | (left; assumption) | (right; assumption)))], by rw [e1 (by assumption) (nb (by first | (left; assumption) | (right; assumption)))]; simp only [inCore]; rw [if_neg (by assumption), if_pos (by assumption)]⟩, H.only1⟩
              | exact ⟨_, ⟨by rw [e1 (by assumption) (nb (by first | (left; assumption) | (right; assumption)))], by rw [e1 (by assumption) (nb (by first | (left; assumption) | (right; assumption)))]; simp only [inCore]; rw [if_neg (by assumption), if_neg (by assumption), if_neg (by assumption)]; simp only [Int.toNat_natCast]⟩, H.only1⟩
              | exact ⟨_, ⟨by rw [e1 (by assumption) (nb (by first | (left; assumption) | (right; assumption)))], by rw [e1 (by assumption) (nb (by first | (left; assumption) | (right; assumption)))]; simp only [inCore]; rw [if_neg (by assumption), if_neg (by assumption), if_pos (by assumption)]; simp only [Int.toNat_natCast]⟩, (shutGot (body := body) hit hel H (by simp [gotI, encI, *])).only1⟩
              | (exfalso; omega)
      · refine y_store 0 (o := 4) (v := Value.int IntKind.i64 now) (c' := #[Value.int IntKind.i64 id, Value.slice a items.length cap, Value.int IntKind.i64 read, Value.int IntKind.i64 hello, Value.int IntKind.i64 now]) H rfl (by kernel_rfl) (by kernel_rfl) (by kernel_rfl) rfl (by kernel_rfl) (fun w4 H => ?_)
        simp only [List.set_cons_zero, List.set_cons_succ] at H
        refine s_draw (10 : Nat) 7 (by kernel_rfl) (by kernel_rfl) (by kernel_rfl) ?_
        replace H := Own.drew H
        refine y_load 2 (o := 1) H rfl rfl (by kernel_rfl) ?_
        refine y_load 0 (o := 0) H rfl rfl (by kernel_rfl) ?_
        refine s_if (b := src == id) (by kernel_rfl) (fun ht4 => ?_) (fun hf4 => ?_)
        · have p4 := eq_of_beq ht4
          refine s_done (v := Value.int IntKind.i64 (0 : Int)) (by kernel_rfl) ?_
          first
                | exact ⟨_, ⟨by rw [e0, if_pos (by assumption)], by rw [e0, if_pos (by assumption)]⟩, (shutMem (m := ⟨id, items, read, hello, now'⟩) H rfl rfl).only1⟩
                | exact ⟨_, ⟨by rw [e0, if_neg (by assumption), if_pos ⟨by assumption, by assumption⟩], by rw [e0, if_neg (by assumption), if_pos ⟨by assumption, by assumption⟩]⟩, (shutMem (m := ⟨id, items, read, hello, now'⟩) H rfl rfl).only1⟩
                | exact ⟨_, ⟨by rw [e1 (by assumption) (nb (by first | (left; assumption) | (right; assumption)))], by rw [e1 (by assumption) (nb (by first | (left; assumption) | (right; assumption)))]; simp only [inCore]; rw [if_pos (by assumption)]⟩, (shutMem (m := ⟨id, items, read, hello, now⟩) H rfl rfl).only1⟩
                | exact ⟨_, ⟨by rw [e1 (by assumption) (nb (by first | (left; assumption) | (right; assumption)))], by rw [e1 (by assumption) (nb (by first | (left; assumption) | (right; assumption)))]; simp only [inCore]; rw [if_neg (by assumption), if_pos (by assumption)]⟩, H.only1⟩
                | exact ⟨_, ⟨by rw [e1 (by assumption) (nb (by first | (left; assumption) | (right; assumption)))], by rw [e1 (by assumption) (nb (by first | (left; assumption) | (right; assumption)))]; simp only [inCore]; rw [if_neg (by assumption), if_neg (by assumption), if_neg (by assumption)]; simp only [Int.toNat_natCast]⟩, H.only1⟩
                | exact ⟨_, ⟨by rw [e1 (by assumption) (nb (by first | (left; assumption) | (right; assumption)))], by rw [e1 (by assumption) (nb (by first | (left; assumption) | (right; assumption)))]; simp only [inCore]; rw [if_neg (by assumption), if_neg (by assumption), if_pos (by assumption)]; simp only [Int.toNat_natCast]⟩, (shutGot (body := body) hit hel H (by simp [gotI, encI, *])).only1⟩
                | (exfalso; omega)
        · have p4 := ne_of_beq_false hf4
          refine y_load 2 (o := 0) H rfl rfl (by kernel_rfl) ?_
          refine s_if (b := kind == (3 : Int)) (by kernel_rfl) (fun ht5 => ?_) (fun hf5 => ?_)
          · have p5 := eq_of_beq ht5
            refine y_load 2 (o := 2) H rfl rfl (by kernel_rfl) ?_
            replace H := shutMem (m := ⟨id, items, read, hello, now⟩) H rfl rfl
            refine y_call (f := 20) (args := #[Value.pointer (some (Addr.mk b (0 : Nat) none)), Value.int IntKind.i64 (↑no : Int), Value.int IntKind.i64 now]) [0] (M := [pt b1 #[Value.int IntKind.i64 kind, Value.int IntKind.i64 src, Value.int IntKind.i64 (↑no : Int), Value.string body] 44]) H rfl rfl rfl (by kernel_rfl) (by kernel_rfl) (by kernel_rfl) (fun F' hF H' => knows_ret ⟨id, items, read, hello, now⟩ no now b F' _ H' (by omega) hl) ?_
            rintro v w5 L' ⟨rfl, rfl⟩ H
            simp only [List.cons_append, List.nil_append] at H
            refine s_done (v := Value.int IntKind.i64 (0 : Int)) (by kernel_rfl) ?_
            first
                  | exact ⟨_, ⟨by rw [e0, if_pos (by assumption)], by rw [e0, if_pos (by assumption)]⟩, (shutMem (m := ⟨id, items, read, hello, now'⟩) H rfl rfl).only1⟩
                  | exact ⟨_, ⟨by rw [e0, if_neg (by assumption), if_pos ⟨by assumption, by assumption⟩], by rw [e0, if_neg (by assumption), if_pos ⟨by assumption, by assumption⟩]⟩, (shutMem (m := ⟨id, items, read, hello, now'⟩) H rfl rfl).only1⟩
                  | exact ⟨_, ⟨by rw [e1 (by assumption) (nb (by first | (left; assumption) | (right; assumption)))], by rw [e1 (by assumption) (nb (by first | (left; assumption) | (right; assumption)))]; simp only [inCore]; rw [if_pos (by assumption)]⟩, (shutMem (m := ⟨id, items, read, hello, now⟩) H rfl rfl).only1⟩
                  | exact ⟨_, ⟨by rw [e1 (by assumption) (nb (by first | (left; assumption) | (right; assumption)))], by rw [e1 (by assumption) (nb (by first | (left; assumption) | (right; assumption)))]; simp only [inCore]; rw [if_neg (by assumption), if_pos (by assumption)]⟩, H.only1⟩
                  | exact ⟨_, ⟨by rw [e1 (by assumption) (nb (by first | (left; assumption) | (right; assumption)))], by rw [e1 (by assumption) (nb (by first | (left; assumption) | (right; assumption)))]; simp only [inCore]; rw [if_neg (by assumption), if_neg (by assumption), if_neg (by assumption)]; simp only [Int.toNat_natCast]⟩, H.only1⟩
                  | exact ⟨_, ⟨by rw [e1 (by assumption) (nb (by first | (left; assumption) | (right; assumption)))], by rw [e1 (by assumption) (nb (by first | (left; assumption) | (right; assumption)))]; simp only [inCore]; rw [if_neg (by assumption), if_neg (by assumption), if_pos (by assumption)]; simp only [Int.toNat_natCast]⟩, (shutGot (body := body) hit hel H (by simp [gotI, encI, *])).only1⟩
                  | (exfalso; omega)
          · have p5 := ne_of_beq_false hf5
            refine s_if (b := kind == (1 : Int)) (by kernel_rfl) (fun ht6 => ?_) (fun hf6 => ?_)
            · have p6 := eq_of_beq ht6
              refine y_load 2 (o := 2) H rfl rfl (by kernel_rfl) ?_
              refine x_add (t := 3) (a := (↑no : Int)) (b := (1 : Int)) (((no) + ((1 : Nat)) : Nat) : Int) (w64' (by omega) (by omega) (by omega)) (by kernel_rfl) ?_
              replace H := shutMem (m := ⟨id, items, read, hello, now⟩) H rfl rfl
              refine y_call (f := 20) (args := #[Value.pointer (some (Addr.mk b (0 : Nat) none)), Value.int IntKind.i64 (↑(no + (1 : Nat)) : Int), Value.int IntKind.i64 now]) [0] (M := [pt b1 #[Value.int IntKind.i64 kind, Value.int IntKind.i64 src, Value.int IntKind.i64 (↑no : Int), Value.string body] 44]) H rfl rfl rfl (by kernel_rfl) (by kernel_rfl) (by kernel_rfl) (fun F' hF H' => knows_ret ⟨id, items, read, hello, now⟩ ((no + 1 : Nat) : Int) now b F' _ H' (by have := g5 (by assumption); omega) hl) ?_
              rintro v w5 L' ⟨rfl, rfl⟩ H
              simp only [List.cons_append, List.nil_append] at H
              obtain ⟨g, cap2, items2, ⟨there2, body2, ask2, rep2, fresh2⟩, hit, hel, hlen2, hcap2, H⟩ := openKnown H
              have hel2 : (items2.map encI)[no]? = some [.bool there2, .string body2, .int .i64 ask2, .int .i64 rep2, .bool fresh2] := enc_at hel
              simp only at H
              refine s_draw (17 : Nat) 8 (by kernel_rfl) (by kernel_rfl) (by kernel_rfl) ?_
              replace H := Own.drew H
              refine y_load 0 (o := 1) H rfl rfl (by kernel_rfl) ?_
              refine y_load 2 (o := 2) H rfl rfl (by kernel_rfl) ?_
              refine y_idx (t := 51) (b := g) (o := (0 : Nat)) (n := items2.length) (c := cap2) (kd := IntKind.i64) (i := (↑no : Int)) 5 (by kernel_rfl) (by omega) (by omega) (by kernel_rfl) ?_
              refine y_elLoad 1 (i := no) (j := 0) (o := (0 : Nat) + (↑no : Int).toNat * (5 : Nat)) H rfl hel2 rfl (by first | rfl | omega) (by kernel_rfl) ?_
              refine s_if (b := !there2) (by kernel_rfl) (fun ht7 => ?_) (fun hf7 => ?_)
              · have p7 : (there2) = false := by simpa using ht7
                replace H := Own.drew H
                have hne1_0 := Own.neRow 1 0 H rfl rfl rfl
                have hne1_2 := Own.neRow 1 2 H rfl rfl rfl
                refine s_drawH [(g, (0 : Nat) + (↑no : Int).toNat * (5 : Nat)), (g, (0 : Nat) + (↑no : Int).toNat * (5 : Nat) + (1 : Nat))] (19 : Nat) [0, 1, 2, 3, 4, 5] [6, 7, 8, 9] (by kernel_rfl) (by kernel_rfl) ⟨Own.elCellS 0 1 (i := no) H rfl hel2 rfl (by first | rfl | omega), Own.elCellS 1 1 (i := no) H rfl hel2 rfl (by first | rfl | omega), trivial⟩ (by kernel_rfl) ?_
                refine h_load (b := b1) (o := 3) (Own.cell 2 H rfl rfl) (by intro hm; simp only [List.mem_cons, List.not_mem_nil, Prod.mk.injEq, or_false] at hm <;> omega) (by kernel_rfl) (by kernel_rfl) ?_
                refine q_endH [(Value.pointer (some (Addr.mk g ((0 : Nat) + (↑no : Int).toNat * (5 : Nat)) none)), Value.bool true), (Value.pointer (some (Addr.mk g ((0 : Nat) + (↑no : Int).toNat * (5 : Nat) + (1 : Nat)) none)), Value.string body)] (by kernel_rfl) (by kernel_rfl) ⟨inD1 rfl (by simp), inD1 rfl (by simp), trivial⟩ ?_
                refine y_elStore 1 (i := no) (j := 0) (o := (0 : Nat) + (↑no : Int).toNat * (5 : Nat)) (u := Value.bool true) (c' := [Value.bool true, Value.string body2, Value.int IntKind.i64 ask2, Value.int IntKind.i64 rep2, Value.bool fresh2]) H rfl hel2 (by decide) (by first | rfl | omega) (by kernel_rfl) (by kernel_rfl) rfl rfl (fun w6 H hE1 => ?_)
                simp only [List.set_cons_zero, List.set_cons_succ] at H
                try simp only [List.set_set] at H hE1
                refine y_elStore 1 (i := no) (j := 1) (o := (0 : Nat) + (↑no : Int).toNat * (5 : Nat) + (1 : Nat)) (u := Value.string body) (c' := [Value.bool true, Value.string body, Value.int IntKind.i64 ask2, Value.int IntKind.i64 rep2, Value.bool fresh2]) H rfl hE1 (by decide) (by first | rfl | omega) (by kernel_rfl) (by kernel_rfl) rfl rfl (fun w7 H hE2 => ?_)
                simp only [List.set_cons_zero, List.set_cons_succ] at H
                try simp only [List.set_set] at H hE2
                refine y_elStore 1 (i := no) (j := 3) (o := (0 : Nat) + (↑no : Int).toNat * (5 : Nat) + (3 : Nat)) (u := Value.int IntKind.i64 (-1 : Int)) (c' := [Value.bool true, Value.string body, Value.int IntKind.i64 ask2, Value.int IntKind.i64 (-1 : Int), Value.bool fresh2]) H rfl hE2 (by decide) (by first | rfl | omega) (by kernel_rfl) (by kernel_rfl) rfl rfl (fun w8 H hE3 => ?_)
                simp only [List.set_cons_zero, List.set_cons_succ] at H
                try simp only [List.set_set] at H hE3
                refine s_done (v := Value.int IntKind.i64 (0 : Int)) (by kernel_rfl) ?_
                first
                      | exact ⟨_, ⟨by rw [e0, if_pos (by assumption)], by rw [e0, if_pos (by assumption)]⟩, (shutMem (m := ⟨id, items, read, hello, now'⟩) H rfl rfl).only1⟩
                      | exact ⟨_, ⟨by rw [e0, if_neg (by assumption), if_pos ⟨by assumption, by assumption⟩], by rw [e0, if_neg (by assumption), if_pos ⟨by assumption, by assumption⟩]⟩, (shutMem (m := ⟨id, items, read, hello, now'⟩) H rfl rfl).only1⟩
                      | exact ⟨_, ⟨by rw [e1 (by assumption) (nb (by first | (left; assumption) | (right; assumption)))], by rw [e1 (by assumption) (nb (by first | (left; assumption) | (right; assumption)))]; simp only [inCore]; rw [if_pos (by assumption)]⟩, (shutMem (m := ⟨id, items, read, hello, now⟩) H rfl rfl).only1⟩
                      | exact ⟨_, ⟨by rw [e1 (by assumption) (nb (by first | (left; assumption) | (right; assumption)))], by rw [e1 (by assumption) (nb (by first | (left; assumption) | (right; assumption)))]; simp only [inCore]; rw [if_neg (by assumption), if_pos (by assumption)]⟩, H.only1⟩
                      | exact ⟨_, ⟨by rw [e1 (by assumption) (nb (by first | (left; assumption) | (right; assumption)))], by rw [e1 (by assumption) (nb (by first | (left; assumption) | (right; assumption)))]; simp only [inCore]; rw [if_neg (by assumption), if_neg (by assumption), if_neg (by assumption)]; simp only [Int.toNat_natCast]⟩, H.only1⟩
                      | exact ⟨_, ⟨by rw [e1 (by assumption) (nb (by first | (left; assumption) | (right; assumption)))], by rw [e1 (by assumption) (nb (by first | (left; assumption) | (right; assumption)))]; simp only [inCore]; rw [if_neg (by assumption), if_neg (by assumption), if_pos (by assumption)]; simp only [Int.toNat_natCast]⟩, (shutGot (body := body) hit hel H (by simp [gotI, encI, *])).only1⟩
                      | (exfalso; omega)
              · have p7 : (there2) = true := by simpa using hf7
                refine y_elStore 1 (i := no) (j := 3) (o := (0 : Nat) + (↑no : Int).toNat * (5 : Nat) + (3 : Nat)) (u := Value.int IntKind.i64 (-1 : Int)) (c' := [Value.bool there2, Value.string body2, Value.int IntKind.i64 ask2, Value.int IntKind.i64 (-1 : Int), Value.bool fresh2]) H rfl hel2 (by decide) (by first | rfl | omega) (by kernel_rfl) (by kernel_rfl) rfl rfl (fun w6 H hE1 => ?_)
                simp only [List.set_cons_zero, List.set_cons_succ] at H
                try simp only [List.set_set] at H hE1
                refine s_done (v := Value.int IntKind.i64 (0 : Int)) (by kernel_rfl) ?_
                first
                      | exact ⟨_, ⟨by rw [e0, if_pos (by assumption)], by rw [e0, if_pos (by assumption)]⟩, (shutMem (m := ⟨id, items, read, hello, now'⟩) H rfl rfl).only1⟩
                      | exact ⟨_, ⟨by rw [e0, if_neg (by assumption), if_pos ⟨by assumption, by assumption⟩], by rw [e0, if_neg (by assumption), if_pos ⟨by assumption, by assumption⟩]⟩, (shutMem (m := ⟨id, items, read, hello, now'⟩) H rfl rfl).only1⟩
                      | exact ⟨_, ⟨by rw [e1 (by assumption) (nb (by first | (left; assumption) | (right; assumption)))], by rw [e1 (by assumption) (nb (by first | (left; assumption) | (right; assumption)))]; simp only [inCore]; rw [if_pos (by assumption)]⟩, (shutMem (m := ⟨id, items, read, hello, now⟩) H rfl rfl).only1⟩
                      | exact ⟨_, ⟨by rw [e1 (by assumption) (nb (by first | (left; assumption) | (right; assumption)))], by rw [e1 (by assumption) (nb (by first | (left; assumption) | (right; assumption)))]; simp only [inCore]; rw [if_neg (by assumption), if_pos (by assumption)]⟩, H.only1⟩
                      | exact ⟨_, ⟨by rw [e1 (by assumption) (nb (by first | (left; assumption) | (right; assumption)))], by rw [e1 (by assumption) (nb (by first | (left; assumption) | (right; assumption)))]; simp only [inCore]; rw [if_neg (by assumption), if_neg (by assumption), if_neg (by assumption)]; simp only [Int.toNat_natCast]⟩, H.only1⟩
                      | exact ⟨_, ⟨by rw [e1 (by assumption) (nb (by first | (left; assumption) | (right; assumption)))], by rw [e1 (by assumption) (nb (by first | (left; assumption) | (right; assumption)))]; simp only [inCore]; rw [if_neg (by assumption), if_neg (by assumption), if_pos (by assumption)]; simp only [Int.toNat_natCast]⟩, (shutGot (body := body) hit hel H (by simp [gotI, encI, *])).only1⟩
                      | (exfalso; omega)
            · have p6 := ne_of_beq_false hf6
              refine s_if (b := kind == (2 : Int)) (by kernel_rfl) (fun ht7 => ?_) (fun hf7 => ?_)
              · have p7 := eq_of_beq ht7
                refine y_load 2 (o := 2) H rfl rfl (by kernel_rfl) ?_
                replace H := shutMem (m := ⟨id, items, read, hello, now⟩) H rfl rfl
                refine y_call (f := 21) (args := #[Value.pointer (some (Addr.mk b (0 : Nat) none)), Value.int IntKind.i64 (↑no : Int), Value.int IntKind.i64 now]) [0] (M := [pt b1 #[Value.int IntKind.i64 kind, Value.int IntKind.i64 src, Value.int IntKind.i64 (↑no : Int), Value.string body] 44]) H rfl rfl rfl (by kernel_rfl) (by kernel_rfl) (by kernel_rfl) (fun F' hF H' => asked_ret ⟨id, items, read, hello, now⟩ no now b F' _ H' (by have := g5 (by assumption); omega) hl h0 h1 h2 h3) ?_
                rintro v w5 L' ⟨rfl, rfl⟩ H
                simp only [List.cons_append, List.nil_append] at H
                refine s_done (v := Value.int IntKind.i64 (0 : Int)) (by kernel_rfl) ?_
                first
                      | exact ⟨_, ⟨by rw [e0, if_pos (by assumption)], by rw [e0, if_pos (by assumption)]⟩, (shutMem (m := ⟨id, items, read, hello, now'⟩) H rfl rfl).only1⟩
                      | exact ⟨_, ⟨by rw [e0, if_neg (by assumption), if_pos ⟨by assumption, by assumption⟩], by rw [e0, if_neg (by assumption), if_pos ⟨by assumption, by assumption⟩]⟩, (shutMem (m := ⟨id, items, read, hello, now'⟩) H rfl rfl).only1⟩
                      | exact ⟨_, ⟨by rw [e1 (by assumption) (nb (by first | (left; assumption) | (right; assumption)))], by rw [e1 (by assumption) (nb (by first | (left; assumption) | (right; assumption)))]; simp only [inCore]; rw [if_pos (by assumption)]⟩, (shutMem (m := ⟨id, items, read, hello, now⟩) H rfl rfl).only1⟩
                      | exact ⟨_, ⟨by rw [e1 (by assumption) (nb (by first | (left; assumption) | (right; assumption)))], by rw [e1 (by assumption) (nb (by first | (left; assumption) | (right; assumption)))]; simp only [inCore]; rw [if_neg (by assumption), if_pos (by assumption)]⟩, H.only1⟩
                      | exact ⟨_, ⟨by rw [e1 (by assumption) (nb (by first | (left; assumption) | (right; assumption)))], by rw [e1 (by assumption) (nb (by first | (left; assumption) | (right; assumption)))]; simp only [inCore]; rw [if_neg (by assumption), if_neg (by assumption), if_neg (by assumption)]; simp only [Int.toNat_natCast]⟩, H.only1⟩
                      | exact ⟨_, ⟨by rw [e1 (by assumption) (nb (by first | (left; assumption) | (right; assumption)))], by rw [e1 (by assumption) (nb (by first | (left; assumption) | (right; assumption)))]; simp only [inCore]; rw [if_neg (by assumption), if_neg (by assumption), if_pos (by assumption)]; simp only [Int.toNat_natCast]⟩, (shutGot (body := body) hit hel H (by simp [gotI, encI, *])).only1⟩
                      | (exfalso; omega)
              · have p7 := ne_of_beq_false hf7
                (exfalso; omega)
    · have p2 := ne_of_beq_false hf2
      refine y_store 0 (o := 4) (v := Value.int IntKind.i64 now) (c' := #[Value.int IntKind.i64 id, Value.slice a items.length cap, Value.int IntKind.i64 read, Value.int IntKind.i64 hello, Value.int IntKind.i64 now]) H rfl (by kernel_rfl) (by kernel_rfl) (by kernel_rfl) rfl (by kernel_rfl) (fun w3 H => ?_)
      simp only [List.set_cons_zero, List.set_cons_succ] at H
      refine s_draw (10 : Nat) 7 (by kernel_rfl) (by kernel_rfl) (by kernel_rfl) ?_
      replace H := Own.drew H
      refine y_load 2 (o := 1) H rfl rfl (by kernel_rfl) ?_
      refine y_load 0 (o := 0) H rfl rfl (by kernel_rfl) ?_
      refine s_if (b := src == id) (by kernel_rfl) (fun ht3 => ?_) (fun hf3 => ?_)
      · have p3 := eq_of_beq ht3
        refine s_done (v := Value.int IntKind.i64 (0 : Int)) (by kernel_rfl) ?_
        first
              | exact ⟨_, ⟨by rw [e0, if_pos (by assumption)], by rw [e0, if_pos (by assumption)]⟩, (shutMem (m := ⟨id, items, read, hello, now'⟩) H rfl rfl).only1⟩
              | exact ⟨_, ⟨by rw [e0, if_neg (by assumption), if_pos ⟨by assumption, by assumption⟩], by rw [e0, if_neg (by assumption), if_pos ⟨by assumption, by assumption⟩]⟩, (shutMem (m := ⟨id, items, read, hello, now'⟩) H rfl rfl).only1⟩
              | exact ⟨_, ⟨by rw [e1 (by assumption) (nb (by first | (left; assumption) | (right; assumption)))], by rw [e1 (by assumption) (nb (by first | (left; assumption) | (right; assumption)))]; simp only [inCore]; rw [if_pos (by assumption)]⟩, (shutMem (m := ⟨id, items, read, hello, now⟩) H rfl rfl).only1⟩
              | exact ⟨_, ⟨by rw [e1 (by assumption) (nb (by first | (left; assumption) | (right; assumption)))], by rw [e1 (by assumption) (nb (by first | (left; assumption) | (right; assumption)))]; simp only [inCore]; rw [if_neg (by assumption), if_pos (by assumption)]⟩, H.only1⟩
              | exact ⟨_, ⟨by rw [e1 (by assumption) (nb (by first | (left; assumption) | (right; assumption)))], by rw [e1 (by assumption) (nb (by first | (left; assumption) | (right; assumption)))]; simp only [inCore]; rw [if_neg (by assumption), if_neg (by assumption), if_neg (by assumption)]; simp only [Int.toNat_natCast]⟩, H.only1⟩
              | exact ⟨_, ⟨by rw [e1 (by assumption) (nb (by first | (left; assumption) | (right; assumption)))], by rw [e1 (by assumption) (nb (by first | (left; assumption) | (right; assumption)))]; simp only [inCore]; rw [if_neg (by assumption), if_neg (by assumption), if_pos (by assumption)]; simp only [Int.toNat_natCast]⟩, (shutGot (body := body) hit hel H (by simp [gotI, encI, *])).only1⟩
              | (exfalso; omega)
      · have p3 := ne_of_beq_false hf3
        refine y_load 2 (o := 0) H rfl rfl (by kernel_rfl) ?_
        refine s_if (b := kind == (3 : Int)) (by kernel_rfl) (fun ht4 => ?_) (fun hf4 => ?_)
        · have p4 := eq_of_beq ht4
          refine y_load 2 (o := 2) H rfl rfl (by kernel_rfl) ?_
          replace H := shutMem (m := ⟨id, items, read, hello, now⟩) H rfl rfl
          refine y_call (f := 20) (args := #[Value.pointer (some (Addr.mk b (0 : Nat) none)), Value.int IntKind.i64 (↑no : Int), Value.int IntKind.i64 now]) [0] (M := [pt b1 #[Value.int IntKind.i64 kind, Value.int IntKind.i64 src, Value.int IntKind.i64 (↑no : Int), Value.string body] 44]) H rfl rfl rfl (by kernel_rfl) (by kernel_rfl) (by kernel_rfl) (fun F' hF H' => knows_ret ⟨id, items, read, hello, now⟩ no now b F' _ H' (by omega) hl) ?_
          rintro v w4 L' ⟨rfl, rfl⟩ H
          simp only [List.cons_append, List.nil_append] at H
          refine s_done (v := Value.int IntKind.i64 (0 : Int)) (by kernel_rfl) ?_
          first
                | exact ⟨_, ⟨by rw [e0, if_pos (by assumption)], by rw [e0, if_pos (by assumption)]⟩, (shutMem (m := ⟨id, items, read, hello, now'⟩) H rfl rfl).only1⟩
                | exact ⟨_, ⟨by rw [e0, if_neg (by assumption), if_pos ⟨by assumption, by assumption⟩], by rw [e0, if_neg (by assumption), if_pos ⟨by assumption, by assumption⟩]⟩, (shutMem (m := ⟨id, items, read, hello, now'⟩) H rfl rfl).only1⟩
                | exact ⟨_, ⟨by rw [e1 (by assumption) (nb (by first | (left; assumption) | (right; assumption)))], by rw [e1 (by assumption) (nb (by first | (left; assumption) | (right; assumption)))]; simp only [inCore]; rw [if_pos (by assumption)]⟩, (shutMem (m := ⟨id, items, read, hello, now⟩) H rfl rfl).only1⟩
                | exact ⟨_, ⟨by rw [e1 (by assumption) (nb (by first | (left; assumption) | (right; assumption)))], by rw [e1 (by assumption) (nb (by first | (left; assumption) | (right; assumption)))]; simp only [inCore]; rw [if_neg (by assumption), if_pos (by assumption)]⟩, H.only1⟩
                | exact ⟨_, ⟨by rw [e1 (by assumption) (nb (by first | (left; assumption) | (right; assumption)))], by rw [e1 (by assumption) (nb (by first | (left; assumption) | (right; assumption)))]; simp only [inCore]; rw [if_neg (by assumption), if_neg (by assumption), if_neg (by assumption)]; simp only [Int.toNat_natCast]⟩, H.only1⟩
                | exact ⟨_, ⟨by rw [e1 (by assumption) (nb (by first | (left; assumption) | (right; assumption)))], by rw [e1 (by assumption) (nb (by first | (left; assumption) | (right; assumption)))]; simp only [inCore]; rw [if_neg (by assumption), if_neg (by assumption), if_pos (by assumption)]; simp only [Int.toNat_natCast]⟩, (shutGot (body := body) hit hel H (by simp [gotI, encI, *])).only1⟩
                | (exfalso; omega)
        · have p4 := ne_of_beq_false hf4
          refine s_if (b := kind == (1 : Int)) (by kernel_rfl) (fun ht5 => ?_) (fun hf5 => ?_)
          · have p5 := eq_of_beq ht5
            refine y_load 2 (o := 2) H rfl rfl (by kernel_rfl) ?_
            refine x_add (t := 3) (a := (↑no : Int)) (b := (1 : Int)) (((no) + ((1 : Nat)) : Nat) : Int) (w64' (by omega) (by omega) (by omega)) (by kernel_rfl) ?_
            replace H := shutMem (m := ⟨id, items, read, hello, now⟩) H rfl rfl
            refine y_call (f := 20) (args := #[Value.pointer (some (Addr.mk b (0 : Nat) none)), Value.int IntKind.i64 (↑(no + (1 : Nat)) : Int), Value.int IntKind.i64 now]) [0] (M := [pt b1 #[Value.int IntKind.i64 kind, Value.int IntKind.i64 src, Value.int IntKind.i64 (↑no : Int), Value.string body] 44]) H rfl rfl rfl (by kernel_rfl) (by kernel_rfl) (by kernel_rfl) (fun F' hF H' => knows_ret ⟨id, items, read, hello, now⟩ ((no + 1 : Nat) : Int) now b F' _ H' (by have := g5 (by assumption); omega) hl) ?_
            rintro v w4 L' ⟨rfl, rfl⟩ H
            simp only [List.cons_append, List.nil_append] at H
            obtain ⟨g, cap2, items2, ⟨there2, body2, ask2, rep2, fresh2⟩, hit, hel, hlen2, hcap2, H⟩ := openKnown H
            have hel2 : (items2.map encI)[no]? = some [.bool there2, .string body2, .int .i64 ask2, .int .i64 rep2, .bool fresh2] := enc_at hel
            simp only at H
            refine s_draw (17 : Nat) 8 (by kernel_rfl) (by kernel_rfl) (by kernel_rfl) ?_
            replace H := Own.drew H
            refine y_load 0 (o := 1) H rfl rfl (by kernel_rfl) ?_
            refine y_load 2 (o := 2) H rfl rfl (by kernel_rfl) ?_
            refine y_idx (t := 51) (b := g) (o := (0 : Nat)) (n := items2.length) (c := cap2) (kd := IntKind.i64) (i := (↑no : Int)) 5 (by kernel_rfl) (by omega) (by omega) (by kernel_rfl) ?_
            refine y_elLoad 1 (i := no) (j := 0) (o := (0 : Nat) + (↑no : Int).toNat * (5 : Nat)) H rfl hel2 rfl (by first | rfl | omega) (by kernel_rfl) ?_
            refine s_if (b := !there2) (by kernel_rfl) (fun ht6 => ?_) (fun hf6 => ?_)
            · have p6 : (there2) = false := by simpa using ht6
              replace H := Own.drew H
              have hne1_0 := Own.neRow 1 0 H rfl rfl rfl
              have hne1_2 := Own.neRow 1 2 H rfl rfl rfl
              refine s_drawH [(g, (0 : Nat) + (↑no : Int).toNat * (5 : Nat)), (g, (0 : Nat) + (↑no : Int).toNat * (5 : Nat) + (1 : Nat))] (19 : Nat) [0, 1, 2, 3, 4, 5] [6, 7, 8, 9] (by kernel_rfl) (by kernel_rfl) ⟨Own.elCellS 0 1 (i := no) H rfl hel2 rfl (by first | rfl | omega), Own.elCellS 1 1 (i := no) H rfl hel2 rfl (by first | rfl | omega), trivial⟩ (by kernel_rfl) ?_
              refine h_load (b := b1) (o := 3) (Own.cell 2 H rfl rfl) (by intro hm; simp only [List.mem_cons, List.not_mem_nil, Prod.mk.injEq, or_false] at hm <;> omega) (by kernel_rfl) (by kernel_rfl) ?_
              refine q_endH [(Value.pointer (some (Addr.mk g ((0 : Nat) + (↑no : Int).toNat * (5 : Nat)) none)), Value.bool true), (Value.pointer (some (Addr.mk g ((0 : Nat) + (↑no : Int).toNat * (5 : Nat) + (1 : Nat)) none)), Value.string body)] (by kernel_rfl) (by kernel_rfl) ⟨inD1 rfl (by simp), inD1 rfl (by simp), trivial⟩ ?_
              refine y_elStore 1 (i := no) (j := 0) (o := (0 : Nat) + (↑no : Int).toNat * (5 : Nat)) (u := Value.bool true) (c' := [Value.bool true, Value.string body2, Value.int IntKind.i64 ask2, Value.int IntKind.i64 rep2, Value.bool fresh2]) H rfl hel2 (by decide) (by first | rfl | omega) (by kernel_rfl) (by kernel_rfl) rfl rfl (fun w5 H hE1 => ?_)
              simp only [List.set_cons_zero, List.set_cons_succ] at H
              try simp only [List.set_set] at H hE1
              refine y_elStore 1 (i := no) (j := 1) (o := (0 : Nat) + (↑no : Int).toNat * (5 : Nat) + (1 : Nat)) (u := Value.string body) (c' := [Value.bool true, Value.string body, Value.int IntKind.i64 ask2, Value.int IntKind.i64 rep2, Value.bool fresh2]) H rfl hE1 (by decide) (by first | rfl | omega) (by kernel_rfl) (by kernel_rfl) rfl rfl (fun w6 H hE2 => ?_)
              simp only [List.set_cons_zero, List.set_cons_succ] at H
              try simp only [List.set_set] at H hE2
              refine y_elStore 1 (i := no) (j := 3) (o := (0 : Nat) + (↑no : Int).toNat * (5 : Nat) + (3 : Nat)) (u := Value.int IntKind.i64 (-1 : Int)) (c' := [Value.bool true, Value.string body, Value.int IntKind.i64 ask2, Value.int IntKind.i64 (-1 : Int), Value.bool fresh2]) H rfl hE2 (by decide) (by first | rfl | omega) (by kernel_rfl) (by kernel_rfl) rfl rfl (fun w7 H hE3 => ?_)
              simp only [List.set_cons_zero, List.set_cons_succ] at H
              try simp only [List.set_set] at H hE3
              refine s_done (v := Value.int IntKind.i64 (0 : Int)) (by kernel_rfl) ?_
              first
                    | exact ⟨_, ⟨by rw [e0, if_pos (by assumption)], by rw [e0, if_pos (by assumption)]⟩, (shutMem (m := ⟨id, items, read, hello, now'⟩) H rfl rfl).only1⟩
                    | exact ⟨_, ⟨by rw [e0, if_neg (by assumption), if_pos ⟨by assumption, by assumption⟩], by rw [e0, if_neg (by assumption), if_pos ⟨by assumption, by assumption⟩]⟩, (shutMem (m := ⟨id, items, read, hello, now'⟩) H rfl rfl).only1⟩
                    | exact ⟨_, ⟨by rw [e1 (by assumption) (nb (by first | (left; assumption) | (right; assumption)))], by rw [e1 (by assumption) (nb (by first | (left; assumption) | (right; assumption)))]; simp only [inCore]; rw [if_pos (by assumption)]⟩, (shutMem (m := ⟨id, items, read, hello, now⟩) H rfl rfl).only1⟩
                    | exact ⟨_, ⟨by rw [e1 (by assumption) (nb (by first | (left; assumption) | (right; assumption)))], by rw [e1 (by assumption) (nb (by first | (left; assumption) | (right; assumption)))]; simp only [inCore]; rw [if_neg (by assumption), if_pos (by assumption)]⟩, H.only1⟩
                    | exact ⟨_, ⟨by rw [e1 (by assumption) (nb (by first | (left; assumption) | (right; assumption)))], by rw [e1 (by assumption) (nb (by first | (left; assumption) | (right; assumption)))]; simp only [inCore]; rw [if_neg (by assumption), if_neg (by assumption), if_neg (by assumption)]; simp only [Int.toNat_natCast]⟩, H.only1⟩
                    | exact ⟨_, ⟨by rw [e1 (by assumption) (nb (by first | (left; assumption) | (right; assumption)))], by rw [e1 (by assumption) (nb (by first | (left; assumption) | (right; assumption)))]; simp only [inCore]; rw [if_neg (by assumption), if_neg (by assumption), if_pos (by assumption)]; simp only [Int.toNat_natCast]⟩, (shutGot (body := body) hit hel H (by simp [gotI, encI, *])).only1⟩
                    | (exfalso; omega)
            · have p6 : (there2) = true := by simpa using hf6
              refine y_elStore 1 (i := no) (j := 3) (o := (0 : Nat) + (↑no : Int).toNat * (5 : Nat) + (3 : Nat)) (u := Value.int IntKind.i64 (-1 : Int)) (c' := [Value.bool there2, Value.string body2, Value.int IntKind.i64 ask2, Value.int IntKind.i64 (-1 : Int), Value.bool fresh2]) H rfl hel2 (by decide) (by first | rfl | omega) (by kernel_rfl) (by kernel_rfl) rfl rfl (fun w5 H hE1 => ?_)
              simp only [List.set_cons_zero, List.set_cons_succ] at H
              try simp only [List.set_set] at H hE1
              refine s_done (v := Value.int IntKind.i64 (0 : Int)) (by kernel_rfl) ?_
              first
                    | exact ⟨_, ⟨by rw [e0, if_pos (by assumption)], by rw [e0, if_pos (by assumption)]⟩, (shutMem (m := ⟨id, items, read, hello, now'⟩) H rfl rfl).only1⟩
                    | exact ⟨_, ⟨by rw [e0, if_neg (by assumption), if_pos ⟨by assumption, by assumption⟩], by rw [e0, if_neg (by assumption), if_pos ⟨by assumption, by assumption⟩]⟩, (shutMem (m := ⟨id, items, read, hello, now'⟩) H rfl rfl).only1⟩
                    | exact ⟨_, ⟨by rw [e1 (by assumption) (nb (by first | (left; assumption) | (right; assumption)))], by rw [e1 (by assumption) (nb (by first | (left; assumption) | (right; assumption)))]; simp only [inCore]; rw [if_pos (by assumption)]⟩, (shutMem (m := ⟨id, items, read, hello, now⟩) H rfl rfl).only1⟩
                    | exact ⟨_, ⟨by rw [e1 (by assumption) (nb (by first | (left; assumption) | (right; assumption)))], by rw [e1 (by assumption) (nb (by first | (left; assumption) | (right; assumption)))]; simp only [inCore]; rw [if_neg (by assumption), if_pos (by assumption)]⟩, H.only1⟩
                    | exact ⟨_, ⟨by rw [e1 (by assumption) (nb (by first | (left; assumption) | (right; assumption)))], by rw [e1 (by assumption) (nb (by first | (left; assumption) | (right; assumption)))]; simp only [inCore]; rw [if_neg (by assumption), if_neg (by assumption), if_neg (by assumption)]; simp only [Int.toNat_natCast]⟩, H.only1⟩
                    | exact ⟨_, ⟨by rw [e1 (by assumption) (nb (by first | (left; assumption) | (right; assumption)))], by rw [e1 (by assumption) (nb (by first | (left; assumption) | (right; assumption)))]; simp only [inCore]; rw [if_neg (by assumption), if_neg (by assumption), if_pos (by assumption)]; simp only [Int.toNat_natCast]⟩, (shutGot (body := body) hit hel H (by simp [gotI, encI, *])).only1⟩
                    | (exfalso; omega)
          · have p5 := ne_of_beq_false hf5
            refine s_if (b := kind == (2 : Int)) (by kernel_rfl) (fun ht6 => ?_) (fun hf6 => ?_)
            · have p6 := eq_of_beq ht6
              refine y_load 2 (o := 2) H rfl rfl (by kernel_rfl) ?_
              replace H := shutMem (m := ⟨id, items, read, hello, now⟩) H rfl rfl
              refine y_call (f := 21) (args := #[Value.pointer (some (Addr.mk b (0 : Nat) none)), Value.int IntKind.i64 (↑no : Int), Value.int IntKind.i64 now]) [0] (M := [pt b1 #[Value.int IntKind.i64 kind, Value.int IntKind.i64 src, Value.int IntKind.i64 (↑no : Int), Value.string body] 44]) H rfl rfl rfl (by kernel_rfl) (by kernel_rfl) (by kernel_rfl) (fun F' hF H' => asked_ret ⟨id, items, read, hello, now⟩ no now b F' _ H' (by have := g5 (by assumption); omega) hl h0 h1 h2 h3) ?_
              rintro v w4 L' ⟨rfl, rfl⟩ H
              simp only [List.cons_append, List.nil_append] at H
              refine s_done (v := Value.int IntKind.i64 (0 : Int)) (by kernel_rfl) ?_
              first
                    | exact ⟨_, ⟨by rw [e0, if_pos (by assumption)], by rw [e0, if_pos (by assumption)]⟩, (shutMem (m := ⟨id, items, read, hello, now'⟩) H rfl rfl).only1⟩
                    | exact ⟨_, ⟨by rw [e0, if_neg (by assumption), if_pos ⟨by assumption, by assumption⟩], by rw [e0, if_neg (by assumption), if_pos ⟨by assumption, by assumption⟩]⟩, (shutMem (m := ⟨id, items, read, hello, now'⟩) H rfl rfl).only1⟩
                    | exact ⟨_, ⟨by rw [e1 (by assumption) (nb (by first | (left; assumption) | (right; assumption)))], by rw [e1 (by assumption) (nb (by first | (left; assumption) | (right; assumption)))]; simp only [inCore]; rw [if_pos (by assumption)]⟩, (shutMem (m := ⟨id, items, read, hello, now⟩) H rfl rfl).only1⟩
                    | exact ⟨_, ⟨by rw [e1 (by assumption) (nb (by first | (left; assumption) | (right; assumption)))], by rw [e1 (by assumption) (nb (by first | (left; assumption) | (right; assumption)))]; simp only [inCore]; rw [if_neg (by assumption), if_pos (by assumption)]⟩, H.only1⟩
                    | exact ⟨_, ⟨by rw [e1 (by assumption) (nb (by first | (left; assumption) | (right; assumption)))], by rw [e1 (by assumption) (nb (by first | (left; assumption) | (right; assumption)))]; simp only [inCore]; rw [if_neg (by assumption), if_neg (by assumption), if_neg (by assumption)]; simp only [Int.toNat_natCast]⟩, H.only1⟩
                    | exact ⟨_, ⟨by rw [e1 (by assumption) (nb (by first | (left; assumption) | (right; assumption)))], by rw [e1 (by assumption) (nb (by first | (left; assumption) | (right; assumption)))]; simp only [inCore]; rw [if_neg (by assumption), if_neg (by assumption), if_pos (by assumption)]; simp only [Int.toNat_natCast]⟩, (shutGot (body := body) hit hel H (by simp [gotI, encI, *])).only1⟩
                    | (exfalso; omega)
            · have p6 := ne_of_beq_false hf6
              (exfalso; omega)
end Go.Proofs.Ytgpcjoofcmfidaa
