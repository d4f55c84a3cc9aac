import Derived.Test.YtgpcjoofcmfidaaCb6
namespace Go.Proofs.Ytgpcjoofcmfidaa
open Go.XM Go.RowKit Go.Ca
set_option maxRecDepth 100000

theorem zip_set {bs : List Nat} {ms : List (MemV ByteArray)} {i b : Nat} {m : MemV ByteArray} (hb : bs[i]? = some b) : (bs.zip ms).set i (b, m) = bs.zip (ms.set i m) := by
  refine List.ext_getElem? fun k => ?_
  rw [List.getElem?_set]
  by_cases hk : i = k
  · subst hk
    have hlt := (List.getElem?_eq_some_iff.1 hb).1
    rw [if_pos rfl]
    by_cases hm : i < ms.length
    · rw [if_pos (by simp; omega)]
      exact (List.getElem?_zip_eq_some (z := (b, m)).2 ⟨hb, by rw [List.getElem?_set]; simp [hm]⟩).symm
    · rw [if_neg (by simp; omega), List.getElem?_eq_none (by simp; omega)]
  · rw [if_neg hk]
    by_cases hk1 : k < bs.length ∧ k < ms.length
    · rw [List.getElem?_eq_getElem (by simp; omega), List.getElem?_eq_getElem (by simp; omega)]
      simp [List.getElem_set_ne hk]
    · rw [List.getElem?_eq_none (by simp; omega), List.getElem?_eq_none (by simp; omega)]

theorem rest_ret (n m : Int) (_h0 : -9223372036854775808 ≤ n) (_h1 : n ≤ 9223372036854775807) (hm : 0 < m) (hm2 : m ≤ 1000) (F : Fm) (w : World) (H : Own w F []) : Ret Try.prog 8 #[.int .i64 n, .int .i64 m] w (Post F fun v L' => v = .int .i64 (n % m) ∧ L' = []) := by
  refine ret_of_G Try.func8 rfl rfl ?_
  have e := Int.tmod_eq_emod (a := n) (b := m)
  have e1 : 0 ≤ n % m := Int.emod_nonneg _ (by omega)
  have e2 : n % m < m := Int.emod_lt_of_pos _ hm
  have e3 : (m.natAbs : Int) = m := by omega
  refine x_rem (t := 3) (kd := IntKind.i64) (a := n) (y := m) (by omega) (by kernel_rfl) ?_
  -- test decide (n.tmod m < (0 : Int))
  have hlo : -m < n.tmod m := by rw [e]; split <;> omega
  have hhi : n.tmod m < m := by rw [e]; split <;> omega
  have e4 : n.tmod m = n % m ∨ n.tmod m + m = n % m ∧ n.tmod m < 0 := by
    rw [e]; split
    · exact .inl (by omega)
    · right; rename_i h; have : n % m ≠ 0 := fun h0 => h (.inr (Int.dvd_of_emod_eq_zero h0)); omega
  generalize n.tmod m = t at *
  generalize n % m = q at *
  refine s_if (b := decide (t < (0 : Int))) (by kernel_rfl) (fun ht1 => ?_) (fun hf1 => ?_)
  · have p1 := of_decide_eq_true ht1
    refine x_add (t := 3) (a := t) (b := m) ((t) + (m)) (w64' (by omega) (by omega) rfl) (by kernel_rfl) ?_
    refine s_done (v := Value.int IntKind.i64 (t + m)) (by kernel_rfl) ?_
    exact ⟨_, ⟨by congr 1; omega, rfl⟩, H⟩
  · have p1 := of_decide_eq_false hf1
    refine s_done (v := Value.int IntKind.i64 t) (by kernel_rfl) ?_
    exact ⟨_, ⟨by congr 1; omega, rfl⟩, H⟩

theorem inV_ok {m : MemV ByteArray} {n : NoteV ByteArray} {now : Int} (h : (inV m n now).1 = 0) : inV m n now = (0, inCore ⟨#[]⟩ m n now) := by
  unfold inV at h ⊢
  split
  · rename_i h1; rw [if_pos h1] at h; simp at h
  · rename_i h1
    rw [if_neg h1] at h
    split
    · rename_i h2; rw [if_pos h2] at h; simp at h
    · rename_i h2
      rw [if_neg h2] at h
      split
      · rename_i h3; rw [if_pos h3] at h; simp at h
      · rfl

theorem notSkip {id dead src : Int} {lost : Bool} {k : Nat} (hid : id = k) (h1 : (k : Int) ≠ dead) (h2 : lost = false) (h3 : (k : Int) ≠ src) : ¬ (id = dead ∨ lost = true ∨ id = src) := by
  rintro (h | h | h)
  · omega
  · rw [h2] at h; cases h
  · omega

theorem set_same {α : Type} {l : List α} {k : Nat} {x : α} (h : l[k]? = some x) : l.set k x = l := by
  refine List.ext_getElem? fun i => ?_
  rw [List.getElem?_set]
  split
  · rename_i hk; subst hk; rw [h]; simp [(List.getElem?_eq_some_iff.1 h).1]
  · rfl

/-- All goes well: each note that is heard is taken. -/
def okD (dead now : Int) : List (NoteV ByteArray) → List Int → List (MemV ByteArray) → Prop
  | [], _, _ => True
  | n :: ns, fs, ms => (∀ m ∈ ms, m.items.length ≤ 64 ∧ (¬ (m.id = dead ∨ lostAt fs m.id.toNat = true ∨ m.id = n.src) → (inV m n now).1 = 0)) ∧ okD dead now ns (fs.drop ms.length) (ms.map (hearM (⟨#[]⟩ : ByteArray) dead now n fs))

attribute [local irreducible] outMem outAir outD airD tells upto inCore inV hearM deliver tickM Ret okD in
set_option maxHeartbeats 0 in
theorem tick_ret (dead now : Int) (fs : List Int) (ms : List (MemV ByteArray)) (bs : List Nat) (b : Nat) (fv rv : Value) (K : Hl) (F : Fm) (hK : hle K F.hl) (w : World) (H : Own w F [GrpA b fv now rv bs ms])
    (fa : Option Addr) (fc : Nat) (hfv : fv = .slice fa fs.length fc) (hV : View K fv 1 (fs.map fun f => [.int .i64 f])) (hfs : ∀ f ∈ fs, -9223372036854775808 ≤ f ∧ f ≤ 9223372036854775807) (hb : bs.length = ms.length) (hids : ∀ (k : Nat) (m : MemV ByteArray), ms[k]? = some m → m.id = k) (hm16 : ms.length ≤ 16) (h0 : 0 ≤ now) (h1 : now < 1000000000)
    (hout : ∀ m ∈ ms, m.items.length ≤ 64 ∧ m.now ≤ now) (ok : okD dead (now + 1) (ms.flatMap (airD (⟨#[]⟩ : ByteArray) dead now)) fs (ms.map (outD (⟨#[]⟩ : ByteArray) dead now))) :
    Ret Try.prog 11 #[ptrV b, .int .i64 dead] w (Post F fun v L' => ∃ fa' fc', v = .bool true ∧ View K (.slice fa' (tickM ⟨#[]⟩ dead now fs ms).2.length fc') 1 ((tickM ⟨#[]⟩ dead now fs ms).2.map fun f => [.int .i64 f]) ∧ (∀ f ∈ (tickM ⟨#[]⟩ dead now fs ms).2, -9223372036854775808 ≤ f ∧ f ≤ 9223372036854775807) ∧ L' = [GrpA b (.slice fa' (tickM ⟨#[]⟩ dead now fs ms).2.length fc') (now + 1) rv bs (tickM ⟨#[]⟩ dead now fs ms).1]) := by
  refine ret_of_G Try.func11 rfl rfl ?_
  obtain ⟨a, cap, hcap, H⟩ := openGrp H
  refine y_load 0 (o := 0) H rfl rfl (by kernel_rfl) ?_
  -- stop: Req.loop
  replace H := (H.nilRows 44 4).pick [1, 2, 3, 0] rfl
  refine s_loop (γ := Nat × Value) 0 [20, 5] (fun q => [.int .i64 q.1, q.2]) (fun q w' => Own w' F [pt b #[.slice a bs.length cap, fv, .int .i64 now, rv] 33, rows (.slice a bs.length cap) 28 1 (bs.map fun k => [ptrV k]), Each memP (bs.zip (upto (outD (⟨#[]⟩ : ByteArray) dead now) q.1 ms)), rows q.2 44 4 (((ms.take q.1).flatMap (airD (⟨#[]⟩ : ByteArray) dead now)).map encN)] ∧ q.1 ≤ ms.length ∧ ((ms.take q.1).flatMap (airD (⟨#[]⟩ : ByteArray) dead now)).length ≤ 65 * q.1) (fun q => ms.length - q.1) (0, .slice none 0 0) [.int .i64 0, .slice none 0 0] (by kernel_rfl) (by kernel_rfl) rfl (by kernel_rfl) rfl ⟨by rw [upto_zero]; exact H, Nat.zero_le _, Nat.le_refl _⟩ ?_
  rintro ⟨i, sv⟩ w2 ⟨H, hi, hlen⟩
  simp only at H hi hlen ⊢
  by_cases hlt : i < ms.length
  · have t4 : decide ((i : Int) < bs.length) = true := decide_eq_true (by omega)
    have hel := List.getElem?_eq_getElem hlt
    generalize ms[i] = m at hel
    have hbi := List.getElem?_eq_getElem (show i < bs.length by omega)
    generalize bs[i] = bi at hbi
    have hbi2 : (bs.map fun k => [ptrV k])[i]? = some [ptrV bi] := by simp [hbi]
    obtain ⟨g, capx, hsv, _, _⟩ := Own.shapeN 1 H rfl (by simp; omega)
    simp only [List.length_map, Value.slice.injEq] at hsv
    obtain ⟨rfl, _, rfl⟩ := hsv
    have hz : (bs.zip (upto (outD (⟨#[]⟩ : ByteArray) dead now) i ms))[i]? = some (bi, m) := List.getElem?_zip_eq_some.2 ⟨hbi, upto_get hel⟩
    have hid := hids i m hel
    have hlz : i < (bs.zip (upto (outD (⟨#[]⟩ : ByteArray) dead now) i ms)).length := (List.getElem?_eq_some_iff.1 hz).1
    have ho := hout m (List.mem_of_getElem? hel)
    have hstep : upto (outD (⟨#[]⟩ : ByteArray) dead now) (i + 1) ms = (upto (outD (⟨#[]⟩ : ByteArray) dead now) i ms).set i (outD (⟨#[]⟩ : ByteArray) dead now m) := (upto_set hel).symm
    have hair : (ms.take (i + 1)).flatMap (airD (⟨#[]⟩ : ByteArray) dead now) = (ms.take i).flatMap (airD (⟨#[]⟩ : ByteArray) dead now) ++ airD (⟨#[]⟩ : ByteArray) dead now m := by rw [List.take_add_one, hel, List.flatMap_append]; simp
    refine s_ifT (by kernel_rfl) t4 ?_
    refine y_idx (t := 29) (b := g) (o := (0 : Nat)) (n := bs.length) (c := cap) (kd := IntKind.i64) (i := (↑i : Int)) 1 (by kernel_rfl) (by omega) (by omega) (by kernel_rfl) ?_
    refine y_elLoad 1 (i := i) (j := 0) (o := (0 : Nat) + (↑i : Int).toNat * (1 : Nat)) H rfl hbi2 rfl (by first | rfl | omega) (by kernel_rfl) ?_
    -- test (↑i : Int) == dead
    refine s_if (b := ((i : Int) == dead)) (by kernel_rfl) (fun ht => ?_) (fun hf => ?_)
    · have p := eq_of_beq ht
      have e1 : outD (⟨#[]⟩ : ByteArray) dead now m = m := by unfold outD; rw [if_pos (by omega)]
      have e2 : airD (⟨#[]⟩ : ByteArray) dead now m = [] := by unfold airD; rw [if_pos (by omega)]
      rw [e1] at hstep
      rw [e2, List.append_nil] at hair
      have hsame : (upto (outD (⟨#[]⟩ : ByteArray) dead now) i ms).set i m = upto (outD (⟨#[]⟩ : ByteArray) dead now) i ms := by
        refine List.ext_getElem? fun k => ?_
        rw [List.getElem?_set]
        split
        · rename_i hk; subst hk; rw [upto_get hel]; simp [upto_len, hlt]
        · rfl
      rw [hsame] at hstep
      refine x_add (t := 3) (a := (↑i : Int)) (b := (1 : Int)) (((i) + ((1 : Nat)) : Nat) : Int) (w64' (by omega) (by omega) (by omega)) (by kernel_rfl) ?_
      -- stop: Req.again (0 : Nat)
      refine s_again 0 (i + 1, sv) [.int .i64 ((i + 1 : Nat) : Int), sv] rfl (by kernel_rfl) (by kernel_rfl) (by kernel_rfl) rfl ⟨by rw [hstep, hair]; exact H, hlt, by rw [hair]; show _ ≤ 65 * (i + 1); omega⟩ (by show ms.length - (i + 1) < ms.length - i; omega)
    · have p := ne_of_beq_false hf
      have e1 : outD (⟨#[]⟩ : ByteArray) dead now m = outMem (⟨#[]⟩ : ByteArray) m now := by unfold outD; rw [if_neg (by omega)]
      have e2 : airD (⟨#[]⟩ : ByteArray) dead now m = outAir (⟨#[]⟩ : ByteArray) m now := by unfold airD; rw [if_neg (by omega)]
      rw [e1] at hstep
      rw [e2] at hair
      obtain ⟨sa, sc, hss, _, _⟩ := Own.shape 3 H rfl
      subst hss
      have hol : (outAir (⟨#[]⟩ : ByteArray) m now).length ≤ 65 := by
        have h : (outNotes (⟨#[]⟩ : ByteArray) m.id now 0 m.items).length ≤ m.items.length := outNotes_len m.id now m.items 0
        unfold outAir
        rw [List.length_append]
        have : (if tells m now = true then [(⟨3, 0, m.items.length, (⟨#[]⟩ : ByteArray)⟩ : NoteV ByteArray)] else []).length ≤ 1 := by split <;> simp
        omega
      refine y_load 0 (o := 2) H rfl rfl (by kernel_rfl) ?_
      replace H := Own.focus (H.pick [2, 0, 1, 3] rfl) hz
      refine y_call (f := 12) (args := #[Value.pointer (some (Addr.mk bi (0 : Nat) none)), Value.int IntKind.i64 now]) [0] (M := [Each memP ((bs.zip (upto (outD (ByteArray.mk #[]) dead now) i ms)).eraseIdx i), pt b #[Value.slice (some (Addr.mk g (0 : Nat) none)) bs.length cap, fv, Value.int IntKind.i64 now, rv] (33 : TypeId), rows (Value.slice (some (Addr.mk g (0 : Nat) none)) bs.length cap) 28 (1 : Nat) (List.map (fun k => [ptrV k]) bs), rows (Value.slice sa (List.map encN (List.flatMap (airD (ByteArray.mk #[]) dead now) (List.take i ms))).length sc) 44 (4 : Nat) (List.map encN (List.flatMap (airD (ByteArray.mk #[]) dead now) (List.take i ms)))]) H rfl rfl rfl (by kernel_rfl) (by kernel_rfl) (by kernel_rfl) (fun F' hF H' => out_ret m now bi F' _ H' ho.1 h0 (by omega) (by omega) (by omega) ho.2) ?_
      rintro v w3 L' ⟨sv2, rfl, rfl⟩ H
      simp only [List.cons_append, List.nil_append] at H
      obtain ⟨sa2, sc2, hs2, _, _⟩ := Own.shape 1 H rfl
      subst hs2
      replace H := Own.unfocus (f := memP) (k := i) (y := (bi, outMem (⟨#[]⟩ : ByteArray) m now)) hlz (H.pick [0, 2, 1, 3, 4, 5] rfl)
      refine s_ifF (b := false) (by kernel_rfl) rfl ?_
      -- stop: Req.bi Builtin.append (#[(36 : Nat), (36 : Nat)]) (36 : Nat) (#[Value.slice sa (List.map encN (List.flatMap (airD (ByteArray.mk #[]) dead now) (List.take i ms))).length sc, Value.slice sa2 (List.map encN (outAir (ByteArray.mk #[]) m now)).length sc2])
      have hcl : (outAir (⟨#[]⟩ : ByteArray) m now).length = ((outAir (⟨#[]⟩ : ByteArray) m now).map encN).length := (List.length_map ..).symm
      refine y_appendAll (t := 36) (ty := 36) 4 1 40 (.agg #[.int .i64 0, .int .i64 0, .int .i64 0, .string ⟨#[]⟩]) H rfl rfl ?_ ?_ ?_ (by kernel_rfl) (by kernel_rfl) (by kernel_rfl) (by decide) (by kernel_rfl) (by kernel_rfl) (fun ax cx w5 H => ?_)
      · intro c hc u hu
        obtain ⟨n, _, rfl⟩ := List.mem_map.1 hc
        simp only [encN, List.mem_cons, List.not_mem_nil, or_false] at hu
        rcases hu with rfl | rfl | rfl | rfl <;> rfl
      · simp only [List.length_map, Go.maxLen]; omega
      · simp only [List.length_map]; omega
      simp only [List.set_cons_zero, List.set_cons_succ] at H
      refine x_add (t := 3) (a := (↑i : Int)) (b := (1 : Int)) (((i) + ((1 : Nat)) : Nat) : Int) (w64' (by omega) (by omega) (by omega)) (by kernel_rfl) ?_
      -- stop: Req.again (0 : Nat)
      replace H := (H.pick [1, 2, 3, 0, 4] rfl).drop1
      rw [zip_set hbi] at H
      refine s_again 0 (i + 1, .slice ax ((((ms.take i).flatMap (airD (⟨#[]⟩ : ByteArray) dead now)).map encN).length + ((outAir (⟨#[]⟩ : ByteArray) m now).map encN).length) cx) [.int .i64 ((i + 1 : Nat) : Int), .slice ax ((((ms.take i).flatMap (airD (⟨#[]⟩ : ByteArray) dead now)).map encN).length + ((outAir (⟨#[]⟩ : ByteArray) m now).map encN).length) cx] rfl (by kernel_rfl) (by kernel_rfl) (by kernel_rfl) rfl ⟨by rw [hstep, hair, List.map_append]; exact H, hlt, by rw [hair, List.length_append]; show _ ≤ 65 * (i + 1); omega⟩ (by show ms.length - (i + 1) < ms.length - i; omega)
  · have t4 : decide ((i : Int) < bs.length) = false := decide_eq_false (by omega)
    obtain rfl : i = ms.length := by omega
    rw [upto_all, List.take_length] at H
    rw [List.take_length] at hlen
    obtain ⟨sa, sc, hss, hsc, _⟩ := Own.shape 3 H rfl
    subst hss
    have htk : tickM ⟨#[]⟩ dead now fs ms = deliver ⟨#[]⟩ dead (now + 1) (ms.flatMap (airD (⟨#[]⟩ : ByteArray) dead now)) fs (ms.map (outD (⟨#[]⟩ : ByteArray) dead now)) := by unfold tickM; rfl
    generalize ms.flatMap (airD (⟨#[]⟩ : ByteArray) dead now) = air at *
    have hml : (ms.map (outD (⟨#[]⟩ : ByteArray) dead now)).length = ms.length := List.length_map ..
    have hids2 : ∀ (k : Nat) (m : MemV ByteArray), (ms.map (outD (⟨#[]⟩ : ByteArray) dead now))[k]? = some m → m.id = k := by
      intro k m hk
      rw [List.getElem?_map] at hk
      obtain ⟨m0, hm0, rfl⟩ := Option.map_eq_some_iff.1 hk
      rw [← hids k m0 hm0]
      exact outD_id _ _ _ _
    generalize ms.map (outD (⟨#[]⟩ : ByteArray) dead now) = ms1 at *
    refine s_ifF (by kernel_rfl) t4 ?_
    refine y_load 0 (o := 2) H rfl rfl (by kernel_rfl) ?_
    refine x_add (t := 3) (a := now) (b := (1 : Int)) ((now) + ((1 : Int))) (w64' (by omega) (by omega) rfl) (by kernel_rfl) ?_
    refine y_store 0 (o := 2) (v := Value.int IntKind.i64 (now + (1 : Int))) (c' := #[Value.slice a bs.length cap, fv, Value.int IntKind.i64 (now + (1 : Int)), rv]) H rfl (by kernel_rfl) (by kernel_rfl) (by kernel_rfl) rfl (by kernel_rfl) (fun w3 H => ?_)
    simp only [List.set_cons_zero, List.set_cons_succ] at H
    -- stop: Req.loop
    refine s_out 0 rfl (by kernel_rfl) ?_
    subst hfv
    refine s_loop (γ := Nat × Option Addr × Nat × List Int × List (MemV ByteArray)) 0 [52] (fun q => [.int .i64 q.1]) (fun q w' => Own w' F [pt b #[.slice a bs.length cap, .slice q.2.1 q.2.2.2.1.length q.2.2.1, .int .i64 (now + 1), rv] 33, rows (.slice a bs.length cap) 28 1 (bs.map fun k => [ptrV k]), Each memP (bs.zip q.2.2.2.2), rows (.slice sa (air.map encN).length sc) 44 4 (air.map encN)] ∧ q.1 ≤ air.length ∧ q.2.2.2.2.length = ms.length ∧ (∀ (k : Nat) (m : MemV ByteArray), q.2.2.2.2[k]? = some m → m.id = k) ∧ View K (.slice q.2.1 q.2.2.2.1.length q.2.2.1) 1 (q.2.2.2.1.map fun f => [.int .i64 f]) ∧ (∀ f ∈ q.2.2.2.1, -9223372036854775808 ≤ f ∧ f ≤ 9223372036854775807) ∧ okD dead (now + 1) (air.drop q.1) q.2.2.2.1 q.2.2.2.2 ∧ deliver ⟨#[]⟩ dead (now + 1) (air.drop q.1) q.2.2.2.1 q.2.2.2.2 = deliver ⟨#[]⟩ dead (now + 1) air fs ms1) (fun q => air.length - q.1) (0, fa, fc, fs, ms1) [.int .i64 0] (by kernel_rfl) (by kernel_rfl) rfl (by kernel_rfl) rfl ⟨H, Nat.zero_le _, hml, hids2, hV, hfs, ok, rfl⟩ ?_
    rintro ⟨j, fa, fc, fs2, ms2⟩ w4 ⟨H, hj, hml2, hids2, hV, hfs, ok2, heq⟩
    simp only at H hj hml2 hids2 hV hfs ok2 heq ⊢
    by_cases hlt : j < air.length
    · have t5 : decide ((j : Int) < (air.map encN).length) = true := decide_eq_true (by rw [List.length_map]; omega)
      have hel := List.getElem?_eq_getElem hlt
      rw [List.drop_eq_getElem_cons hlt] at ok2 heq
      generalize air[j] = n at hel ok2 heq
      obtain ⟨kind, src, no, body⟩ := n
      have hel2 : (air.map encN)[j]? = some [.int .i64 kind, .int .i64 src, .int .i64 no, .string body] := by rw [List.getElem?_map, hel]; rfl
      obtain ⟨ga, capx, hsv, _, _⟩ := Own.shapeN 3 H rfl (by simp; omega)
      simp only [List.length_map, Value.slice.injEq] at hsv
      obtain ⟨rfl, _, rfl⟩ := hsv
      have hal : (air.map encN).length = air.length := List.length_map ..
      unfold okD at ok2
      obtain ⟨ok3, ok4⟩ := ok2
      rw [deliver_cons] at heq
      refine s_ifT (by kernel_rfl) t5 ?_
      refine y_idx (t := 36) (b := ga) (o := (0 : Nat)) (n := (List.map encN air).length) (c := sc) (kd := IntKind.i64) (i := (↑j : Int)) 4 (by kernel_rfl) (by omega) (by omega) (by kernel_rfl) ?_
      refine y_elLoad 3 (i := j) (j := 0) (o := (0 : Nat) + (↑j : Int).toNat * (4 : Nat)) H rfl hel2 rfl (by first | rfl | omega) (by kernel_rfl) ?_
      refine y_elLoad 3 (i := j) (j := 1) (o := (0 : Nat) + (↑j : Int).toNat * (4 : Nat) + (1 : Nat)) H rfl hel2 rfl (by first | rfl | omega) (by kernel_rfl) ?_
      refine y_elLoad 3 (i := j) (j := 2) (o := (0 : Nat) + (↑j : Int).toNat * (4 : Nat) + (2 : Nat)) H rfl hel2 rfl (by first | rfl | omega) (by kernel_rfl) ?_
      refine y_elLoad 3 (i := j) (j := 3) (o := (0 : Nat) + (↑j : Int).toNat * (4 : Nat) + (3 : Nat)) H rfl hel2 rfl (by first | rfl | omega) (by kernel_rfl) ?_
      refine y_new (c := #[Value.int IntKind.i64 (0 : Int), Value.int IntKind.i64 (0 : Int), Value.int IntKind.i64 (0 : Int), Value.string (ByteArray.mk #[])]) (T := 44) H (by kernel_rfl) (by kernel_rfl) (fun w5 b1 H => ?_)
      refine y_store 0 (o := 0) (v := Value.int IntKind.i64 kind) (c' := #[Value.int IntKind.i64 kind, Value.int IntKind.i64 (0 : Int), Value.int IntKind.i64 (0 : Int), Value.string (ByteArray.mk #[])]) H rfl (by kernel_rfl) (by kernel_rfl) (by kernel_rfl) rfl (by kernel_rfl) (fun w6 H => ?_)
      simp only [List.set_cons_zero, List.set_cons_succ] at H
      refine y_store 0 (o := 1) (v := Value.int IntKind.i64 src) (c' := #[Value.int IntKind.i64 kind, Value.int IntKind.i64 src, Value.int IntKind.i64 (0 : Int), Value.string (ByteArray.mk #[])]) H rfl (by kernel_rfl) (by kernel_rfl) (by kernel_rfl) rfl (by kernel_rfl) (fun w7 H => ?_)
      simp only [List.set_cons_zero, List.set_cons_succ] at H
      refine y_store 0 (o := 2) (v := Value.int IntKind.i64 no) (c' := #[Value.int IntKind.i64 kind, Value.int IntKind.i64 src, Value.int IntKind.i64 no, Value.string (ByteArray.mk #[])]) H rfl (by kernel_rfl) (by kernel_rfl) (by kernel_rfl) rfl (by kernel_rfl) (fun w8 H => ?_)
      simp only [List.set_cons_zero, List.set_cons_succ] at H
      refine y_store 0 (o := 3) (v := Value.string body) (c' := #[Value.int IntKind.i64 kind, Value.int IntKind.i64 src, Value.int IntKind.i64 no, Value.string body]) H rfl (by kernel_rfl) (by kernel_rfl) (by kernel_rfl) rfl (by kernel_rfl) (fun w9 H => ?_)
      simp only [List.set_cons_zero, List.set_cons_succ] at H
      refine y_load 1 (o := 0) H rfl rfl (by kernel_rfl) ?_
      -- stop: Req.loop
      refine s_loop (γ := Nat × Option Addr × Nat) 1 [61] (fun q => [.int .i64 q.1]) (fun q w' => Own w' F [pt b1 #[.int .i64 kind, .int .i64 src, .int .i64 no, .string body] 44, pt b #[.slice a bs.length cap, .slice q.2.1 (fs2.drop q.1).length q.2.2, .int .i64 (now + 1), rv] 33, rows (.slice a bs.length cap) 28 1 (bs.map fun k => [ptrV k]), Each memP (bs.zip (upto (hearM (⟨#[]⟩ : ByteArray) dead (now + 1) ⟨kind, src, no, body⟩ fs2) q.1 ms2)), rows (.slice (some ⟨ga, 0, none⟩) (air.map encN).length sc) 44 4 (air.map encN)] ∧ q.1 ≤ ms2.length ∧ View K (.slice q.2.1 (fs2.drop q.1).length q.2.2) 1 ((fs2.drop q.1).map fun f => [.int .i64 f])) (fun q => ms2.length - q.1) (0, fa, fc) [.int .i64 0] (by kernel_rfl) (by kernel_rfl) rfl (by kernel_rfl) rfl ⟨by rw [upto_zero]; exact H, Nat.zero_le _, hV⟩ ?_
      rintro ⟨k, fa, fc⟩ w10 ⟨H, hk, hV⟩
      simp only at H hk hV ⊢
      by_cases hkl : k < ms2.length
      · have t6 : decide ((k : Int) < bs.length) = true := decide_eq_true (by omega)
        have hem := List.getElem?_eq_getElem hkl
        generalize ms2[k] = m at hem
        have hbi := List.getElem?_eq_getElem (show k < bs.length by omega)
        generalize bs[k] = bi at hbi
        have hbi2 : (bs.map fun k => [ptrV k])[k]? = some [ptrV bi] := by simp [hbi]
        obtain ⟨g, capx, hsv, _, _⟩ := Own.shapeN 2 H rfl (by simp; omega)
        simp only [List.length_map, Value.slice.injEq] at hsv
        obtain ⟨rfl, _, rfl⟩ := hsv
        have hz : (bs.zip (upto (hearM (⟨#[]⟩ : ByteArray) dead (now + 1) ⟨kind, src, no, body⟩ fs2) k ms2))[k]? = some (bi, m) := List.getElem?_zip_eq_some.2 ⟨hbi, upto_get hem⟩
        have hlz : k < (bs.zip (upto (hearM (⟨#[]⟩ : ByteArray) dead (now + 1) ⟨kind, src, no, body⟩ fs2) k ms2)).length := (List.getElem?_eq_some_iff.1 hz).1
        have hid := hids2 k m hem
        have hstep : upto (hearM (⟨#[]⟩ : ByteArray) dead (now + 1) ⟨kind, src, no, body⟩ fs2) (k + 1) ms2 = (upto (hearM (⟨#[]⟩ : ByteArray) dead (now + 1) ⟨kind, src, no, body⟩ fs2) k ms2).set k (hearM (⟨#[]⟩ : ByteArray) dead (now + 1) ⟨kind, src, no, body⟩ fs2 m) := (upto_set hem).symm
        by_cases hfk : k < fs2.length
        · have hff := List.getElem?_eq_getElem hfk
          generalize fs2[k] = f at hff
          have hdl : 0 < (fs2.drop k).length := by simp; omega
          have t7 : decide ((((fs2.drop k).length : Nat) : Int) > 0) = true := decide_eq_true (by omega)
          have hfb := hfs f (List.mem_of_getElem? hff)
          obtain ⟨fb, fo, cz, hva, _, _⟩ := hV.open (by simpa using hdl)
          simp only [List.length_map, Value.slice.injEq] at hva
          obtain ⟨rfl, _, rfl⟩ := hva
          have hVF : View F.hl (.slice (some ⟨fb, fo, none⟩) (fs2.drop k).length fc) 1 ((fs2.drop k).map fun f => [.int .i64 f]) := hV.le hK
          refine s_ifT (by kernel_rfl) t6 ?_
          refine y_idx (t := 29) (b := g) (o := (0 : Nat)) (n := bs.length) (c := cap) (kd := IntKind.i64) (i := (↑k : Int)) 1 (by kernel_rfl) (by omega) (by omega) (by kernel_rfl) ?_
          refine y_elLoad 2 (i := k) (j := 0) (o := (0 : Nat) + (↑k : Int).toNat * (1 : Nat)) H rfl hbi2 rfl (by first | rfl | omega) (by kernel_rfl) ?_
          refine y_load 1 (o := 1) H rfl rfl (by kernel_rfl) ?_
          refine s_ifT (by kernel_rfl) t7 ?_
          refine y_load 1 (o := 1) H rfl rfl (by kernel_rfl) ?_
          refine y_idx (t := 30) (b := fb) (o := fo) (n := (List.drop k fs2).length) (c := fc) (kd := IntKind.i64) (i := (0 : Int)) 1 (by kernel_rfl) (by omega) (by omega) (by kernel_rfl) ?_
          -- load fb fo: no piece
          refine y_vload H hVF (k := 0) (j := 0) (x := [.int .i64 f]) (u := .int .i64 f) (o := fo + (0 : Int).toNat * 1) (by simp [hff]) rfl (by simp) (by kernel_rfl) ?_
          refine y_call (f := 8) (args := #[Value.int IntKind.i64 f, Value.int IntKind.i64 (3 : Int)]) [] (M := [pt b1 #[Value.int IntKind.i64 kind, Value.int IntKind.i64 src, Value.int IntKind.i64 no, Value.string body] (44 : TypeId), pt b #[Value.slice (some (Addr.mk g (0 : Nat) none)) bs.length cap, Value.slice (some (Addr.mk fb fo none)) (List.drop k fs2).length fc, Value.int IntKind.i64 (now + (1 : Int)), rv] (33 : TypeId), rows (Value.slice (some (Addr.mk g (0 : Nat) none)) bs.length cap) 28 (1 : Nat) (List.map (fun k => [ptrV k]) bs), Each memP (bs.zip (upto (hearM (ByteArray.mk #[]) dead (now + (1 : Int)) (NoteV.mk kind src no body) fs2) k ms2)), rows (Value.slice (some (Addr.mk ga (0 : Nat) none)) (List.map encN air).length sc) 44 (4 : Nat) (List.map encN air)]) H rfl rfl rfl (by kernel_rfl) (by kernel_rfl) (by kernel_rfl) (fun F' hF H' => rest_ret f 3 hfb.1 hfb.2 (by omega) (by omega) F' _ H') ?_
          rintro v w11 L' ⟨rfl, rfl⟩ H
          simp only [List.cons_append, List.nil_append] at H
          refine y_load 1 (o := 1) H rfl rfl (by kernel_rfl) ?_
          -- stop: Req.slice (30 : Nat) (Value.slice (some (Addr.mk fb fo none)) (List.drop k fs2).length fc) (some (Value.int IntKind.i64 (1 : Int))) none none
          refine y_vslice hV (t := 30) (lo := some (.int .i64 1)) (hi := none) (l := 1) (h := (fs2.drop k).length) (.int .i64 1 _ (by omega)) (.none _) (by omega) (by simp) (by kernel_rfl) (by kernel_rfl) (fun fa2 fc2 hV2 => ?_)
          refine y_store 1 (o := 1) (v := Value.slice fa2 ((List.drop k fs2).length - (1 : Nat)) fc2) (c' := #[Value.slice (some (Addr.mk g (0 : Nat) none)) bs.length cap, Value.slice fa2 ((List.drop k fs2).length - (1 : Nat)) fc2, Value.int IntKind.i64 (now + (1 : Int)), rv]) H rfl (by kernel_rfl) (by kernel_rfl) (by kernel_rfl) rfl (by kernel_rfl) (fun w12 H => ?_)
          simp only [List.set_cons_zero, List.set_cons_succ] at H
          -- test (↑k : Int) == dead
          have hln : (fs2.drop k).length - 1 = (fs2.drop (k + 1)).length := by simp; omega
          have hlv : (((fs2.drop k).map fun f => [Value.int .i64 f]).take (fs2.drop k).length).drop 1 = (fs2.drop (k + 1)).map fun f => [Value.int .i64 f] := by
            rw [List.take_of_length_le (by simp), ← List.map_drop, List.drop_drop]
          rw [hlv, hln] at hV2
          rw [hln] at H
          have hlost : lostAt fs2 m.id.toNat = (f % 3 == 0) := by unfold lostAt; rw [hid, Int.toNat_natCast, hff]; rfl
          refine s_if (b := (↑k : Int) == dead) (by kernel_rfl) (fun ht1 => ?_) (fun hf1 => ?_)
          · have p1 := eq_of_beq ht1
            refine x_add (t := 3) (a := (↑k : Int)) (b := (1 : Int)) (((k) + ((1 : Nat)) : Nat) : Int) (w64' (by omega) (by omega) (by omega)) (by kernel_rfl) ?_
            first
                        | (have eh : hearM (⟨#[]⟩ : ByteArray) dead (now + 1) ⟨kind, src, no, body⟩ fs2 m = inCore (⟨#[]⟩ : ByteArray) m ⟨kind, src, no, body⟩ (now + 1) := by
                             unfold hearM; rw [if_neg hnot]
                           rw [← eh, ← hstep] at H
                           exact s_again 1 (k + 1, fa2, fc2) [.int .i64 ((k + 1 : Nat) : Int)] rfl (by kernel_rfl) (by kernel_rfl) (by kernel_rfl) rfl ⟨H, hkl, hV2⟩ (by show ms2.length - (k + 1) < ms2.length - k; omega))
                        | (have eh : hearM (⟨#[]⟩ : ByteArray) dead (now + 1) ⟨kind, src, no, body⟩ fs2 m = m := by
                             unfold hearM; rw [if_pos (by first | (left; omega) | (right; left; rw [hlost]; assumption) | (right; right; show m.id = src; omega))]
                           have hs : upto (hearM (⟨#[]⟩ : ByteArray) dead (now + 1) ⟨kind, src, no, body⟩ fs2) (k + 1) ms2 = upto (hearM (⟨#[]⟩ : ByteArray) dead (now + 1) ⟨kind, src, no, body⟩ fs2) k ms2 := by
                             rw [hstep, eh, set_same (upto_get hem)]
                           rw [← hs] at H
                           exact s_again 1 (k + 1, fa2, fc2) [.int .i64 ((k + 1 : Nat) : Int)] rfl (by kernel_rfl) (by kernel_rfl) (by kernel_rfl) rfl ⟨H, hkl, hV2⟩ (by show ms2.length - (k + 1) < ms2.length - k; omega))
          · have p1 := ne_of_beq_false hf1
            refine s_if (b := f % (3 : Int) == (0 : Int)) (by kernel_rfl) (fun ht2 => ?_) (fun hf2 => ?_)
            · have p2 := eq_of_beq ht2
              refine x_add (t := 3) (a := (↑k : Int)) (b := (1 : Int)) (((k) + ((1 : Nat)) : Nat) : Int) (w64' (by omega) (by omega) (by omega)) (by kernel_rfl) ?_
              first
                          | (have eh : hearM (⟨#[]⟩ : ByteArray) dead (now + 1) ⟨kind, src, no, body⟩ fs2 m = inCore (⟨#[]⟩ : ByteArray) m ⟨kind, src, no, body⟩ (now + 1) := by
                               unfold hearM; rw [if_neg hnot]
                             rw [← eh, ← hstep] at H
                             exact s_again 1 (k + 1, fa2, fc2) [.int .i64 ((k + 1 : Nat) : Int)] rfl (by kernel_rfl) (by kernel_rfl) (by kernel_rfl) rfl ⟨H, hkl, hV2⟩ (by show ms2.length - (k + 1) < ms2.length - k; omega))
                          | (have eh : hearM (⟨#[]⟩ : ByteArray) dead (now + 1) ⟨kind, src, no, body⟩ fs2 m = m := by
                               unfold hearM; rw [if_pos (by first | (left; omega) | (right; left; rw [hlost]; assumption) | (right; right; show m.id = src; omega))]
                             have hs : upto (hearM (⟨#[]⟩ : ByteArray) dead (now + 1) ⟨kind, src, no, body⟩ fs2) (k + 1) ms2 = upto (hearM (⟨#[]⟩ : ByteArray) dead (now + 1) ⟨kind, src, no, body⟩ fs2) k ms2 := by
                               rw [hstep, eh, set_same (upto_get hem)]
                             rw [← hs] at H
                             exact s_again 1 (k + 1, fa2, fc2) [.int .i64 ((k + 1 : Nat) : Int)] rfl (by kernel_rfl) (by kernel_rfl) (by kernel_rfl) rfl ⟨H, hkl, hV2⟩ (by show ms2.length - (k + 1) < ms2.length - k; omega))
            · have p2 := ne_of_beq_false hf2
              refine y_load 0 (o := 1) H rfl rfl (by kernel_rfl) ?_
              refine s_if (b := (↑k : Int) == src) (by kernel_rfl) (fun ht3 => ?_) (fun hf3 => ?_)
              · have p3 := eq_of_beq ht3
                refine x_add (t := 3) (a := (↑k : Int)) (b := (1 : Int)) (((k) + ((1 : Nat)) : Nat) : Int) (w64' (by omega) (by omega) (by omega)) (by kernel_rfl) ?_
                first
                            | (have eh : hearM (⟨#[]⟩ : ByteArray) dead (now + 1) ⟨kind, src, no, body⟩ fs2 m = inCore (⟨#[]⟩ : ByteArray) m ⟨kind, src, no, body⟩ (now + 1) := by
                                 unfold hearM; rw [if_neg hnot]
                               rw [← eh, ← hstep] at H
                               exact s_again 1 (k + 1, fa2, fc2) [.int .i64 ((k + 1 : Nat) : Int)] rfl (by kernel_rfl) (by kernel_rfl) (by kernel_rfl) rfl ⟨H, hkl, hV2⟩ (by show ms2.length - (k + 1) < ms2.length - k; omega))
                            | (have eh : hearM (⟨#[]⟩ : ByteArray) dead (now + 1) ⟨kind, src, no, body⟩ fs2 m = m := by
                                 unfold hearM; rw [if_pos (by first | (left; omega) | (right; left; rw [hlost]; assumption) | (right; right; show m.id = src; omega))]
                               have hs : upto (hearM (⟨#[]⟩ : ByteArray) dead (now + 1) ⟨kind, src, no, body⟩ fs2) (k + 1) ms2 = upto (hearM (⟨#[]⟩ : ByteArray) dead (now + 1) ⟨kind, src, no, body⟩ fs2) k ms2 := by
                                 rw [hstep, eh, set_same (upto_get hem)]
                               rw [← hs] at H
                               exact s_again 1 (k + 1, fa2, fc2) [.int .i64 ((k + 1 : Nat) : Int)] rfl (by kernel_rfl) (by kernel_rfl) (by kernel_rfl) rfl ⟨H, hkl, hV2⟩ (by show ms2.length - (k + 1) < ms2.length - k; omega))
              · have p3 := ne_of_beq_false hf3
                refine y_drawP (23 : Nat) [] [0, 1, 2, 3, 4, 5] 6 [7] H (by kernel_rfl) (by kernel_rfl) (by kernel_rfl) (by kernel_rfl) ?_
                refine y_qload (a := ⟨b1, 0, none⟩) (by kernel_rfl) (by kernel_rfl) (fun w' H => Own.cell 0 H rfl rfl) ?_
                refine y_qload (a := ⟨b1, 1, none⟩) (by kernel_rfl) (by kernel_rfl) (fun w' H => Own.cell 0 H rfl rfl) ?_
                refine y_qload (a := ⟨b1, 2, none⟩) (by kernel_rfl) (by kernel_rfl) (fun w' H => Own.cell 0 H rfl rfl) ?_
                refine y_qload (a := ⟨b1, 3, none⟩) (by kernel_rfl) (by kernel_rfl) (fun w' H => Own.cell 0 H rfl rfl) ?_
                refine y_qload (a := ⟨b, 2, none⟩) (by kernel_rfl) (by kernel_rfl) (fun w' H => Own.cell 1 H rfl rfl) ?_
                refine y_qend (by kernel_rfl) (fun w13 H => ?_)
                replace H := Own.focus (H.pick [3, 0, 1, 2, 4] rfl) hz
                refine y_call (f := 15) (args := #[Value.pointer (some (Addr.mk bi (0 : Nat) none)), Value.agg (#[Value.int IntKind.i64 kind, Value.int IntKind.i64 src, Value.int IntKind.i64 no, Value.string body]), Value.int IntKind.i64 (now + (1 : Int))]) [0] (M := [Each memP ((bs.zip (upto (hearM (ByteArray.mk #[]) dead (now + (1 : Int)) (NoteV.mk kind src no body) fs2) k ms2)).eraseIdx k), pt b1 #[Value.int IntKind.i64 kind, Value.int IntKind.i64 src, Value.int IntKind.i64 no, Value.string body] (44 : TypeId), pt b #[Value.slice (some (Addr.mk g (0 : Nat) none)) bs.length cap, Value.slice fa2 (List.drop (k + (1 : Nat)) fs2).length fc2, Value.int IntKind.i64 (now + (1 : Int)), rv] (33 : TypeId), rows (Value.slice (some (Addr.mk g (0 : Nat) none)) bs.length cap) 28 (1 : Nat) (List.map (fun k => [ptrV k]) bs), rows (Value.slice (some (Addr.mk ga (0 : Nat) none)) (List.map encN air).length sc) 44 (4 : Nat) (List.map encN air)]) H rfl rfl rfl (by kernel_rfl) (by kernel_rfl) (by kernel_rfl) (fun F' hF H' => in_ret m ⟨kind, src, no, body⟩ (now + 1) bi F' _ H' (ok3 m (List.mem_of_getElem? hem)).1 (by omega) (by omega) (by omega) (by omega)) ?_
                rintro v w14 L' ⟨rfl, rfl⟩ H
                simp only [List.cons_append, List.nil_append] at H
                have hnot := notSkip (dead := dead) (src := src) (lost := lostAt fs2 m.id.toNat) hid (by assumption) (hlost.trans (by assumption)) (by assumption)
                have hi := inV_ok ((ok3 m (List.mem_of_getElem? hem)).2 hnot)
                rw [hi] at H
                rw [hi]
                replace H := Own.unfocus (f := memP) (k := k) (y := (bi, inCore (⟨#[]⟩ : ByteArray) m ⟨kind, src, no, body⟩ (now + 1))) hlz H
                replace H := H.pick [1, 2, 3, 0, 4] rfl
                rw [zip_set hbi] at H
                refine s_ifF (b := false) (by kernel_rfl) rfl ?_
                refine x_add (t := 3) (a := (↑k : Int)) (b := (1 : Int)) (((k) + ((1 : Nat)) : Nat) : Int) (w64' (by omega) (by omega) (by omega)) (by kernel_rfl) ?_
                first
                            | (have eh : hearM (⟨#[]⟩ : ByteArray) dead (now + 1) ⟨kind, src, no, body⟩ fs2 m = inCore (⟨#[]⟩ : ByteArray) m ⟨kind, src, no, body⟩ (now + 1) := by
                                 unfold hearM; rw [if_neg hnot]
                               rw [← eh, ← hstep] at H
                               exact s_again 1 (k + 1, fa2, fc2) [.int .i64 ((k + 1 : Nat) : Int)] rfl (by kernel_rfl) (by kernel_rfl) (by kernel_rfl) rfl ⟨H, hkl, hV2⟩ (by show ms2.length - (k + 1) < ms2.length - k; omega))
                            | (have eh : hearM (⟨#[]⟩ : ByteArray) dead (now + 1) ⟨kind, src, no, body⟩ fs2 m = m := by
                                 unfold hearM; rw [if_pos (by first | (left; omega) | (right; left; rw [hlost]; assumption) | (right; right; show m.id = src; omega))]
                               have hs : upto (hearM (⟨#[]⟩ : ByteArray) dead (now + 1) ⟨kind, src, no, body⟩ fs2) (k + 1) ms2 = upto (hearM (⟨#[]⟩ : ByteArray) dead (now + 1) ⟨kind, src, no, body⟩ fs2) k ms2 := by
                                 rw [hstep, eh, set_same (upto_get hem)]
                               rw [← hs] at H
                               exact s_again 1 (k + 1, fa2, fc2) [.int .i64 ((k + 1 : Nat) : Int)] rfl (by kernel_rfl) (by kernel_rfl) (by kernel_rfl) rfl ⟨H, hkl, hV2⟩ (by show ms2.length - (k + 1) < ms2.length - k; omega))
        · have hd0 : fs2.drop k = [] := List.drop_eq_nil_of_le (by omega)
          have hd1 : fs2.drop (k + 1) = [] := List.drop_eq_nil_of_le (by omega)
          have t7 : decide ((((fs2.drop k).length : Nat) : Int) > 0) = false := decide_eq_false (by rw [hd0]; simp)
          have hlost : lostAt fs2 m.id.toNat = false := by unfold lostAt; rw [hid, Int.toNat_natCast, List.getElem?_eq_none (by omega)]
          have hln : (fs2.drop k).length = (fs2.drop (k + 1)).length := by rw [hd0, hd1]
          have hlv : (fs2.drop k).map (fun f => [Value.int .i64 f]) = (fs2.drop (k + 1)).map fun f => [Value.int .i64 f] := by rw [hd0, hd1]
          rw [hlv] at hV
          rw [hln] at hV
          refine s_ifT (by kernel_rfl) t6 ?_
          refine y_idx (t := 29) (b := g) (o := (0 : Nat)) (n := bs.length) (c := cap) (kd := IntKind.i64) (i := (↑k : Int)) 1 (by kernel_rfl) (by omega) (by omega) (by kernel_rfl) ?_
          refine y_elLoad 2 (i := k) (j := 0) (o := (0 : Nat) + (↑k : Int).toNat * (1 : Nat)) H rfl hbi2 rfl (by first | rfl | omega) (by kernel_rfl) ?_
          refine y_load 1 (o := 1) H rfl rfl (by kernel_rfl) ?_
          refine s_ifF (by kernel_rfl) t7 ?_
          refine s_if (b := (↑k : Int) == dead) (by kernel_rfl) (fun ht1 => ?_) (fun hf1 => ?_)
          · have p1 := eq_of_beq ht1
            refine x_add (t := 3) (a := (↑k : Int)) (b := (1 : Int)) (((k) + ((1 : Nat)) : Nat) : Int) (w64' (by omega) (by omega) (by omega)) (by kernel_rfl) ?_
            first
                        | (have eh : hearM (⟨#[]⟩ : ByteArray) dead (now + 1) ⟨kind, src, no, body⟩ fs2 m = inCore (⟨#[]⟩ : ByteArray) m ⟨kind, src, no, body⟩ (now + 1) := by
                             unfold hearM; rw [if_neg hnot]
                           rw [← eh, ← hstep] at H
                           exact s_again 1 (k + 1, fa, fc) [.int .i64 ((k + 1 : Nat) : Int)] rfl (by kernel_rfl) (by kernel_rfl) (by kernel_rfl) rfl ⟨by rw [← hln]; exact H, hkl, hV⟩ (by show ms2.length - (k + 1) < ms2.length - k; omega))
                        | (have eh : hearM (⟨#[]⟩ : ByteArray) dead (now + 1) ⟨kind, src, no, body⟩ fs2 m = m := by
                             unfold hearM; rw [if_pos (by first | (left; omega) | (exfalso; omega) | (right; right; show m.id = src; omega))]
                           have hs : upto (hearM (⟨#[]⟩ : ByteArray) dead (now + 1) ⟨kind, src, no, body⟩ fs2) (k + 1) ms2 = upto (hearM (⟨#[]⟩ : ByteArray) dead (now + 1) ⟨kind, src, no, body⟩ fs2) k ms2 := by
                             rw [hstep, eh, set_same (upto_get hem)]
                           rw [← hs] at H
                           exact s_again 1 (k + 1, fa, fc) [.int .i64 ((k + 1 : Nat) : Int)] rfl (by kernel_rfl) (by kernel_rfl) (by kernel_rfl) rfl ⟨by rw [← hln]; exact H, hkl, hV⟩ (by show ms2.length - (k + 1) < ms2.length - k; omega))
          · have p1 := ne_of_beq_false hf1
            refine y_load 0 (o := 1) H rfl rfl (by kernel_rfl) ?_
            refine s_if (b := (↑k : Int) == src) (by kernel_rfl) (fun ht2 => ?_) (fun hf2 => ?_)
            · have p2 := eq_of_beq ht2
              refine x_add (t := 3) (a := (↑k : Int)) (b := (1 : Int)) (((k) + ((1 : Nat)) : Nat) : Int) (w64' (by omega) (by omega) (by omega)) (by kernel_rfl) ?_
              first
                          | (have eh : hearM (⟨#[]⟩ : ByteArray) dead (now + 1) ⟨kind, src, no, body⟩ fs2 m = inCore (⟨#[]⟩ : ByteArray) m ⟨kind, src, no, body⟩ (now + 1) := by
                               unfold hearM; rw [if_neg hnot]
                             rw [← eh, ← hstep] at H
                             exact s_again 1 (k + 1, fa, fc) [.int .i64 ((k + 1 : Nat) : Int)] rfl (by kernel_rfl) (by kernel_rfl) (by kernel_rfl) rfl ⟨by rw [← hln]; exact H, hkl, hV⟩ (by show ms2.length - (k + 1) < ms2.length - k; omega))
                          | (have eh : hearM (⟨#[]⟩ : ByteArray) dead (now + 1) ⟨kind, src, no, body⟩ fs2 m = m := by
                               unfold hearM; rw [if_pos (by first | (left; omega) | (exfalso; omega) | (right; right; show m.id = src; omega))]
                             have hs : upto (hearM (⟨#[]⟩ : ByteArray) dead (now + 1) ⟨kind, src, no, body⟩ fs2) (k + 1) ms2 = upto (hearM (⟨#[]⟩ : ByteArray) dead (now + 1) ⟨kind, src, no, body⟩ fs2) k ms2 := by
                               rw [hstep, eh, set_same (upto_get hem)]
                             rw [← hs] at H
                             exact s_again 1 (k + 1, fa, fc) [.int .i64 ((k + 1 : Nat) : Int)] rfl (by kernel_rfl) (by kernel_rfl) (by kernel_rfl) rfl ⟨by rw [← hln]; exact H, hkl, hV⟩ (by show ms2.length - (k + 1) < ms2.length - k; omega))
            · have p2 := ne_of_beq_false hf2
              refine y_drawP (23 : Nat) [] [0, 1, 2, 3, 4, 5] 6 [7] H (by kernel_rfl) (by kernel_rfl) (by kernel_rfl) (by kernel_rfl) ?_
              refine y_qload (a := ⟨b1, 0, none⟩) (by kernel_rfl) (by kernel_rfl) (fun w' H => Own.cell 0 H rfl rfl) ?_
              refine y_qload (a := ⟨b1, 1, none⟩) (by kernel_rfl) (by kernel_rfl) (fun w' H => Own.cell 0 H rfl rfl) ?_
              refine y_qload (a := ⟨b1, 2, none⟩) (by kernel_rfl) (by kernel_rfl) (fun w' H => Own.cell 0 H rfl rfl) ?_
              refine y_qload (a := ⟨b1, 3, none⟩) (by kernel_rfl) (by kernel_rfl) (fun w' H => Own.cell 0 H rfl rfl) ?_
              refine y_qload (a := ⟨b, 2, none⟩) (by kernel_rfl) (by kernel_rfl) (fun w' H => Own.cell 1 H rfl rfl) ?_
              refine y_qend (by kernel_rfl) (fun w11 H => ?_)
              replace H := Own.focus (H.pick [3, 0, 1, 2, 4] rfl) hz
              refine y_call (f := 15) (args := #[Value.pointer (some (Addr.mk bi (0 : Nat) none)), Value.agg (#[Value.int IntKind.i64 kind, Value.int IntKind.i64 src, Value.int IntKind.i64 no, Value.string body]), Value.int IntKind.i64 (now + (1 : Int))]) [0] (M := [Each memP ((bs.zip (upto (hearM (ByteArray.mk #[]) dead (now + (1 : Int)) (NoteV.mk kind src no body) fs2) k ms2)).eraseIdx k), pt b1 #[Value.int IntKind.i64 kind, Value.int IntKind.i64 src, Value.int IntKind.i64 no, Value.string body] (44 : TypeId), pt b #[Value.slice (some (Addr.mk g (0 : Nat) none)) bs.length cap, Value.slice fa (List.drop k fs2).length fc, Value.int IntKind.i64 (now + (1 : Int)), rv] (33 : TypeId), rows (Value.slice (some (Addr.mk g (0 : Nat) none)) bs.length cap) 28 (1 : Nat) (List.map (fun k => [ptrV k]) bs), rows (Value.slice (some (Addr.mk ga (0 : Nat) none)) (List.map encN air).length sc) 44 (4 : Nat) (List.map encN air)]) H rfl rfl rfl (by kernel_rfl) (by kernel_rfl) (by kernel_rfl) (fun F' hF H' => in_ret m ⟨kind, src, no, body⟩ (now + 1) bi F' _ H' (ok3 m (List.mem_of_getElem? hem)).1 (by omega) (by omega) (by omega) (by omega)) ?_
              rintro v w12 L' ⟨rfl, rfl⟩ H
              simp only [List.cons_append, List.nil_append] at H
              have hnot := notSkip (dead := dead) (src := src) (lost := lostAt fs2 m.id.toNat) hid (by assumption) hlost (by assumption)
              have hi := inV_ok ((ok3 m (List.mem_of_getElem? hem)).2 hnot)
              rw [hi] at H
              rw [hi]
              replace H := Own.unfocus (f := memP) (k := k) (y := (bi, inCore (⟨#[]⟩ : ByteArray) m ⟨kind, src, no, body⟩ (now + 1))) hlz H
              replace H := H.pick [1, 2, 3, 0, 4] rfl
              rw [zip_set hbi] at H
              refine s_ifF (b := false) (by kernel_rfl) rfl ?_
              refine x_add (t := 3) (a := (↑k : Int)) (b := (1 : Int)) (((k) + ((1 : Nat)) : Nat) : Int) (w64' (by omega) (by omega) (by omega)) (by kernel_rfl) ?_
              first
                          | (have eh : hearM (⟨#[]⟩ : ByteArray) dead (now + 1) ⟨kind, src, no, body⟩ fs2 m = inCore (⟨#[]⟩ : ByteArray) m ⟨kind, src, no, body⟩ (now + 1) := by
                               unfold hearM; rw [if_neg hnot]
                             rw [← eh, ← hstep] at H
                             exact s_again 1 (k + 1, fa, fc) [.int .i64 ((k + 1 : Nat) : Int)] rfl (by kernel_rfl) (by kernel_rfl) (by kernel_rfl) rfl ⟨by rw [← hln]; exact H, hkl, hV⟩ (by show ms2.length - (k + 1) < ms2.length - k; omega))
                          | (have eh : hearM (⟨#[]⟩ : ByteArray) dead (now + 1) ⟨kind, src, no, body⟩ fs2 m = m := by
                               unfold hearM; rw [if_pos (by first | (left; omega) | (exfalso; omega) | (right; right; show m.id = src; omega))]
                             have hs : upto (hearM (⟨#[]⟩ : ByteArray) dead (now + 1) ⟨kind, src, no, body⟩ fs2) (k + 1) ms2 = upto (hearM (⟨#[]⟩ : ByteArray) dead (now + 1) ⟨kind, src, no, body⟩ fs2) k ms2 := by
                               rw [hstep, eh, set_same (upto_get hem)]
                             rw [← hs] at H
                             exact s_again 1 (k + 1, fa, fc) [.int .i64 ((k + 1 : Nat) : Int)] rfl (by kernel_rfl) (by kernel_rfl) (by kernel_rfl) rfl ⟨by rw [← hln]; exact H, hkl, hV⟩ (by show ms2.length - (k + 1) < ms2.length - k; omega))
      · have t6 : decide ((k : Int) < bs.length) = false := decide_eq_false (by omega)
        obtain rfl : k = ms2.length := by omega
        rw [upto_all] at H
        refine s_ifF (by kernel_rfl) t6 ?_
        refine x_add (t := 3) (a := (↑j : Int)) (b := (1 : Int)) (((j) + ((1 : Nat)) : Nat) : Int) (w64' (by omega) (by omega) (by omega)) (by kernel_rfl) ?_
        -- stop: Req.again (0 : Nat)
        refine s_out 1 rfl (by kernel_rfl) ?_
        
        -- stop: Req.again (0 : Nat)
        replace H := H.drop1
        refine s_again 0 (j + 1, fa, fc, fs2.drop ms2.length, ms2.map (hearM (⟨#[]⟩ : ByteArray) dead (now + 1) ⟨kind, src, no, body⟩ fs2)) [.int .i64 ((j + 1 : Nat) : Int)] rfl (by kernel_rfl) (by kernel_rfl) (by kernel_rfl) rfl ⟨H, hlt, by simp [hml2], ?_, hV, fun f hf => hfs f (List.mem_of_mem_drop hf), ok4, heq⟩ (by show air.length - (j + 1) < air.length - j; omega)
        intro k m hk
        rw [List.getElem?_map] at hk
        obtain ⟨m0, hm0, rfl⟩ := Option.map_eq_some_iff.1 hk
        rw [← hids2 k m0 hm0]
        exact hearM_id _ _ _ _ _ _
    · have t5 : decide ((j : Int) < (air.map encN).length) = false := decide_eq_false (by rw [List.length_map]; omega)
      obtain rfl : j = air.length := by omega
      rw [List.drop_length, deliver_nil] at heq
      refine s_ifF (by kernel_rfl) t5 ?_
      -- stop: Req.done (Value.bool true)
      refine s_out 0 rfl (by kernel_rfl) ?_
      
      -- stop: Req.done (Value.bool true)
      rw [← htk] at heq
      refine s_done (v := .bool true) (by kernel_rfl) ⟨_, ⟨fa, fc, rfl, by rw [← heq]; exact hV, by rw [← heq]; exact hfs, rfl⟩, ?_⟩
      rw [← heq]
      exact shutGrp (H.pick [3, 0, 1, 2] rfl).drop1 rfl rfl
end Go.Proofs.Ytgpcjoofcmfidaa
