import Derived.Test.YtfknpeajihecdaaODg2
namespace Go.Proofs.Ytfknpeajihecdaa.Old
open Go.XO Go.RowKit Go.Dg
set_option maxRecDepth 100000

theorem encode_bad (a b : Nat) (x y : Int) (s : ByteArray) (h : chkE x y s ≠ 0) (w : World) :
    Ret Try.prog 12 #[.int .u32 a, .int .u32 b, .agg #[.int .i64 x, .int .i64 y, .string s]] w fun v w' => v = .tuple #[.string ⟨#[]⟩, .int .i64 (chkE x y s)] ∧ Keep [] w w' := by
  refine ret_of_G Try.func12 rfl rfl ?_
  refine x_new (ob := .cells #[.int .i64 x, .int .i64 y, .string s] 24) (by kernel_rfl) (by kernel_rfl) (fun w1 bk hb hB hK hlt => ?_)
  refine x_load (o := 0) hB rfl (by kernel_rfl) ?_
  refine x_load (o := 1) hB rfl (by kernel_rfl) ?_
  refine x_load (o := 2) hB rfl (by kernel_rfl) ?_
  refine s_call (by kernel_rfl) (by kernel_rfl) (by kernel_rfl) (check_ret x y s _) ?_
  rintro v w2 ⟨rfl, k2⟩
  have k2 := hK.trans' k2
  refine s_ifT (b := (chkE x y s != 0)) (by kernel_rfl) (by simpa using h) ?_
  exact s_done (by kernel_rfl) ⟨rfl, k2⟩

theorem encode_ok (a b x y : Nat) (s : ByteArray) (ha : a < 4294967296) (hb : b < 4294967296) (hx : x ≤ 65535) (hy : y ≤ 65535) (hs : s.size ≤ 1024) (w : World) :
    Ret Try.prog 12 #[.int .u32 a, .int .u32 b, .agg #[.int .i64 x, .int .i64 y, .string s]] w fun v w' => v = .tuple #[.string (encS a b x y s), .int .i64 0] ∧ Keep [] w w' := by
  have hc : chkE x y s = 0 := by unfold chkE; rw [if_neg (by omega), if_neg (by omega)]
  refine ret_of_G Try.func12 rfl rfl ?_
  refine x_new (ob := .cells #[.int .i64 x, .int .i64 y, .string s] 24) (by kernel_rfl) (by kernel_rfl) (fun w1 bk hbk hB hK hlt => ?_)
  refine x_load (o := 0) hB rfl (by kernel_rfl) ?_
  refine x_load (o := 1) hB rfl (by kernel_rfl) ?_
  refine x_load (o := 2) hB rfl (by kernel_rfl) ?_
  refine s_call (by kernel_rfl) (by kernel_rfl) (by kernel_rfl) (check_ret x y s _) ?_
  rintro v w2 ⟨rfl, k2⟩
  have hB := k2.get hB (by simp)
  have k2 := hK.trans' k2
  refine s_ifF (b := (chkE x y s != 0)) (by kernel_rfl) (by simp [hc]) ?_
  refine s_drawQ (fun w' => Keep [] w2 w') 4 14 (by kernel_rfl) (by kernel_rfl) (Keep.refl _ _).drew (by kernel_rfl) ?_
  refine q_load (a := ⟨bk, 0, none⟩) (v := .int .i64 x) (by kernel_rfl) (by kernel_rfl) (fun w' k => cell_of_blk (k.get hB (by simp)) rfl) ?_
  refine q_call (f := 32) (args := #[.int .i64 x]) (v := .string (two8 x)) (by kernel_rfl) (by kernel_rfl) (by kernel_rfl) (fun w' k => (two_nat x w').mono fun _ _ ⟨hv, hk⟩ => ⟨hv, k.trans' hk⟩) ?_
  refine q_load (a := ⟨bk, 1, none⟩) (v := .int .i64 y) (by kernel_rfl) (by kernel_rfl) (fun w' k => cell_of_blk (k.get hB (by simp)) rfl) ?_
  refine q_call (f := 32) (args := #[.int .i64 y]) (v := .string (two8 y)) (by kernel_rfl) (by kernel_rfl) (by kernel_rfl) (fun w' k => (two_nat y w').mono fun _ _ ⟨hv, hk⟩ => ⟨hv, k.trans' hk⟩) ?_
  refine q_concat (t := 9) (a := two8 x) (b := two8 y) (by simp only [two8_size]; omega) (by kernel_rfl) (by kernel_rfl) ?_
  refine q_load (a := ⟨bk, 2, none⟩) (v := .string s) (by kernel_rfl) (by kernel_rfl) (fun w' k => cell_of_blk (k.get hB (by simp)) rfl) ?_
  refine q_call (f := 32) (args := #[.int .i64 (IntKind.i64.wrap (8 + (s.size : Int)))]) (v := .string (two8 (8 + s.size))) (by kernel_rfl) (by kernel_rfl) (by kernel_rfl) (fun w' k => (two_int _ (8 + s.size) (by rw [w64 (by omega) (by omega)]; omega) w').mono fun _ _ ⟨hv, hk⟩ => ⟨hv, k.trans' hk⟩) ?_
  refine q_end (by kernel_rfl) (fun w3 k3 => ?_)
  have hB := k3.get hB (by simp)
  have k3 := k2.trans' k3
  refine s_drawQ (fun w' => Keep [] w3 w') 5 17 (by kernel_rfl) (by kernel_rfl) (Keep.refl _ _).drew (by kernel_rfl) ?_
  refine q_concat (t := 9) (a := two8 x ++ two8 y) (b := two8 (8 + s.size)) (by simp only [two8_size, ByteArray.size_append]; omega) (by kernel_rfl) (by kernel_rfl) ?_
  refine q_load (a := ⟨bk, 2, none⟩) (v := .string s) (by kernel_rfl) (by kernel_rfl) (fun w' k => cell_of_blk (k.get hB (by simp)) rfl) ?_
  refine q_call (f := 33) (args := #[.int .u32 a, .int .u32 b, .string (two8 x ++ two8 y), .string (two8 (8 + s.size)), .string s]) (v := .int .i64 (sm a b (two8 x ++ two8 y) (two8 (8 + s.size)) s)) (by kernel_rfl) (by kernel_rfl) (by kernel_rfl)
    (fun w' k => (dsum a b _ _ _ ha hb (by simp only [two8_size, ByteArray.size_append]; omega) (by simp only [two8_size]; omega) (by omega) w').mono fun _ _ ⟨hv, hk⟩ => ⟨hv, k.trans' hk⟩) ?_
  refine q_call (f := 32) (args := #[.int .i64 (sm a b (two8 x ++ two8 y) (two8 (8 + s.size)) s)]) (v := .string (two8 (sm a b (two8 x ++ two8 y) (two8 (8 + s.size)) s))) (by kernel_rfl) (by kernel_rfl) (by kernel_rfl) (fun w' k => (two_nat _ w').mono fun _ _ ⟨hv, hk⟩ => ⟨hv, k.trans' hk⟩) ?_
  refine q_concat (t := 9) (a := two8 x ++ two8 y ++ two8 (8 + s.size)) (b := two8 (sm a b (two8 x ++ two8 y) (two8 (8 + s.size)) s)) (by simp only [two8_size, ByteArray.size_append]; omega) (by kernel_rfl) (by kernel_rfl) ?_
  refine q_load (a := ⟨bk, 2, none⟩) (v := .string s) (by kernel_rfl) (by kernel_rfl) (fun w' k => cell_of_blk (k.get hB (by simp)) rfl) ?_
  refine q_concat (t := 9) (a := two8 x ++ two8 y ++ two8 (8 + s.size) ++ two8 (sm a b (two8 x ++ two8 y) (two8 (8 + s.size)) s)) (b := s) (by simp only [two8_size, ByteArray.size_append]; omega) (by kernel_rfl) (by kernel_rfl) ?_
  refine q_end (by kernel_rfl) (fun w4 k4 => ?_)
  exact s_done (by kernel_rfl) ⟨rfl, k3.trans' k4⟩

/-- What Decode hands back. -/
def decR (d : Dec) : Value := .tuple #[.agg #[.int .i64 d.src, .int .i64 d.dst, .string d.body], .int .i64 d.e]

theorem word_w (s : ByteArray) (n : Nat) (w : World) (h1 : n + 1 < s.size) (hs : n < 2000) :
    Ret Try.prog 34 #[.string s, .int .i64 n] w fun r w' => r = .int .i64 (wrd s n) ∧ Keep [] w w' := word_ret s n w h1 hs

theorem Keep.fresh {w w1 w2 : World} {b : Nat} (h1 : Keep [] w w1) (hb : b = w.heap.size) (h2 : Keep [b] w1 w2) : Keep [] w w2 :=
  h1.trans h2 (fun _ h => by cases h) (fun x hx => by simp at hx; exact .inr (by omega))

/-- The result's variable set, and handed back. -/
theorem dec_tail {w w0 : World} {fn : Func} {js : List J} {st : St} {bk : Nat} {x y x' y' : Int} {s s' : ByteArray} {e : Int} {Rv : Value → World → Prop}
    (hB : w.heap[bk]? = some (.cells #[.int .i64 x, .int .i64 y, .string s] 24 (0, 0))) (hK : Keep [] w0 w) (hbk : w0.heap.size ≤ bk)
    (hr : req st = .store ⟨bk, 0, none⟩ (.int .i64 x')) (hm : st.m = 0)
    (hr1 : req (nx Try.prog fn st .u) = .store ⟨bk, 1, none⟩ (.int .i64 y')) (hm1 : (nx Try.prog fn st .u).m = 0)
    (hr2 : req (nx Try.prog fn (nx Try.prog fn st .u) .u) = .store ⟨bk, 2, none⟩ (.string s')) (hm2 : (nx Try.prog fn (nx Try.prog fn st .u) .u).m = 0)
    (hr3 : req (nx Try.prog fn (nx Try.prog fn (nx Try.prog fn st .u) .u) .u) = .load ⟨bk, 0, none⟩)
    (hr4 : req (nx Try.prog fn (nx Try.prog fn (nx Try.prog fn (nx Try.prog fn st .u) .u) .u) (.v (.int .i64 x'))) = .load ⟨bk, 1, none⟩)
    (hr5 : req (nx Try.prog fn (nx Try.prog fn (nx Try.prog fn (nx Try.prog fn (nx Try.prog fn st .u) .u) .u) (.v (.int .i64 x'))) (.v (.int .i64 y'))) = .load ⟨bk, 2, none⟩)
    (hr6 : req (nx Try.prog fn (nx Try.prog fn (nx Try.prog fn (nx Try.prog fn (nx Try.prog fn (nx Try.prog fn st .u) .u) .u) (.v (.int .i64 x'))) (.v (.int .i64 y'))) (.v (.string s'))) = .done (.tuple #[.agg #[.int .i64 x', .int .i64 y', .string s'], .int .i64 e]))
    (hR : ∀ w', Keep [] w0 w' → Rv (.tuple #[.agg #[.int .i64 x', .int .i64 y', .string s'], .int .i64 e]) w') : G Try.prog fn (RR Rv) js st w := by
  refine x_store (o := 0) hB (by simp) hr hm rfl (fun w1 hB1 k1 => ?_)
  refine x_store (o := 1) hB1 (by simp) hr1 hm1 rfl (fun w2 hB2 k2 => ?_)
  refine x_store (o := 2) hB2 (by simp) hr2 hm2 rfl (fun w3 hB3 k3 => ?_)
  refine x_load (o := 0) hB3 rfl hr3 ?_
  refine x_load (o := 1) hB3 rfl hr4 ?_
  refine x_load (o := 2) hB3 rfl hr5 ?_
  refine s_done hr6 (hR _ ?_)
  exact hK.trans ((k1.trans' k2).trans' k3) (fun _ h => by cases h) (fun x hx => by simp at hx; subst hx; exact .inr hbk)

theorem decode_ret (a b : Nat) (s : ByteArray) (ha : a < 4294967296) (hb : b < 4294967296) (hs : s.size ≤ 140737488351232) (w : World) :
    Ret Try.prog 13 #[.int .u32 a, .int .u32 b, .string s] w fun v w' => v = decR (decV a b s) ∧ Keep [] w w' := by
  refine ret_of_G Try.func13 rfl rfl ?_
  refine x_new (ob := .cells #[.int .i64 0, .int .i64 0, .string ⟨#[]⟩] 24) (by kernel_rfl) (by kernel_rfl) (fun w1 bk hbk hB hK hlt => ?_)
  refine s_if (b := decide ((s.size : Int) < 8)) (by kernel_rfl) (fun h => ?_) (fun h => ?_)
  · have h := of_decide_eq_true h
    refine dec_tail (x' := 0) (y' := 0) (s' := ⟨#[]⟩) (e := 9) hB hK (by omega) (by kernel_rfl) (by kernel_rfl) (by kernel_rfl) (by kernel_rfl) (by kernel_rfl) (by kernel_rfl) (by kernel_rfl) (by kernel_rfl) (by kernel_rfl) (by kernel_rfl) (fun w' k => ⟨?_, k⟩)
    unfold decV; rw [if_pos (by omega)]; rfl
  have h := of_decide_eq_false h
  refine s_call (args := #[.string s, .int .i64 4]) (by kernel_rfl) (by kernel_rfl) (by kernel_rfl) (word_w s 4 _ (by omega) (by omega)) ?_
  rintro v w2 ⟨rfl, k2⟩
  have hB := k2.get hB (by simp)
  have hK := hK.trans' k2
  have tail3 : ∀ st : St, wrd s 4 ≠ s.size ∨ s.size > 1032 → G Try.prog Try.f13 (RR fun v w' => v = .tuple #[.agg #[.int .i64 0, .int .i64 0, .string ⟨#[]⟩], .int .i64 3] ∧ Keep [] w w') [] st w2 →
      G Try.prog Try.f13 (RR fun v w' => v = decR (decV a b s) ∧ Keep [] w w') [] st w2 := by
    intro st ho hG
    have : decR (decV a b s) = .tuple #[.agg #[.int .i64 0, .int .i64 0, .string ⟨#[]⟩], .int .i64 3] := by unfold decV; rw [if_neg (by omega), if_pos ho]; rfl
    rw [this]; exact hG
  refine s_if (b := ((wrd s 4 : Int) != s.size)) (by kernel_rfl) (fun h2 => ?_) (fun h2 => ?_)
  · have h2 : wrd s 4 ≠ s.size := by have := bne_iff_ne.1 h2; omega
    refine tail3 _ (.inl h2) ?_
    exact dec_tail (x' := 0) (y' := 0) (s' := ⟨#[]⟩) (e := 3) hB hK (by omega) (by kernel_rfl) (by kernel_rfl) (by kernel_rfl) (by kernel_rfl) (by kernel_rfl) (by kernel_rfl) (by kernel_rfl) (by kernel_rfl) (by kernel_rfl) (by kernel_rfl) (fun w' k => ⟨rfl, k⟩)
  have h2 : wrd s 4 = s.size := by have := bne_eq_false_iff_eq.1 h2; omega
  refine s_if (b := decide ((s.size : Int) > 1032)) (by kernel_rfl) (fun h3 => ?_) (fun h3 => ?_)
  · have h3 : s.size > 1032 := by have := of_decide_eq_true h3; omega
    refine tail3 _ (.inr h3) ?_
    exact dec_tail (x' := 0) (y' := 0) (s' := ⟨#[]⟩) (e := 3) hB hK (by omega) (by kernel_rfl) (by kernel_rfl) (by kernel_rfl) (by kernel_rfl) (by kernel_rfl) (by kernel_rfl) (by kernel_rfl) (by kernel_rfl) (by kernel_rfl) (by kernel_rfl) (fun w' k => ⟨rfl, k⟩)
  have h3 : s.size ≤ 1032 := by have := of_decide_eq_false h3; omega
  refine s_drawQ (fun w' => Keep [] w2 w') 5 12 (by kernel_rfl) (by kernel_rfl) (Keep.refl _ _).drew (by kernel_rfl) ?_
  refine q_call (f := 34) (args := #[.string s, .int .i64 6]) (v := .int .i64 (wrd s 6)) (by kernel_rfl) (by kernel_rfl) (by kernel_rfl) (fun w' k => (word_w s 6 w' (by omega) (by omega)).mono fun _ _ ⟨hv, hk⟩ => ⟨hv, k.trans' hk⟩) ?_
  refine q_sliceStr (t := 9) (s := s) (lo := none) (hi := some (.int .i64 4)) (l := 0) (h := 4) (by kernel_rfl) (.none 0) (.int .i64 4 _ (by decide)) (by omega) (by omega) (by kernel_rfl) (by kernel_rfl) ?_
  refine q_sliceStr (t := 9) (s := s) (lo := some (.int .i64 4)) (hi := some (.int .i64 6)) (l := 4) (h := 6) (by kernel_rfl) (.int .i64 4 _ (by decide)) (.int .i64 6 _ (by decide)) (by omega) (by omega) (by kernel_rfl) (by kernel_rfl) ?_
  refine q_sliceStr (t := 9) (s := s) (lo := some (.int .i64 8)) (hi := none) (l := 8) (h := s.size) (by kernel_rfl) (.int .i64 8 _ (by decide)) (.none _) (by omega) (by omega) (by kernel_rfl) (by kernel_rfl) ?_
  refine q_call (f := 33) (args := #[.int .u32 a, .int .u32 b, .string (s.extract 0 4), .string (s.extract 4 6), .string (s.extract 8 s.size)]) (v := .int .i64 (sm a b (s.extract 0 4) (s.extract 4 6) (s.extract 8 s.size))) (by kernel_rfl) (by kernel_rfl) (by kernel_rfl)
    (fun w' k => (dsum a b _ _ _ ha hb (by simp; omega) (by simp; omega) (by simp; omega) w').mono fun _ _ ⟨hv, hk⟩ => ⟨hv, k.trans' hk⟩) ?_
  refine q_end (by kernel_rfl) (fun w3 k3 => ?_)
  have hB := k3.get hB (by simp)
  have hK := hK.trans' k3
  refine s_if (b := ((wrd s 6 : Int) != (sm a b (s.extract 0 4) (s.extract 4 6) (s.extract 8 s.size) : Int))) (by kernel_rfl) (fun h4 => ?_) (fun h4 => ?_)
  · have h4 : wrd s 6 ≠ sm a b (s.extract 0 4) (s.extract 4 6) (s.extract 8 s.size) := by have := bne_iff_ne.1 h4; omega
    refine dec_tail (x' := 0) (y' := 0) (s' := ⟨#[]⟩) (e := 8) hB hK (by omega) (by kernel_rfl) (by kernel_rfl) (by kernel_rfl) (by kernel_rfl) (by kernel_rfl) (by kernel_rfl) (by kernel_rfl) (by kernel_rfl) (by kernel_rfl) (by kernel_rfl) (fun w' k => ⟨?_, k⟩)
    unfold decV; rw [if_neg (by omega), if_neg (by omega), if_pos h4]; rfl
  have h4 : wrd s 6 = sm a b (s.extract 0 4) (s.extract 4 6) (s.extract 8 s.size) := by have := bne_eq_false_iff_eq.1 h4; omega
  refine s_drawQ (fun w' => Keep [] w3 w') 7 7 (by kernel_rfl) (by kernel_rfl) (Keep.refl _ _).drew (by kernel_rfl) ?_
  refine q_call (f := 34) (args := #[.string s, .int .i64 0]) (v := .int .i64 (wrd s 0)) (by kernel_rfl) (by kernel_rfl) (by kernel_rfl) (fun w' k => (word_w s 0 w' (by omega) (by omega)).mono fun _ _ ⟨hv, hk⟩ => ⟨hv, k.trans' hk⟩) ?_
  refine q_call (f := 34) (args := #[.string s, .int .i64 2]) (v := .int .i64 (wrd s 2)) (by kernel_rfl) (by kernel_rfl) (by kernel_rfl) (fun w' k => (word_w s 2 w' (by omega) (by omega)).mono fun _ _ ⟨hv, hk⟩ => ⟨hv, k.trans' hk⟩) ?_
  refine q_sliceStr (t := 9) (s := s) (lo := some (.int .i64 8)) (hi := none) (l := 8) (h := s.size) (by kernel_rfl) (.int .i64 8 _ (by decide)) (.none _) (by omega) (by omega) (by kernel_rfl) (by kernel_rfl) ?_
  refine q_end (by kernel_rfl) (fun w4 k4 => ?_)
  have hB := k4.get hB (by simp)
  have hK := hK.trans' k4
  refine dec_tail (x' := wrd s 0) (y' := wrd s 2) (s' := s.extract 8 s.size) (e := 0) hB hK (by omega) (by kernel_rfl) (by kernel_rfl) (by kernel_rfl) (by kernel_rfl) (by kernel_rfl) (by kernel_rfl) (by kernel_rfl) (by kernel_rfl) (by kernel_rfl) (by kernel_rfl) (fun w' k => ⟨?_, k⟩)
  unfold decV; rw [if_neg (by omega), if_neg (by omega), if_neg (by omega)]; rfl
end Go.Proofs.Ytfknpeajihecdaa.Old
