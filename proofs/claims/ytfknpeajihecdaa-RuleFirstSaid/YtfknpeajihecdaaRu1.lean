import Derived.Test.YtfknpeajihecdaaProg
import Derived.Test.YtfknpeajihecdaaXMeq
import Derived.Test.YtfknpeajihecdaaRuPure
namespace Go.Proofs.Ytfknpeajihecdaa
open Go.XM Go.RowKit Go.Dg Go.Ru
set_option maxRecDepth 100000

theorem mask_ret (b : Int) (hb : -9223372036854775808 ≤ b ∧ b ≤ 9223372036854775807) (w : World) : Ret Try.prog 55 #[.int .i64 b] w fun v w' => v = .tuple #[.int .u32 (maskV b), .int .i64 (maskE b)] ∧ w' = w := by
  refine ret_of_G Try.func55 rfl rfl ?_
  refine s_if (b := decide (b < 0)) (by kernel_rfl) (fun h => ?_) (fun h => ?_)
  · have h := of_decide_eq_true h
    exact s_done (v := .tuple #[.int .u32 0, .int .i64 10]) (by kernel_rfl) ⟨by unfold maskV maskE; rw [if_pos (by omega), if_pos (by omega)], rfl⟩
  have h := of_decide_eq_false h
  refine s_if (b := decide (b > 32)) (by kernel_rfl) (fun h2 => ?_) (fun h2 => ?_)
  · have h2 := of_decide_eq_true h2
    exact s_done (v := .tuple #[.int .u32 0, .int .i64 10]) (by kernel_rfl) ⟨by unfold maskV maskE; rw [if_pos (by omega), if_pos (by omega)], rfl⟩
  have h2 := of_decide_eq_false h2
  refine x_shl (t := 22) (kd := .u32) (ky := .i64) (a := 4294967295) (y := IntKind.i64.wrap (32 - b)) (by rw [w64 (by omega) (by omega)]; omega) (by kernel_rfl) ?_
  exact s_done (v := .tuple #[.int .u32 (IntKind.u32.wrap (4294967295 * 2 ^ (min (IntKind.i64.wrap (32 - b)).toNat IntKind.u32.bits))), .int .i64 0]) (by kernel_rfl) ⟨by unfold maskV maskE; rw [if_neg (by omega), if_neg (by omega)], rfl⟩

theorem addrCheck_ret (a b : Int) (hb : -9223372036854775808 ≤ b ∧ b ≤ 9223372036854775807) (w : World) : Ret Try.prog 36 #[.agg #[.int .u32 a, .int .i64 b]] w fun v w' => v = .int .i64 (acE a b) ∧ Keep [] w w' := by
  have hK := Keep.refl [] w
  refine ret_of_G Try.func36 rfl rfl ?_
  refine x_new (ob := Obj.cells (#[Value.int IntKind.u32 a, Value.int IntKind.i64 b]) 43) (by kernel_rfl) (by kernel_rfl) (fun w1 b1 hb1 hB1 hk1 hlt1 => ?_)
  have hK := Keep.trans' hK hk1
  refine x_load (o := 1) hB1 rfl (by kernel_rfl) ?_
  refine s_callS (f := 55) (args := #[Value.int IntKind.i64 b]) (by kernel_rfl) (by kernel_rfl) (mask_ret _ hb _) ?_
  refine s_if (b := maskE b != (0 : Int)) (by kernel_rfl) (fun ht1 => ?_) (fun hf1 => ?_)
  · have p1 := bne_iff_ne.1 ht1
    refine s_done (v := Value.int IntKind.i64 (maskE b)) (by kernel_rfl) ?_
    exact ⟨by simp_all [acE], hK⟩
  · have p1 := bne_eq_false_iff_eq.1 hf1
    refine x_load (o := 0) hB1 rfl (by kernel_rfl) ?_
    refine s_if (b := IntKind.u32.wrap (↑(BitVec.ofInt IntKind.u32.bits a &&& ~~~BitVec.ofInt IntKind.u32.bits (maskV b)).toNat : Int) != (0 : Int)) (by kernel_rfl) (fun ht2 => ?_) (fun hf2 => ?_)
    · have p2 := bne_iff_ne.1 ht2
      refine s_done (v := Value.int IntKind.i64 (3 : Int)) (by kernel_rfl) ?_
      exact ⟨by simp_all [acE], hK⟩
    · have p2 := bne_eq_false_iff_eq.1 hf2
      refine s_done (v := Value.int IntKind.i64 (0 : Int)) (by kernel_rfl) ?_
      exact ⟨by simp_all [acE], hK⟩

theorem has_ret (a b x : Int) (hb : -9223372036854775808 ≤ b ∧ b ≤ 9223372036854775807) (w : World) : Ret Try.prog 39 #[.agg #[.int .u32 a, .int .i64 b], .int .u32 x] w fun v w' => v = .bool (hasV a b x) ∧ Keep [] w w' := by
  have hK := Keep.refl [] w
  refine ret_of_G Try.func39 rfl rfl ?_
  refine x_new (ob := Obj.cells (#[Value.int IntKind.u32 a, Value.int IntKind.i64 b]) 43) (by kernel_rfl) (by kernel_rfl) (fun w1 b1 hb1 hB1 hk1 hlt1 => ?_)
  have hK := Keep.trans' hK hk1
  refine x_load (o := 0) hB1 rfl (by kernel_rfl) ?_
  refine x_load (o := 1) hB1 rfl (by kernel_rfl) ?_
  refine s_call (f := 36) (args := #[Value.agg (#[Value.int IntKind.u32 a, Value.int IntKind.i64 b])]) (by kernel_rfl) (by kernel_rfl) (by kernel_rfl) (addrCheck_ret _ _ hb _) ?_
  rintro v w2 ⟨rfl, hk2⟩
  have hB1 := Keep.get hk2 hB1 (by simp)
  have hk1 := Keep.trans' hk1 hk2
  have hK := Keep.trans' hK hk2
  refine s_if (b := acE a b != (0 : Int)) (by kernel_rfl) (fun ht1 => ?_) (fun hf1 => ?_)
  · have p1 := bne_iff_ne.1 ht1
    refine s_done (v := Value.bool false) (by kernel_rfl) ?_
    exact ⟨by simp_all [hasV], hK⟩
  · have p1 := bne_eq_false_iff_eq.1 hf1
    refine x_load (o := 1) hB1 rfl (by kernel_rfl) ?_
    refine s_callS (f := 55) (args := #[Value.int IntKind.i64 b]) (by kernel_rfl) (by kernel_rfl) (mask_ret _ hb _) ?_
    refine x_load (o := 0) hB1 rfl (by kernel_rfl) ?_
    refine s_done (v := Value.bool (IntKind.u32.wrap (↑(BitVec.ofInt IntKind.u32.bits x &&& BitVec.ofInt IntKind.u32.bits (maskV b)).toNat : Int) == a)) (by kernel_rfl) ?_
    exact ⟨by simp_all [hasV], hK⟩

theorem in_ret (n a b : Int) (w : World) : Ret Try.prog 37 #[.int .i64 n, .int .i64 a, .int .i64 b] w fun v w' => v = .bool (inV n a b) ∧ w' = w := by
  refine ret_of_G Try.func37 rfl rfl ?_
  refine s_if (b := decide (n ≥ a)) (by kernel_rfl) (fun ht1 => ?_) (fun hf1 => ?_)
  · have p1 := of_decide_eq_true ht1
    refine s_done (v := Value.bool (decide (n ≤ b))) (by kernel_rfl) ?_
    exact ⟨by simp_all [inV]; try omega, rfl⟩
  · have p1 := of_decide_eq_false hf1
    refine s_done (v := Value.bool false) (by kernel_rfl) ?_
    exact ⟨by simp_all [inV]; try omega, rfl⟩

theorem badRange_ret (a b : Int) (w : World) : Ret Try.prog 38 #[.int .i64 a, .int .i64 b] w fun v w' => v = .bool (badR a b) ∧ w' = w := by
  refine ret_of_G Try.func38 rfl rfl ?_
  refine s_if (b := decide (a < (0 : Int))) (by kernel_rfl) (fun ht1 => ?_) (fun hf1 => ?_)
  · have p1 := of_decide_eq_true ht1
    refine s_done (v := Value.bool true) (by kernel_rfl) ?_
    exact ⟨by congr 1; rw [Bool.eq_iff_iff]; simp [badR]; omega, rfl⟩
  · have p1 := of_decide_eq_false hf1
    refine s_if (b := decide (a > b)) (by kernel_rfl) (fun ht2 => ?_) (fun hf2 => ?_)
    · have p2 := of_decide_eq_true ht2
      refine s_done (v := Value.bool true) (by kernel_rfl) ?_
      exact ⟨by congr 1; rw [Bool.eq_iff_iff]; simp [badR]; omega, rfl⟩
    · have p2 := of_decide_eq_false hf2
      refine s_done (v := Value.bool (decide (b > (65535 : Int)))) (by kernel_rfl) ?_
      exact ⟨by congr 1; rw [Bool.eq_iff_iff]; simp [badR]; omega, rfl⟩

theorem pktCheck_ret (p : PktV) (hs : p.body.size ≤ Go.maxLen) (hbo : -9223372036854775808 ≤ p.off ∧ p.off ≤ 9223372036854775807) (w : World) : Ret Try.prog 19 #[.agg (encP p).toArray] w fun v w' => v = .int .i64 (pktE p) ∧ Keep [] w w' := by
  obtain ⟨src, dst, proto, ttl, id, off, more, whole, body⟩ := p
  have hK := Keep.refl [] w
  refine ret_of_G Try.func19 rfl rfl ?_
  refine x_new (ob := Obj.cells (#[Value.int IntKind.u32 src, Value.int IntKind.u32 dst, Value.int IntKind.i64 proto, Value.int IntKind.i64 ttl, Value.int IntKind.i64 id, Value.int IntKind.i64 off, Value.bool more, Value.bool whole, Value.string body]) 37) (by kernel_rfl) (by kernel_rfl) (fun w1 b1 hb1 hB1 hk1 hlt1 => ?_)
  have hK := Keep.trans' hK hk1
  refine x_load (o := 2) hB1 rfl (by kernel_rfl) ?_
  refine s_if (b := decide (proto < (0 : Int))) (by kernel_rfl) (fun ht1 => ?_) (fun hf1 => ?_)
  · have p1 := of_decide_eq_true ht1
    refine s_done (v := Value.int IntKind.i64 (10 : Int)) (by kernel_rfl) ?_
    exact ⟨by simp only [pktE, Value.int.injEq, true_and]; first | rw [if_pos (by omega)] | (rw [if_neg (by omega), if_pos (by omega)]) | (rw [if_neg (by omega), if_neg (by omega)]; first | (rw [if_pos (.inl p11)]; done) | (rw [if_pos (.inr (.inl ⟨ht12, p13⟩))]; done) | (simp_all; done) | (simp_all; omega)), hK⟩
  · have p1 := of_decide_eq_false hf1
    refine x_load (o := 2) hB1 rfl (by kernel_rfl) ?_
    refine s_if (b := decide (proto > (255 : Int))) (by kernel_rfl) (fun ht2 => ?_) (fun hf2 => ?_)
    · have p2 := of_decide_eq_true ht2
      refine s_done (v := Value.int IntKind.i64 (10 : Int)) (by kernel_rfl) ?_
      exact ⟨by simp only [pktE, Value.int.injEq, true_and]; first | rw [if_pos (by omega)] | (rw [if_neg (by omega), if_pos (by omega)]) | (rw [if_neg (by omega), if_neg (by omega)]; first | (rw [if_pos (.inl p11)]; done) | (rw [if_pos (.inr (.inl ⟨ht12, p13⟩))]; done) | (simp_all; done) | (simp_all; omega)), hK⟩
    · have p2 := of_decide_eq_false hf2
      refine x_load (o := 3) hB1 rfl (by kernel_rfl) ?_
      refine s_if (b := decide (ttl < (1 : Int))) (by kernel_rfl) (fun ht3 => ?_) (fun hf3 => ?_)
      · have p3 := of_decide_eq_true ht3
        refine s_done (v := Value.int IntKind.i64 (10 : Int)) (by kernel_rfl) ?_
        exact ⟨by simp only [pktE, Value.int.injEq, true_and]; first | rw [if_pos (by omega)] | (rw [if_neg (by omega), if_pos (by omega)]) | (rw [if_neg (by omega), if_neg (by omega)]; first | (rw [if_pos (.inl p11)]; done) | (rw [if_pos (.inr (.inl ⟨ht12, p13⟩))]; done) | (simp_all; done) | (simp_all; omega)), hK⟩
      · have p3 := of_decide_eq_false hf3
        refine x_load (o := 3) hB1 rfl (by kernel_rfl) ?_
        refine s_if (b := decide (ttl > (255 : Int))) (by kernel_rfl) (fun ht4 => ?_) (fun hf4 => ?_)
        · have p4 := of_decide_eq_true ht4
          refine s_done (v := Value.int IntKind.i64 (10 : Int)) (by kernel_rfl) ?_
          exact ⟨by simp only [pktE, Value.int.injEq, true_and]; first | rw [if_pos (by omega)] | (rw [if_neg (by omega), if_pos (by omega)]) | (rw [if_neg (by omega), if_neg (by omega)]; first | (rw [if_pos (.inl p11)]; done) | (rw [if_pos (.inr (.inl ⟨ht12, p13⟩))]; done) | (simp_all; done) | (simp_all; omega)), hK⟩
        · have p4 := of_decide_eq_false hf4
          refine x_load (o := 4) hB1 rfl (by kernel_rfl) ?_
          refine s_if (b := decide (id < (0 : Int))) (by kernel_rfl) (fun ht5 => ?_) (fun hf5 => ?_)
          · have p5 := of_decide_eq_true ht5
            refine s_done (v := Value.int IntKind.i64 (10 : Int)) (by kernel_rfl) ?_
            exact ⟨by simp only [pktE, Value.int.injEq, true_and]; first | rw [if_pos (by omega)] | (rw [if_neg (by omega), if_pos (by omega)]) | (rw [if_neg (by omega), if_neg (by omega)]; first | (rw [if_pos (.inl p11)]; done) | (rw [if_pos (.inr (.inl ⟨ht12, p13⟩))]; done) | (simp_all; done) | (simp_all; omega)), hK⟩
          · have p5 := of_decide_eq_false hf5
            refine x_load (o := 4) hB1 rfl (by kernel_rfl) ?_
            refine s_if (b := decide (id > (65535 : Int))) (by kernel_rfl) (fun ht6 => ?_) (fun hf6 => ?_)
            · have p6 := of_decide_eq_true ht6
              refine s_done (v := Value.int IntKind.i64 (10 : Int)) (by kernel_rfl) ?_
              exact ⟨by simp only [pktE, Value.int.injEq, true_and]; first | rw [if_pos (by omega)] | (rw [if_neg (by omega), if_pos (by omega)]) | (rw [if_neg (by omega), if_neg (by omega)]; first | (rw [if_pos (.inl p11)]; done) | (rw [if_pos (.inr (.inl ⟨ht12, p13⟩))]; done) | (simp_all; done) | (simp_all; omega)), hK⟩
            · have p6 := of_decide_eq_false hf6
              refine x_load (o := 5) hB1 rfl (by kernel_rfl) ?_
              refine s_if (b := decide (off < (0 : Int))) (by kernel_rfl) (fun ht7 => ?_) (fun hf7 => ?_)
              · have p7 := of_decide_eq_true ht7
                refine s_done (v := Value.int IntKind.i64 (10 : Int)) (by kernel_rfl) ?_
                exact ⟨by simp only [pktE, Value.int.injEq, true_and]; first | rw [if_pos (by omega)] | (rw [if_neg (by omega), if_pos (by omega)]) | (rw [if_neg (by omega), if_neg (by omega)]; first | (rw [if_pos (.inl p11)]; done) | (rw [if_pos (.inr (.inl ⟨ht12, p13⟩))]; done) | (simp_all; done) | (simp_all; omega)), hK⟩
              · have p7 := of_decide_eq_false hf7
                refine x_load (o := 5) hB1 rfl (by kernel_rfl) ?_
                refine s_if (b := decide (off > (65528 : Int))) (by kernel_rfl) (fun ht8 => ?_) (fun hf8 => ?_)
                · have p8 := of_decide_eq_true ht8
                  refine s_done (v := Value.int IntKind.i64 (10 : Int)) (by kernel_rfl) ?_
                  exact ⟨by simp only [pktE, Value.int.injEq, true_and]; first | rw [if_pos (by omega)] | (rw [if_neg (by omega), if_pos (by omega)]) | (rw [if_neg (by omega), if_neg (by omega)]; first | (rw [if_pos (.inl p11)]; done) | (rw [if_pos (.inr (.inl ⟨ht12, p13⟩))]; done) | (simp_all; done) | (simp_all; omega)), hK⟩
                · have p8 := of_decide_eq_false hf8
                  refine x_load (o := 8) hB1 rfl (by kernel_rfl) ?_
                  refine s_if (b := decide ((↑body.size : Int) > (1500 : Int))) (by kernel_rfl) (fun ht9 => ?_) (fun hf9 => ?_)
                  · have p9 := of_decide_eq_true ht9
                    refine s_done (v := Value.int IntKind.i64 (2 : Int)) (by kernel_rfl) ?_
                    exact ⟨by simp only [pktE, Value.int.injEq, true_and]; first | rw [if_pos (by omega)] | (rw [if_neg (by omega), if_pos (by omega)]) | (rw [if_neg (by omega), if_neg (by omega)]; first | (rw [if_pos (.inl p11)]; done) | (rw [if_pos (.inr (.inl ⟨ht12, p13⟩))]; done) | (simp_all; done) | (simp_all; omega)), hK⟩
                  · have p9 := of_decide_eq_false hf9
                    refine x_load (o := 5) hB1 rfl (by kernel_rfl) ?_
                    refine x_load (o := 8) hB1 rfl (by kernel_rfl) ?_
                    refine s_if (b := decide (IntKind.i64.wrap (off + (↑body.size : Int)) > (65535 : Int))) (by kernel_rfl) (fun ht10 => ?_) (fun hf10 => ?_)
                    · have p10 := of_decide_eq_true ht10
                      refine s_done (v := Value.int IntKind.i64 (2 : Int)) (by kernel_rfl) ?_
                      exact ⟨by simp only [pktE, Value.int.injEq, true_and]; first | rw [if_pos (by omega)] | (rw [if_neg (by omega), if_pos (by omega)]) | (rw [if_neg (by omega), if_neg (by omega)]; first | (rw [if_pos (.inl p11)]; done) | (rw [if_pos (.inr (.inl ⟨ht12, p13⟩))]; done) | (simp_all; done) | (simp_all; omega)), hK⟩
                    · have p10 := of_decide_eq_false hf10
                      refine x_load (o := 5) hB1 rfl (by kernel_rfl) ?_
                      refine s_if (b := off.tmod (8 : Int) != (0 : Int)) (by kernel_rfl) (fun ht11 => ?_) (fun hf11 => ?_)
                      · have p11 := bne_iff_ne.1 ht11
                        refine s_done (v := Value.int IntKind.i64 (3 : Int)) (by kernel_rfl) ?_
                        exact ⟨by simp only [pktE, Value.int.injEq, true_and]; first | rw [if_pos (by omega)] | (rw [if_neg (by omega), if_pos (by omega)]) | (rw [if_neg (by omega), if_neg (by omega)]; first | (rw [if_pos (.inl p11)]; done) | (rw [if_pos (.inr (.inl ⟨ht12, p13⟩))]; done) | (simp_all; done) | (simp_all; omega)), hK⟩
                      · have p11 := bne_eq_false_iff_eq.1 hf11
                        refine x_load (o := 6) hB1 rfl (by kernel_rfl) ?_
                        refine s_if (b := more) (by kernel_rfl) (fun ht12 => ?_) (fun hf12 => ?_)
                        · refine x_load (o := 8) hB1 rfl (by kernel_rfl) ?_
                          refine s_if (b := (↑body.size : Int).tmod (8 : Int) != (0 : Int)) (by kernel_rfl) (fun ht13 => ?_) (fun hf13 => ?_)
                          · have p13 := bne_iff_ne.1 ht13
                            refine s_done (v := Value.int IntKind.i64 (3 : Int)) (by kernel_rfl) ?_
                            exact ⟨by simp only [pktE, Value.int.injEq, true_and]; first | rw [if_pos (by omega)] | (rw [if_neg (by omega), if_pos (by omega)]) | (rw [if_neg (by omega), if_neg (by omega)]; first | (rw [if_pos (.inl p11)]; done) | (rw [if_pos (.inr (.inl ⟨ht12, p13⟩))]; done) | (simp_all; done) | (simp_all; omega)), hK⟩
                          · have p13 := bne_eq_false_iff_eq.1 hf13
                            refine x_load (o := 6) hB1 rfl (by kernel_rfl) ?_
                            refine s_ifT (by kernel_rfl) ht12 ?_
                            refine x_load (o := 8) hB1 rfl (by kernel_rfl) ?_
                            refine s_if (b := body.toList == (ByteArray.mk #[]).toList) (by kernel_rfl) (fun ht14 => ?_) (fun hf14 => ?_)
                            · have p14 := eq_of_beq ht14
                              refine s_done (v := Value.int IntKind.i64 (3 : Int)) (by kernel_rfl) ?_
                              exact ⟨by simp only [pktE, Value.int.injEq, true_and]; first | rw [if_pos (by omega)] | (rw [if_neg (by omega), if_pos (by omega)]) | (rw [if_neg (by omega), if_neg (by omega)]; first | (rw [if_pos (.inl p11)]; done) | (rw [if_pos (.inr (.inl ⟨ht12, p13⟩))]; done) | (simp_all; done) | (simp_all; omega)), hK⟩
                            · have p14 := ne_of_beq_false hf14
                              refine x_load (o := 7) hB1 rfl (by kernel_rfl) ?_
                              refine s_if (b := whole) (by kernel_rfl) (fun ht15 => ?_) (fun hf15 => ?_)
                              · refine s_done (v := Value.int IntKind.i64 (3 : Int)) (by kernel_rfl) ?_
                                exact ⟨by simp only [pktE, Value.int.injEq, true_and]; first | rw [if_pos (by omega)] | (rw [if_neg (by omega), if_pos (by omega)]) | (rw [if_neg (by omega), if_neg (by omega)]; first | (rw [if_pos (.inl p11)]; done) | (rw [if_pos (.inr (.inl ⟨ht12, p13⟩))]; done) | (simp_all; done) | (simp_all; omega)), hK⟩
                              · refine s_done (v := Value.int IntKind.i64 (0 : Int)) (by kernel_rfl) ?_
                                exact ⟨by simp only [pktE, Value.int.injEq, true_and]; first | rw [if_pos (by omega)] | (rw [if_neg (by omega), if_pos (by omega)]) | (rw [if_neg (by omega), if_neg (by omega)]; first | (rw [if_pos (.inl p11)]; done) | (rw [if_pos (.inr (.inl ⟨ht12, p13⟩))]; done) | (simp_all; done) | (simp_all; omega)), hK⟩
                        · refine x_load (o := 6) hB1 rfl (by kernel_rfl) ?_
                          refine s_ifF (by kernel_rfl) hf12 ?_
                          refine x_load (o := 5) hB1 rfl (by kernel_rfl) ?_
                          refine s_if (b := decide (off > (0 : Int))) (by kernel_rfl) (fun ht13 => ?_) (fun hf13 => ?_)
                          · have p13 := of_decide_eq_true ht13
                            refine x_load (o := 8) hB1 rfl (by kernel_rfl) ?_
                            refine s_if (b := body.toList == (ByteArray.mk #[]).toList) (by kernel_rfl) (fun ht14 => ?_) (fun hf14 => ?_)
                            · have p14 := eq_of_beq ht14
                              refine s_done (v := Value.int IntKind.i64 (3 : Int)) (by kernel_rfl) ?_
                              exact ⟨by simp only [pktE, Value.int.injEq, true_and]; first | rw [if_pos (by omega)] | (rw [if_neg (by omega), if_pos (by omega)]) | (rw [if_neg (by omega), if_neg (by omega)]; first | (rw [if_pos (.inl p11)]; done) | (rw [if_pos (.inr (.inl ⟨ht12, p13⟩))]; done) | (simp_all; done) | (simp_all; omega)), hK⟩
                            · have p14 := ne_of_beq_false hf14
                              refine x_load (o := 7) hB1 rfl (by kernel_rfl) ?_
                              refine s_if (b := whole) (by kernel_rfl) (fun ht15 => ?_) (fun hf15 => ?_)
                              · refine s_done (v := Value.int IntKind.i64 (3 : Int)) (by kernel_rfl) ?_
                                exact ⟨by simp only [pktE, Value.int.injEq, true_and]; first | rw [if_pos (by omega)] | (rw [if_neg (by omega), if_pos (by omega)]) | (rw [if_neg (by omega), if_neg (by omega)]; first | (rw [if_pos (.inl p11)]; done) | (rw [if_pos (.inr (.inl ⟨ht12, p13⟩))]; done) | (simp_all; done) | (simp_all; omega)), hK⟩
                              · refine s_done (v := Value.int IntKind.i64 (0 : Int)) (by kernel_rfl) ?_
                                exact ⟨by simp only [pktE, Value.int.injEq, true_and]; first | rw [if_pos (by omega)] | (rw [if_neg (by omega), if_pos (by omega)]) | (rw [if_neg (by omega), if_neg (by omega)]; first | (rw [if_pos (.inl p11)]; done) | (rw [if_pos (.inr (.inl ⟨ht12, p13⟩))]; done) | (simp_all; done) | (simp_all; omega)), hK⟩
                          · have p13 := of_decide_eq_false hf13
                            refine s_done (v := Value.int IntKind.i64 (0 : Int)) (by kernel_rfl) ?_
                            exact ⟨by simp only [pktE, Value.int.injEq, true_and]; first | rw [if_pos (by omega)] | (rw [if_neg (by omega), if_pos (by omega)]) | (rw [if_neg (by omega), if_neg (by omega)]; first | (rw [if_pos (.inl p11)]; done) | (rw [if_pos (.inr (.inl ⟨ht12, p13⟩))]; done) | (simp_all; done) | (simp_all; omega)), hK⟩
end Go.Proofs.Ytfknpeajihecdaa
