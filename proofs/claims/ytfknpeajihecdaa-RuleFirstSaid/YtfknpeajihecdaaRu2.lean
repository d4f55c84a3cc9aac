import Derived.Test.YtfknpeajihecdaaRu1
import Derived.Test.YtfknpeajihecdaaXMeq
namespace Go.Proofs.Ytfknpeajihecdaa
open Go.XM Go.RowKit Go.Dg Go.Ru
set_option maxRecDepth 100000

theorem byteOr (u v : UInt8) : IntKind.i64.wrap ((BitVec.ofInt IntKind.i64.bits (IntKind.i64.wrap (IntKind.i64.wrap (u.toNat : Int) * 2 ^ 8)) ||| BitVec.ofInt IntKind.i64.bits (IntKind.i64.wrap (v.toNat : Int))).toNat : Int) = ((u.toNat * 256 + v.toNat : Nat) : Int) := by
  have h2 := UInt8.toNat_lt u
  have h3 := UInt8.toNat_lt v
  rw [w64 (n := (u.toNat : Int)) (by omega) (by omega), w64 (n := (v.toNat : Int)) (by omega) (by omega), show ((u.toNat : Int) * 2 ^ 8) = ((u.toNat * 256 : Nat) : Int) by omega, w64 (n := ((u.toNat * 256 : Nat) : Int)) (by omega) (by omega), or64 (by omega) (by omega), or_add u.toNat v.toNat 8 h3]

theorem ports_ret (p : PktV) (w : World) : Ret Try.prog 40 #[.agg (encP p).toArray] w fun v w' => v = (if hasPorts p = true then .tuple #[.int .i64 (wrd p.body 0), .int .i64 (wrd p.body 2), .bool true] else .tuple #[.int .i64 0, .int .i64 0, .bool false]) ∧ Keep [] w w' := by
  obtain ⟨src, dst, proto, ttl, id, off, more, whole, body⟩ := p
  have hK := Keep.refl [] w
  by_cases hsz : 4 ≤ body.size
  · obtain ⟨u0, hu0, e0⟩ := some_byt (s := body) (k := 0) (by omega)
    obtain ⟨u1, hu1, e1⟩ := some_byt (s := body) (k := 1) (by omega)
    obtain ⟨u2, hu2, e2⟩ := some_byt (s := body) (k := 2) (by omega)
    obtain ⟨u3, hu3, e3⟩ := some_byt (s := body) (k := 3) (by omega)
    refine ret_of_G Try.func40 rfl rfl ?_
    refine x_new (ob := Obj.cells (#[Value.int IntKind.u32 src, Value.int IntKind.u32 dst, Value.int IntKind.i64 proto, Value.int IntKind.i64 ttl, Value.int IntKind.i64 id, Value.int IntKind.i64 off, Value.bool more, Value.bool whole, Value.string body]) 37) (by kernel_rfl) (by kernel_rfl) (fun w1 b1 hb1 hB1 hk1 hlt1 => ?_)
    have hK := Keep.trans' hK hk1
    refine x_load (o := 2) hB1 rfl (by kernel_rfl) ?_
    refine s_if (b := proto != (6 : Int)) (by kernel_rfl) (fun ht1 => ?_) (fun hf1 => ?_)
    · have p1 := bne_iff_ne.1 ht1
      refine x_load (o := 2) hB1 rfl (by kernel_rfl) ?_
      refine s_if (b := proto != (17 : Int)) (by kernel_rfl) (fun ht2 => ?_) (fun hf2 => ?_)
      · have p2 := bne_iff_ne.1 ht2
        refine s_done (v := Value.tuple (#[Value.int IntKind.i64 (0 : Int), Value.int IntKind.i64 (0 : Int), Value.bool false])) (by kernel_rfl) ?_
        exact ⟨by first | (rw [if_neg (by simp [hasPorts]; omega)]; done) | (rw [if_pos (by simp [hasPorts]; omega)]; simp only [wrd, e0, e1, e2, e3, ← byteOr]; rfl), hK⟩
      · have p2 := bne_eq_false_iff_eq.1 hf2
        refine x_load (o := 5) hB1 rfl (by kernel_rfl) ?_
        refine s_if (b := off != (0 : Int)) (by kernel_rfl) (fun ht3 => ?_) (fun hf3 => ?_)
        · have p3 := bne_iff_ne.1 ht3
          refine s_done (v := Value.tuple (#[Value.int IntKind.i64 (0 : Int), Value.int IntKind.i64 (0 : Int), Value.bool false])) (by kernel_rfl) ?_
          exact ⟨by first | (rw [if_neg (by simp [hasPorts]; omega)]; done) | (rw [if_pos (by simp [hasPorts]; omega)]; simp only [wrd, e0, e1, e2, e3, ← byteOr]; rfl), hK⟩
        · have p3 := bne_eq_false_iff_eq.1 hf3
          refine x_load (o := 8) hB1 rfl (by kernel_rfl) ?_
          refine s_if (b := decide ((↑body.size : Int) < (4 : Int))) (by kernel_rfl) (fun ht4 => ?_) (fun hf4 => ?_)
          · have p4 := of_decide_eq_true ht4
            (exfalso; omega)
          · have p4 := of_decide_eq_false hf4
            refine s_draw (3 : Nat) 23 (by kernel_rfl) (by kernel_rfl) (by kernel_rfl) ?_
            have hk1 := Keep.drew hk1
            have hK := Keep.drew hK
            refine x_load (o := 8) hB1 rfl (by kernel_rfl) ?_
            refine x_strIdx (t := (9 : Nat)) (s := body) (kd := IntKind.i64) (i := (0 : Int)) (by kernel_rfl) (by omega) hu0 (by kernel_rfl) ?_
            refine x_load (o := 8) hB1 rfl (by kernel_rfl) ?_
            refine x_strIdx (t := (9 : Nat)) (s := body) (kd := IntKind.i64) (i := (1 : Int)) (by kernel_rfl) (by omega) hu1 (by kernel_rfl) ?_
            refine x_load (o := 8) hB1 rfl (by kernel_rfl) ?_
            refine x_strIdx (t := (9 : Nat)) (s := body) (kd := IntKind.i64) (i := (2 : Int)) (by kernel_rfl) (by omega) hu2 (by kernel_rfl) ?_
            refine x_load (o := 8) hB1 rfl (by kernel_rfl) ?_
            refine x_strIdx (t := (9 : Nat)) (s := body) (kd := IntKind.i64) (i := (3 : Int)) (by kernel_rfl) (by omega) hu3 (by kernel_rfl) ?_
            refine s_done (v := Value.tuple (#[Value.int IntKind.i64 (IntKind.i64.wrap (↑(BitVec.ofInt IntKind.i64.bits (IntKind.i64.wrap (IntKind.i64.wrap (↑u0.toNat : Int) * (2 : Int) ^ min (Int.toNat (8 : Int)) IntKind.i64.bits)) ||| BitVec.ofInt IntKind.i64.bits (IntKind.i64.wrap (↑u1.toNat : Int))).toNat : Int)), Value.int IntKind.i64 (IntKind.i64.wrap (↑(BitVec.ofInt IntKind.i64.bits (IntKind.i64.wrap (IntKind.i64.wrap (↑u2.toNat : Int) * (2 : Int) ^ min (Int.toNat (8 : Int)) IntKind.i64.bits)) ||| BitVec.ofInt IntKind.i64.bits (IntKind.i64.wrap (↑u3.toNat : Int))).toNat : Int)), Value.bool true])) (by kernel_rfl) ?_
            exact ⟨by first | (rw [if_neg (by simp [hasPorts]; omega)]; done) | (rw [if_pos (by simp [hasPorts]; omega)]; simp only [wrd, e0, e1, e2, e3, ← byteOr]; rfl), hK⟩
    · have p1 := bne_eq_false_iff_eq.1 hf1
      refine x_load (o := 5) hB1 rfl (by kernel_rfl) ?_
      refine s_if (b := off != (0 : Int)) (by kernel_rfl) (fun ht2 => ?_) (fun hf2 => ?_)
      · have p2 := bne_iff_ne.1 ht2
        refine s_done (v := Value.tuple (#[Value.int IntKind.i64 (0 : Int), Value.int IntKind.i64 (0 : Int), Value.bool false])) (by kernel_rfl) ?_
        exact ⟨by first | (rw [if_neg (by simp [hasPorts]; omega)]; done) | (rw [if_pos (by simp [hasPorts]; omega)]; simp only [wrd, e0, e1, e2, e3, ← byteOr]; rfl), hK⟩
      · have p2 := bne_eq_false_iff_eq.1 hf2
        refine x_load (o := 8) hB1 rfl (by kernel_rfl) ?_
        refine s_if (b := decide ((↑body.size : Int) < (4 : Int))) (by kernel_rfl) (fun ht3 => ?_) (fun hf3 => ?_)
        · have p3 := of_decide_eq_true ht3
          (exfalso; omega)
        · have p3 := of_decide_eq_false hf3
          refine s_draw (3 : Nat) 23 (by kernel_rfl) (by kernel_rfl) (by kernel_rfl) ?_
          have hk1 := Keep.drew hk1
          have hK := Keep.drew hK
          refine x_load (o := 8) hB1 rfl (by kernel_rfl) ?_
          refine x_strIdx (t := (9 : Nat)) (s := body) (kd := IntKind.i64) (i := (0 : Int)) (by kernel_rfl) (by omega) hu0 (by kernel_rfl) ?_
          refine x_load (o := 8) hB1 rfl (by kernel_rfl) ?_
          refine x_strIdx (t := (9 : Nat)) (s := body) (kd := IntKind.i64) (i := (1 : Int)) (by kernel_rfl) (by omega) hu1 (by kernel_rfl) ?_
          refine x_load (o := 8) hB1 rfl (by kernel_rfl) ?_
          refine x_strIdx (t := (9 : Nat)) (s := body) (kd := IntKind.i64) (i := (2 : Int)) (by kernel_rfl) (by omega) hu2 (by kernel_rfl) ?_
          refine x_load (o := 8) hB1 rfl (by kernel_rfl) ?_
          refine x_strIdx (t := (9 : Nat)) (s := body) (kd := IntKind.i64) (i := (3 : Int)) (by kernel_rfl) (by omega) hu3 (by kernel_rfl) ?_
          refine s_done (v := Value.tuple (#[Value.int IntKind.i64 (IntKind.i64.wrap (↑(BitVec.ofInt IntKind.i64.bits (IntKind.i64.wrap (IntKind.i64.wrap (↑u0.toNat : Int) * (2 : Int) ^ min (Int.toNat (8 : Int)) IntKind.i64.bits)) ||| BitVec.ofInt IntKind.i64.bits (IntKind.i64.wrap (↑u1.toNat : Int))).toNat : Int)), Value.int IntKind.i64 (IntKind.i64.wrap (↑(BitVec.ofInt IntKind.i64.bits (IntKind.i64.wrap (IntKind.i64.wrap (↑u2.toNat : Int) * (2 : Int) ^ min (Int.toNat (8 : Int)) IntKind.i64.bits)) ||| BitVec.ofInt IntKind.i64.bits (IntKind.i64.wrap (↑u3.toNat : Int))).toNat : Int)), Value.bool true])) (by kernel_rfl) ?_
          exact ⟨by first | (rw [if_neg (by simp [hasPorts]; omega)]; done) | (rw [if_pos (by simp [hasPorts]; omega)]; simp only [wrd, e0, e1, e2, e3, ← byteOr]; rfl), hK⟩
  · refine ret_of_G Try.func40 rfl rfl ?_
    refine x_new (ob := Obj.cells (#[Value.int IntKind.u32 src, Value.int IntKind.u32 dst, Value.int IntKind.i64 proto, Value.int IntKind.i64 ttl, Value.int IntKind.i64 id, Value.int IntKind.i64 off, Value.bool more, Value.bool whole, Value.string body]) 37) (by kernel_rfl) (by kernel_rfl) (fun w1 b1 hb1 hB1 hk1 hlt1 => ?_)
    have hK := Keep.trans' hK hk1
    refine x_load (o := 2) hB1 rfl (by kernel_rfl) ?_
    refine s_if (b := proto != (6 : Int)) (by kernel_rfl) (fun ht1 => ?_) (fun hf1 => ?_)
    · have p1 := bne_iff_ne.1 ht1
      refine x_load (o := 2) hB1 rfl (by kernel_rfl) ?_
      refine s_if (b := proto != (17 : Int)) (by kernel_rfl) (fun ht2 => ?_) (fun hf2 => ?_)
      · have p2 := bne_iff_ne.1 ht2
        refine s_done (v := Value.tuple (#[Value.int IntKind.i64 (0 : Int), Value.int IntKind.i64 (0 : Int), Value.bool false])) (by kernel_rfl) ?_
        exact ⟨by rw [if_neg (by simp [hasPorts]; omega)], hK⟩
      · have p2 := bne_eq_false_iff_eq.1 hf2
        refine x_load (o := 5) hB1 rfl (by kernel_rfl) ?_
        refine s_if (b := off != (0 : Int)) (by kernel_rfl) (fun ht3 => ?_) (fun hf3 => ?_)
        · have p3 := bne_iff_ne.1 ht3
          refine s_done (v := Value.tuple (#[Value.int IntKind.i64 (0 : Int), Value.int IntKind.i64 (0 : Int), Value.bool false])) (by kernel_rfl) ?_
          exact ⟨by rw [if_neg (by simp [hasPorts]; omega)], hK⟩
        · have p3 := bne_eq_false_iff_eq.1 hf3
          refine x_load (o := 8) hB1 rfl (by kernel_rfl) ?_
          refine s_if (b := decide ((↑body.size : Int) < (4 : Int))) (by kernel_rfl) (fun ht4 => ?_) (fun hf4 => ?_)
          · have p4 := of_decide_eq_true ht4
            refine s_done (v := Value.tuple (#[Value.int IntKind.i64 (0 : Int), Value.int IntKind.i64 (0 : Int), Value.bool false])) (by kernel_rfl) ?_
            exact ⟨by rw [if_neg (by simp [hasPorts]; omega)], hK⟩
          · have p4 := of_decide_eq_false hf4
            (exfalso; omega)
    · have p1 := bne_eq_false_iff_eq.1 hf1
      refine x_load (o := 5) hB1 rfl (by kernel_rfl) ?_
      refine s_if (b := off != (0 : Int)) (by kernel_rfl) (fun ht2 => ?_) (fun hf2 => ?_)
      · have p2 := bne_iff_ne.1 ht2
        refine s_done (v := Value.tuple (#[Value.int IntKind.i64 (0 : Int), Value.int IntKind.i64 (0 : Int), Value.bool false])) (by kernel_rfl) ?_
        exact ⟨by rw [if_neg (by simp [hasPorts]; omega)], hK⟩
      · have p2 := bne_eq_false_iff_eq.1 hf2
        refine x_load (o := 8) hB1 rfl (by kernel_rfl) ?_
        refine s_if (b := decide ((↑body.size : Int) < (4 : Int))) (by kernel_rfl) (fun ht3 => ?_) (fun hf3 => ?_)
        · have p3 := of_decide_eq_true ht3
          refine s_done (v := Value.tuple (#[Value.int IntKind.i64 (0 : Int), Value.int IntKind.i64 (0 : Int), Value.bool false])) (by kernel_rfl) ?_
          exact ⟨by rw [if_neg (by simp [hasPorts]; omega)], hK⟩
        · have p3 := of_decide_eq_false hf3
          (exfalso; omega)
end Go.Proofs.Ytfknpeajihecdaa
