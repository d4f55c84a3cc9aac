import Derived.Test.YtfknpeajihecdaaProg
import Derived.Test.YtfknpeajihecdaaXOeq
import Derived.Test.YtfknpeajihecdaaDgPure
namespace Go.Proofs.Ytfknpeajihecdaa.Old
open Go.XO Go.RowKit Go.Dg
set_option maxRecDepth 100000

theorem word_ret (s : ByteArray) (n : Nat) (w : World) (h1 : n + 1 < s.size) (hs : n < 2000) :
    Ret Try.prog 34 #[.string s, .int .i64 n] w fun r w' => r = .int .i64 ((byt s n * 256 + byt s (n + 1) : Nat) : Int) ∧ Keep [] w w' := by
  have hw : IntKind.i64.wrap ((n : Int) + 1) = n + 1 := w64 (by omega) (by omega)
  obtain ⟨u, hu, eu⟩ := some_byt (s := s) (k := n) (by omega)
  obtain ⟨v, hv, ev⟩ := some_byt (s := s) (k := n + 1) (by omega)
  refine ret_of_G Try.func34 rfl rfl ?_
  refine s_draw 1 12 (by kernel_rfl) (by kernel_rfl) (by kernel_rfl) ?_
  refine x_strIdx (i := n) (t := 9) (s := s) (kd := .i64) (by kernel_rfl) (by omega) hu (by kernel_rfl) ?_
  refine x_strIdx (i := IntKind.i64.wrap ((n : Int) + 1)) (t := 9) (s := s) (kd := .i64) (by kernel_rfl) (by omega) (by rw [hw]; exact hv) (by kernel_rfl) ?_
  refine s_done (v := .int .i64 (IntKind.i64.wrap ((BitVec.ofInt IntKind.i64.bits (IntKind.i64.wrap (IntKind.i64.wrap (u.toNat : Int) * 2 ^ 8)) ||| BitVec.ofInt IntKind.i64.bits (IntKind.i64.wrap (v.toNat : Int))).toNat : Int))) (by kernel_rfl) ⟨?_, (Keep.refl _ _).drew⟩
  have h2 := UInt8.toNat_lt u
  have h3 := UInt8.toNat_lt v
  rw [w64 (n := (u.toNat : Int)) (by omega) (by omega), w64 (n := (v.toNat : Int)) (by omega) (by omega), show ((u.toNat : Int) * 2 ^ 8) = ((u.toNat * 256 : Nat) : Int) by omega, w64 (n := ((u.toNat * 256 : Nat) : Int)) (by omega) (by omega), or64 (by omega) (by omega), or_add u.toNat v.toNat 8 h3, eu, ev]

theorem rest_ret (x n : Int) (w : World) (hn : 0 < n) (hn' : n < 1000000) (hx : -9223372036854775808 ≤ x ∧ x ≤ 9223372036854775807) :
    Ret Try.prog 14 #[.int .i64 x, .int .i64 n] w fun v w' => v = .int .i64 (x % n) ∧ w' = w := by
  have hm : x.tmod n = if 0 ≤ x then x % n else -((-x) % n) := by
    split
    · rename_i h; rw [Int.tmod_eq_emod_of_nonneg h]
    · rename_i h
      have h1 := Int.neg_tmod (-x) n
      rw [Int.neg_neg] at h1
      rw [h1, Int.tmod_eq_emod_of_nonneg (by omega)]
  have hb := Int.emod_lt_of_pos x hn
  have hb0 := Int.emod_nonneg x (show n ≠ 0 by omega)
  have hb1 := Int.emod_lt_of_pos (-x) hn
  have hb2 := Int.emod_nonneg (-x) (show n ≠ 0 by omega)
  refine ret_of_G Try.func14 rfl rfl ?_
  refine s_val (r := .bin .rem 3 (.int .i64 x) (.int .i64 n)) (v := .int .i64 (x.tmod n)) (by kernel_rfl) rfl (by simp [binOp, Op.intDiv, show n ≠ 0 by omega]) ?_
  refine s_if (b := decide (x.tmod n < 0)) (by kernel_rfl) (fun h => ?_) (fun h => ?_)
  · refine s_done (v := .int .i64 (IntKind.i64.wrap (x.tmod n + n))) (by kernel_rfl) ⟨?_, rfl⟩
    have h := of_decide_eq_true h
    have hx0 : ¬ 0 ≤ x := by intro h0; rw [hm, if_pos h0] at h; omega
    rw [hm, if_neg hx0] at h ⊢
    rw [w64 (by omega) (by omega)]
    have he : x % n = -((-x) % n) + n := by
      have e1 := Int.emod_add_mul_ediv (-x) n
      have e0 : n * (-((-x) / n) - 1) = -(n * ((-x) / n)) - n := by rw [Int.mul_sub, Int.mul_neg, Int.mul_one]
      have e2 : x = (n - (-x) % n) + n * (-((-x) / n) - 1) := by
        rw [e0]
        generalize (-x) % n = r at *
        generalize n * ((-x) / n) = t at *
        omega
      have e3 : x % n = (n - (-x) % n) % n := by
        conv => lhs; rw [e2]
        rw [Int.add_mul_emod_self_left]
      rw [e3]
      generalize (-x) % n = r at *
      rw [Int.emod_eq_of_lt (by omega) (by omega)]; omega
    rw [he]
  · refine s_done (v := .int .i64 (x.tmod n)) (by kernel_rfl) ⟨?_, rfl⟩
    have h := of_decide_eq_false h
    by_cases h0 : 0 ≤ x
    · rw [hm, if_pos h0]
    · rw [hm, if_neg h0] at h ⊢
      have hz : (-x) % n = 0 := by generalize (-x) % n = r at *; omega
      have hd : n ∣ x := by
        have := Int.dvd_of_emod_eq_zero hz
        exact (Int.dvd_neg.1 this)
      rw [Int.emod_eq_zero_of_dvd hd, hz]; rfl

theorem two_ret (n : Int) (w : World) : Ret Try.prog 32 #[.int .i64 n] w fun v w' => v = .string (strOfNums [IntKind.u8.wrap (n.fdiv 256), IntKind.u8.wrap n]) ∧ Keep [] w w' := by
  refine ret_of_G Try.func32 rfl rfl ?_
  refine x_new (ob := .cells #[.int .u8 (IntKind.u8.wrap (n.fdiv 256)), .int .u8 (IntKind.u8.wrap n)] 5) (by kernel_rfl) (by kernel_rfl) (fun w1 b hb hB hK hlt => ?_)
  refine x_b2s [IntKind.u8.wrap (n.fdiv 256), IntKind.u8.wrap n] (src := 81) (dst := 9) (e := 5) (b := b) (off := 0) (len := 2) (cap := 2) (by kernel_rfl) (by kernel_rfl) (by kernel_rfl) rfl ?_ (by kernel_rfl) ?_
  · intro i hi
    match i, hi with
    | 0, _ => exact cell_of_blk hB rfl
    | 1, _ => exact cell_of_blk hB rfl
  exact s_done (by kernel_rfl) ⟨rfl, hK⟩

theorem sum_loop (s : ByteArray) (w : World) (hs : s.size ≤ 100000) :
    Ret Try.prog 53 #[.string s] w fun v w' => v = .int .i64 (65535 - (chk (tot s s.size) : Int)) ∧ w' = w := by
  refine ret_of_G Try.func53 rfl rfl ?_
  refine s_loop (γ := Nat) 0 [3, 4] (fun k => [.int .i64 (tot s k), .int .i64 k]) (fun k w' => k ≤ s.size ∧ w' = w) (fun k => s.size - k) 0 [.int .i64 0, .int .i64 0] (by kernel_rfl) (by kernel_rfl) rfl (by kernel_rfl) rfl ⟨Nat.zero_le _, rfl⟩ ?_
  rintro k w1 ⟨hk, rfl⟩
  have ht := tot_le s k
  refine s_if (b := decide ((k : Int) < s.size)) (by kernel_rfl) (fun h => ?_) (fun h => ?_)
  · have h : k < s.size := by have := of_decide_eq_true h; omega
    obtain ⟨u, hu, eu⟩ := some_byt h
    have hu3 := UInt8.toNat_lt u
    have e1 : IntKind.i64.wrap ((k : Int) + 1) = ((k + 1 : Nat) : Int) := w64 (by omega) (by omega)
    refine s_if (b := ((k : Int).tmod 2 == 0)) (by kernel_rfl) (fun h2 => ?_) (fun h2 => ?_)
    · refine x_strIdx (i := k) (t := 9) (s := s) (kd := .i64) (by kernel_rfl) (by omega) hu (by kernel_rfl) ?_
      refine s_again 0 (k + 1) [.int .i64 (IntKind.i64.wrap ((tot s k : Int) + IntKind.i64.wrap (IntKind.i64.wrap (u.toNat : Int) * 2 ^ 8))), .int .i64 (IntKind.i64.wrap ((k : Int) + 1))] rfl (by kernel_rfl) (by kernel_rfl) (by kernel_rfl) ?_ ?_ ?_
      rotate_left
      · exact ⟨by omega, rfl⟩
      · show s.size - (k + 1) < s.size - k; omega
      have hz : k % 2 = 0 := by have := beq_iff_eq.1 h2; rw [Int.tmod_eq_emod_of_nonneg (by omega)] at this; omega
      rw [e1, w64 (n := (u.toNat : Int)) (by omega) (by omega), w64 (n := (u.toNat : Int) * 2 ^ 8) (by omega) (by omega), w64 (by omega) (by omega)]
      simp only [tot, hz, if_true, eu]
      congr 3
    · refine x_strIdx (i := k) (t := 9) (s := s) (kd := .i64) (by kernel_rfl) (by omega) hu (by kernel_rfl) ?_
      refine s_again 0 (k + 1) [.int .i64 (IntKind.i64.wrap ((tot s k : Int) + IntKind.i64.wrap (u.toNat : Int))), .int .i64 (IntKind.i64.wrap ((k : Int) + 1))] rfl (by kernel_rfl) (by kernel_rfl) (by kernel_rfl) ?_ ?_ ?_
      rotate_left
      · exact ⟨by omega, rfl⟩
      · show s.size - (k + 1) < s.size - k; omega
      have hz : ¬ k % 2 = 0 := by have := beq_eq_false_iff_ne.1 h2; rw [Int.tmod_eq_emod_of_nonneg (by omega)] at this; omega
      rw [e1, w64 (n := (u.toNat : Int)) (by omega) (by omega), w64 (by omega) (by omega)]
      simp only [tot, hz, if_false, eu]
      congr 3
  · have h : k = s.size := by have := of_decide_eq_false h; omega
    subst h
    refine s_out 0 rfl (by kernel_rfl) ?_
    refine s_loop (γ := Nat) 0 [3] (fun n => [.int .i64 n]) (fun n w' => chk n = chk (tot s s.size) ∧ n ≤ 6528000000 ∧ w' = w1) (fun n => n) (tot s s.size) [.int .i64 (tot s s.size)] (by kernel_rfl) (by kernel_rfl) rfl (by kernel_rfl) rfl ⟨rfl, by omega, rfl⟩ ?_
    rintro n w2 ⟨hn, hle, rfl⟩
    refine s_if (b := decide ((n : Int) > 65535)) (by kernel_rfl) (fun h => ?_) (fun h => ?_)
    · have h : 65535 < n := by have := of_decide_eq_true h; omega
      refine s_again 0 (n % 65536 + n / 65536) [.int .i64 (IntKind.i64.wrap (IntKind.i64.wrap ((BitVec.ofInt IntKind.i64.bits (n : Int) &&& BitVec.ofInt IntKind.i64.bits ((65535 : Nat) : Int)).toNat : Int) + (n : Int).fdiv (2 ^ 16)))] rfl (by kernel_rfl) (by kernel_rfl) (by kernel_rfl) ?_ ?_ ?_
      rotate_left
      · exact ⟨by rw [chk_step h]; exact hn, by omega, rfl⟩
      · exact chk_lt h
      rw [and64 (by omega) (by omega), fdiv_pow, show (65535 : Nat) = 2 ^ 16 - 1 from rfl, Nat.and_two_pow_sub_one_eq_mod]
      rw [w64 (by omega) (by omega)]
      congr 2
    · have h : n ≤ 65535 := by have := of_decide_eq_false h; omega
      refine s_done (v := .int .i64 (IntKind.i64.wrap (65535 - (n : Int)))) (by kernel_rfl) ⟨?_, rfl⟩
      rw [← hn, chk_small h, w64 (by omega) (by omega)]
end Go.Proofs.Ytfknpeajihecdaa.Old
