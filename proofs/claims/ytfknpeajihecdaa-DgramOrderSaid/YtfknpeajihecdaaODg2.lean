import Derived.Test.YtfknpeajihecdaaODg1
namespace Go.Proofs.Ytfknpeajihecdaa.Old
open Go.XO Go.RowKit Go.Dg
set_option maxRecDepth 100000

theorem two_eq (n : Nat) : strOfNums [IntKind.u8.wrap ((n : Int).fdiv 256), IntKind.u8.wrap (n : Int)] = two8 n := by
  rw [show (256 : Int) = 2 ^ 8 from rfl, fdiv_pow, IntKind.wrap_u8, IntKind.wrap_u8]
  unfold strOfNums two8
  simp only [List.map_cons, List.map_nil]
  have h1 : Int.toNat ((n : Int) / 2 ^ 8 % 256) = n / 256 % 256 := by omega
  have h2 : Int.toNat ((n : Int) % 256) = n % 256 := by omega
  rw [h1, h2]

theorem two_nat (n : Nat) (w : World) : Ret Try.prog 32 #[.int .i64 n] w fun v w' => v = .string (two8 n) ∧ Keep [] w w' :=
  (two_ret n w).mono fun _ _ ⟨hv, hk⟩ => ⟨by rw [hv, two_eq], hk⟩

theorem two_int (n : Int) (m : Nat) (h : n = m) (w : World) : Ret Try.prog 32 #[.int .i64 n] w fun v w' => v = .string (two8 m) ∧ Keep [] w w' := by
  subst h; exact two_nat m w

theorem four_nat (n : Nat) (hn : n < 4294967296) (w : World) : Ret Try.prog 54 #[.int .u32 n] w fun v w' => v = .string (four8 n) ∧ Keep [] w w' := by
  refine ret_of_G Try.func54 rfl rfl ?_
  refine s_call (args := #[.int .i64 (IntKind.i64.wrap ((n : Int).fdiv (2 ^ 16)))]) (by kernel_rfl) (by kernel_rfl) (by kernel_rfl) (two_int _ (n / 65536) (by rw [fdiv_pow, w64 (by omega) (by omega)]; omega) _) ?_
  rintro v w1 ⟨rfl, k1⟩
  refine s_call (args := #[.int .i64 (IntKind.i64.wrap (IntKind.u32.wrap ((BitVec.ofInt IntKind.u32.bits (n : Int) &&& BitVec.ofInt IntKind.u32.bits ((65535 : Nat) : Int)).toNat : Int)))]) (by kernel_rfl) (by kernel_rfl) (by kernel_rfl) (two_int _ (n % 65536) (by
    rw [and32 (by omega) (by omega), show (65535 : Nat) = 2 ^ 16 - 1 from rfl, Nat.and_two_pow_sub_one_eq_mod, w64 (by omega) (by omega)]) _) ?_
  rintro v w2 ⟨rfl, k2⟩
  refine x_concat (t := 9) (a := two8 (n / 65536)) (b := two8 (n % 65536)) (by simp only [two8_size]; omega) (by kernel_rfl) ?_
  exact s_done (by kernel_rfl) ⟨rfl, k1.trans' k2⟩

theorem dsum (a b : Nat) (ports length body : ByteArray) (ha : a < 4294967296) (hb : b < 4294967296) (hp : ports.size ≤ 100) (hl : length.size ≤ 100) (hy : body.size ≤ 2000) (w : World) :
    Ret Try.prog 33 #[.int .u32 a, .int .u32 b, .string ports, .string length, .string body] w fun v w' => v = .int .i64 (sm a b ports length body) ∧ Keep [] w w' := by
  refine ret_of_G Try.func33 rfl rfl ?_
  refine s_call (args := #[.int .u32 a]) (by kernel_rfl) (by kernel_rfl) (by kernel_rfl) (four_nat a ha _) ?_
  rintro v w1 ⟨rfl, k1⟩
  refine s_call (args := #[.int .u32 b]) (by kernel_rfl) (by kernel_rfl) (by kernel_rfl) (four_nat b hb _) ?_
  rintro v w2 ⟨rfl, k2⟩
  have k2 := k1.trans' k2
  refine x_concat (t := 9) (a := four8 a) (b := four8 b) (by simp only [four8_size]; omega) (by kernel_rfl) ?_
  refine s_call (args := #[.int .i64 17]) (by kernel_rfl) (by kernel_rfl) (by kernel_rfl) (two_int _ 17 rfl _) ?_
  rintro v w3 ⟨rfl, k3⟩
  have k3 := k2.trans' k3
  refine x_concat (t := 9) (a := four8 a ++ four8 b) (b := two8 17) (by simp only [four8_size, two8_size, ByteArray.size_append]; omega) (by kernel_rfl) ?_
  refine x_concat (t := 9) (a := four8 a ++ four8 b ++ two8 17) (b := length) (by simp only [four8_size, two8_size, ByteArray.size_append]; omega) (by kernel_rfl) ?_
  refine x_concat (t := 9) (a := four8 a ++ four8 b ++ two8 17 ++ length) (b := ports) (by simp only [four8_size, two8_size, ByteArray.size_append]; omega) (by kernel_rfl) ?_
  refine x_concat (t := 9) (a := four8 a ++ four8 b ++ two8 17 ++ length ++ ports) (b := length) (by simp only [four8_size, two8_size, ByteArray.size_append]; omega) (by kernel_rfl) ?_
  refine s_call (args := #[.int .i64 0]) (by kernel_rfl) (by kernel_rfl) (by kernel_rfl) (two_int _ 0 rfl _) ?_
  rintro v w4 ⟨rfl, k4⟩
  have k4 := k3.trans' k4
  refine x_concat (t := 9) (a := four8 a ++ four8 b ++ two8 17 ++ length ++ ports ++ length) (b := two8 0) (by simp only [four8_size, two8_size, ByteArray.size_append]; omega) (by kernel_rfl) ?_
  refine x_concat (t := 9) (a := four8 a ++ four8 b ++ two8 17 ++ length ++ ports ++ length ++ two8 0) (b := body) (by simp only [four8_size, two8_size, ByteArray.size_append]; omega) (by kernel_rfl) ?_
  have hsz : (sumStr a b ports length body).size ≤ 100000 := by simp only [sumStr, four8_size, two8_size, ByteArray.size_append]; omega
  refine s_call (args := #[.string (sumStr a b ports length body)]) (by kernel_rfl) (by kernel_rfl) (by kernel_rfl) (sum_loop _ _ hsz) ?_
  rintro v w5 ⟨rfl, rfl⟩
  have hc := chk_le (tot (sumStr a b ports length body) (sumStr a b ports length body).size)
  refine s_if (b := ((65535 - (chk (tot (sumStr a b ports length body) (sumStr a b ports length body).size) : Int)) == 0)) (by kernel_rfl) (fun h => ?_) (fun h => ?_)
  · refine s_done (v := .int .i64 65535) (by kernel_rfl) ⟨?_, k4⟩
    have h := beq_iff_eq.1 h
    unfold sm neg1
    rw [if_pos (by omega)]
    rfl
  · refine s_done (v := .int .i64 (65535 - (chk (tot (sumStr a b ports length body) (sumStr a b ports length body).size) : Int))) (by kernel_rfl) ⟨?_, k4⟩
    have h := beq_eq_false_iff_ne.1 h
    unfold sm neg1
    rw [if_neg (by omega)]
    congr 1; omega

theorem badPort_ret (n : Int) (w : World) : Ret Try.prog 49 #[.int .i64 n] w fun v w' => v = .bool (decide (n < 0 ∨ n > 65535)) ∧ w' = w := by
  refine ret_of_G Try.func49 rfl rfl ?_
  refine s_if (b := decide (n < 0)) (by kernel_rfl) (fun h => ?_) (fun h => ?_)
  · refine s_done (v := .bool true) (by kernel_rfl) ⟨?_, rfl⟩
    have h := of_decide_eq_true h
    simp [h]
  · refine s_done (v := .bool (decide (n > 65535))) (by kernel_rfl) ⟨?_, rfl⟩
    have h := of_decide_eq_false h
    simp [h]

theorem check_ret (x y : Int) (s : ByteArray) (w : World) : Ret Try.prog 31 #[.agg #[.int .i64 x, .int .i64 y, .string s]] w fun v w' => v = .int .i64 (chkE x y s) ∧ Keep [] w w' := by
  refine ret_of_G Try.func31 rfl rfl ?_
  refine x_new (ob := .cells #[.int .i64 x, .int .i64 y, .string s] 24) (by kernel_rfl) (by kernel_rfl) (fun w1 b hb hB hK hlt => ?_)
  refine x_load (o := 0) hB rfl (by kernel_rfl) ?_
  refine s_callS (by kernel_rfl) (by kernel_rfl) (badPort_ret x _) ?_
  refine s_if (b := decide (x < 0 ∨ x > 65535)) (by kernel_rfl) (fun h => ?_) (fun h => ?_)
  · refine s_done (v := .int .i64 1) (by kernel_rfl) ⟨?_, hK⟩
    have h := of_decide_eq_true h
    unfold chkE
    rw [if_pos (by omega)]
  have h := of_decide_eq_false h
  refine x_load (o := 1) hB rfl (by kernel_rfl) ?_
  refine s_callS (by kernel_rfl) (by kernel_rfl) (badPort_ret y _) ?_
  refine s_if (b := decide (y < 0 ∨ y > 65535)) (by kernel_rfl) (fun h2 => ?_) (fun h2 => ?_)
  · refine s_done (v := .int .i64 1) (by kernel_rfl) ⟨?_, hK⟩
    have h2 := of_decide_eq_true h2
    unfold chkE
    rw [if_pos (by omega)]
  have h2 := of_decide_eq_false h2
  refine x_load (o := 2) hB rfl (by kernel_rfl) ?_
  refine s_if (b := decide ((s.size : Int) > 1024)) (by kernel_rfl) (fun h3 => ?_) (fun h3 => ?_)
  · refine s_done (v := .int .i64 2) (by kernel_rfl) ⟨?_, hK⟩
    have h3 := of_decide_eq_true h3
    unfold chkE
    rw [if_neg (by omega), if_pos (by omega)]
  · refine s_done (v := .int .i64 0) (by kernel_rfl) ⟨?_, hK⟩
    have h3 := of_decide_eq_false h3
    unfold chkE
    rw [if_neg (by omega), if_neg (by omega)]
end Go.Proofs.Ytfknpeajihecdaa.Old
