import Derived.Test.YtfknpeajihecdaaDg3
import Derived.Test.YtfknpeajihecdaaDgLaw
import Derived.Test.YtfknpeajihecdaaXMbytes
import Derived.Laws.Strings
namespace Go.Proofs.Ytfknpeajihecdaa
open Go.XM Go.RowKit Go.Dg
set_option maxRecDepth 100000

theorem dgramFact_ret (w : World) : Ret Try.prog 11 #[] w fun v w' => v = .bool true ∧ Keep [] w w' := by
  refine ret_of_G (args := []) Try.func11 rfl rfl ?_
  refine s_call (args := #[.int .u32 1, .int .u32 2, .agg #[.int .i64 3, .int .i64 4, .string ⟨#[120]⟩]]) (by kernel_rfl) (by kernel_rfl) (by kernel_rfl) (encode_ok 1 2 3 4 ⟨#[120]⟩ (by omega) (by omega) (by omega) (by omega) (by decide) _) ?_
  rintro v w1 ⟨rfl, k1⟩
  refine s_ifT (b := ((0 : Int) == 0)) (by kernel_rfl) rfl ?_
  refine s_done (v := .bool (((encS 1 2 3 4 ⟨#[120]⟩).size : Int) == 9)) (by kernel_rfl) ⟨?_, k1⟩
  rw [enc_size]
  rfl

theorem encode_ret (a b : Nat) (x y : Int) (s : ByteArray) (ha : a < 4294967296) (hb : b < 4294967296) (w : World) :
    (chkE x y s ≠ 0 ∧ Ret Try.prog 12 #[.int .u32 a, .int .u32 b, .agg #[.int .i64 x, .int .i64 y, .string s]] w fun v w' => v = .tuple #[.string ⟨#[]⟩, .int .i64 (chkE x y s)] ∧ Keep [] w w') ∨
    (∃ m n : Nat, x = m ∧ y = n ∧ m < 65536 ∧ n < 65536 ∧ s.size ≤ 1024 ∧
      Ret Try.prog 12 #[.int .u32 a, .int .u32 b, .agg #[.int .i64 x, .int .i64 y, .string s]] w fun v w' => v = .tuple #[.string (encS a b m n s), .int .i64 0] ∧ Keep [] w w') := by
  by_cases h : chkE x y s = 0
  · right
    have h1 : ¬ (x < 0 ∨ x > 65535 ∨ y < 0 ∨ y > 65535) := by intro h1; unfold chkE at h; rw [if_pos h1] at h; exact absurd h (by decide)
    have h2 : ¬ s.size > 1024 := by intro h2; unfold chkE at h; rw [if_neg h1, if_pos h2] at h; exact absurd h (by decide)
    obtain ⟨m, rfl⟩ := Int.eq_ofNat_of_zero_le (show 0 ≤ x by omega)
    obtain ⟨n, rfl⟩ := Int.eq_ofNat_of_zero_le (show 0 ≤ y by omega)
    exact ⟨m, n, rfl, rfl, by omega, by omega, by omega, encode_ok a b m n s ha hb (by omega) (by omega) (by omega) w⟩
  · exact .inl ⟨h, encode_bad a b x y s h w⟩

theorem string_eql (x y : ByteArray) : (x.toList == y.toList) = true ↔ x = y := by
  rw [beq_iff_eq, Go.ByteArray.toList_eq, Go.ByteArray.toList_eq]
  exact ⟨fun h => ext_list h, fun h => by rw [h]⟩

theorem dgramBack_ret (a b : Nat) (x y : Int) (s : ByteArray) (bit : Int) (ha : a < 4294967296) (hb : b < 4294967296) (hbit : -9223372036854775808 ≤ bit ∧ bit ≤ 9223372036854775807) (w : World) :
    Ret Try.prog 3 #[.int .u32 a, .int .u32 b, .agg #[.int .i64 x, .int .i64 y, .string s], .int .i64 bit] w fun v w' => v = .bool true ∧ Keep [] w w' := by
  refine ret_of_G Try.func3 rfl rfl ?_
  refine x_new (ob := .cells #[.int .i64 x, .int .i64 y, .string s] 24) (by kernel_rfl) (by kernel_rfl) (fun w1 bk hbk hB hK hlt => ?_)
  refine s_call (args := #[]) (by kernel_rfl) (by kernel_rfl) (by kernel_rfl) (dgramFact_ret _) ?_
  rintro v w2 ⟨rfl, k2⟩
  have hB := k2.get hB (by simp)
  have hK := hK.trans' k2
  refine s_ifF (b := !true) (by kernel_rfl) rfl ?_
  refine x_load (o := 0) hB rfl (by kernel_rfl) ?_
  refine x_load (o := 1) hB rfl (by kernel_rfl) ?_
  refine x_load (o := 2) hB rfl (by kernel_rfl) ?_
  rcases encode_ret a b x y s ha hb w2 with ⟨hc, he⟩ | ⟨m, n, rfl, rfl, hm, hn, hs, he⟩
  · refine s_call (by kernel_rfl) (by kernel_rfl) (by kernel_rfl) he ?_
    rintro v w3 ⟨rfl, k3⟩
    have hK := hK.trans' k3
    refine s_call (args := #[.int .u32 a, .int .u32 b, .string ⟨#[]⟩]) (by kernel_rfl) (by kernel_rfl) (by kernel_rfl) (decode_ret a b ⟨#[]⟩ ha hb (by decide) _) ?_
    rintro v w4 ⟨rfl, k4⟩
    have hK := hK.trans' k4
    have hd : decV a b ⟨#[]⟩ = ⟨0, 0, ⟨#[]⟩, 9⟩ := by unfold decV; rw [if_pos (by decide)]
    rw [hd]
    refine x_new (ob := .cells #[.int .i64 0, .int .i64 0, .string ⟨#[]⟩] 24) (by kernel_rfl) (by kernel_rfl) (fun w5 b5 hb5 hB5 hK5 hlt5 => ?_)
    refine x_store (o := 0) (v := .int .i64 0) hB5 (by simp) (by kernel_rfl) (by kernel_rfl) rfl (fun w6 hB6 k6 => ?_)
    refine x_store (o := 1) (v := .int .i64 0) hB6 (by simp) (by kernel_rfl) (by kernel_rfl) rfl (fun w7 hB7 k7 => ?_)
    refine x_store (o := 2) (v := .string ⟨#[]⟩) hB7 (by simp) (by kernel_rfl) (by kernel_rfl) rfl (fun w8 hB8 k8 => ?_)
    have hK8 : Keep [] w w8 := hK.trans ((hK5.trans ((k6.trans' k7).trans' k8) (U := []) (fun _ h => by cases h) (fun x hx => by simp at hx; exact .inr (by omega)))) (fun _ h => by cases h) (fun _ h => by cases h)
    refine s_ifT (b := (chkE x y s != 0)) (by kernel_rfl) (by simpa using hc) ?_
    refine s_ifT (b := ((⟨#[]⟩ : ByteArray).toList == (⟨#[]⟩ : ByteArray).toList)) (by kernel_rfl) ((string_eql _ _).2 rfl) ?_
    exact s_done (v := .bool ((9 : Int) == 9)) (by kernel_rfl) ⟨rfl, hK8⟩
  · refine s_call (by kernel_rfl) (by kernel_rfl) (by kernel_rfl) he ?_
    rintro v w3 ⟨rfl, k3⟩
    have hB := k3.get hB (by simp)
    have hK := hK.trans' k3
    refine s_call (args := #[.int .u32 a, .int .u32 b, .string (encS a b m n s)]) (by kernel_rfl) (by kernel_rfl) (by kernel_rfl) (decode_ret a b _ ha hb (by rw [enc_size]; omega) _) ?_
    rw [dec_enc hm hn hs]
    rintro v w4 ⟨rfl, k4⟩
    have hB := k4.get hB (by simp)
    have hK := hK.trans' k4
    refine x_new (ob := .cells #[.int .i64 0, .int .i64 0, .string ⟨#[]⟩] 24) (by kernel_rfl) (by kernel_rfl) (fun w5 b5 hb5 hB5 hK5 hlt5 => ?_)
    refine x_store (o := 0) (v := .int .i64 m) hB5 (by simp) (by kernel_rfl) (by kernel_rfl) rfl (fun w6 hB6 k6 => ?_)
    refine x_store (o := 1) (v := .int .i64 n) hB6 (by simp) (by kernel_rfl) (by kernel_rfl) rfl (fun w7 hB7 k7 => ?_)
    refine x_store (o := 2) (v := .string s) hB7 (by simp) (by kernel_rfl) (by kernel_rfl) rfl (fun w8 hB8 k8 => ?_)
    have hK58 : Keep [] w4 w8 := hK5.trans ((k6.trans' k7).trans' k8) (fun _ h => by cases h) (fun x hx => by simp at hx; exact .inr (by omega))
    have hB := hK58.get hB (by simp)
    have hK := hK.trans' hK58
    refine s_ifF (b := ((0 : Int) != 0)) (by kernel_rfl) rfl ?_
    refine s_callS (args := #[.int .i64 bit, .int .i64 32]) (by kernel_rfl) (by kernel_rfl) (rest_ret bit 32 _ (by omega) (by omega) hbit) ?_
    obtain ⟨k, hk⟩ := Int.eq_ofNat_of_zero_le (Int.emod_nonneg bit (show (32 : Int) ≠ 0 by omega))
    have hk32 : k < 32 := by have := Int.emod_lt_of_pos bit (show (0 : Int) < 32 by omega); omega
    rw [hk]
    refine x_shl (t := 22) (kd := .u32) (ky := .i64) (a := 1) (y := (k : Int)) (by omega) (by kernel_rfl) ?_
    have hsh : IntKind.u32.wrap (1 * 2 ^ (min (k : Int).toNat IntKind.u32.bits)) = ((2 ^ k : Nat) : Int) := by
      have h1 : min (k : Int).toNat IntKind.u32.bits = k := by show min (k : Int).toNat 32 = k; omega
      have h2 : 2 ^ k ≤ 2 ^ 31 := Nat.pow_le_pow_right (by omega) (by omega)
      rw [h1, Int.one_mul, show ((2 : Int) ^ k) = ((2 ^ k : Nat) : Int) by rw [Int.natCast_pow]; rfl]
      rw [show (2 : Nat) ^ 31 = 2147483648 from rfl] at h2
      generalize (2 : Nat) ^ k = q at h2 ⊢
      exact wu32 (by omega) (by omega)
    rw [hsh]
    have hp : 2 ^ k < 4294967296 := Nat.pow_lt_pow_right (a := 2) (by omega) hk32
    have hx : a ^^^ 2 ^ k < 4294967296 := Nat.xor_lt_two_pow (n := 32) ha hp
    refine s_call (f := 13) (args := #[.int .u32 (IntKind.u32.wrap ((BitVec.ofInt IntKind.u32.bits (a : Int) ^^^ BitVec.ofInt IntKind.u32.bits ((2 ^ k : Nat) : Int)).toNat : Int)), .int .u32 b, .string (encS a b m n s)]) (Rc := fun v w' => v = decR ⟨0, 0, ⟨#[]⟩, 8⟩ ∧ Keep [] w8 w') (by kernel_rfl) (by kernel_rfl) (by kernel_rfl) ?_ ?_
    · rw [xor32 ha hp]
      have := decode_ret (a ^^^ 2 ^ k) b (encS a b m n s) hx hb (by rw [enc_size]; omega) w8
      rw [dec_other ha hk32 hs] at this
      exact this
    rintro v w9 ⟨rfl, k9⟩
    have hB := k9.get hB (by simp)
    have hB8 := k9.get hB8 (by simp)
    have hK := hK.trans' k9
    refine x_new (ob := .cells #[.int .i64 0, .int .i64 0, .string ⟨#[]⟩] 24) (by kernel_rfl) (by kernel_rfl) (fun w10 b10 hb10 hB10 hK10 hlt10 => ?_)
    refine x_store (o := 0) (v := .int .i64 0) hB10 (by simp) (by kernel_rfl) (by kernel_rfl) rfl (fun w11 hB11 k11 => ?_)
    refine x_store (o := 1) (v := .int .i64 0) hB11 (by simp) (by kernel_rfl) (by kernel_rfl) rfl (fun w12 hB12 k12 => ?_)
    refine x_store (o := 2) (v := .string ⟨#[]⟩) hB12 (by simp) (by kernel_rfl) (by kernel_rfl) rfl (fun w13 hB13 k13 => ?_)
    have hK1 : Keep [] w9 w13 := hK10.trans ((k11.trans' k12).trans' k13) (fun _ h => by cases h) (fun x hx => by simp at hx; exact .inr (by omega))
    have hB := hK1.get hB (by simp)
    have hB8 := hK1.get hB8 (by simp)
    have hK := hK.trans' hK1
    refine s_ifT (b := ((0 : Int) == 0)) (by kernel_rfl) rfl ?_
    refine x_load (o := 0) hB8 rfl (by kernel_rfl) ?_
    refine x_load (o := 1) hB8 rfl (by kernel_rfl) ?_
    refine x_load (o := 2) hB8 rfl (by kernel_rfl) ?_
    refine x_load (o := 0) hB rfl (by kernel_rfl) ?_
    refine x_load (o := 1) hB rfl (by kernel_rfl) ?_
    refine x_load (o := 2) hB rfl (by kernel_rfl) ?_
    refine x_eql (t := 24) (xs := #[.int .i64 m, .int .i64 n, .string s]) (ys := #[.int .i64 m, .int .i64 n, .string s]) (b := (((m : Int) == m) && (((n : Int) == n) && ((s.toList == s.toList) && true)))) (by kernel_rfl) (by kernel_rfl) (by kernel_rfl) ?_
    refine s_ifT (b := (((m : Int) == m) && (((n : Int) == n) && ((s.toList == s.toList) && true)))) (by kernel_rfl) (by simp) ?_
    exact s_done (v := .bool ((8 : Int) == 8)) (by kernel_rfl) ⟨rfl, hK⟩

theorem flip_ret (s : ByteArray) (i k : Nat) (hi : i < s.size) (hk : k < 8) (hs : s.size ≤ 2000) (w : World) :
    Ret Try.prog 15 #[.string s, .int .i64 i, .int .i64 k] w fun v w' => v = .string (flipS s i k) ∧ Keep [] w w' := by
  refine ret_of_G Try.func15 rfl rfl ?_
  refine x_s2b (src := 9) (dst := 81) (e := 5) (s := s) (by kernel_rfl) (by kernel_rfl) (by kernel_rfl) (by unfold maxLen; omega) (by kernel_rfl) (by kernel_rfl) (fun g cap w1 hg hK h1 h2 hB => ?_)
  refine s_drawT 2 8 (by kernel_rfl) (by kernel_rfl) (by kernel_rfl) ?_
  have hlen : (bcells s).length = s.size := by simp [bcells]
  have hci : ((bcells s ++ List.replicate (cap - s.size) (Value.int .u8 0)).toArray)[i]? = some (.int .u8 (byt s i)) := by
    obtain ⟨u, hu, eu⟩ := some_byt hi
    rw [eu]
    simp only [List.getElem?_toArray]
    rw [List.getElem?_append_left (by omega)]
    have : s.data.toList[i]? = some u := by
      have h3 : i < s.data.size := hi
      have h4 : s[i]? = some s.data[i] := by simp [hi]; rfl
      rw [h4] at hu
      rw [Array.getElem?_toList, Array.getElem?_eq_getElem h3]
      exact hu
    simp [bcells, this]
  refine x_idx (e := 5) (size := 1) (b := g) (o := 0) (n := s.size) (c := cap) (i := i) (kd := .i64) (t := 81) (by kernel_rfl) (by kernel_rfl) (by omega) (by omega) (by kernel_rfl) ?_
  refine x_load (o := 0 + (i : Int).toNat * 1) hB (v := .int .u8 (byt s i)) (by simpa using hci) (by kernel_rfl) ?_
  refine x_shl (t := 5) (kd := .u8) (ky := .i64) (a := 1) (y := (k : Int)) (by omega) (by kernel_rfl) ?_
  have hsh : IntKind.u8.wrap (1 * 2 ^ (min (k : Int).toNat IntKind.u8.bits)) = ((2 ^ k : Nat) : Int) := by
    have h1 : min (k : Int).toNat IntKind.u8.bits = k := by show min (k : Int).toNat 8 = k; omega
    have h2 : 2 ^ k ≤ 2 ^ 7 := Nat.pow_le_pow_right (by omega) (by omega)
    rw [h1, Int.one_mul, show ((2 : Int) ^ k) = ((2 ^ k : Nat) : Int) by rw [Int.natCast_pow]; rfl]
    rw [show (2 : Nat) ^ 7 = 128 from rfl] at h2
    generalize (2 : Nat) ^ k = q at h2 ⊢
    exact wu8 (by omega) (by omega)
  rw [hsh]
  have hp : 2 ^ k < 256 := Nat.pow_lt_pow_right (a := 2) (by omega) hk
  refine x_idx (e := 5) (size := 1) (b := g) (o := 0) (n := s.size) (c := cap) (i := i) (kd := .i64) (t := 81) (by kernel_rfl) (by kernel_rfl) (by omega) (by omega) (by kernel_rfl) ?_
  have hsz : ((bcells s ++ List.replicate (cap - s.size) (Value.int .u8 0)).toArray).size = cap := by simp [hlen]; omega
  refine x_storeF (o := 0 + (i : Int).toNat * 1) (v := .int .u8 (IntKind.u8.wrap ((BitVec.ofInt IntKind.u8.bits (byt s i : Int) ^^^ BitVec.ofInt IntKind.u8.bits ((2 ^ k : Nat) : Int)).toNat : Int))) (w := w1.drew) hB (by omega) (by simp; omega) (by kernel_rfl) (by kernel_rfl) rfl (fun w2 hB2 hK2 => ?_)
  rw [xor8 (byt_lt s i) hp] at hB2
  have hK2 : Keep [] w w2 := hK.trans (Keep.ofDrew hK2) (fun _ h => by cases h) (fun x hx => by simp at hx; exact .inr (by omega))
  refine x_b2s ((s.data.toList.map fun b => (b.toNat : Int)).set i ((byt s i ^^^ 2 ^ k : Nat) : Int)) (src := 81) (dst := 9) (e := 5) (b := g) (off := 0) (len := s.size) (cap := cap) (by kernel_rfl) (by kernel_rfl) (by kernel_rfl) (by simp) ?_ (by kernel_rfl) ?_
  · intro j hj
    refine cell_of_blk hB2 ?_
    simp only [Nat.zero_add, Nat.mul_one, Int.toNat_natCast]
    rw [Array.getElem?_setIfInBounds]
    by_cases hij : i = j
    · subst hij
      rw [if_pos rfl, if_pos (by rw [hsz]; omega)]
      simp [List.getD, hj]
    · rw [if_neg hij]
      simp only [List.getElem?_toArray]
      rw [List.getElem?_append_left (by omega)]
      have h3 : j < s.data.size := hj
      simp [bcells, List.getD, hij, Array.getElem?_eq_getElem h3]
  · have hfl : strOfNums ((s.data.toList.map fun b => (b.toNat : Int)).set i ((byt s i ^^^ 2 ^ k : Nat) : Int)) = flipS s i k := by
      apply ext_list
      unfold strOfNums flipS
      simp only [List.map_set, List.map_map, Array.toList_setIfInBounds]
      congr 1
      rw [List.map_congr_left (g := id)]
      · simp
      · intro x _
        simp
    rw [hfl]
    exact s_done (by kernel_rfl) ⟨rfl, hK2⟩

theorem dgramSpoilt_ret (a b : Nat) (x y : Int) (s : ByteArray) (at' bit : Int) (ha : a < 4294967296) (hb : b < 4294967296) (hat : -9223372036854775808 ≤ at' ∧ at' ≤ 9223372036854775807) (hbit : -9223372036854775808 ≤ bit ∧ bit ≤ 9223372036854775807) (w : World) :
    Ret Try.prog 4 #[.int .u32 a, .int .u32 b, .agg #[.int .i64 x, .int .i64 y, .string s], .int .i64 at', .int .i64 bit] w fun v w' => v = .bool true ∧ Keep [] w w' := by
  refine ret_of_G Try.func4 rfl rfl ?_
  refine x_new (ob := .cells #[.int .i64 x, .int .i64 y, .string s] 24) (by kernel_rfl) (by kernel_rfl) (fun w1 bk hbk hB hK hlt => ?_)
  refine s_call (args := #[]) (by kernel_rfl) (by kernel_rfl) (by kernel_rfl) (dgramFact_ret _) ?_
  rintro v w2 ⟨rfl, k2⟩
  have hB := k2.get hB (by simp)
  have hK := hK.trans' k2
  refine s_ifF (b := !true) (by kernel_rfl) rfl ?_
  refine x_load (o := 0) hB rfl (by kernel_rfl) ?_
  refine x_load (o := 1) hB rfl (by kernel_rfl) ?_
  refine x_load (o := 2) hB rfl (by kernel_rfl) ?_
  rcases encode_ret a b x y s ha hb w2 with ⟨hc, he⟩ | ⟨m, n, rfl, rfl, hm, hn, hs, he⟩
  · refine s_call (by kernel_rfl) (by kernel_rfl) (by kernel_rfl) he ?_
    rintro v w3 ⟨rfl, k3⟩
    have hK := hK.trans' k3
    refine s_ifT (b := (chkE x y s != 0)) (by kernel_rfl) (by simpa using hc) ?_
    exact s_done (v := .bool true) (by kernel_rfl) ⟨rfl, hK⟩
  · refine s_call (by kernel_rfl) (by kernel_rfl) (by kernel_rfl) he ?_
    rintro v w3 ⟨rfl, k3⟩
    have hK := hK.trans' k3
    refine s_ifF (b := ((0 : Int) != 0)) (by kernel_rfl) rfl ?_
    have hsz : (encS a b m n s).size = 8 + s.size := enc_size
    refine s_callS (args := #[.int .i64 at', .int .i64 (encS a b m n s).size]) (by kernel_rfl) (by kernel_rfl) (rest_ret at' (encS a b m n s).size _ (by omega) (by omega) hat) ?_
    obtain ⟨i, hi⟩ := Int.eq_ofNat_of_zero_le (Int.emod_nonneg at' (show ((encS a b m n s).size : Int) ≠ 0 by omega))
    have hi8 : i < 8 + s.size := by have := Int.emod_lt_of_pos at' (show (0 : Int) < (encS a b m n s).size by omega); rw [hi, hsz] at this; omega
    rw [hi]
    refine s_callS (args := #[.int .i64 bit, .int .i64 8]) (by kernel_rfl) (by kernel_rfl) (rest_ret bit 8 _ (by omega) (by omega) hbit) ?_
    obtain ⟨k, hk⟩ := Int.eq_ofNat_of_zero_le (Int.emod_nonneg bit (show (8 : Int) ≠ 0 by omega))
    have hk8 : k < 8 := by have := Int.emod_lt_of_pos bit (show (0 : Int) < 8 by omega); omega
    rw [hk]
    refine s_call (args := #[.string (encS a b m n s), .int .i64 i, .int .i64 k]) (by kernel_rfl) (by kernel_rfl) (by kernel_rfl) (flip_ret _ i k (by omega) hk8 (by omega) _) ?_
    rintro v w4 ⟨rfl, k4⟩
    have hK := hK.trans' k4
    have hd := dec_flip (a := a) (b := b) (x := m) (y := n) hi8 hk8 hs
    refine s_call (args := #[.int .u32 a, .int .u32 b, .string (flipS (encS a b m n s) i k)]) (by kernel_rfl) (by kernel_rfl) (by kernel_rfl) (decode_ret a b _ ha hb (by rw [flip_size]; omega) _) ?_
    rw [hd.2]
    generalize (decV a b (flipS (encS a b m n s) i k)).e = e at hd
    rintro v w5 ⟨rfl, k5⟩
    have hK := hK.trans' k5
    refine x_new (ob := .cells #[.int .i64 0, .int .i64 0, .string ⟨#[]⟩] 24) (by kernel_rfl) (by kernel_rfl) (fun w10 b10 hb10 hB10 hK10 hlt10 => ?_)
    refine x_store (o := 0) (v := .int .i64 0) hB10 (by simp) (by kernel_rfl) (by kernel_rfl) rfl (fun w11 hB11 k11 => ?_)
    refine x_store (o := 1) (v := .int .i64 0) hB11 (by simp) (by kernel_rfl) (by kernel_rfl) rfl (fun w12 hB12 k12 => ?_)
    refine x_store (o := 2) (v := .string ⟨#[]⟩) hB12 (by simp) (by kernel_rfl) (by kernel_rfl) rfl (fun w13 hB13 k13 => ?_)
    have hK1 : Keep [] w5 w13 := hK10.trans ((k11.trans' k12).trans' k13) (fun _ h => by cases h) (fun x hx => by simp at hx; exact .inr (by omega))
    have hK := hK.trans' hK1
    refine s_ifT (b := (e != 0)) (by kernel_rfl) (by simpa using hd.1) ?_
    refine x_load (o := 0) hB13 rfl (by kernel_rfl) ?_
    refine x_load (o := 1) hB13 rfl (by kernel_rfl) ?_
    refine x_load (o := 2) hB13 rfl (by kernel_rfl) ?_
    refine x_eql (t := 24) (xs := #[.int .i64 0, .int .i64 0, .string ⟨#[]⟩]) (ys := #[.int .i64 0, .int .i64 0, .string ⟨#[]⟩]) (b := (((0 : Int) == 0) && (((0 : Int) == 0) && (((⟨#[]⟩ : ByteArray).toList == (⟨#[]⟩ : ByteArray).toList) && true)))) (by kernel_rfl) (by kernel_rfl) (by kernel_rfl) ?_
    exact s_done (v := .bool (((0 : Int) == 0) && (((0 : Int) == 0) && (((⟨#[]⟩ : ByteArray).toList == (⟨#[]⟩ : ByteArray).toList) && true)))) (by kernel_rfl) ⟨by simp, hK⟩
end Go.Proofs.Ytfknpeajihecdaa
