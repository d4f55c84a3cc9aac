/-
  Datagrams: what is encoded is decoded, and a bit that turns is seen. In plain numbers and bytes.
-/
import Derived.Test.YtfknpeajihecdaaDgPure
namespace Go.Dg

theorem byt_data (s : ByteArray) (k : Nat) : byt s k = ((s.data.toList[k]?).getD 0).toNat := by
  unfold byt
  congr 2
  rcases Nat.lt_or_ge k s.size with h | h
  · have h2 : k < s.data.size := h
    simp [h]; rfl
  · have h2 : s.data.size ≤ k := h
    simp [h]

theorem byt_append_left {x y : ByteArray} {k : Nat} (h : k < x.size) : byt (x ++ y) k = byt x k := by
  have h2 : k < x.data.toList.length := by simpa using h
  rw [byt_data, byt_data, ByteArray.data_append, Array.toList_append, List.getElem?_append_left h2]

theorem byt_append_right (x y : ByteArray) (k : Nat) : byt (x ++ y) (x.size + k) = byt y k := by
  have h2 : x.data.toList.length = x.size := by simp
  rw [byt_data, byt_data, ByteArray.data_append, Array.toList_append, List.getElem?_append_right (by omega), h2, Nat.add_sub_cancel_left]

theorem byt_extract {s : ByteArray} {i j k : Nat} (h : i + k < j) (hj : j ≤ s.size) : byt (s.extract i j) k = byt s (i + k) := by
  have h2 : s.data.size = s.size := rfl
  rw [byt_data, byt_data, ByteArray.data_extract, Array.getElem?_toList, Array.getElem?_toList, Array.getElem?_extract, if_pos (by omega)]

theorem tot_congr {s t : ByteArray} : ∀ (n : Nat), (∀ k, k < n → byt s k = byt t k) → tot s n = tot t n
  | 0, _ => rfl
  | n + 1, h => by
    unfold tot
    rw [tot_congr n fun k hk => h k (by omega), h n (by omega)]

theorem tot_append (x y : ByteArray) (hx : x.size % 2 = 0) : ∀ k, tot (x ++ y) (x.size + k) = tot x x.size + tot y k
  | 0 => by
    rw [Nat.add_zero]
    show _ = _ + 0
    rw [Nat.add_zero]
    exact tot_congr _ fun k hk => byt_append_left hk
  | k + 1 => by
    rw [show x.size + (k + 1) = (x.size + k) + 1 by omega]
    show tot (x ++ y) (x.size + k) + (if (x.size + k) % 2 = 0 then _ else _) = tot x x.size + (tot y k + (if k % 2 = 0 then _ else _))
    rw [tot_append x y hx k, byt_append_right]
    by_cases h : k % 2 = 0
    · rw [if_pos (by omega), if_pos h]; omega
    · rw [if_neg (by omega), if_neg h]; omega

def totS (s : ByteArray) : Nat := tot s s.size

theorem totS_append (x y : ByteArray) (hx : x.size % 2 = 0) : totS (x ++ y) = totS x + totS y := by
  unfold totS
  rw [ByteArray.size_append, tot_append x y hx]

theorem totS_two (n : Nat) : totS (two8 n) = n % 65536 := by
  have e : totS (two8 n) = 0 + byt (two8 n) 0 * 256 + byt (two8 n) 1 := rfl
  have h0 : byt (two8 n) 0 = n / 256 % 256 := by
    show (UInt8.ofNat (n / 256 % 256)).toNat = _
    rw [UInt8.toNat_ofNat']; omega
  have h1 : byt (two8 n) 1 = n % 256 := by
    show (UInt8.ofNat (n % 256)).toNat = _
    rw [UInt8.toNat_ofNat']; omega
  rw [e, h0, h1]; omega

theorem totS_four (n : Nat) : totS (four8 n) = n / 65536 % 65536 + n % 65536 := by
  unfold four8
  rw [totS_append _ _ (by rw [two8_size]), totS_two, totS_two]; omega

theorem totS_sum (a b : Nat) (ports length body : ByteArray) (hp : ports.size % 2 = 0) (hl : length.size % 2 = 0) :
    totS (sumStr a b ports length body) = (a / 65536 % 65536 + a % 65536) + (b / 65536 % 65536 + b % 65536) + 17 + totS length + totS ports + totS length + totS body := by
  unfold sumStr
  have s1 : (four8 a ++ four8 b).size % 2 = 0 := by simp only [ByteArray.size_append, four8_size]
  have s2 : (four8 a ++ four8 b ++ two8 17).size % 2 = 0 := by simp only [ByteArray.size_append, four8_size, two8_size]
  have s3 : (four8 a ++ four8 b ++ two8 17 ++ length).size % 2 = 0 := by simp only [ByteArray.size_append, four8_size, two8_size]; omega
  have s4 : (four8 a ++ four8 b ++ two8 17 ++ length ++ ports).size % 2 = 0 := by simp only [ByteArray.size_append, four8_size, two8_size]; omega
  have s5 : (four8 a ++ four8 b ++ two8 17 ++ length ++ ports ++ length).size % 2 = 0 := by simp only [ByteArray.size_append, four8_size, two8_size]; omega
  have s6 : (four8 a ++ four8 b ++ two8 17 ++ length ++ ports ++ length ++ two8 0).size % 2 = 0 := by simp only [ByteArray.size_append, four8_size, two8_size]; omega
  rw [totS_append _ _ s6, totS_append _ _ s5, totS_append _ _ s4, totS_append _ _ s3, totS_append _ _ s2, totS_append _ _ s1, totS_append _ _ (by rw [four8_size]), totS_four, totS_four, totS_two, totS_two]
  omega

/-- Two sums that differ by less than 65535 have different checks. -/
theorem neg1_ne {n m : Nat} (hn : 0 < n) (h : n < m) (hd : m - n < 65535) : neg1 n ≠ neg1 m := by
  unfold neg1 chk
  have h1 := Nat.mod_lt (n - 1) (show 65535 > 0 by omega)
  have h2 := Nat.mod_lt (m - 1) (show 65535 > 0 by omega)
  rw [if_neg (show ¬ n = 0 by omega), if_neg (show ¬ m = 0 by omega)]
  split <;> split <;> omega

theorem sm_ne {a b a' b' : Nat} {p l y p' l' y' : ByteArray} (h0 : 0 < totS (sumStr a b p l y)) (h0' : 0 < totS (sumStr a' b' p' l' y'))
    (h : totS (sumStr a b p l y) < totS (sumStr a' b' p' l' y') ∧ totS (sumStr a' b' p' l' y') < totS (sumStr a b p l y) + 65535 ∨
      totS (sumStr a' b' p' l' y') < totS (sumStr a b p l y) ∧ totS (sumStr a b p l y) < totS (sumStr a' b' p' l' y') + 65535) : sm a b p l y ≠ sm a' b' p' l' y' := by
  unfold sm
  rcases h with ⟨h1, h2⟩ | ⟨h1, h2⟩
  · exact neg1_ne h0 h1 (by unfold totS at *; omega)
  · exact fun e => neg1_ne h0' h1 (by unfold totS at *; omega) e.symm

/-- A bit turned, in numbers. -/
theorem xor_pow (k : Nat) : ∀ a : Nat, (a ^^^ 2 ^ k) + 2 ^ k = a ∨ a ^^^ 2 ^ k = a + 2 ^ k := by
  induction k with
  | zero =>
    intro a
    have h1 : (a ^^^ 1) / 2 = a / 2 := by
      have := Nat.xor_div_two_pow (a := a) (b := 1) (n := 1)
      simpa using this
    have h2 : (a ^^^ 1) % 2 = a % 2 ^^^ 1 := by
      have := Nat.xor_mod_two_pow (a := a) (b := 1) (n := 1)
      simpa using this
    rcases Nat.mod_two_eq_zero_or_one a with h | h <;> rw [h] at h2
    · have h3 : (a ^^^ 1) % 2 = 1 := h2
      simp only [Nat.pow_zero]; omega
    · have h3 : (a ^^^ 1) % 2 = 0 := h2
      simp only [Nat.pow_zero]; omega
  | succ k ih =>
    intro a
    have h1 : (a ^^^ 2 ^ (k + 1)) / 2 = (a / 2) ^^^ 2 ^ k := by
      have := Nat.xor_div_two_pow (a := a) (b := 2 ^ (k + 1)) (n := 1)
      rw [Nat.pow_one, Nat.pow_succ, Nat.mul_div_cancel _ (by omega)] at this
      rw [Nat.pow_succ]; exact this
    have h2 : (a ^^^ 2 ^ (k + 1)) % 2 = a % 2 := by
      have := Nat.xor_mod_two_pow (a := a) (b := 2 ^ (k + 1)) (n := 1)
      rw [Nat.pow_one, Nat.pow_succ, Nat.mul_mod_left, Nat.xor_zero] at this
      rw [Nat.pow_succ]; exact this
    rw [Nat.pow_succ] at *
    rcases ih (a / 2) with h | h <;> omega

theorem pow_lt16 {k : Nat} (h : k < 16) : 0 < 2 ^ k ∧ 2 ^ k ≤ 32768 :=
  ⟨Nat.two_pow_pos k, Nat.pow_le_pow_right (n := 2) (by omega) (show k ≤ 15 by omega)⟩

/-- One bit of an address turns the sum. -/
theorem xor_addr {a k : Nat} (ha : a < 4294967296) (hk : k < 32) : ∃ t, 0 < t ∧ t ≤ 32768 ∧
    ((a ^^^ 2 ^ k) / 65536 % 65536 + (a ^^^ 2 ^ k) % 65536 + t = a / 65536 % 65536 + a % 65536 ∨ (a ^^^ 2 ^ k) / 65536 % 65536 + (a ^^^ 2 ^ k) % 65536 = a / 65536 % 65536 + a % 65536 + t) := by
  have hx : a ^^^ 2 ^ k < 2 ^ 32 := Nat.xor_lt_two_pow ha (Nat.pow_lt_pow_right (by omega) hk)
  have hdiv := Nat.xor_div_two_pow (a := a) (b := 2 ^ k) (n := 16)
  have hmod := Nat.xor_mod_two_pow (a := a) (b := 2 ^ k) (n := 16)
  rw [show (2 : Nat) ^ 16 = 65536 from rfl] at hdiv hmod
  by_cases h : k < 16
  · have hp := pow_lt16 h
    rw [Nat.div_eq_of_lt (show 2 ^ k < 65536 by omega), Nat.xor_zero] at hdiv
    rw [Nat.mod_eq_of_lt (show 2 ^ k < 65536 by omega)] at hmod
    refine ⟨2 ^ k, hp.1, hp.2, ?_⟩
    rw [hdiv, hmod]
    rcases xor_pow k (a % 65536) with e | e <;> omega
  · obtain ⟨j, rfl⟩ : ∃ j, k = j + 16 := ⟨k - 16, by omega⟩
    have hp := pow_lt16 (show j < 16 by omega)
    have e1 : 2 ^ (j + 16) = 2 ^ j * 65536 := by rw [Nat.pow_add]
    have hdiv' : (a ^^^ 2 ^ (j + 16)) / 65536 = (a / 65536) ^^^ 2 ^ j := by rw [hdiv, e1, Nat.mul_div_cancel _ (by omega)]
    have hmod' : (a ^^^ 2 ^ (j + 16)) % 65536 = a % 65536 := by rw [hmod, e1, Nat.mul_mod_left, Nat.xor_zero]
    refine ⟨2 ^ j, hp.1, hp.2, ?_⟩
    rw [hdiv', hmod']
    rw [show (2 : Nat) ^ 32 = 4294967296 from rfl] at hx
    have h3 : (a / 65536) ^^^ 2 ^ j < 65536 := by rw [← hdiv']; omega
    rw [Nat.mod_eq_of_lt h3]
    rcases xor_pow j (a / 65536) with e | e <;> omega

section
variable {a b x y : Nat} {s : ByteArray}

theorem enc_size : (encS a b x y s).size = 8 + s.size := by
  unfold encS; simp only [ByteArray.size_append, two8_size]

def hd4 (x y : Nat) : ByteArray := two8 x ++ two8 y

theorem list_size (s : ByteArray) : s.data.toList.length = s.size := by simp

theorem ext_list {s t : ByteArray} (h : s.data.toList = t.data.toList) : s = t := ByteArray.ext (Array.toList_inj.1 h)

theorem list_extract {s : ByteArray} {i j : Nat} : (s.extract i j).data.toList = (s.data.toList.drop i).take (j - i) := by
  rw [ByteArray.data_extract, Array.toList_extract, List.extract_eq_take_drop]

theorem list_append (s t : ByteArray) : (s ++ t).data.toList = s.data.toList ++ t.data.toList := by
  rw [ByteArray.data_append, Array.toList_append]

theorem extract_left {p q : ByteArray} {i j : Nat} (h : j ≤ p.size) : (p ++ q).extract i j = p.extract i j := by
  apply ext_list
  rw [list_extract, list_extract, list_append, List.drop_append, List.take_append]
  have := list_size p
  simp only [List.length_drop]
  rw [show j - i - (p.data.toList.length - i) = 0 by omega, List.take_zero, List.append_nil]

theorem extract_right {p q : ByteArray} {i j : Nat} (h : p.size = i) : (p ++ q).extract i j = q.extract 0 (j - i) := by
  apply ext_list
  rw [list_extract, list_extract, list_append, List.drop_append]
  have := list_size p
  rw [List.drop_eq_nil_of_le (by omega), show i - p.data.toList.length = 0 by omega]
  simp

theorem extract_whole {p : ByteArray} {n : Nat} (h : p.size ≤ n) : p.extract 0 n = p := by
  apply ext_list
  rw [list_extract, List.drop_zero, Nat.sub_zero, List.take_of_length_le (by rw [list_size]; exact h)]

theorem enc_ports : (encS a b x y s).extract 0 4 = two8 x ++ two8 y := by
  unfold encS
  rw [extract_left (by simp only [ByteArray.size_append, two8_size]; omega), extract_left (by simp only [ByteArray.size_append, two8_size]; omega), extract_left (by simp only [ByteArray.size_append, two8_size]; omega), extract_whole (by simp only [ByteArray.size_append, two8_size]; omega)]

theorem enc_len : (encS a b x y s).extract 4 6 = two8 (8 + s.size) := by
  unfold encS
  rw [extract_left (by simp only [ByteArray.size_append, two8_size]; omega), extract_left (by simp only [ByteArray.size_append, two8_size]; omega), extract_right (by simp only [ByteArray.size_append, two8_size]), extract_whole (by simp only [two8_size]; omega)]

theorem enc_body : (encS a b x y s).extract 8 (8 + s.size) = s := by
  unfold encS
  rw [extract_right (by simp only [ByteArray.size_append, two8_size]), extract_whole (by omega)]

theorem wrd_two (n : Nat) (h : n < 65536) : wrd (two8 n) 0 = n := by
  have := totS_two n
  unfold totS at this
  have e : tot (two8 n) (two8 n).size = 0 + byt (two8 n) 0 * 256 + byt (two8 n) 1 := rfl
  show byt (two8 n) 0 * 256 + byt (two8 n) 1 = n
  omega

theorem wrd_of_extract {s p : ByteArray} {i : Nat} (h : s.extract i (i + 2) = p) (hs : i + 2 ≤ s.size) : wrd s i = wrd p 0 := by
  subst h
  unfold wrd
  rw [byt_extract (by omega) hs, byt_extract (by omega) hs]
  rfl

theorem enc_w4 (hs : s.size ≤ 1024) : wrd (encS a b x y s) 4 = 8 + s.size := by
  rw [wrd_of_extract enc_len (by rw [enc_size]; omega), wrd_two _ (by omega)]

theorem enc_sum : (encS a b x y s).extract 6 8 = two8 (sm a b (two8 x ++ two8 y) (two8 (8 + s.size)) s) := by
  unfold encS
  rw [extract_left (by simp only [ByteArray.size_append, two8_size]; omega), extract_right (by simp only [ByteArray.size_append, two8_size]), extract_whole (by simp only [two8_size]; omega)]

theorem sm_lt (a b : Nat) (p l y : ByteArray) : sm a b p l y < 65536 := by
  have := neg1_le (tot (sumStr a b p l y) (sumStr a b p l y).size)
  unfold sm; omega

theorem enc_w6 : wrd (encS a b x y s) 6 = sm a b (two8 x ++ two8 y) (two8 (8 + s.size)) s := by
  rw [wrd_of_extract enc_sum (by rw [enc_size]; omega), wrd_two _ (sm_lt _ _ _ _ _)]

theorem enc_w0 (hx : x < 65536) : wrd (encS a b x y s) 0 = x := by
  have h : (encS a b x y s).extract 0 (0 + 2) = two8 x := by
    unfold encS
    rw [extract_left (by simp only [ByteArray.size_append, two8_size]; omega), extract_left (by simp only [ByteArray.size_append, two8_size]; omega), extract_left (by simp only [ByteArray.size_append, two8_size]; omega), extract_left (by simp only [two8_size]; omega), extract_whole (by simp only [two8_size]; omega)]
  rw [wrd_of_extract h (by rw [enc_size]; omega), wrd_two _ hx]

theorem enc_w2 (hy : y < 65536) : wrd (encS a b x y s) 2 = y := by
  have h : (encS a b x y s).extract 2 (2 + 2) = two8 y := by
    unfold encS
    rw [extract_left (by simp only [ByteArray.size_append, two8_size]; omega), extract_left (by simp only [ByteArray.size_append, two8_size]; omega), extract_left (by simp only [ByteArray.size_append, two8_size]; omega), extract_right (by simp only [two8_size]), extract_whole (by simp only [two8_size]; omega)]
  rw [wrd_of_extract h (by rw [enc_size]; omega), wrd_two _ hy]

/-- What is encoded is decoded. -/
theorem dec_enc (hx : x < 65536) (hy : y < 65536) (hs : s.size ≤ 1024) : decV a b (encS a b x y s) = ⟨x, y, s, 0⟩ := by
  unfold decV
  rw [enc_size, if_neg (by omega), enc_w4 hs, if_neg (by omega), enc_w6, enc_ports, enc_len, enc_body, if_neg (by simp), enc_w0 hx, enc_w2 hy]

theorem ports_even (x y : Nat) : (two8 x ++ two8 y).size % 2 = 0 := by simp only [ByteArray.size_append, two8_size]

/-- And for its own addresses alone. -/
theorem dec_other {k : Nat} (ha : a < 4294967296) (hk : k < 32) (hs : s.size ≤ 1024) : decV (a ^^^ 2 ^ k) b (encS a b x y s) = ⟨0, 0, ⟨#[]⟩, 8⟩ := by
  unfold decV
  rw [enc_size, if_neg (by omega), enc_w4 hs, if_neg (by omega), enc_w6, enc_ports, enc_len, enc_body, if_pos]
  have h1 := totS_sum a b (two8 x ++ two8 y) (two8 (8 + s.size)) s (ports_even x y) (by rw [two8_size])
  have h2 := totS_sum (a ^^^ 2 ^ k) b (two8 x ++ two8 y) (two8 (8 + s.size)) s (ports_even x y) (by rw [two8_size])
  obtain ⟨t, ht0, ht1, ht⟩ := xor_addr ha hk
  exact sm_ne (by omega) (by omega) (by omega)

/-- A byte of which one bit turns. -/
def flipS (s : ByteArray) (i k : Nat) : ByteArray := ⟨s.data.setIfInBounds i (UInt8.ofNat (byt s i ^^^ 2 ^ k))⟩

theorem flip_size (s : ByteArray) (i k : Nat) : (flipS s i k).size = s.size := by
  show (s.data.setIfInBounds i _).size = s.data.size
  simp

theorem flip_other {s : ByteArray} {i j k : Nat} (h : j ≠ i) : byt (flipS s i k) j = byt s j := by
  rw [byt_data, byt_data]
  unfold flipS
  simp only [Array.toList_setIfInBounds]
  rw [List.getElem?_set_ne (Ne.symm h)]

theorem flip_at {s : ByteArray} {i k : Nat} (hi : i < s.size) (hk : k < 8) : byt (flipS s i k) i = byt s i ^^^ 2 ^ k := by
  rw [byt_data]
  unfold flipS
  have := list_size s
  simp only [Array.toList_setIfInBounds]
  rw [List.getElem?_set_self (by omega)]
  have hx : byt s i ^^^ 2 ^ k < 2 ^ 8 := Nat.xor_lt_two_pow (byt_lt s i) (Nat.pow_lt_pow_right (by omega) hk)
  simp only [Option.getD_some, UInt8.toNat_ofNat']
  exact Nat.mod_eq_of_lt hx

/-- Bytes i to j of a string, summed. -/
def part (s : ByteArray) (i j : Nat) : Nat := totS (s.extract i j)

theorem totS_extract_congr {s t : ByteArray} {i j : Nat} (hs : j ≤ s.size) (ht : j ≤ t.size) (h : ∀ k, i ≤ k → k < j → byt s k = byt t k) : totS (s.extract i j) = totS (t.extract i j) := by
  unfold totS
  have e1 : (s.extract i j).size = j - i := by simp; omega
  have e2 : (t.extract i j).size = j - i := by simp; omega
  rw [e1, e2]
  refine tot_congr _ fun k hk => ?_
  rw [byt_extract (by omega) hs, byt_extract (by omega) ht]
  exact h _ (by omega) (by omega)

theorem tot_one {s t : ByteArray} {i d : Nat} (hd : byt t i = byt s i + d) (h : ∀ k, k ≠ i → byt t k = byt s k) : ∀ n, i < n → tot t n = tot s n + (if i % 2 = 0 then d * 256 else d)
  | 0, hn => by omega
  | n + 1, hn => by
    show tot t n + (if n % 2 = 0 then byt t n * 256 else byt t n) = tot s n + (if n % 2 = 0 then byt s n * 256 else byt s n) + _
    by_cases hni : n = i
    · subst hni
      rw [tot_congr (s := t) (t := s) n fun k hk => h k (by omega), hd]
      split <;> omega
    · rw [tot_one hd h n (by omega), h n hni]; omega

/-- One bit of a string turns its sum by a power of two. -/
theorem totS_flip {s : ByteArray} {i j p k : Nat} (h1 : i ≤ p) (h2 : p < j) (hj : j ≤ s.size) (hk : k < 8) (hi : i % 2 = 0) : ∃ t, 0 < t ∧ t ≤ 32768 ∧
    (totS ((flipS s p k).extract i j) + t = totS (s.extract i j) ∨ totS ((flipS s p k).extract i j) = totS (s.extract i j) + t) := by
  have hfs := flip_size s p k
  have e1 : (s.extract i j).size = j - i := by simp; omega
  have e2 : ((flipS s p k).extract i j).size = j - i := by simp [hfs]; omega
  have hat := flip_at (s := s) (i := p) (by omega) hk
  have hp := Nat.pow_lt_pow_right (a := 2) (by omega) hk
  have hp0 := Nat.two_pow_pos k
  have hp7 : 2 ^ k ≤ 128 := Nat.pow_le_pow_right (n := 2) (by omega) (show k ≤ 7 by omega)
  have b1 : byt (s.extract i j) (p - i) = byt s p := by rw [byt_extract (by omega) hj, show i + (p - i) = p by omega]
  have b2 : byt ((flipS s p k).extract i j) (p - i) = byt s p ^^^ 2 ^ k := by rw [byt_extract (by omega) (by omega), show i + (p - i) = p by omega, hat]
  have bo : ∀ q, q ≠ p - i → q < j - i → byt ((flipS s p k).extract i j) q = byt (s.extract i j) q := fun q hq hlt => by
    rw [byt_extract (by omega) (by omega), byt_extract (by omega) hj, flip_other (by omega)]
  have bo' : ∀ q, q ≠ p - i → byt ((flipS s p k).extract i j) q = byt (s.extract i j) q := fun q hq => by
    rcases Nat.lt_or_ge q (j - i) with hlt | hge
    · exact bo q hq hlt
    · unfold byt
      rw [getElem?_neg _ _ (by omega), getElem?_neg _ _ (by omega)]
  refine ⟨if (p - i) % 2 = 0 then 2 ^ k * 256 else 2 ^ k, by split <;> omega, by split <;> omega, ?_⟩
  unfold totS
  rw [e1, e2]
  rcases xor_pow k (byt s p) with e | e
  · left
    have := tot_one (s := (flipS s p k).extract i j) (t := s.extract i j) (i := p - i) (d := 2 ^ k) (by rw [b1, b2]; omega) (fun q hq => (bo' q hq).symm) (j - i) (by omega)
    rw [this]
  · right
    exact tot_one (s := s.extract i j) (t := (flipS s p k).extract i j) (i := p - i) (d := 2 ^ k) (by rw [b1, b2]; omega) bo' (j - i) (by omega)

theorem wrd_flip_other {s : ByteArray} {i j k : Nat} (h1 : j ≠ i) (h2 : j + 1 ≠ i) : wrd (flipS s i k) j = wrd s j := by
  unfold wrd; rw [flip_other h1, flip_other h2]

theorem wrd_flip {s : ByteArray} {i j k : Nat} (hi : i < s.size) (hk : k < 8) (h : i = j ∨ i = j + 1) : wrd (flipS s i k) j ≠ wrd s j := by
  have hat := flip_at hi hk
  have hp := Nat.two_pow_pos k
  have hx := xor_pow k (byt s i)
  unfold wrd
  rcases h with rfl | rfl
  · rw [hat, flip_other (i := i) (j := i + 1) (by omega)]; omega
  · rw [hat, flip_other (i := j + 1) (j := j) (by omega)]; omega

theorem extract_flip_other {s : ByteArray} {i j p k : Nat} (h : p < i ∨ j ≤ p) (_hj : j ≤ s.size) : (flipS s p k).extract i j = s.extract i j := by
  apply ext_list
  rw [list_extract, list_extract]
  unfold flipS
  simp only [Array.toList_setIfInBounds]
  rcases h with h | h
  · rw [List.drop_set_of_lt (by omega)]
  · rw [List.drop_set]
    split
    · rfl
    · rw [List.take_set_of_le (by omega)]

/-- Every change of a single bit is seen. -/
theorem dec_flip {i k : Nat} (hi : i < 8 + s.size) (hk : k < 8) (hs : s.size ≤ 1024) :
    (decV a b (flipS (encS a b x y s) i k)).e ≠ 0 ∧ decV a b (flipS (encS a b x y s) i k) = ⟨0, 0, ⟨#[]⟩, (decV a b (flipS (encS a b x y s) i k)).e⟩ := by
  have hsz : (flipS (encS a b x y s) i k).size = 8 + s.size := by rw [flip_size, enc_size]
  have hi' : i < (encS a b x y s).size := by rw [enc_size]; exact hi
  have key : decV a b (flipS (encS a b x y s) i k) = ⟨0, 0, ⟨#[]⟩, 3⟩ ∨ decV a b (flipS (encS a b x y s) i k) = ⟨0, 0, ⟨#[]⟩, 8⟩ := by
    unfold decV
    rw [hsz, if_neg (by omega)]
    by_cases h4 : i = 4 ∨ i = 4 + 1
    · left
      have := wrd_flip (k := k) hi' hk h4
      rw [enc_w4 hs] at this
      rw [if_pos (.inl this)]
    · right
      rw [wrd_flip_other (by omega) (by omega), enc_w4 hs, if_neg (by omega), if_pos]
      by_cases h6 : i = 6 ∨ i = 6 + 1
      · have := wrd_flip (k := k) hi' hk h6
        rw [enc_w6] at this
        rw [extract_flip_other (by omega) (by rw [enc_size]; omega), extract_flip_other (by omega) (by rw [enc_size]; omega), extract_flip_other (by omega) (by rw [enc_size]; omega), enc_ports, enc_len, enc_body]
        exact this
      · rw [wrd_flip_other (by omega) (by omega), enc_w6]
        have h1 := totS_sum a b (two8 x ++ two8 y) (two8 (8 + s.size)) s (ports_even x y) (by rw [two8_size])
        by_cases hlo : i < 4
        · obtain ⟨t, ht0, ht1, ht⟩ := totS_flip (s := encS a b x y s) (i := 0) (j := 4) (p := i) (k := k) (by omega) hlo (by rw [enc_size]; omega) hk rfl
          have hev : ((flipS (encS a b x y s) i k).extract 0 4).size % 2 = 0 := by
            have : ((flipS (encS a b x y s) i k).extract 0 4).size = 4 := by simp [hsz]; omega
            rw [this]
          rw [extract_flip_other (i := 4) (by omega) (by rw [enc_size]; omega), extract_flip_other (i := 8) (by omega) (by rw [enc_size]; omega), enc_len, enc_body]
          have h2 := totS_sum a b ((flipS (encS a b x y s) i k).extract 0 4) (two8 (8 + s.size)) s hev (by rw [two8_size])
          rw [enc_ports] at ht
          exact sm_ne (by omega) (by omega) (by omega)
        · obtain ⟨t, ht0, ht1, ht⟩ := totS_flip (s := encS a b x y s) (i := 8) (j := 8 + s.size) (p := i) (k := k) (by omega) hi (by rw [enc_size]; omega) hk rfl
          rw [extract_flip_other (i := 0) (by omega) (by rw [enc_size]; omega), extract_flip_other (i := 4) (by omega) (by rw [enc_size]; omega), enc_ports, enc_len]
          have h2 := totS_sum a b (two8 x ++ two8 y) (two8 (8 + s.size)) ((flipS (encS a b x y s) i k).extract 8 (8 + s.size)) (ports_even x y) (by rw [two8_size])
          rw [enc_body] at ht
          exact sm_ne (by omega) (by omega) (by omega)
  rcases key with h | h <;> rw [h] <;> exact ⟨by decide, rfl⟩

end
end Go.Dg
