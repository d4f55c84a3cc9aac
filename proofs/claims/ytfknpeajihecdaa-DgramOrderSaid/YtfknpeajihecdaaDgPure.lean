/-
  The sums of datagrams, in plain numbers.
-/
namespace Go.Dg
def byt (s : ByteArray) (k : Nat) : Nat := ((s[k]?).getD 0).toNat
def tot (s : ByteArray) : Nat → Nat
  | 0 => 0
  | k + 1 => tot s k + (if k % 2 = 0 then byt s k * 256 else byt s k)
def chk (n : Nat) : Nat := if n = 0 then 0 else (n - 1) % 65535 + 1
theorem byt_lt (s : ByteArray) (k : Nat) : byt s k < 256 := by unfold byt; exact UInt8.toNat_lt _
theorem byt_some {s : ByteArray} {k : Nat} {u : UInt8} (h : s[k]? = some u) : byt s k = u.toNat := by simp [byt, h]
theorem some_byt {s : ByteArray} {k : Nat} (h : k < s.size) : ∃ u, s[k]? = some u ∧ byt s k = u.toNat := ⟨s[k], by simp [h], by simp [byt, h]⟩
theorem tot_le (s : ByteArray) (k : Nat) : tot s k ≤ k * 65280 := by
  induction k with
  | zero => simp [tot]
  | succ k ih => have := byt_lt s k; unfold tot; split <;> omega
theorem chk_small {n : Nat} (h : n ≤ 65535) : chk n = n := by unfold chk; split <;> omega
theorem chk_step {n : Nat} (h : 65535 < n) : chk (n % 65536 + n / 65536) = chk n := by unfold chk; split <;> split <;> omega
theorem chk_lt {n : Nat} (h : 65535 < n) : n % 65536 + n / 65536 < n := by omega
theorem chk_le (n : Nat) : chk n ≤ 65535 := by unfold chk; split <;> omega
theorem chk_pos {n : Nat} (h : 0 < n) : 0 < chk n := by unfold chk; split <;> omega
def two8 (n : Nat) : ByteArray := ⟨#[UInt8.ofNat (n / 256 % 256), UInt8.ofNat (n % 256)]⟩
def four8 (n : Nat) : ByteArray := two8 (n / 65536) ++ two8 (n % 65536)
theorem two8_size (n : Nat) : (two8 n).size = 2 := rfl
theorem four8_size (n : Nat) : (four8 n).size = 4 := by unfold four8; rw [ByteArray.size_append]; rfl
/-- What is summed. -/
def sumStr (a b : Nat) (ports length body : ByteArray) : ByteArray := four8 a ++ four8 b ++ two8 17 ++ length ++ ports ++ length ++ two8 0 ++ body
def neg1 (n : Nat) : Nat := if 65535 - chk n = 0 then 65535 else 65535 - chk n
def sm (a b : Nat) (ports length body : ByteArray) : Nat := neg1 (tot (sumStr a b ports length body) (sumStr a b ports length body).size)
def encS (a b src dst : Nat) (body : ByteArray) : ByteArray :=
  (two8 src ++ two8 dst) ++ two8 (8 + body.size) ++ two8 (sm a b (two8 src ++ two8 dst) (two8 (8 + body.size)) body) ++ body
def wrd (s : ByteArray) (k : Nat) : Nat := byt s k * 256 + byt s (k + 1)
def chkE (src dst : Int) (body : ByteArray) : Int := if src < 0 ∨ src > 65535 ∨ dst < 0 ∨ dst > 65535 then 1 else if body.size > 1024 then 2 else 0
structure Dec where
  src : Nat
  dst : Nat
  body : ByteArray
  e : Int
def decV (a b : Nat) (s : ByteArray) : Dec :=
  if s.size < 8 then ⟨0, 0, ⟨#[]⟩, 9⟩
  else if wrd s 4 ≠ s.size ∨ s.size > 1032 then ⟨0, 0, ⟨#[]⟩, 3⟩
  else if wrd s 6 ≠ sm a b (s.extract 0 4) (s.extract 4 6) (s.extract 8 s.size) then ⟨0, 0, ⟨#[]⟩, 8⟩
  else ⟨wrd s 0, wrd s 2, s.extract 8 s.size, 0⟩
theorem neg1_le (n : Nat) : neg1 n ≤ 65535 := by unfold neg1; split <;> omega
end Go.Dg
