import Derived.Test.YtfknpeajihecdaaODg3
import Derived.Test.YtfknpeajihecdaaDgLaw
import Derived.Test.YtfknpeajihecdaaXObytes
import Derived.Laws.Strings
namespace Go.Proofs.Ytfknpeajihecdaa.Old
open Go.XO Go.RowKit Go.Dg
set_option maxRecDepth 100000

theorem dgramFact_ret (w : World) : Ret Try.prog 11 #[] w fun v w' => v = .bool true ∧ Keep [] w w' := by
  refine ret_of_G (args := []) Try.func11 rfl rfl ?_
  refine s_call (args := #[.int .u32 1, .int .u32 2, .agg #[.int .i64 3, .int .i64 4, .string ⟨#[120]⟩]]) (by kernel_rfl) (by kernel_rfl) (by kernel_rfl) (encode_ok 1 2 3 4 ⟨#[120]⟩ (by omega) (by omega) (by omega) (by omega) (by decide) _) ?_
  rintro v w1 ⟨rfl, k1⟩
  refine s_ifT (b := ((0 : Int) == 0)) (by kernel_rfl) rfl ?_
  refine s_done (v := .bool (((encS 1 2 3 4 ⟨#[120]⟩).size : Int) == 9)) (by kernel_rfl) ⟨?_, k1⟩
  rw [enc_size]
  rfl

theorem encode_ret (a b : Nat) (x y : Int) (s : ByteArray) (ha : a < 4294967296) (hb : b < 4294967296) (w : World) :
    (chkE x y s ≠ 0 ∧ Ret Try.prog 12 #[.int .u32 a, .int .u32 b, .agg #[.int .i64 x, .int .i64 y, .string s]] w fun v w' => v = .tuple #[.string ⟨#[]⟩, .int .i64 (chkE x y s)] ∧ Keep [] w w') ∨
    (∃ m n : Nat, x = m ∧ y = n ∧ m < 65536 ∧ n < 65536 ∧ s.size ≤ 1024 ∧
      Ret Try.prog 12 #[.int .u32 a, .int .u32 b, .agg #[.int .i64 x, .int .i64 y, .string s]] w fun v w' => v = .tuple #[.string (encS a b m n s), .int .i64 0] ∧ Keep [] w w') := by
  by_cases h : chkE x y s = 0
  · right
    have h1 : ¬ (x < 0 ∨ x > 65535 ∨ y < 0 ∨ y > 65535) := by intro h1; unfold chkE at h; rw [if_pos h1] at h; exact absurd h (by decide)
    have h2 : ¬ s.size > 1024 := by intro h2; unfold chkE at h; rw [if_neg h1, if_pos h2] at h; exact absurd h (by decide)
    obtain ⟨m, rfl⟩ := Int.eq_ofNat_of_zero_le (show 0 ≤ x by omega)
    obtain ⟨n, rfl⟩ := Int.eq_ofNat_of_zero_le (show 0 ≤ y by omega)
    exact ⟨m, n, rfl, rfl, by omega, by omega, by omega, encode_ok a b m n s ha hb (by omega) (by omega) (by omega) w⟩
  · exact .inl ⟨h, encode_bad a b x y s h w⟩

end Go.Proofs.Ytfknpeajihecdaa.Old
