/-
  The X machine: strings and slices.
-/
import Derived.Test.YtfknpeajihecdaaXMquiet
import Derived.Laws.BytesArg
import Derived.Laws.BytesString
import Derived.Lib.ConvBytes
import Derived.Test.YtfknpeajihecdaaXMint
namespace Go.XM
open Go.RowKit

section
variable {P : Program} {fn : Func} {f : FuncId} {w : World} {R : Ending → World → Prop} {js : List J} {st : St} {C : Cls}

theorem run_concat {t : TypeId} {a b : ByteArray} (h : a.size + b.size ≤ 9223372036854775807) : (binOp .add t (.string a) (.string b)).run P w = .ok (.string (a ++ b)) w := by
  simp only [binOp, Op.stringOp]
  rw [if_neg (by simp only [IntKind.max]; simp [IntKind.bits, IntKind.signed]; omega)]
  rfl

theorem x_concat {t : TypeId} {a b : ByteArray} (h : a.size + b.size ≤ 9223372036854775807) (hr : req st = .bin .add t (.string a) (.string b))
    (k : G P fn R js (nx P fn st (.v (.string (a ++ b)))) w) : G P fn R js st w := s_val hr rfl (run_concat h) k

theorem q_concat {t : TypeId} {a b : ByteArray} (h : a.size + b.size ≤ 9223372036854775807) (hr : req st = .bin .add t (.string a) (.string b)) (hm : Nat.beq st.m 0 = false)
    (k : GQ P fn R js C (nxq P fn st (.v (.string (a ++ b))))) : GQ P fn R js C st := q_val hr rfl hm (fun _ _ => run_concat h) k

theorem w64' {n c : Int} (h0 : -9223372036854775808 ≤ n) (h1 : n ≤ 9223372036854775807) (h : n = c) : IntKind.i64.wrap n = c := by rw [IntKind.wrap_i64]; omega
theorem wu32' {n c : Int} (h0 : 0 ≤ n) (h1 : n ≤ 4294967295) (h : n = c) : IntKind.u32.wrap n = c := by rw [IntKind.wrap_u32]; omega
theorem wu8' {n c : Int} (h0 : 0 ≤ n) (h1 : n ≤ 255) (h : n = c) : IntKind.u8.wrap n = c := by rw [IntKind.wrap_u8]; omega
theorem run_arith {op : BinOp} {t : TypeId} {k : IntKind} {a b c : Int} (h : (match op with | .add => some (k.wrap (a + b)) | .sub => some (k.wrap (a - b)) | .mul => some (k.wrap (a * b)) | _ => none) = some c) : (binOp op t (.int k a) (.int k b)).run P w = .ok (.int k c) w := by
  cases op <;> simp at h <;> subst h <;> simp [binOp, Op.intArith]
theorem x_add {t : TypeId} {k : IntKind} {a b : Int} (c : Int) (h : k.wrap (a + b) = c) (hr : req st = .bin .add t (.int k a) (.int k b)) (kk : G P fn R js (nx P fn st (.v (.int k c))) w) : G P fn R js st w :=
  s_val hr rfl (run_arith (op := .add) (by rw [h])) kk
theorem x_sub {t : TypeId} {k : IntKind} {a b : Int} (c : Int) (h : k.wrap (a - b) = c) (hr : req st = .bin .sub t (.int k a) (.int k b)) (kk : G P fn R js (nx P fn st (.v (.int k c))) w) : G P fn R js st w :=
  s_val hr rfl (run_arith (op := .sub) (by rw [h])) kk
theorem x_mul {t : TypeId} {k : IntKind} {a b : Int} (c : Int) (h : k.wrap (a * b) = c) (hr : req st = .bin .mul t (.int k a) (.int k b)) (kk : G P fn R js (nx P fn st (.v (.int k c))) w) : G P fn R js st w :=
  s_val hr rfl (run_arith (op := .mul) (by rw [h])) kk
theorem run_convI {s d : TypeId} {k k' : IntKind} {a c : Int} (hs : (P.underlying s).isSome = true) (hd : P.underlying d = some (.int k')) (h : k'.wrap a = c) : (convert s d (.int k a)).run P w = .ok (.int k' c) w := by
  obtain ⟨x, hx⟩ := Option.isSome_iff_exists.1 hs
  subst h
  simp [convert, run_underlying hx, run_underlying hd, Conv.intToInt]
theorem x_conv {s d : TypeId} {k k' : IntKind} {a : Int} (c : Int) (hs : (P.underlying s).isSome = true) (hd : P.underlying d = some (.int k')) (h : k'.wrap a = c) (hr : req st = .conv s d (.int k a)) (kk : G P fn R js (nx P fn st (.v (.int k' c))) w) : G P fn R js st w :=
  s_val hr rfl (run_convI hs hd h) kk
theorem x_shl {t : TypeId} {kd ky : IntKind} {a y : Int} (h : 0 ≤ y) (hr : req st = .bin .shl t (.int kd a) (.int ky y))
    (k : G P fn R js (nx P fn st (.v (.int kd (kd.wrap (a * 2 ^ (min y.toNat kd.bits)))))) w) : G P fn R js st w :=
  s_val hr rfl (by simp [binOp, Op.shift, show ¬ y < 0 by omega]) k

theorem x_shr {t : TypeId} {kd ky : IntKind} {a y : Int} (h : 0 ≤ y) (hr : req st = .bin .shr t (.int kd a) (.int ky y))
    (k : G P fn R js (nx P fn st (.v (.int kd (a.fdiv (2 ^ (min y.toNat kd.bits)))))) w) : G P fn R js st w :=
  s_val hr rfl (by simp [binOp, Op.shift, show ¬ y < 0 by omega]) k

theorem x_rem {t : TypeId} {kd : IntKind} {a y : Int} (h : y ≠ 0) (hr : req st = .bin .rem t (.int kd a) (.int kd y))
    (k : G P fn R js (nx P fn st (.v (.int kd (a.tmod y)))) w) : G P fn R js st w :=
  s_val hr rfl (by simp [binOp, Op.intDiv, h]) k

theorem x_quo {t : TypeId} {kd : IntKind} {a y : Int} (h : y ≠ 0) (hr : req st = .bin .quo t (.int kd a) (.int kd y))
    (k : G P fn R js (nx P fn st (.v (.int kd (kd.wrap (a.tdiv y))))) w) : G P fn R js st w :=
  s_val hr rfl (by simp [binOp, Op.intDiv, h]) k

/-- A slice's bound: absent, or a number. -/
inductive Bd : Option Value → Nat → Nat → Prop where
  | none (d : Nat) : Bd none d d
  | int (k : IntKind) (n : Int) (d : Nat) (h : 0 ≤ n) : Bd (some (.int k n)) d n.toNat

theorem run_sliceBound {kd : IntKind} {n : Int} {y : Nat} {code : BoundsCode} (h0 : 0 ≤ n) (h1 : n.toNat ≤ y) : (Instr.sliceBound (.int kd n) y code).run P w = .ok n.toNat w := by
  have : n ≤ (y : Int) := by omega
  simp [Instr.sliceBound, asIntOf, h0, this]

theorem run_sliceStr {t : TypeId} {s : ByteArray} {lo hi : Option Value} {l h : Nat} (ht : P.underlying t = some .string) (hlo : Bd lo 0 l) (hhi : Bd hi s.size h) (h1 : l ≤ h) (h2 : h ≤ s.size) :
    (Instr.sliceAt t (.string s) lo hi none).run P w = .ok (.string (s.extract l h)) w := by
  cases hlo with
  | none =>
    cases hhi with
    | none => simp [Instr.sliceAt, Instr.slice, run_underlying ht, Instr.sliceBounds]
    | int k n d hn => simp [Instr.sliceAt, Instr.slice, run_underlying ht, Instr.sliceBounds, run_sliceBound (P := P) hn h2]
  | int k n d hn =>
    cases hhi with
    | none => simp [Instr.sliceAt, Instr.slice, run_underlying ht, Instr.sliceBounds, run_sliceBound (P := P) hn h1]
    | int k' n' d' hn' => simp [Instr.sliceAt, Instr.slice, run_underlying ht, Instr.sliceBounds, run_sliceBound (P := P) hn h1, run_sliceBound (P := P) hn' h2]

theorem x_sliceStr {t : TypeId} {s : ByteArray} {lo hi : Option Value} {l h : Nat} (ht : P.underlying t = some .string) (hlo : Bd lo 0 l) (hhi : Bd hi s.size h) (h1 : l ≤ h) (h2 : h ≤ s.size)
    (hr : req st = .slice t (.string s) lo hi none) (k : G P fn R js (nx P fn st (.v (.string (s.extract l h)))) w) : G P fn R js st w :=
  s_val hr rfl (run_sliceStr ht hlo hhi h1 h2) k

theorem q_sliceStr {t : TypeId} {s : ByteArray} {lo hi : Option Value} {l h : Nat} (ht : P.underlying t = some .string) (hlo : Bd lo 0 l) (hhi : Bd hi s.size h) (h1 : l ≤ h) (h2 : h ≤ s.size)
    (hr : req st = .slice t (.string s) lo hi none) (hm : Nat.beq st.m 0 = false) (k : GQ P fn R js C (nxq P fn st (.v (.string (s.extract l h))))) : GQ P fn R js C st :=
  q_val hr rfl hm (fun _ _ => run_sliceStr ht hlo hhi h1 h2) k

theorem run_sliceSl {t e : TypeId} {i0 : TypeInfo} {a : Option Addr} {n c : Nat} {lo hi : Option Value} {l h : Nat} (ht : P.underlying t = some (.slice e)) (hi0 : P.info? e = some i0)
    (hlo : Bd lo 0 l) (hhi : Bd hi n h) (h1 : l ≤ h) (h2 : h ≤ c) :
    (Instr.sliceAt t (.slice a n c) lo hi none).run P w = .ok (.slice (if c = l then a else a.map (·.add (l * i0.size))) (h - l) (c - l)) w := by
  cases hlo with
  | none =>
    cases hhi with
    | none => simp [Instr.sliceAt, Instr.slice, run_underlying ht, Instr.sliceBounds, sizeOf, typeInfo, hi0]
    | int k n d hn => simp [Instr.sliceAt, Instr.slice, run_underlying ht, Instr.sliceBounds, run_sliceBound (P := P) hn h2, sizeOf, typeInfo, hi0]
  | int k n d hn =>
    cases hhi with
    | none => simp [Instr.sliceAt, Instr.slice, run_underlying ht, Instr.sliceBounds, run_sliceBound (P := P) hn h1, sizeOf, typeInfo, hi0]
    | int k' n' d' hn' => simp [Instr.sliceAt, Instr.slice, run_underlying ht, Instr.sliceBounds, run_sliceBound (P := P) hn h1, run_sliceBound (P := P) hn' h2, sizeOf, typeInfo, hi0]

theorem run_strIdx {t : TypeId} {s : ByteArray} {kd : IntKind} {i : Int} {u : UInt8} (ht : P.underlying t = some .string) (h0 : 0 ≤ i) (h1 : s[i.toNat]? = some u) :
    (Instr.index t (.string s) (.int kd i)).run P w = .ok (.int .u8 u.toNat) w := by
  simp [Instr.index, asIntOf, run_underlying ht, h0, h1]

theorem q_strIdx {t : TypeId} {s : ByteArray} {kd : IntKind} {i : Int} {u : UInt8} (ht : P.underlying t = some .string) (h0 : 0 ≤ i) (h1 : s[i.toNat]? = some u) (hr : req st = .index t (.string s) (.int kd i)) (hm : Nat.beq st.m 0 = false)
    (k : GQ P fn R js C (nxq P fn st (.v (.int .u8 u.toNat)))) : GQ P fn R js C st := q_val hr rfl hm (fun _ _ => run_strIdx ht h0 h1) k

/-- string(b) of a slice of bytes that is known whole. -/
theorem run_b2s {src dst e : TypeId} {b off len cap : Nat} {xs : List Int} (hs : P.underlying src = some (.slice e)) (he : P.underlying e = some (.int .u8)) (hd : P.underlying dst = some .string) (hlen : xs.length = len)
    (hcell : ∀ i, i < len → w.cell? ⟨b, off + i, none⟩ = some (.int .u8 (xs.getD i 0))) :
    (convert src dst (.slice (some ⟨b, off, none⟩) len cap)).run P w = .ok (.string (strOfNums xs)) w :=
  run_convert_bytes_arg w src e hs he b off len cap xs hlen hcell dst hd

theorem x_b2s {src dst e : TypeId} {b off len cap : Nat} (xs : List Int) (hs : P.underlying src = some (.slice e)) (he : P.underlying e = some (.int .u8)) (hd : P.underlying dst = some .string) (hlen : xs.length = len)
    (hcell : ∀ i, i < len → w.cell? ⟨b, off + i, none⟩ = some (.int .u8 (xs.getD i 0))) (hr : req st = .conv src dst (.slice (some ⟨b, off, none⟩) len cap))
    (k : G P fn R js (nx P fn st (.v (.string (strOfNums xs)))) w) : G P fn R js st w := s_val hr rfl (run_b2s hs he hd hlen hcell) k

end
end Go.XM
