/-
  A port's queue of datagrams, in plain data.
-/
import Derived.Test.YtfknpeajihecdaaDgLaw
namespace Go.Do
structure GotV where
  addr : Int
  port : Int
  body : ByteArray
/-- A body as the law says it. -/
def cut50 (s : ByteArray) : ByteArray := s.extract 0 (min s.size 50)
theorem cut50_size (s : ByteArray) : (cut50 s).size ≤ 50 := by unfold cut50; rw [ByteArray.size_extract]; omega
/-- What waits after i datagrams. -/
def gotL (a : Int) (T : List ByteArray) (i : Nat) : List GotV := (List.range (min i 16)).map fun (j : Nat) => ⟨a, (j : Int), cut50 (T.getD j ⟨#[]⟩)⟩
theorem gotL_len (a : Int) (T : List ByteArray) (i : Nat) : (gotL a T i).length = min i 16 := by simp [gotL]
theorem gotL_zero (a : Int) (T : List ByteArray) : gotL a T 0 = [] := by simp [gotL]
theorem gotL_succ {a : Int} {T : List ByteArray} {i : Nat} {s : ByteArray} (h : i < 16) (hs : T[i]? = some s) : gotL a T (i + 1) = gotL a T i ++ [⟨a, (i : Int), cut50 s⟩] := by
  unfold gotL
  rw [Nat.min_eq_left (by omega), Nat.min_eq_left (by omega), List.range_succ, List.map_append]
  simp [List.getD_eq_getElem?_getD, hs]
theorem gotL_full {a : Int} {T : List ByteArray} {i : Nat} (h : 16 ≤ i) : gotL a T (i + 1) = gotL a T i := by
  unfold gotL
  rw [Nat.min_eq_right (by omega), Nat.min_eq_right (by omega)]
theorem gotL_get {a : Int} {T : List ByteArray} {n j : Nat} (h : j < min n 16) : (gotL a T n)[j]? = some ⟨a, (j : Int), cut50 (T.getD j ⟨#[]⟩)⟩ := by
  unfold gotL
  rw [List.getElem?_map, List.getElem?_range h]
  rfl
theorem gotL_drop {a : Int} {T : List ByteArray} {n j : Nat} (h : j < min n 16) : (gotL a T n).drop j = ⟨a, (j : Int), cut50 (T.getD j ⟨#[]⟩)⟩ :: (gotL a T n).drop (j + 1) := by
  have h1 := gotL_get (a := a) (T := T) h
  obtain ⟨h2, h3⟩ := List.getElem?_eq_some_iff.1 h1
  rw [List.drop_eq_getElem_cons h2, h3]
end Go.Do
