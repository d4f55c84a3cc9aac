/-
  The X machine: memory by blocks, and the laws that a proof over memory is typed with.
-/
import Derived.Test.YtfknpeajihecdaaXOops
import Derived.Laws.AppendOwn
namespace Go.XO
open Go.RowKit

/-- What was there is there, but for the blocks in S. -/
structure Keep (S : List Nat) (w w' : World) : Prop where
  os : w'.os = w.os
  tape : w'.tape = w.tape
  output : w'.output = w.output
  size : w.heap.size ≤ w'.heap.size
  block : ∀ k, k < w.heap.size → k ∉ S → w'.heap[k]? = w.heap[k]?

theorem Keep.refl (S : List Nat) (w : World) : Keep S w w := ⟨rfl, rfl, rfl, Nat.le_refl _, fun _ _ _ => rfl⟩

theorem Keep.trans {S T U : List Nat} {a b c : World} (h : Keep S a b) (k : Keep T b c) (hS : ∀ x ∈ S, x ∈ U ∨ a.heap.size ≤ x) (hT : ∀ x ∈ T, x ∈ U ∨ a.heap.size ≤ x) : Keep U a c :=
  ⟨k.os.trans h.os, k.tape.trans h.tape, k.output.trans h.output, Nat.le_trans h.size k.size, fun i hi hu =>
    (k.block i (Nat.lt_of_lt_of_le hi h.size) (fun hx => by rcases hT i hx with h' | h'; exact hu h'; omega)).trans
      (h.block i hi fun hx => by rcases hS i hx with h' | h'; exact hu h'; omega)⟩

theorem Keep.trans' {S : List Nat} {a b c : World} (h : Keep S a b) (k : Keep S b c) : Keep S a c := h.trans k (fun _ h => .inl h) (fun _ h => .inl h)

theorem Keep.mono {S T : List Nat} {a b : World} (h : Keep S a b) (hS : ∀ x ∈ S, x ∈ T ∨ a.heap.size ≤ x) : Keep T a b :=
  h.trans (Keep.refl [] b) hS (fun _ h => by cases h)

theorem lt_of_blk {w : World} {b : Nat} {o : Obj} (h : w.heap[b]? = some o) : b < w.heap.size := (Array.getElem?_eq_some_iff.1 h).1

theorem Keep.get {S : List Nat} {w w' : World} {b : Nat} {o : Obj} (h : Keep S w w') (hb : w.heap[b]? = some o) (hS : b ∉ S) : w'.heap[b]? = some o :=
  (h.block b (lt_of_blk hb) hS).trans hb

theorem Keep.below {w w' : World} (h : Keep [] w w') : Below w.heap.size w w' := ⟨h.os, h.tape, h.output, h.size, fun k hk => h.block k hk (by simp)⟩

theorem Keep.drew {S : List Nat} {w w' : World} (h : Keep S w w') : Keep S w w'.drew := ⟨h.os, h.tape, h.output, h.size, h.block⟩

theorem Keep.ofDrew {S : List Nat} {w w' : World} (h : Keep S w.drew w') : Keep S w w' := ⟨h.os, h.tape, h.output, h.size, h.block⟩

theorem cell_of_blk {w : World} {b o : Nat} {c : Array Value} {T : TypeId} {fz : Nat × Nat} {v : Value} (h : w.heap[b]? = some (.cells c T fz)) (hv : c[o]? = some v) : w.cell? ⟨b, o, none⟩ = some v := by
  simp [World.cell?, h, hv]

theorem frozen_of_blk {w : World} {b o : Nat} {c : Array Value} {T : TypeId} (h : w.heap[b]? = some (.cells c T (0, 0))) : w.frozen? ⟨b, o, none⟩ = false := by
  simp [World.frozen?, h]

theorem blk_alloc {w : World} {o : Obj} : (w.alloc o).heap[w.heap.size]? = some o := heap_alloc_new w o

theorem Keep.alloc (w : World) (o : Obj) : Keep [] w (w.alloc o) := ⟨rfl, rfl, rfl, by simp, fun k hk _ => by
  show (w.heap.push o)[k]? = _
  rw [Array.getElem?_push, if_neg (by omega)]⟩

theorem blk_set {w : World} {b o : Nat} {c : Array Value} {T : TypeId} {fz : Nat × Nat} {v : Value} (h : w.heap[b]? = some (.cells c T fz)) :
    (w.setCell ⟨b, o, none⟩ v).heap[b]? = some (.cells (c.setIfInBounds o v) T fz) := by
  simp only [World.setCell, Array.getElem?_modify, if_true, h]
  rfl

theorem Keep.set {w : World} {b o : Nat} {v : Value} : Keep [b] w (w.setCell ⟨b, o, none⟩ v) := ⟨rfl, rfl, rfl, by simp [World.setCell], fun k _ hk => by
  simp only [World.setCell, Array.getElem?_modify]
  rw [if_neg (by simpa using fun e => hk (by simp [e]))]⟩

section
variable {P : Program} {fn : Func} {f : FuncId} {w : World} {R : Ending → World → Prop} {js : List J} {st : St}

/-- A load out of a block that is known. -/
theorem x_load {b o : Nat} {c : Array Value} {T : TypeId} {fz : Nat × Nat} {v : Value} (hb : w.heap[b]? = some (.cells c T fz)) (hv : c[o]? = some v) (hr : req st = .load ⟨b, o, none⟩)
    (k : G P fn R js (nx P fn st (.v v)) w) : G P fn R js st w := s_load hr (cell_of_blk hb hv) k

/-- A store into a block that is known. -/
theorem x_store {b o : Nat} {c : Array Value} {T : TypeId} {v : Value} (hb : w.heap[b]? = some (.cells c T (0, 0))) (ho : o < c.size) (hr : req st = .store ⟨b, o, none⟩ v) (hm : st.m = 0) (hv : plainV v = true)
    (k : ∀ w', w'.heap[b]? = some (.cells (c.setIfInBounds o v) T (0, 0)) → Keep [b] w w' → G P fn R js (nx P fn st .u) w') : G P fn R js st w :=
  s_store hr hm (cell_of_blk hb (Array.getElem?_eq_getElem ho)) (frozen_of_blk hb) hv (k _ (blk_set hb) Keep.set)

/-- A new block. -/
theorem x_new {ob : Obj} (hr : req st = .new ob) (hm : st.m = 0)
    (k : ∀ w' b, b = w.heap.size → w'.heap[b]? = some ob → Keep [] w w' → b < w'.heap.size → G P fn R js (nx P fn st (.n b)) w') : G P fn R js st w :=
  s_new hr hm (k _ _ rfl blk_alloc (Keep.alloc w ob) (by simp))

theorem run_indexAt {t e : TypeId} {i0 : TypeInfo} {a : Addr} {n c : Nat} {kd : IntKind} {i : Int} (ht : P.underlying t = some (.slice e)) (hi : P.info? e = some i0) (h0 : 0 ≤ i) (h1 : i < n) :
    (Instr.indexAt t (.slice (some a) n c) (.int kd i)).run P w = .ok (.pointer (some (a.add (i.toNat * i0.size)))) w := by
  simp [Instr.indexAt, asIntOf, run_underlying ht, h0, h1, sizeOf, typeInfo, hi]

/-- xs[i] of a slice, as an address. 'size': the element's cells. -/
theorem x_idx {t e : TypeId} {size : Nat} {b o n c : Nat} {kd : IntKind} {i : Int} (ht : P.underlying t = some (.slice e)) (hi : (P.info? e).map (·.size) = some size)
    (h0 : 0 ≤ i) (h1 : i < n) (hr : req st = .idx t (.slice (some ⟨b, o, none⟩) n c) (.int kd i))
    (k : G P fn R js (nx P fn st (.v (.pointer (some ⟨b, o + i.toNat * size, none⟩)))) w) : G P fn R js st w := by
  obtain ⟨i0, hi0, hs⟩ := Option.map_eq_some_iff.1 hi
  refine s_val hr rfl (run_indexAt ht hi0 h0 h1) ?_
  rw [hs]
  have : (⟨b, o, none⟩ : Addr).add (i.toNat * size) = ⟨b, o + i.toNat * size, none⟩ := by
    unfold Addr.add; split <;> simp_all
  rw [this]
  exact k

/-- s[i] of a string. -/
theorem x_strIdx {t : TypeId} {s : ByteArray} {kd : IntKind} {i : Int} {u : UInt8} (ht : P.underlying t = some .string) (h0 : 0 ≤ i) (h1 : s[i.toNat]? = some u) (hr : req st = .index t (.string s) (.int kd i))
    (k : G P fn R js (nx P fn st (.v (.int .u8 u.toNat))) w) : G P fn R js st w := by
  refine s_val hr rfl ?_ k
  simp [Instr.index, asIntOf, run_underlying ht, h0, h1]

end
end Go.XO
