/-
  The X machine: []byte(s).
-/
import Derived.Test.YtfknpeajihecdaaXOstr
namespace Go.XO
open Go.RowKit
section
variable {P : Program} {fn : Func} {f : FuncId} {w : World} {R : Ending → World → Prop} {js : List J} {st : St} {C : World → Prop}

/-- The cells of a string's bytes. -/
def bcells (s : ByteArray) : List Value := s.data.toList.map fun b => Value.int .u8 b.toNat

theorem run_s2b {src dst e : TypeId} {s : ByteArray} (hs : P.underlying src = some .string) (hd : P.underlying dst = some (.slice e)) (he : P.underlying e = some (.int .u8)) (hlen : s.size ≤ maxLen) :
    ∃ g cap w', (convert src dst (.string s)).run P w = .ok (.slice (some ⟨g, 0, none⟩) s.size cap) w' ∧ g = w.heap.size ∧ Keep [] w w' ∧ s.size ≤ cap ∧ cap ≤ maxLen ∧
      w'.heap[g]? = some (.cells (bcells s ++ List.replicate (cap - s.size) (Value.int .u8 0)).toArray e (cap, cap + 1)) := by
  refine ⟨w.heap.size, grownCap w s.size 0 e, (w.drew.alloc (.cells (bcells s ++ List.replicate (grownCap w s.size 0 e - s.size) (Value.int .u8 0)).toArray e)).freeze ⟨w.heap.size, (bcells s ++ List.replicate (grownCap w s.size 0 e - s.size) (Value.int .u8 0)).length, none⟩ 1, ?_, rfl, ?_, grownCap_ge _ _ _ _, grownCap_le_maxLen _ _ _ _ hlen, ?_⟩
  rotate_left
  · refine ⟨rfl, rfl, rfl, by simp [World.freeze], fun k hk _ => ?_⟩
    show ((w.drew.alloc _).heap.modify w.heap.size _)[k]? = _
    rw [Array.getElem?_modify, if_neg (by omega)]
    exact heap_alloc_old w.drew _ k hk
  · have hl : (bcells s ++ List.replicate (grownCap w s.size 0 e - s.size) (Value.int .u8 0)).length = grownCap w s.size 0 e := by
      have h1 := grownCap_ge w s.size 0 e
      have h2 : s.data.size = s.size := rfl
      simp only [bcells, List.length_append, List.length_map, List.length_replicate, Array.length_toList, h2]; omega
    show ((w.drew.alloc _).heap.modify w.heap.size _)[w.heap.size]? = _
    rw [Array.getElem?_modify, if_pos rfl]
    have := heap_alloc_new w.drew (.cells (bcells s ++ List.replicate (grownCap w s.size 0 e - s.size) (Value.int .u8 0)).toArray e)
    rw [show w.heap.size = w.drew.heap.size from rfl, this]
    simp only [Option.map_some, hl, beq_self_eq_true, if_true]
  · have hsh : ∀ (w : World) (o : List Value), (w.alloc (.cells o.toArray e)).shape? w.heap.size = some (e, o.length) := by
      intro w o
      have := heap_alloc_new w (.cells o.toArray e)
      unfold World.shape?
      rw [this]
      simp
    have hcells : (s.data.map fun b => Value.int .u8 b.toNat) ++ Array.replicate (grownCap w s.size 0 e - s.size) (Value.int .u8 0) = (bcells s ++ List.replicate (grownCap w s.size 0 e - s.size) (Value.int .u8 0)).toArray := by
      apply Array.toList_inj.1
      simp [bcells]
    have hq : (Question.appendCap s.size 0 e).forced = false := rfl
    simp only [convert, run_underlying hs, run_underlying hd, run_underlying he, Sem.run_bind, Result.andThen_ok, Conv.stringToBytes]
    simp only [choose, Sem.run, hq, Result.andThen_ok, Bool.false_eq_true, if_false]
    show ((newRow e ((s.data.map fun b => Value.int .u8 b.toNat) ++ Array.replicate (grownCap w s.size 0 e - s.size) (Value.int .u8 0))).run P w.drew).andThen _ = _
    rw [hcells]
    generalize bcells s ++ List.replicate (grownCap w s.size 0 e - s.size) (Value.int .u8 0) = cs
    have hnew : (newRow e cs.toArray).run P w.drew = .ok ⟨w.heap.size, 0, none⟩ (w.drew.alloc (.cells cs.toArray e)) := rfl
    rw [hnew]
    simp only [Result.andThen_ok]
    have hm : (markStringish ⟨w.heap.size, 0, none⟩).run P (w.drew.alloc (.cells cs.toArray e)) = .ok () ((w.drew.alloc (.cells cs.toArray e)).freeze ⟨w.heap.size, cs.length, none⟩ 1) := by
      have h1 := hsh w.drew cs
      have h2 : (w.drew.alloc (.cells cs.toArray e)).shape? w.heap.size = some (e, cs.length) := h1
      simp only [markStringish, shape, Sem.run_bind, Sem.run, Result.andThen_ok, h2, freeze]
    rw [hm]
    rfl

theorem x_s2b {src dst e : TypeId} {s : ByteArray} (hs : P.underlying src = some .string) (hd : P.underlying dst = some (.slice e)) (he : P.underlying e = some (.int .u8)) (hlen : s.size ≤ maxLen)
    (hr : req st = .conv src dst (.string s)) (hm : st.m = 0)
    (k : ∀ g cap w', g = w.heap.size → Keep [] w w' → s.size ≤ cap → cap ≤ maxLen → w'.heap[g]? = some (.cells (bcells s ++ List.replicate (cap - s.size) (Value.int .u8 0)).toArray e (cap, cap + 1)) →
      G P fn R js (nx P fn st (.v (.slice (some ⟨g, 0, none⟩) s.size cap))) w') : G P fn R js st w := by
  obtain ⟨g, cap, w', hrun, hg, hk, h1, h2, hb⟩ := run_s2b (P := P) (w := w) hs hd he hlen
  exact s_op hr rfl hrun (.inl hm) (k g cap w' hg hk h1 h2 hb)

/-- A store into a block some of which may be frozen. -/
theorem x_storeF {b o : Nat} {c : Array Value} {T : TypeId} {fz : Nat × Nat} {v : Value} (hb : w.heap[b]? = some (.cells c T fz)) (ho : o < c.size) (hf : ¬ (fz.1 ≤ o ∧ o < fz.2)) (hr : req st = .store ⟨b, o, none⟩ v) (hm : st.m = 0) (hv : plainV v = true)
    (k : ∀ w', w'.heap[b]? = some (.cells (c.setIfInBounds o v) T fz) → Keep [b] w w' → G P fn R js (nx P fn st .u) w') : G P fn R js st w :=
  s_store hr hm (cell_of_blk hb (Array.getElem?_eq_getElem ho)) (by simp [World.frozen?, hb]; omega) hv (k _ (blk_set hb) Keep.set)
end
end Go.XO
