/-
  append: a row of my own (nil, or a block's beginning), grown by a row that lies elsewhere.
-/
import Derived.Test.YtfknpeajihecdaaXMeq
import Derived.Laws.AppendOwn
namespace Go.XM
open Go Go.RowKit

/-- v is a slice of n elements, of 'size' cells each, that begins its block; xs are the cells. -/
def OwnRow (w : World) (e : TypeId) (size : Nat) (v : Value) (n : Nat) (xs : List Value) : Prop := w.ownsRow 0 e size v n xs

section
variable {P : Program} {w : World} {fn : Func} {R : Ending → World → Prop} {js : List (Act → World → Prop)} {st : St}

theorem run_appendG (t ty e : TypeId) (i : TypeInfo) (z : Value) (size bytes : Nat) (ht : P.underlying t = some (.slice e)) (hi : P.info? e = some i) (hz : i.zero = some z)
    (hsize : i.size = size) (hby : i.bytes = bytes) (hzs : z.cells.size = size) (hsz : 0 < size)
    (v : Value) (n : Nat) (xs : List Value) (hown : w.ownsRow 0 e size v n xs)
    (a : Addr) (m c : Nat) (news : List Value) (hl : news.length = m * size) (hnews : ∀ j u, news[j]? = some u → w.cell? (a.add j) = some u) (h1 : ∀ u ∈ news, u.oneCell' = true)
    (h63 : n + m ≤ maxLen) (hbytes : (n + m) * bytes ≤ 140737488355328) (hm : 0 < m) :
    ∃ g cap cur w', (Builtin.append_ #[t, t] ty #[v, .slice (some a) m c]).run P w = .ok (.slice (some ⟨g, 0, none⟩) (n + m) cap) w' ∧ w'.heap[g]? = some (.cells cur e (0, 0)) ∧ n + m ≤ cap ∧ cap ≤ maxLen ∧
      cur.size = cap * size ∧ cur.toList.take ((n + m) * size) = xs ++ news ∧ Keep v.ownBlock.toList w w' ∧ (v.ownBlock = some g ∨ g = w.heap.size) := by
  subst hsize
  subst hby
  have hsmall : n + m ≤ 9223372036854775807 := by simp only [maxLen] at h63; omega
  have hlen : (xs ++ news).length = (n + m) * i.size := by rw [List.length_append, hown.1, hl, Nat.add_mul]
  have fresh : ∀ (old : Nat) (S : List Nat), ∃ cur, (w.drew.alloc (.cells (xs.toArray ++ news.toArray ++ Builtin.zeroCells z.cells (grownCap w (n + m) old e - (n + m))) e)).heap[w.heap.size]? = some (.cells cur e (0, 0)) ∧ n + m ≤ grownCap w (n + m) old e ∧ grownCap w (n + m) old e ≤ maxLen ∧
      cur.size = grownCap w (n + m) old e * i.size ∧ cur.toList.take ((n + m) * i.size) = xs ++ news ∧ Keep S w (w.drew.alloc (.cells (xs.toArray ++ news.toArray ++ Builtin.zeroCells z.cells (grownCap w (n + m) old e - (n + m))) e)) := by
    intro old S
    have hge := grownCap_ge w (n + m) old e
    refine ⟨_, heap_alloc_new w.drew _, hge, grownCap_le_maxLen w (n + m) old e h63, ?_, ?_, (Keep.ofDrew (Keep.alloc w.drew _)).mono (fun _ h => nomatch h)⟩
    · simp only [Array.size_append, List.size_toArray, size_zeroCells, hzs, hown.1, hl, ← Nat.add_mul]
      congr 1
      omega
    · simp only [Array.toList_append, List.append_assoc]
      rw [← List.append_assoc, ← hlen]
      exact List.take_left
  rcases hown.2 with ⟨rfl, rfl⟩ | ⟨g, cap, cur, rfl, _, hg, hnc, hcm, hcs, htake⟩
  · have hx : xs = [] := List.eq_nil_of_length_eq_zero (by simpa using hown.1)
    subst hx
    have hr := run_append_nil (P := P) w t ty e i z ht hi hz a m c news hl hnews (by omega) (by omega) (by have hb := hbytes; simp only [Nat.zero_add] at hb; omega)
    obtain ⟨cur, f1, f2, f3, f4, f5, f6⟩ := fresh 0 (Value.ownBlock (.slice none 0 0)).toList
    simp only [Nat.zero_add, List.nil_append, Array.empty_append] at f1 f2 f3 f4 f5 f6 ⊢
    exact ⟨_, _, cur, _, hr, f1, f2, f3, f4, f5, f6, .inr rfl⟩
  · by_cases hroom : n + m ≤ cap
    · have hfit : n * i.size + news.length ≤ cur.size := by rw [hl, hcs, ← Nat.add_mul]; exact Nat.mul_le_mul_right _ hroom
      have hr := run_append_room (P := P) w t ty e i ht hi g n cap cur hg a m c news hl hnews h1 hroom hfit
      refine ⟨g, cap, _, _, hr, setRow_heap w g cur _ e _ hg, hroom, hcm, ?_, ?_, ⟨rfl, rfl, rfl, by simp, fun k _ hk => setRow_other w g k _ (fun e => hk (by simp [Value.ownBlock, e]))⟩, .inl rfl⟩
      · simp only [List.size_toArray, List.length_append, List.length_take, List.length_drop, Array.length_toList]
        omega
      · rw [htake, ← hlen]
        exact List.take_left
    · have holds : ∀ j u, xs[j]? = some u → w.cell? ((⟨g, 0, none⟩ : Addr).add j) = some u := hown.cells (g := g) rfl
      have hr := run_append_grow (P := P) w t ty e i z ht hi hz ⟨g, 0, none⟩ n cap xs hown.1 holds a m c news hl hnews (by omega) (by omega) (growslice_fits (by omega) hbytes)
      obtain ⟨cur', f1, f2, f3, f4, f5, f6⟩ := fresh cap (Value.ownBlock (.slice (some ⟨g, 0, none⟩) n cap)).toList
      exact ⟨_, _, cur', _, hr, f1, f2, f3, f4, f5, f6, .inr rfl⟩

/-- append(v, a[:m]...) with m > 0. The element's size, bytes and zero value are read off the program by the kernel. -/
theorem x_append {t ty e : TypeId} {v : Value} {n : Nat} {xs : List Value} {a : Addr} {m c : Nat} (size bytes : Nat) (z : Value) (news : List Value) (hown : w.ownsRow 0 e size v n xs)
    (hnews : ∀ j u, news[j]? = some u → w.cell? (a.add j) = some u) (h1 : ∀ u ∈ news, u.oneCell' = true) (hl : news.length = m * size) (h63 : n + m ≤ maxLen) (hbytes : (n + m) * bytes ≤ 140737488355328) (hm0 : 0 < m)
    (ht : P.underlying t = some (.slice e)) (hi : (P.info? e).map (fun i => (i.size, i.bytes, i.zero)) = some (size, bytes, some z)) (hzs : z.cells.size = size) (hsz : 0 < size)
    (hr : req st = .bi .append #[t, t] ty #[v, .slice (some a) m c]) (hm : st.m = 0)
    (k : ∀ g cap cur w', w'.heap[g]? = some (.cells cur e (0, 0)) → n + m ≤ cap → cap ≤ maxLen → cur.size = cap * size → cur.toList.take ((n + m) * size) = xs ++ news → Keep v.ownBlock.toList w w' → (v.ownBlock = some g ∨ g = w.heap.size) →
      w'.ownsRow 0 e size (.slice (some ⟨g, 0, none⟩) (n + m) cap) (n + m) (xs ++ news) → G P fn R js (nx P fn st (.v (.slice (some ⟨g, 0, none⟩) (n + m) cap))) w') : G P fn R js st w := by
  obtain ⟨i, hi0, he⟩ := Option.map_eq_some_iff.1 hi
  simp only [Prod.mk.injEq] at he
  obtain ⟨g, cap, cur, w', hrun, h2, h3, h4, h5, h6, h7, h8⟩ := run_appendG (P := P) (w := w) t ty e i z size bytes ht hi0 he.2.2 he.1 he.2.1 hzs hsz v n xs hown a m c news hl hnews h1 h63 hbytes hm0
  exact s_op hr rfl hrun (.inl hm) (k g cap cur w' h2 h3 h4 h5 h6 h7 h8 ⟨by rw [← h6, List.length_take, Array.length_toList, h5]; exact Nat.min_eq_left (Nat.mul_le_mul_right _ h3), .inr ⟨g, cap, cur, rfl, Nat.zero_le _, h2, h3, h4, h5, h6⟩⟩)
end
end Go.XM
