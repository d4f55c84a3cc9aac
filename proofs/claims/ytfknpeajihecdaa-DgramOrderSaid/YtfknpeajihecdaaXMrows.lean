/-
  A slice of structs that begins its block and grows: the elements by their cells, index-wise.
-/
import Derived.Test.YtfknpeajihecdaaXMapp
namespace Go.XM
open Go Go.RowKit

def RowsAt (cur : Array Value) (size : Nat) (L : List (List Value)) : Prop :=
  ∀ (k : Nat) (c : List Value), L[k]? = some c → ∀ (j : Nat) (v : Value), c[j]? = some v → cur[k * size + j]? = some v

structure SlRep (w : World) (e size : Nat) (g : Option Nat) (v : Value) (L : List (List Value)) : Prop where
  len : ∀ c ∈ L, c.length = size
  at_ : (g = none ∧ v = .slice none 0 0 ∧ L = []) ∨ ∃ b cap cur, g = some b ∧ v = .slice (some ⟨b, 0, none⟩) L.length cap ∧ w.heap[b]? = some (.cells cur e (0, 0)) ∧ L.length ≤ cap ∧ cap ≤ maxLen ∧ cur.size = cap * size ∧ RowsAt cur size L

theorem SlRep.nil (w : World) (e size : Nat) : SlRep w e size none (.slice none 0 0) [] := ⟨(fun _ h => nomatch h), .inl ⟨rfl, rfl, rfl⟩⟩

theorem SlRep.keep {w w' : World} {e size : Nat} {g : Option Nat} {v : Value} {L : List (List Value)} {S : List Nat} (h : SlRep w e size g v L) (k : Keep S w w') (hS : ∀ b, g = some b → b ∉ S) : SlRep w' e size g v L := by
  refine ⟨h.len, ?_⟩
  rcases h.at_ with h0 | ⟨b, cap, cur, h1, h2, h3, h4⟩
  · exact .inl h0
  · exact .inr ⟨b, cap, cur, h1, h2, Keep.get k h3 (hS b h1), h4⟩

theorem SlRep.lt {w : World} {e size : Nat} {g : Option Nat} {v : Value} {L : List (List Value)} (h : SlRep w e size g v L) : ∀ b, g = some b → b < w.heap.size := by
  intro b hb
  rcases h.at_ with ⟨h0, _⟩ | ⟨b', cap, cur, h1, h2, h3, h4⟩
  · rw [h0] at hb; cases hb
  · rw [h1] at hb; cases hb; exact lt_of_blk h3

theorem flat_get {size : Nat} : ∀ {L : List (List Value)}, (∀ c ∈ L, c.length = size) → ∀ {k : Nat} {c : List Value}, L[k]? = some c → ∀ {j : Nat} {v : Value}, c[j]? = some v → (L.flatMap id)[k * size + j]? = some v
  | [], _, _, _, h, _, _, _ => by cases h
  | a :: L, hl, 0, c, h, j, v, hv => by
    simp at h
    subst h
    have hj : j < a.length := (List.getElem?_eq_some_iff.1 hv).1
    simp only [List.flatMap_cons, id, Nat.zero_mul, Nat.zero_add]
    rw [List.getElem?_append_left hj, hv]
  | a :: L, hl, k + 1, c, h, j, v, hv => by
    have ha := hl a (by simp)
    have ih := flat_get (L := L) (fun c hc => hl c (by simp [hc])) (k := k) (c := c) (by simpa using h) hv
    simp only [List.flatMap_cons, id]
    rw [List.getElem?_append_right (by rw [ha, Nat.add_mul]; omega), ha, show (k + 1) * size + j - size = k * size + j by rw [Nat.add_mul]; omega]
    exact ih

theorem flat_len {size : Nat} : ∀ {L : List (List Value)}, (∀ c ∈ L, c.length = size) → (L.flatMap id).length = L.length * size
  | [], _ => by simp
  | a :: L, hl => by
    simp only [List.flatMap_cons, id, List.length_append, List.length_cons, hl a (by simp), flat_len (L := L) (fun c hc => hl c (by simp [hc]))]
    rw [Nat.add_mul]; omega

theorem rows_take {cur : Array Value} {size : Nat} {L : List (List Value)} (hl : ∀ c ∈ L, c.length = size) (h : RowsAt cur size L) (_hs : L.length * size ≤ cur.size) : cur.toList.take (L.length * size) = L.flatMap id := by
  refine List.ext_getElem? fun n => ?_
  by_cases hn : n < L.length * size
  · have hz : 0 < size := by rcases Nat.eq_zero_or_pos size with h0 | h0; (rw [h0] at hn; omega); exact h0
    have hk : n / size < L.length := Nat.div_lt_of_lt_mul (by rw [Nat.mul_comm]; exact hn)
    have hj : n % size < size := Nat.mod_lt _ hz
    have e : n / size * size + n % size = n := Nat.div_add_mod' n size
    have hc : (L[n / size]).length = size := hl _ (List.getElem_mem hk)
    have h1 := h (n / size) _ (List.getElem?_eq_getElem hk) (n % size) _ (List.getElem?_eq_getElem (by rw [hc]; exact hj))
    have h2 := flat_get hl (List.getElem?_eq_getElem hk) (List.getElem?_eq_getElem (show n % size < (L[n / size]).length by rw [hc]; exact hj))
    rw [e] at h1 h2
    rw [List.getElem?_take_of_lt hn, Array.getElem?_toList, h1, h2]
  · rw [List.getElem?_eq_none (by rw [List.length_take]; omega), List.getElem?_eq_none (by rw [flat_len hl]; omega)]

theorem rows_of_take {cur : Array Value} {size : Nat} {L : List (List Value)} (hl : ∀ c ∈ L, c.length = size) (h : cur.toList.take (L.length * size) = L.flatMap id) : RowsAt cur size L := by
  intro k c hk j v hv
  have hj : j < size := by rw [← hl c (List.mem_of_getElem? hk)]; exact (List.getElem?_eq_some_iff.1 hv).1
  have hk' : k < L.length := (List.getElem?_eq_some_iff.1 hk).1
  have hn : k * size + j < L.length * size := by
    have : (k + 1) * size ≤ L.length * size := Nat.mul_le_mul_right _ hk'
    rw [Nat.add_mul] at this; omega
  have := flat_get hl hk hv
  rw [← h, List.getElem?_take_of_lt hn, Array.getElem?_toList] at this
  exact this

theorem SlRep.owns {w : World} {e size : Nat} {g : Option Nat} {v : Value} {L : List (List Value)} (h : SlRep w e size g v L) : w.ownsRow 0 e size v L.length (L.flatMap id) := by
  refine ⟨flat_len h.len, ?_⟩
  rcases h.at_ with ⟨_, h1, h2⟩ | ⟨b, cap, cur, _, h2, h3, h4, h5, h6, h7⟩
  · subst h2; exact .inl ⟨h1, rfl⟩
  · exact .inr ⟨b, cap, cur, h2, Nat.zero_le _, h3, h4, h5, h6, rows_take h.len h7 (by rw [h6]; exact Nat.mul_le_mul_right _ h4)⟩

theorem SlRep.own {w : World} {e size : Nat} {g : Option Nat} {v : Value} {L : List (List Value)} (h : SlRep w e size g v L) : v.ownBlock = g := by
  rcases h.at_ with ⟨h0, h1, h2⟩ | ⟨b, cap, cur, h1, h2, _⟩
  · rw [h0, h1]; rfl
  · rw [h1, h2]; rfl

section
variable {P : Program} {w : World} {fn : Func} {R : Ending → World → Prop} {js : List (Act → World → Prop)} {st : St}

/-- append(v, x) of one struct, that lies in a block of its own. -/
theorem x_push {t ty e : TypeId} {v : Value} {g : Option Nat} {L : List (List Value)} {b c0 : Nat} {T : TypeId} {fz : Nat × Nat} (size bytes : Nat) (z : Value) (c : List Value) (hown : SlRep w e size g v L)
    (hB : w.heap[b]? = some (.cells c.toArray T fz)) (hc : c.length = size) (h1 : ∀ u ∈ c, u.oneCell' = true) (h63 : L.length + 1 ≤ maxLen) (hbytes : (L.length + 1) * bytes ≤ 140737488355328)
    (ht : P.underlying t = some (.slice e)) (hi : (P.info? e).map (fun i => (i.size, i.bytes, i.zero)) = some (size, bytes, some z)) (hzs : z.cells.size = size) (hsz : 0 < size)
    (hr : req st = .bi .append #[t, t] ty #[v, .slice (some ⟨b, 0, none⟩) 1 c0]) (hm : st.m = 0)
    (k : ∀ g' cap w', SlRep w' e size (some g') (.slice (some ⟨g', 0, none⟩) (L.length + 1) cap) (L ++ [c]) → Keep g.toList w w' → (g = some g' ∨ g' = w.heap.size) →
      G P fn R js (nx P fn st (.v (.slice (some ⟨g', 0, none⟩) (L.length + 1) cap))) w') : G P fn R js st w := by
  refine x_append size bytes z c hown.owns ?_ h1 (by rw [hc, Nat.one_mul]) h63 hbytes (by omega) ht hi hzs hsz hr hm (fun g' cap cur w' h2 h3 h4 h5 h6 h7 h8 _ => ?_)
  · intro j u hj
    have e1 : (⟨b, 0, none⟩ : Addr).add j = ⟨b, j, none⟩ := by unfold Addr.add; split <;> simp_all
    rw [e1]
    exact cell_of_blk hB (by simpa using hj)
  · rw [hown.own] at h7 h8
    have hl : ∀ x ∈ L ++ [c], x.length = size := by
      intro x hx
      rcases List.mem_append.1 hx with hx | hx
      · exact hown.len x hx
      · rw [List.mem_singleton.1 hx, hc]
    refine k g' cap w' ⟨hl, .inr ⟨g', cap, cur, rfl, by rw [List.length_append]; rfl, h2, by rw [List.length_append]; exact h3, h4, h5, rows_of_take hl ?_⟩⟩ h7 h8
    rw [List.length_append, List.flatMap_append]
    simpa using h6

theorem SlRep.blk {e size b : Nat} {v : Value} {L : List (List Value)} (h : SlRep w e size (some b) v L) :
    ∃ cap cur, v = .slice (some ⟨b, 0, none⟩) L.length cap ∧ w.heap[b]? = some (.cells cur e (0, 0)) ∧ L.length ≤ cap ∧ cap ≤ maxLen ∧ cur.size = cap * size ∧ RowsAt cur size L := by
  rcases h.at_ with ⟨h0, _⟩ | ⟨b', cap, cur, h1, h2⟩
  · cases h0
  · cases h1; exact ⟨cap, cur, h2⟩

theorem x_elLoad {e size b k j o : Nat} {v u : Value} {L : List (List Value)} {c : List Value} (h : SlRep w e size (some b) v L) (hk : L[k]? = some c) (hj : c[j]? = some u) (ho : o = k * size + j)
    (hr : req st = .load ⟨b, o, none⟩) (kk : G P fn R js (nx P fn st (.v u)) w) : G P fn R js st w := by
  obtain ⟨cap, cur, _, hB, _, _, _, hR⟩ := h.blk
  subst ho
  exact x_load hB (hR k c hk j u hj) hr kk

theorem SlRep.setCell {e size b k j : Nat} {v u : Value} {L : List (List Value)} {c : List Value} (h : SlRep w e size (some b) v L) (hk : L[k]? = some c) (hj : j < size) :
    SlRep (w.setCell ⟨b, k * size + j, none⟩ u) e size (some b) v (L.set k (c.set j u)) := by
  obtain ⟨cap, cur, rfl, hB, h1, h2, h3, hR⟩ := h.blk
  have hkl : k < L.length := (List.getElem?_eq_some_iff.1 hk).1
  have hcl : c.length = size := h.len c (List.mem_of_getElem? hk)
  have hlt : k * size + j < cur.size := by
    have : (k + 1) * size ≤ cap * size := Nat.mul_le_mul_right _ (by omega)
    rw [Nat.add_mul] at this; omega
  refine ⟨?_, .inr ⟨b, cap, _, rfl, by rw [List.length_set], blk_set hB, by rw [List.length_set]; exact h1, h2, by rw [Array.size_setIfInBounds]; exact h3, ?_⟩⟩
  · intro x hx
    obtain ⟨i, hi⟩ := List.mem_iff_getElem?.1 hx
    rw [List.getElem?_set] at hi
    split at hi
    · cases hi; rw [List.length_set, hcl]
    · exact h.len x (List.mem_of_getElem? hi)
  · intro k' c' hk' j' v' hv'
    rw [List.getElem?_set] at hk'
    have hne : k ≠ k' → ∀ j', j' < size → k * size + j ≠ k' * size + j' := by
      intro hne j' hj' heq
      have e1 : (k * size + j) / size = k := by rw [Nat.add_comm, Nat.mul_comm, Nat.add_mul_div_left _ _ (by omega), Nat.div_eq_of_lt hj]; omega
      have e2 : (k' * size + j') / size = k' := by rw [Nat.add_comm, Nat.mul_comm, Nat.add_mul_div_left _ _ (by omega), Nat.div_eq_of_lt hj']; omega
      rw [heq, e2] at e1
      exact hne e1.symm
    rw [Array.getElem?_setIfInBounds]
    split at hk'
    · rename_i hkk
      subst hkk
      cases hk'
      rw [List.getElem?_set] at hv'
      by_cases hjj : j = j'
      · subst hjj
        rw [if_pos rfl, if_pos hlt]
        rw [if_pos rfl, if_pos (by rw [hcl]; exact hj)] at hv'
        exact hv'
      · rw [if_neg hjj] at hv'
        rw [if_neg (by omega)]
        exact hR k c hk j' v' hv'
    · rename_i hkk
      have hj' : j' < size := by rw [← h.len c' (List.mem_of_getElem? hk')]; exact (List.getElem?_eq_some_iff.1 hv').1
      rw [if_neg (hne hkk j' hj')]
      exact hR k' c' hk' j' v' hv'

theorem x_elStore {e size b k j o : Nat} {v u : Value} {L : List (List Value)} {c : List Value} (h : SlRep w e size (some b) v L) (hk : L[k]? = some c) (hj : j < size) (ho : o = k * size + j)
    (hr : req st = .store ⟨b, o, none⟩ u) (hm : st.m = 0) (hv : plainV u = true)
    (kk : ∀ w', SlRep w' e size (some b) v (L.set k (c.set j u)) → Keep [b] w w' → G P fn R js (nx P fn st .u) w') : G P fn R js st w := by
  obtain ⟨cap, cur, _, hB, h1, h2, h3, hR⟩ := h.blk
  subst ho
  have hkl : k < L.length := (List.getElem?_eq_some_iff.1 hk).1
  have hlt : k * size + j < cur.size := by
    have : (k + 1) * size ≤ cap * size := Nat.mul_le_mul_right _ (by omega)
    rw [Nat.add_mul] at this; omega
  exact s_store hr hm (cell_of_blk hB (Array.getElem?_eq_getElem hlt)) (frozen_of_blk hB) hv (kk _ (h.setCell hk hj) Keep.set)
end
end Go.XM
