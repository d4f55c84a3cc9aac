/-
  Slices of structs of one's own: cut, filled up, copied into, cleared; append of zeros; a function without a body.
-/
import Derived.Test.YtfknpeajihecdaaYMore
import Derived.Laws.CopyRow
import Derived.Lib.AppendZerosOnto
import Derived.Lib.Overlaps
import Derived.Laws.Externs
namespace Go.XM
open Go Go.RowKit

section
variable {w : World} {F : Fm} {M : List Assn} {v : Value} {e size : Nat} {L : List (List Value)}

/-- A row's piece, seen as a heap. -/
theorem rows_mk {b n cap : Nat} {cur : Array Value} (hl : ∀ c ∈ L, c.length = size) (hn : n = L.length) (h1 : n ≤ cap) (h2 : cap ≤ maxLen) (h3 : cur.size = cap * size) (h4 : RowsAt cur size L) : rows (.slice (some ⟨b, 0, none⟩) n cap) e size L (one b (.cells cur e (0, 0))) := by
  subst hn
  exact ⟨hl, .inr ⟨b, cap, cur, rfl, h1, h2, h3, h4, rfl⟩⟩

theorem rows_cases {b n cap : Nat} {h : Hl} (hr : rows (.slice (some ⟨b, 0, none⟩) n cap) e size L h) : (∀ c ∈ L, c.length = size) ∧ n = L.length ∧ n ≤ cap ∧ cap ≤ maxLen ∧ ∃ cur, cur.size = cap * size ∧ RowsAt cur size L ∧ h = one b (.cells cur e (0, 0)) := by
  obtain ⟨hl, hr⟩ := hr
  rcases hr with ⟨h1, _⟩ | ⟨b', cap', cur, h1, h2, h3, h4, h5, h6⟩
  · cases h1
  · cases h1
    exact ⟨hl, rfl, h2, h3, cur, h4, h5, h6⟩

theorem RowsAt.take {cur : Array Value} (h : RowsAt cur size L) (n : Nat) : RowsAt cur size (L.take n) := fun k c hk j v hv => by
  rw [List.getElem?_take] at hk
  split at hk
  · exact h k c hk j v hv
  · cases hk

/-- The slice cut shorter. -/
theorem Own.cut {b n cap : Nat} (m : Nat) (H : Own w F (rows (.slice (some ⟨b, 0, none⟩) n cap) e size L :: M)) (hm : m ≤ n) : Own w F (rows (.slice (some ⟨b, 0, none⟩) m cap) e size (L.take m) :: M) :=
  H.mono1 fun h hr => by
    obtain ⟨h1, h2, h3, h4, cur, h5, h6, rfl⟩ := rows_cases hr
    exact rows_mk (fun c hc => h1 c (List.mem_of_mem_take hc)) (by rw [List.length_take]; omega) (by omega) h4 h5 (h6.take m)

/-- The slice with all its room. -/
theorem Own.full {b n cap : Nat} (H : Own w F (rows (.slice (some ⟨b, 0, none⟩) n cap) e size L :: M)) : ∃ S, S.length = cap - n ∧ Own w F (rows (.slice (some ⟨b, 0, none⟩) cap cap) e size (L ++ S) :: M) := by
  obtain ⟨h, ⟨x, y, hx, hy, hd, he⟩, q1, q2⟩ := H.body
  obtain ⟨h1, h2, h3, h4, cur, h5, h6, rfl⟩ := rows_cases hx
  refine ⟨(List.range (cap - n)).map fun i => (cur.toList.drop ((n + i) * size)).take size, by simp, H.same, H.fin, h, ⟨_, y, ?_, hy, hd, he⟩, q1, q2⟩
  have hlen : ∀ i, i < cap - n → ((cur.toList.drop ((n + i) * size)).take size).length = size := fun i hi => by
    rw [List.length_take, List.length_drop, Array.length_toList, h5]
    have : (n + i + 1) * size ≤ cap * size := Nat.mul_le_mul_right _ (by omega)
    rw [Nat.add_mul _ 1] at this
    omega
  refine rows_mk (fun c hc => ?_) (by simp; omega) (Nat.le_refl _) h4 h5 (fun k c hk j u hu => ?_)
  · rcases List.mem_append.1 hc with hc | hc
    · exact h1 c hc
    · obtain ⟨i, hi, rfl⟩ := List.mem_map.1 hc
      exact hlen i (List.mem_range.1 hi)
  · by_cases hkn : k < L.length
    · rw [List.getElem?_append_left hkn] at hk
      exact h6 k c hk j u hu
    · rw [List.getElem?_append_right (by omega), List.getElem?_map] at hk
      obtain ⟨i, hi, rfl⟩ := Option.map_eq_some_iff.1 hk
      have hi2 := (List.getElem?_eq_some_iff.1 hi).2
      have hi1 := (List.getElem?_eq_some_iff.1 hi).1
      simp at hi2 hi1
      subst hi2
      have hj : j < size := by have := (List.getElem?_eq_some_iff.1 hu).1; rw [hlen _ hi1] at this; exact this
      rw [List.getElem?_take_of_lt hj, List.getElem?_drop, Array.getElem?_toList] at hu
      rw [← hu]
      congr 2
      congr 1
      omega

/-- A block that holds the rows and no more. -/
theorem Own.asRows {b : Nat} {c : Array Value} (L : List (List Value)) (size : Nat) (H : Own w F (pt b c e :: M)) (hl : ∀ x ∈ L, x.length = size) (hc : c = (L.flatMap id).toArray) (hm : L.length ≤ maxLen) : Own w F (rows (.slice (some ⟨b, 0, none⟩) L.length L.length) e size L :: M) :=
  H.mono1 fun h hh => by
    have hh : h = one b (.cells c e (0, 0)) := hh
    subst hh
    subst hc
    refine rows_mk hl rfl (Nat.le_refl _) hm (by rw [List.size_toArray, flat_len hl]) (rows_of_take hl ?_)
    rw [← flat_len hl, List.take_length]
end

section
variable {P : Program} {w : World} {fn : Func} {R : Ending → World → Prop} {js : List J} {st : St} {F : Fm} {M : List Assn} {v : Value} {e size : Nat} {L L' : List (List Value)}

/-- v[l:h], by the value alone. -/
theorem x_sliceV {t : TypeId} {b o n c : Nat} {lo hi : Option Value} {l h : Nat} (size : Nat) (hs : elemSize P t = some size) (hlo : Bd lo 0 l) (hhi : Bd hi n h) (h1 : l ≤ h) (h2 : h ≤ c)
    (hr : req st = .slice t (.slice (some ⟨b, o, none⟩) n c) lo hi none) (kk : ∀ o', (l < c → o' = o + l * size) → G P fn R js (nx P fn st (.v (.slice (some ⟨b, o', none⟩) (h - l) (c - l)))) w) : G P fn R js st w := by
  unfold elemSize at hs
  split at hs
  · rename_i e he
    obtain ⟨i0, hi0, hsz⟩ := Option.map_eq_some_iff.1 hs
    have e1 : (⟨b, o, none⟩ : Addr).add (l * i0.size) = ⟨b, o + l * i0.size, none⟩ := by unfold Addr.add; split <;> simp_all
    have hrun := run_sliceSl (w := w) (a := some ⟨b, o, none⟩) he hi0 hlo hhi h1 h2
    have e2 : (if c = l then some (⟨b, o, none⟩ : Addr) else (some (⟨b, o, none⟩ : Addr)).map (·.add (l * i0.size))) = some ⟨b, if c = l then o else o + l * size, none⟩ := by
      split
      · rfl
      · rw [Option.map_some, e1, hsz]
    rw [e2] at hrun
    refine s_val hr rfl hrun (kk _ fun hlt => ?_)
    rw [if_neg (by omega)]
  · cases hs

theorem h_sliceV {C : Cls} {t : TypeId} {b o n c : Nat} {lo hi : Option Value} {l h : Nat} (size : Nat) (hs : elemSize P t = some size) (hlo : Bd lo 0 l) (hhi : Bd hi n h) (h1 : l ≤ h) (h2 : h ≤ c)
    (hr : req st = .slice t (.slice (some ⟨b, o, none⟩) n c) lo hi none) (hm : Nat.beq st.m 0 = false) (kk : ∀ o', (l < c → o' = o + l * size) → GQ P fn R js C (nxq P fn st (.v (.slice (some ⟨b, o', none⟩) (h - l) (c - l))))) : GQ P fn R js C st := by
  unfold elemSize at hs
  split at hs
  · rename_i e he
    obtain ⟨i0, hi0, hsz⟩ := Option.map_eq_some_iff.1 hs
    have e1 : (⟨b, o, none⟩ : Addr).add (l * i0.size) = ⟨b, o + l * i0.size, none⟩ := by unfold Addr.add; split <;> simp_all
    have hrun := fun w => run_sliceSl (w := w) (a := some ⟨b, o, none⟩) he hi0 hlo hhi h1 h2
    have e2 : (if c = l then some (⟨b, o, none⟩ : Addr) else (some (⟨b, o, none⟩ : Addr)).map (·.add (l * i0.size))) = some ⟨b, if c = l then o else o + l * size, none⟩ := by
      split
      · rfl
      · rw [Option.map_some, e1, hsz]
    rw [e2] at hrun
    refine q_val hr rfl hm (fun w _ => hrun w) (kk _ fun hlt => ?_)
    rw [if_neg (by omega)]
  · cases hs

/-- nil[0:0]. -/
theorem x_sliceNil {t : TypeId} {lo hi : Option Value} (hs : (elemSize P t).isSome = true) (hlo : Bd lo 0 0) (hhi : Bd hi 0 0)
    (hr : req st = .slice t (.slice none 0 0) lo hi none) (kk : G P fn R js (nx P fn st (.v (.slice none 0 0))) w) : G P fn R js st w := by
  obtain ⟨size, hs⟩ := Option.isSome_iff_exists.1 hs
  unfold elemSize at hs
  split at hs
  · rename_i e he
    obtain ⟨i0, hi0, hsz⟩ := Option.map_eq_some_iff.1 hs
    exact s_val hr rfl (run_sliceSl (w := w) (a := none) he hi0 hlo hhi (Nat.le_refl _) (Nat.le_refl _)) kk
  · cases hs

/-- v[l:h:m], by the value alone. -/
theorem x_slice3 {t : TypeId} {b o n c : Nat} {k1 k2 k3 : IntKind} {l h m : Nat} (size : Nat) (hs : elemSize P t = some size) (h1 : l ≤ h) (h2 : h ≤ m) (h3 : m ≤ c)
    (hr : req st = .slice t (.slice (some ⟨b, o, none⟩) n c) (some (.int k1 (l : Int))) (some (.int k2 (h : Int))) (some (.int k3 (m : Int)))) (kk : ∀ a, G P fn R js (nx P fn st (.v (.slice a (h - l) (m - l)))) w) : G P fn R js st w := by
  unfold elemSize at hs
  split at hs
  · rename_i e he
    obtain ⟨i0, hi0, hsz⟩ := Option.map_eq_some_iff.1 hs
    refine s_val (v := .slice (if m = l then some ⟨b, o, none⟩ else (some (⟨b, o, none⟩ : Addr)).map (·.add (l * i0.size))) (h - l) (m - l)) hr rfl ?_ (kk _)
    simp [Instr.sliceAt, Instr.slice, run_underlying he, Instr.sliceBounds, run_sliceBound, sizeOf, typeInfo, hi0, h1, h2, h3]
  · cases hs

/-- The cells of a row's piece, by rows. -/
theorem row_news {cur : Array Value} {i m : Nat} (hl : ∀ c ∈ L, c.length = size) (hR : RowsAt cur size L) (him : i + m ≤ L.length) : ∀ j u, ((((L.drop i).take m)).flatMap id)[j]? = some u → cur[i * size + j]? = some u := by
  intro j u hj
  have hl2 : ∀ c ∈ (L.drop i).take m, c.length = size := fun c hc => hl c (List.mem_of_mem_drop (List.mem_of_mem_take hc))
  have hlen : ((L.drop i).take m).length = m := by rw [List.length_take, List.length_drop]; omega
  have hlt : j < m * size := by have := (List.getElem?_eq_some_iff.1 hj).1; rw [flat_len hl2, hlen] at this; exact this
  have hz : 0 < size := by rcases Nat.eq_zero_or_pos size with h0 | h0; (rw [h0] at hlt; omega); exact h0
  have hk : j / size < m := Nat.div_lt_of_lt_mul (by rw [Nat.mul_comm]; exact hlt)
  have hj2 : j % size < size := Nat.mod_lt _ hz
  have e : j / size * size + j % size = j := Nat.div_add_mod' j size
  have hx := List.getElem?_eq_getElem (show i + j / size < L.length by omega)
  have hxl : (L[i + j / size]'(by omega)).length = size := hl _ (List.getElem_mem _)
  have hx2 : ((L.drop i).take m)[j / size]? = some (L[i + j / size]'(by omega)) := by rw [List.getElem?_take_of_lt hk, List.getElem?_drop, hx]
  have hu := List.getElem?_eq_getElem (show j % size < (L[i + j / size]'(by omega)).length by omega)
  have h1 := flat_get hl2 hx2 hu
  rw [e, hj] at h1
  cases h1
  have h2 := hR _ _ hx _ _ hu
  rw [← h2, Nat.add_mul]
  congr 1
  omega

/-- Rows written over rows. -/
theorem rows_write {cur : Array Value} {i m cap : Nat} {N : List (List Value)} (hl : ∀ c ∈ L, c.length = size) (hN : ∀ c ∈ N, c.length = size) (hm : N.length = m) (hR : RowsAt cur size L) (him : i + m ≤ L.length) (hc : cur.size = cap * size) (hcap : L.length ≤ cap) :
    (cur.toList.take (i * size) ++ N.flatMap id ++ cur.toList.drop (i * size + (N.flatMap id).length)).toArray.size = cap * size ∧
      RowsAt (cur.toList.take (i * size) ++ N.flatMap id ++ cur.toList.drop (i * size + (N.flatMap id).length)).toArray size (L.take i ++ N ++ L.drop (i + m)) := by
  have hfl : (N.flatMap id).length = m * size := by rw [flat_len hN, hm]
  have hle : i * size + m * size ≤ cur.size := by rw [hc, ← Nat.add_mul]; exact Nat.mul_le_mul_right _ (by omega)
  have hll : (L.take i ++ N ++ L.drop (i + m)).length = L.length := by simp [hm]; omega
  have hall : ∀ c ∈ L.take i ++ N ++ L.drop (i + m), c.length = size := by
    intro c hc
    rcases List.mem_append.1 hc with hc | hc
    · rcases List.mem_append.1 hc with hc | hc
      · exact hl c (List.mem_of_mem_take hc)
      · exact hN c hc
    · exact hl c (List.mem_of_mem_drop hc)
  constructor
  · simp only [List.size_toArray, List.length_append, List.length_take, List.length_drop, Array.length_toList, hfl]
    omega
  · intro k c hk j u hu
    have hj : j < size := by rw [← hall c (List.mem_of_getElem? hk)]; exact (List.getElem?_eq_some_iff.1 hu).1
    have hkl : k < L.length := by rw [← hll]; exact (List.getElem?_eq_some_iff.1 hk).1
    have hcl : (cur.toList.take (i * size)).length = i * size := by rw [List.length_take, Array.length_toList]; omega
    rw [List.getElem?_toArray]
    by_cases h1 : k < i
    · rw [List.append_assoc, List.getElem?_append_left (by rw [List.length_take]; omega), List.getElem?_take_of_lt h1] at hk
      have hlt : k * size + j < i * size := by
        have : (k + 1) * size ≤ i * size := Nat.mul_le_mul_right _ h1
        rw [Nat.add_mul] at this; omega
      rw [List.append_assoc, List.getElem?_append_left (by rw [hcl]; exact hlt), List.getElem?_take_of_lt hlt, Array.getElem?_toList]
      exact hR k c hk j u hu
    · by_cases h2 : k < i + m
      · have hti : (L.take i).length = i := by rw [List.length_take]; omega
        rw [List.append_assoc, List.getElem?_append_right (by omega), hti, List.getElem?_append_left (by omega)] at hk
        have hge : i * size ≤ k * size := Nat.mul_le_mul_right _ (by omega)
        have hlt : k * size + j - i * size < (N.flatMap id).length := by
          rw [hfl]
          have : (k + 1) * size ≤ (i + m) * size := Nat.mul_le_mul_right _ h2
          rw [Nat.add_mul, Nat.add_mul] at this; omega
        rw [List.append_assoc, List.getElem?_append_right (by omega), hcl, List.getElem?_append_left hlt]
        have := flat_get hN hk hu
        rw [← this]
        congr 1
        rw [Nat.sub_mul]; omega
      · have hti : (L.take i ++ N).length = i + m := by rw [List.length_append, List.length_take]; omega
        rw [List.getElem?_append_right (by omega), hti, List.getElem?_drop] at hk
        have e1 : i + m + (k - (i + m)) = k := by omega
        rw [e1] at hk
        have hge : (i + m) * size ≤ k * size := Nat.mul_le_mul_right _ (by omega)
        rw [Nat.add_mul] at hge
        rw [List.getElem?_append_right (by rw [List.length_append, hcl, hfl]; omega), List.length_append, hcl, hfl, List.getElem?_drop, Array.getElem?_toList]
        have := hR k c hk j u hu
        rw [← this]
        congr 1
        omega

/-- copy(d, s) of rows into a row's piece (they may lie in one block). -/
theorem y_copy {t ty : TypeId} {b b' od os n n' cap cap' dl dc sl sc : Nat} (k k' i j m bytes : Nat) (z : Value) (H : Own w F M) (hk : M[k]? = some (rows (.slice (some ⟨b, 0, none⟩) n cap) e size L)) (hk' : M[k']? = some (rows (.slice (some ⟨b', 0, none⟩) n' cap') e size L'))
    (hm : m = Nat.min sl dl) (hi : i + m ≤ n) (hj : j + m ≤ n') (ho : 0 < m → od = i * size) (ho' : 0 < m → os = j * size) (h1 : ∀ c ∈ (L'.drop j).take m, ∀ u ∈ c, u.oneCell' = true)
    (ht : P.underlying t = some (.slice e)) (hinf : (P.info? e).map (fun i => (i.size, i.bytes, i.zero)) = some (size, bytes, some z))
    (hr : req st = .bi .copy #[t, t] ty #[.slice (some ⟨b, od, none⟩) dl dc, .slice (some ⟨b', os, none⟩) sl sc]) (hm0 : st.m = 0)
    (kk : ∀ w', Own w' F (M.set k (rows (.slice (some ⟨b, 0, none⟩) n cap) e size (L.take i ++ (L'.drop j).take m ++ L.drop (i + m)))) → G P fn R js (nx P fn st (.v (goInt m))) w') : G P fn R js st w := by
  obtain ⟨i0, hi0, hie⟩ := Option.map_eq_some_iff.1 hinf
  simp only [Prod.mk.injEq] at hie
  have H1 := H.front k hk
  have hlt := (List.getElem?_eq_some_iff.1 hk).1
  obtain ⟨g, r⟩ := H1.rep
  obtain ⟨g', r'⟩ := (H.front k' hk').rep
  rcases r.at_ with ⟨_, h, _⟩ | ⟨b2, cap2, cur, q1, q2, q3, q4, q5, q6, q7⟩
  · cases h
  cases q2
  rcases r'.at_ with ⟨_, h, _⟩ | ⟨b3, cap3, cur3, p1, p2, p3, p4, p5, p6, p7⟩
  · cases h
  cases p2
  have hNl : ((L'.drop j).take m).length = m := by rw [List.length_take, List.length_drop]; omega
  have hN : ∀ c ∈ (L'.drop j).take m, c.length = size := fun c hc => r'.len c (List.mem_of_mem_drop (List.mem_of_mem_take hc))
  have hfl : (((L'.drop j).take m).flatMap id).length = m * size := by rw [flat_len hN, hNl]
  rcases Nat.eq_zero_or_pos m with hm00 | hmp
  · have hrun : (Builtin.copy_ #[t, t] ty #[.slice (some ⟨b, od, none⟩) dl dc, .slice (some ⟨b', os, none⟩) sl sc]).run P w = .ok (goInt m) w := by
      have e0 : Nat.min sl dl = 0 := by omega
      simp [Builtin.copy_, run_underlying ht, Builtin.lenOf, Builtin.firstCells, sizeOf, typeInfo, hi0, hm00, e0, loadCells, loadCellsFrom, storeCells]
    refine s_op hr rfl hrun (.inl hm0) (kk w ?_)
    have e1 : L.take i ++ (L'.drop j).take m ++ L.drop (i + m) = L := by
      subst hm00
      simp
    rw [e1]
    exact Own.back k hlt H1
  · have hod := ho hmp
    have hos := ho' hmp
    subst hod hos
    have hsrc : ∀ x u, (((L'.drop j).take m).flatMap id)[x]? = some u → w.cell? ((⟨b', j * size, none⟩ : Addr).add x) = some u := by
      intro x u hx
      have e1 : (⟨b', j * size, none⟩ : Addr).add x = ⟨b', j * size + x, none⟩ := by unfold Addr.add; split <;> simp_all
      rw [e1]
      exact cell_of_blk p3 (row_news r'.len p7 hj x u hx)
    have hone : ∀ u ∈ ((L'.drop j).take m).flatMap id, u.oneCell' = true := by
      intro u hu
      obtain ⟨c, hc, hu⟩ := List.mem_flatMap.1 hu
      exact h1 c hc u hu
    have hfit : i * size + m * size ≤ cur.size := by rw [q6, ← Nat.add_mul]; exact Nat.mul_le_mul_right _ (by omega)
    have hw2 := rows_write (i := i) (m := m) (cap := cap) r.len hN hNl q7 hi q6 q4
    generalize hX : ((L'.drop j).take m).flatMap id = X at hfl hsrc hone hw2
    have hload := run_loadCells_list (P := P) w ⟨b', j * size, none⟩ X hsrc
    have hst := run_storeCells_at P b (i * size) e X 0 cur w q3 (by rw [hfl, Nat.add_zero]; exact hfit) hone
    rw [hfl] at hload
    simp only [Nat.add_zero] at hst
    have hrun : (Builtin.copy_ #[t, t] ty #[.slice (some ⟨b, i * size, none⟩) dl dc, .slice (some ⟨b', j * size, none⟩) sl sc]).run P w = .ok (goInt m) (w.setRow b (cur.toList.take (i * size) ++ X ++ cur.toList.drop (i * size + X.length)).toArray) := by
      simp [Builtin.copy_, run_underlying ht, Builtin.lenOf, Builtin.firstCells, sizeOf, typeInfo, hi0, hie.1, ← hm, hload, hst]
    refine s_op hr rfl hrun (.inl hm0) (kk _ (Own.back k hlt (own_of_rep H1 r (g' := g) ?_ ?_ (.inl rfl))))
    · refine ⟨?_, .inr ⟨b, cap, _, q1, ?_, setRow_heap w b cur _ e _ q3, ?_, q5, hw2.1, hw2.2⟩⟩
      · intro c hc
        rcases List.mem_append.1 hc with hc | hc
        · rcases List.mem_append.1 hc with hc | hc
          · exact r.len c (List.mem_of_mem_take hc)
          · exact hN c hc
        · exact r.len c (List.mem_of_mem_drop hc)
      · congr 1
        simp [hNl]; omega
      · simp [hNl]; omega
    · rw [q1]
      exact ⟨rfl, rfl, rfl, by simp, fun x _ hx => setRow_other w b x _ (fun e => hx (by simp [e]))⟩

/-- clear(s[i:..]) : what is left in front. -/
theorem y_clear {t ty : TypeId} {b o n cap m c : Nat} (k i bytes : Nat) (z : Value) (H : Own w F M) (hk : M[k]? = some (rows (.slice (some ⟨b, 0, none⟩) n cap) e size L)) (hi : i + m ≤ n) (ho : 0 < m → o = i * size)
    (ht : P.underlying t = some (.slice e)) (hinf : (P.info? e).map (fun i => (i.size, i.bytes, i.zero)) = some (size, bytes, some z)) (hzs : z.cells.size = size) (hz1 : z.cells.toList.all (·.oneCell') = true)
    (hr : req st = .bi .clear #[t] ty #[.slice (some ⟨b, o, none⟩) m c]) (hm0 : st.m = 0)
    (kk : ∀ w', Own w' F (M.set k (rows (.slice (some ⟨b, 0, none⟩) i cap) e size (L.take i))) → G P fn R js (nx P fn st (.v (.tuple #[]))) w') : G P fn R js st w := by
  obtain ⟨i0, hi0, hie⟩ := Option.map_eq_some_iff.1 hinf
  simp only [Prod.mk.injEq] at hie
  have H1 := H.front k hk
  have hlt := (List.getElem?_eq_some_iff.1 hk).1
  obtain ⟨g, r⟩ := H1.rep
  rcases r.at_ with ⟨_, h, _⟩ | ⟨b2, cap2, cur, q1, q2, q3, q4, q5, q6, q7⟩
  · cases h
  cases q2
  have hin : i ≤ L.length := by omega
  rcases Nat.eq_zero_or_pos m with hm00 | hmp
  · have hrun : (Builtin.clear_ #[t] ty #[.slice (some ⟨b, o, none⟩) m c]).run P w = .ok (.tuple #[]) w := by
      subst hm00
      simp [Builtin.clear_, run_underlying ht]
    exact s_op hr rfl hrun (.inl hm0) (kk w (Own.back k hlt (H1.cut i hin)))
  · have hod := ho hmp
    subst hod
    have hzl : (Builtin.zeroCells z.cells m).toList.length = m * size := by rw [Array.length_toList, size_zeroCells, hzs]
    have hone : ∀ u ∈ (Builtin.zeroCells z.cells m).toList, u.oneCell' = true := by
      intro u hu
      simp only [Builtin.zeroCells, Array.toList_map, List.mem_map] at hu
      obtain ⟨x, hx, rfl⟩ := hu
      rw [Array.mem_toList_iff, Array.mem_range] at hx
      have hpos : 0 < z.cells.size := by rcases Nat.eq_zero_or_pos z.cells.size with h0 | h0; (rw [h0] at hx; omega); exact h0
      have hlt2 : x % z.cells.size < z.cells.size := Nat.mod_lt _ hpos
      rw [getElem!_pos z.cells (x % z.cells.size) hlt2]
      exact List.all_eq_true.1 hz1 _ (by rw [Array.mem_toList_iff]; exact Array.getElem_mem hlt2)
    have hfit : i * size + m * size ≤ cur.size := by rw [q6, ← Nat.add_mul]; exact Nat.mul_le_mul_right _ (by omega)
    obtain ⟨X, hX⟩ : ∃ X, (Builtin.zeroCells z.cells m).toList = X := ⟨_, rfl⟩
    rw [hX] at hzl hone
    have hst := run_storeCells_at P b (i * size) e X 0 cur w q3 (by rw [hzl, Nat.add_zero]; exact hfit) hone
    simp only [Nat.add_zero] at hst
    have hzv : ∀ w, (zeroValue e).run P w = .ok z w := fun w => by simp [zeroValue, typeInfo, hi0, hie.2.2]
    have hrun : (Builtin.clear_ #[t] ty #[.slice (some ⟨b, i * size, none⟩) m c]).run P w = .ok (.tuple #[]) (w.setRow b (cur.toList.take (i * size) ++ X ++ cur.toList.drop (i * size + X.length)).toArray) := by
      obtain ⟨m', rfl⟩ : ∃ m', m = m' + 1 := ⟨m - 1, by omega⟩
      simp [Builtin.clear_, run_underlying ht, hzv, hX, hst]
    refine s_op hr rfl hrun (.inl hm0) (kk _ (Own.back k hlt (own_of_rep H1 r (g' := g) ?_ ?_ (.inl rfl))))
    · have hcl : (cur.toList.take (i * size)).length = i * size := by rw [List.length_take, Array.length_toList]; omega
      refine ⟨fun c hc => r.len c (List.mem_of_mem_take hc), .inr ⟨b, cap, _, q1, ?_, setRow_heap w b cur _ e _ q3, ?_, q5, ?_, fun x c hx j u hu => ?_⟩⟩
      · congr 1
        rw [List.length_take]; omega
      · rw [List.length_take]; omega
      · simp only [List.size_toArray, List.length_append, List.length_take, List.length_drop, Array.length_toList, hzl]; omega
      · rw [List.getElem?_take] at hx
        split at hx
        · rename_i hxi
          have hj : j < size := by rw [← r.len c (List.mem_of_getElem? hx)]; exact (List.getElem?_eq_some_iff.1 hu).1
          have hlt2 : x * size + j < i * size := by
            have : (x + 1) * size ≤ i * size := Nat.mul_le_mul_right _ hxi
            rw [Nat.add_mul] at this; omega
          rw [List.getElem?_toArray, List.append_assoc, List.getElem?_append_left (by rw [hcl]; exact hlt2), List.getElem?_take_of_lt hlt2, Array.getElem?_toList]
          exact q7 x c hx j u hu
        · cases hx
    · rw [q1]
      exact ⟨rfl, rfl, rfl, by simp, fun x _ hx => setRow_other w b x _ (fun e => hx (by simp [e]))⟩

/-- append(s[:i], make([]T, x)...) without room: a new row. -/
theorem y_appendZ {t tn ty : TypeId} {kq kn : IntKind} {b n i cap x : Nat} (k bytes : Nat) (z : Value) (H : Own w F M) (hk : M[k]? = some (rows (.slice (some ⟨b, 0, none⟩) n cap) e size L)) (hin : i ≤ n) (hx : 0 < x) (hcap : cap < i + x) (hsz : 0 < size)
    (h63 : i + x ≤ maxLen) (hbytes : (i + x) * bytes ≤ 140737488355328)
    (ht : P.underlying t = some (.slice e)) (htn : P.underlying tn = some (.int kn)) (hinf : (P.info? e).map (fun i => (i.size, i.bytes, i.zero)) = some (size, bytes, some z)) (hzs : z.cells.size = size)
    (hr : req st = .bi .append #[t, tn] ty #[.slice (some ⟨b, 0, none⟩) i cap, .int kq (x : Int)]) (hm0 : st.m = 0)
    (kk : ∀ g cap' Z w', Z.length = x → i + x ≤ cap' → Own w' F (rows (.slice (some ⟨g, 0, none⟩) (i + x) cap') e size (L.take i ++ Z) :: M) → G P fn R js (nx P fn st (.v (.slice (some ⟨g, 0, none⟩) (i + x) cap'))) w') : G P fn R js st w := by
  obtain ⟨i0, hi0, hie⟩ := Option.map_eq_some_iff.1 hinf
  simp only [Prod.mk.injEq] at hie
  obtain ⟨hie1, hie2, hie3⟩ := hie
  subst hie1 hie2
  have H1 := H.front k hk
  obtain ⟨g, r⟩ := H1.rep
  rcases r.at_ with ⟨_, h, _⟩ | ⟨b2, cap2, cur, q1, q2, q3, q4, q5, q6, q7⟩
  · cases h
  cases q2
  have hl2 : ∀ c ∈ L.take i, c.length = i0.size := fun c hc => r.len c (List.mem_of_mem_take hc)
  have hil : (L.take i).length = i := by rw [List.length_take]; omega
  have hsrc : ∀ y u, ((L.take i).flatMap id)[y]? = some u → w.drew.cell? ((⟨b, 0, none⟩ : Addr).add y) = some u := by
    intro y u hy
    have e1 : (⟨b, 0, none⟩ : Addr).add y = ⟨b, y, none⟩ := by unfold Addr.add; split <;> simp_all
    rw [e1]
    have h2 := row_news (i := 0) (m := i) r.len q7 (by omega) y u (by rw [List.drop_zero]; exact hy)
    rw [Nat.zero_mul, Nat.zero_add] at h2
    exact cell_of_blk (w := w) q3 h2
  have hload := run_loadCells_list (P := P) w.drew ⟨b, 0, none⟩ ((L.take i).flatMap id) hsrc
  have hfl : ((L.take i).flatMap id).length = i * i0.size := by rw [flat_len hl2, hil]
  rw [hfl] at hload
  have hxb : x * i0.bytes ≤ 281474976710656 := by
    have h1 : x * i0.bytes ≤ (i + x) * i0.bytes := Nat.mul_le_mul_right _ (by omega)
    omega
  have hrun := Lib.run_append_grow_zeros (P := P) w t tn ty e i0 z kq kn ht htn hi0 hie3 (some ⟨b, 0, none⟩) i cap ((L.take i).flatMap id) (by simpa [Builtin.firstCells] using hload) x hx hsz hcap (by simp only [maxLen] at h63; omega) hxb (growslice_fits (by omega) hbytes)
  have hge := grownCap_ge w (i + x) cap e
  have hzl : (Builtin.zeroCells z.cells x).toList.length = x * i0.size := by rw [Array.length_toList, size_zeroCells, hzs]
  obtain ⟨Zc, hZc⟩ : ∃ Zc, (Builtin.zeroCells z.cells x) = Zc := ⟨_, rfl⟩
  rw [hZc] at hzl hrun
  have hZl : ∀ c ∈ (List.range x).map (fun y => (Zc.toList.drop (y * i0.size)).take i0.size), c.length = i0.size := by
    intro c hc
    obtain ⟨y, hy, rfl⟩ := List.mem_map.1 hc
    have hy := List.mem_range.1 hy
    rw [List.length_take, List.length_drop, hzl]
    have : (y + 1) * i0.size ≤ x * i0.size := Nat.mul_le_mul_right _ hy
    rw [Nat.add_mul] at this
    omega
  refine s_op hr rfl hrun (.inl hm0) (kk w.heap.size _ ((List.range x).map fun y => (Zc.toList.drop (y * i0.size)).take i0.size) _ (by simp) hge ?_)
  have hall : ∀ c ∈ L.take i ++ (List.range x).map (fun y => (Zc.toList.drop (y * i0.size)).take i0.size), c.length = i0.size := by
    intro c hc
    rcases List.mem_append.1 hc with hc | hc
    · exact hl2 c hc
    · exact hZl c hc
  have r' : SlRep (w.drew.alloc (.cells (((L.take i).flatMap id).toArray ++ Zc ++ Builtin.zeroCells z.cells (grownCap w (i + x) cap e - (i + x))) e)) e i0.size (some w.heap.size) (.slice (some ⟨w.heap.size, 0, none⟩) (i + x) (grownCap w (i + x) cap e)) (L.take i ++ (List.range x).map fun y => (Zc.toList.drop (y * i0.size)).take i0.size) := by
    refine ⟨hall, .inr ⟨w.heap.size, grownCap w (i + x) cap e, _, rfl, ?_, heap_alloc_new w.drew _, ?_, grownCap_le_maxLen w (i + x) cap e h63, ?_, ?_⟩⟩
    · congr 1
      simp [hil]
    · simpa [hil] using hge
    · have hzc : Zc.size = x * i0.size := by rw [← Array.length_toList, hzl]
      simp only [Array.size_append, List.size_toArray, size_zeroCells, hzs, hfl, hzc, ← Nat.add_mul]
      congr 1
      omega
    · intro y c hy j u hu
      have hj : j < i0.size := by rw [← hall c (List.mem_of_getElem? hy)]; exact (List.getElem?_eq_some_iff.1 hu).1
      rw [← Array.getElem?_toList]
      simp only [Array.toList_append, List.append_assoc]
      by_cases hyi : y < i
      · rw [List.getElem?_append_left (by rw [hil]; exact hyi)] at hy
        have hlt : y * i0.size + j < i * i0.size := by
          have : (y + 1) * i0.size ≤ i * i0.size := Nat.mul_le_mul_right _ hyi
          rw [Nat.add_mul] at this; omega
        rw [List.getElem?_append_left (by rw [hfl]; exact hlt)]
        exact flat_get hl2 hy hu
      · rw [List.getElem?_append_right (by omega), hil, List.getElem?_map] at hy
        obtain ⟨y2, hy2, rfl⟩ := Option.map_eq_some_iff.1 hy
        have g1 := (List.getElem?_eq_some_iff.1 hy2).1
        have g2 := (List.getElem?_eq_some_iff.1 hy2).2
        simp at g1 g2
        subst g2
        have hge2 : i * i0.size ≤ y * i0.size := Nat.mul_le_mul_right _ (by omega)
        have hlt : y * i0.size + j - i * i0.size < x * i0.size := by
          have : (y + 1) * i0.size ≤ (i + x) * i0.size := Nat.mul_le_mul_right _ (by omega)
          rw [Nat.add_mul, Nat.add_mul] at this; omega
        rw [List.getElem?_append_right (by rw [hfl]; omega), hfl, List.getElem?_append_left (by rw [hzl]; exact hlt)]
        rw [List.getElem?_take_of_lt hj, List.getElem?_drop] at hu
        rw [← hu, Nat.sub_mul]
        congr 1
        omega
  exact H.addRow ((Keep.ofDrew (Keep.alloc w.drew _)).mono (fun _ h => nomatch h)) r' (Nat.le_refl _)

/-- append(s[:i], s[j:]...) within one's own room: rows of one block. -/
theorem y_appendSelf {t ty : TypeId} {b os n cap sc i m : Nat} (k j bytes : Nat) (z : Value) (H : Own w F M) (hk : M[k]? = some (rows (.slice (some ⟨b, 0, none⟩) n cap) e size L))
    (hi : i + m ≤ n) (hj : j + m ≤ n) (ho' : 0 < m → os = j * size) (h1 : ∀ c ∈ (L.drop j).take m, ∀ u ∈ c, u.oneCell' = true)
    (ht : P.underlying t = some (.slice e)) (hinf : (P.info? e).map (fun i => (i.size, i.bytes, i.zero)) = some (size, bytes, some z))
    (hr : req st = .bi .append #[t, t] ty #[.slice (some ⟨b, 0, none⟩) i cap, .slice (some ⟨b, os, none⟩) m sc]) (hm0 : st.m = 0)
    (kk : ∀ w', Own w' F (M.set k (rows (.slice (some ⟨b, 0, none⟩) n cap) e size (L.take i ++ (L.drop j).take m ++ L.drop (i + m)))) → G P fn R js (nx P fn st (.v (.slice (some ⟨b, 0, none⟩) (i + m) cap))) w') : G P fn R js st w := by
  obtain ⟨i0, hi0, hie⟩ := Option.map_eq_some_iff.1 hinf
  simp only [Prod.mk.injEq] at hie
  have hsz := hie.1
  subst hsz
  have H1 := H.front k hk
  have hlt := (List.getElem?_eq_some_iff.1 hk).1
  obtain ⟨g, r⟩ := H1.rep
  rcases r.at_ with ⟨_, h, _⟩ | ⟨b2, cap2, cur, q1, q2, q3, q4, q5, q6, q7⟩
  · cases h
  cases q2
  have hNl : ((L.drop j).take m).length = m := by rw [List.length_take, List.length_drop]; omega
  have hN : ∀ c ∈ (L.drop j).take m, c.length = i0.size := fun c hc => r.len c (List.mem_of_mem_drop (List.mem_of_mem_take hc))
  have hfl : (((L.drop j).take m).flatMap id).length = m * i0.size := by rw [flat_len hN, hNl]
  have hsrc : ∀ x u, (((L.drop j).take m).flatMap id)[x]? = some u → w.cell? ((⟨b, os, none⟩ : Addr).add x) = some u := by
    intro x u hx
    have hmp : 0 < m := by
      rcases Nat.eq_zero_or_pos m with h0 | h0
      · have := (List.getElem?_eq_some_iff.1 hx).1
        rw [hfl, h0, Nat.zero_mul] at this; omega
      · exact h0
    have e1 : (⟨b, os, none⟩ : Addr).add x = ⟨b, os + x, none⟩ := by unfold Addr.add; split <;> simp_all
    rw [e1, ho' hmp]
    exact cell_of_blk q3 (row_news r.len q7 hj x u hx)
  have hone : ∀ u ∈ ((L.drop j).take m).flatMap id, u.oneCell' = true := by
    intro u hu
    obtain ⟨c, hc, hu⟩ := List.mem_flatMap.1 hu
    exact h1 c hc u hu
  have hfit : i * i0.size + m * i0.size ≤ cur.size := by rw [q6, ← Nat.add_mul]; exact Nat.mul_le_mul_right _ (by omega)
  have hw2 := rows_write (i := i) (m := m) (cap := cap) r.len hN hNl q7 hi q6 q4
  generalize hX : ((L.drop j).take m).flatMap id = X at hfl hsrc hone hw2
  have hrun := run_append_room (P := P) w t ty e i0 ht hi0 b i cap cur q3 ⟨b, os, none⟩ m sc X hfl hsrc hone (by omega) (by rw [hfl]; exact hfit)
  refine s_op hr rfl hrun (.inl hm0) (kk _ (Own.back k hlt (own_of_rep H1 r (g' := g) ?_ ?_ (.inl rfl))))
  · refine ⟨?_, .inr ⟨b, cap, _, q1, ?_, setRow_heap w b cur _ e _ q3, ?_, q5, hw2.1, hw2.2⟩⟩
    · intro c hc
      rcases List.mem_append.1 hc with hc | hc
      · rcases List.mem_append.1 hc with hc | hc
        · exact r.len c (List.mem_of_mem_take hc)
        · exact hN c hc
      · exact r.len c (List.mem_of_mem_drop hc)
    · congr 1
      simp [hNl]; omega
    · simp [hNl]; omega
  · rw [q1]
    exact ⟨rfl, rfl, rfl, by simp, fun x _ hx => setRow_other w b x _ (fun e => hx (by simp [e]))⟩

/-! A function without a body. -/
def externB (P : Program) (f : FuncId) : Bool :=
  match P.funcs[f]? with
  | some fn => !(fn.name == "runtime.NumGoroutine") && fn.body.isNone
  | none => false

theorem run_callX {fr : Fr} {o : Oper} {f : FuncId} {args : Array Value} {v : Value} (h : reqOp fr o = .call f args) (hc : (callFunc f args).run P w = .ok (.value v) w) :
    (execOp (evT fr) o).run P w = .ok (.value v) w := by
  obtain ⟨dst, op, type, pos, after, guard⟩ := o
  cases op <;> simp only [reqOp] at h <;> first | cases h | skip
  case call c =>
    obtain ⟨callee, cargs, at'⟩ := c
    cases callee with
    | invoke r m => simp at h
    | builtin b => simp at h
    | value g =>
      simp only at h
      split at h
      · rename_i g' first cap hg
        cases h
        simp [argsOf, Array.append_assoc] at hc
        simp [execOp, resolve, hg, Deferred.ofValue, invoke, Array.append_assoc, hc]
      · cases h

theorem s_ext {f : FuncId} {args : Array Value} {v : Value} (hr : req st = .call f args) (hrun : (callFunc f args).run P w = .ok (.value v) w) (hm : st.m = 0)
    (k : G P fn R js (nx P fn st (.v v)) w) : G P fn R js st w := by
  obtain ⟨o, hc, ho⟩ := call_of_req hr
  have k := of_nx k
  refine ⟨fun a hd ha => ?_⟩
  unfold Gd
  rw [hc]
  unfold ans at k
  rw [hc] at k
  simp only
  rw [run_callX ho hrun]
  have k2 := G_finishV k hd ha
  rw [hm] at k2 ⊢
  exact k2

theorem Own.neRows {b b' n n' cap cap' : Nat} {e' size' : Nat} (i j : Nat) (H : Own w F M) (hi : M[i]? = some (rows (.slice (some ⟨b, 0, none⟩) n cap) e size L)) (hj : M[j]? = some (rows (.slice (some ⟨b', 0, none⟩) n' cap') e' size' L')) (hij : Nat.beq i j = false) : b ≠ b' := by
  have hij : i ≠ j := Nat.ne_of_beq_eq_false hij
  have hm : rows (.slice (some ⟨b', 0, none⟩) n' cap') e' size' L' ∈ M.eraseIdx i := List.mem_eraseIdx_iff_getElem?.2 ⟨j, fun e => hij e.symm, hj⟩
  obtain ⟨k, hk⟩ := List.mem_iff_getElem?.1 hm
  obtain ⟨h, ⟨x, y, hx, hy, hd, _⟩, _⟩ := (H.perm (front_perm hi)).body
  obtain ⟨y1, y2, hy1, _, _, rfl⟩ := star_perm (front_perm hk) hy
  obtain ⟨_, _, _, _, c1, _, _, rfl⟩ := rows_cases hx
  obtain ⟨_, _, _, _, c2, _, _, rfl⟩ := rows_cases hy1
  intro e
  subst e
  rcases hd b with h | h
  · simp [one] at h
  · have := (hu_none.1 h).1
    simp [one] at this

/-- slices.overlaps of two blocks: no. -/
theorem y_overlaps {f : FuncId} {fo : Func} {tS tR : TypeId} {a b oa n n' cap cap' la ca lb cb ob : Nat} (k k' : Nat) (H : Own w F M) (hk : M[k]? = some (rows (.slice (some ⟨a, 0, none⟩) n cap) e size L)) (hk' : M[k']? = some (rows (.slice (some ⟨b, 0, none⟩) n' cap') e size L'))
    (hne : Nat.beq k k' = false) (hc : 0 < cap') (hsz : 0 < size) (ht : P.underlying tS = some (.slice e)) (hi : (P.info? e).map (·.size) = some size)
    (hf : P.funcs[f]? = some fo) (hname : (fo.name == "runtime.NumGoroutine") = false) (hb : fo.body.isNone = true) (hn : Extern.findNext fo = none) (he : Extern.find fo = some (Extern.SlicesOverlaps.overlaps #[tS, tS] #[tR]))
    (hr : req st = .call f #[.slice (some ⟨a, oa, none⟩) la ca, .slice (some ⟨b, ob, none⟩) lb cb]) (hm : st.m = 0)
    (kk : G P fn R js (nx P fn st (.v (.bool false))) w) : G P fn R js st w := by
  obtain ⟨g, r⟩ := (H.front k hk).rep
  obtain ⟨g', r'⟩ := (H.front k' hk').rep
  rcases r.at_ with ⟨_, h, _⟩ | ⟨b2, cap2, cur, q1, q2, q3, q4, q5, q6, q7⟩
  · cases h
  cases q2
  rcases r'.at_ with ⟨_, h, _⟩ | ⟨b3, cap3, cur3, p1, p2, p3, p4, p5, p6, p7⟩
  · cases h
  cases p2
  have hab := Own.neRows k k' H hk hk' hne
  obtain ⟨i0, hi0, hsz0⟩ := Option.map_eq_some_iff.1 hi
  have hz : ∀ w, (Go.sizeOf e).run P w = .ok size w := fun w => by simp [sizeOf, typeInfo, hi0, hsz0]
  have hrun := Lib.run_overlaps_apart (P := P) w tS tR e ht size hz ⟨a, oa, none⟩ ⟨b, ob, none⟩ la ca lb cb hab e e cur.size cur3.size (by simp [World.shape?, q3]) (by simp [World.shape?, p3]) (by rw [p6]; exact Nat.ne_of_gt (Nat.mul_pos hc hsz)) (by simp [World.frozen?, q3]) (by simp [World.frozen?, q3])
  refine s_ext hr ?_ hm kk
  rw [run_callFunc_extern hf hname hb hn he, hrun]
  rfl
end
end Go.XM
