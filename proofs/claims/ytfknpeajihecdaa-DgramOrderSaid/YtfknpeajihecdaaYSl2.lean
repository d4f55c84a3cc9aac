/-
  append of a part of another row.
-/
import Derived.Test.YtfknpeajihecdaaYSl
namespace Go.XM
open Go Go.RowKit
section
variable {P : Program} {w : World} {fn : Func} {R : Ending → World → Prop} {js : List J} {st : St} {F : Fm} {M : List Assn} {v : Value} {e size : Nat} {L L2 : List (List Value)}

theorem y_appendSub {t ty : TypeId} {b os n cap m sc : Nat} (k kx j bytes : Nat) (z : Value) (H : Own w F M) (hk : M[k]? = some (rows v e size L)) (hx : M[kx]? = some (rows (.slice (some ⟨b, 0, none⟩) n cap) e size L2))
    (hj : j + m ≤ n) (ho : 0 < m → os = j * size) (h1 : ∀ c ∈ (L2.drop j).take m, ∀ u ∈ c, u.oneCell' = true) (h63 : L.length + m ≤ maxLen) (hbytes : (L.length + m) * bytes ≤ 140737488355328)
    (ht : P.underlying t = some (.slice e)) (hi : (P.info? e).map (fun i => (i.size, i.bytes, i.zero)) = some (size, bytes, some z)) (hzs : z.cells.size = size) (hsz : 0 < size)
    (hr : req st = .bi .append #[t, t] ty #[v, .slice (some ⟨b, os, none⟩) m sc]) (hm0 : st.m = 0)
    (kk : ∀ a cap' w', Own w' F (M.set k (rows (.slice a (L.length + m) cap') e size (L ++ (L2.drop j).take m))) → G P fn R js (nx P fn st (.v (.slice a (L.length + m) cap'))) w') : G P fn R js st w := by
  have H1 := H.front k hk
  have hlt := (List.getElem?_eq_some_iff.1 hk).1
  obtain ⟨g, r⟩ := H1.rep
  obtain ⟨g2, r2⟩ := (H.front kx hx).rep
  rcases r2.at_ with ⟨_, h, _⟩ | ⟨b3, cap3, cur3, p1, p2, p3, p4, p5, p6, p7⟩
  · cases h
  cases p2
  obtain ⟨a0, cap0, hv, hcap0, hmax0⟩ := Own.shape k H hk
  obtain ⟨i0, hi0, hie⟩ := Option.map_eq_some_iff.1 hi
  have hNl : ((L2.drop j).take m).length = m := by rw [List.length_take, List.length_drop]; omega
  have hN : ∀ c ∈ (L2.drop j).take m, c.length = size := fun c hc => r2.len c (List.mem_of_mem_drop (List.mem_of_mem_take hc))
  rcases Nat.eq_zero_or_pos m with h0 | h0
  · subst h0
    subst hv
    have hrun : (Builtin.append_ #[t, t] ty #[.slice a0 L.length cap0, .slice (some ⟨b, os, none⟩) 0 sc]).run P w = .ok (.slice a0 L.length cap0) w := by
      cases a0 <;> simp [Builtin.append_, run_underlying ht, sizeOf, typeInfo, hi0, Builtin.lenOf, Builtin.firstCells, hcap0, storeCells, loadCells, loadCellsFrom]
    refine s_op (v := .slice a0 L.length cap0) hr rfl hrun (.inl hm0) (kk a0 cap0 w ?_)
    rw [List.take_zero, List.append_nil]
    exact Own.back k hlt H1
  · have hos := ho h0
    subst hos
    have hsrc : ∀ x u, (((L2.drop j).take m).flatMap id)[x]? = some u → w.cell? ((⟨b, j * size, none⟩ : Addr).add x) = some u := by
      intro x u hxx
      have e1 : (⟨b, j * size, none⟩ : Addr).add x = ⟨b, j * size + x, none⟩ := by unfold Addr.add; split <;> simp_all
      rw [e1]
      exact cell_of_blk p3 (row_news r2.len p7 hj x u hxx)
    refine x_append (m := m) size bytes z (((L2.drop j).take m).flatMap id) r.owns hsrc ?_ (by rw [flat_len hN, hNl]) h63 hbytes h0 ht hi hzs hsz hr hm0 (fun g' cap' cur w' h2 h3 h4 h5 h6 h7 h8 _ => ?_)
    · intro u hu
      obtain ⟨c, hc, hu⟩ := List.mem_flatMap.1 hu
      exact h1 c hc u hu
    · rw [r.own] at h7 h8
      have hl : ∀ x ∈ L ++ (L2.drop j).take m, x.length = size := by
        intro x hx
        rcases List.mem_append.1 hx with hx | hx
        · exact r.len x hx
        · exact hN x hx
      have r' : SlRep w' e size (some g') (.slice (some ⟨g', 0, none⟩) (L.length + m) cap') (L ++ (L2.drop j).take m) :=
        ⟨hl, .inr ⟨g', cap', cur, rfl, by rw [List.length_append, hNl], h2, by rw [List.length_append, hNl]; exact h3, h4, h5, rows_of_take hl (by rw [List.length_append, hNl, List.flatMap_append]; exact h6)⟩⟩
      refine kk _ cap' w' (Own.back k hlt (own_of_rep H1 r r' h7 ?_))
      rcases h8 with h | h
      · exact .inl h.symm
      · exact .inr ⟨g', rfl, by omega⟩
end
end Go.XM
