/-
  Owned pieces, second part: lists of pieces, appending many, making slices, slices that are only read.
-/
import Derived.Test.YtfknpeajihecdaaYOwn
import Derived.Laws.OwnMore
import Derived.Laws.Small
namespace Go.XM
open Go Go.RowKit

section
variable {w : World} {F : Fm} {M : List Assn} {α : Type} {f : α → Assn} {l : List α} {x y : α} {k : Nat}

theorem erase_perm : ∀ {l : List α} {k : Nat} {x : α}, l[k]? = some x → l.Perm (x :: l.eraseIdx k)
  | z :: l, 0, x, h => by simp at h; subst h; exact .refl _
  | z :: l, k + 1, x, h => by
    have := erase_perm (l := l) (k := k) (x := x) (by simpa using h)
    exact (this.cons z).trans (.swap x z _)

theorem setA_perm : ∀ {l : List α} {k : Nat} {x : α}, k < l.length → (x :: l.eraseIdx k).Perm (l.set k x)
  | z :: l, 0, x, _ => .refl _
  | z :: l, k + 1, x, h => ((List.Perm.swap z x _).trans ((setA_perm (l := l) (k := k) (by simpa using h)).cons z))

theorem Own.focus (H : Own w F (Each f l :: M)) (h : l[k]? = some x) : Own w F (f x :: Each f (l.eraseIdx k) :: M) :=
  H.unfold1 [f x, Each f (l.eraseIdx k)] fun hp hh => by
    have := star_perm ((erase_perm h).map f) hh
    obtain ⟨a, b, ha, hb, hd, he⟩ := this
    exact ⟨a, b, ha, star_single.2 hb, hd, he⟩

theorem Own.unfocus (hk : k < l.length) (H : Own w F (f y :: Each f (l.eraseIdx k) :: M)) : Own w F (Each f (l.set k y) :: M) :=
  Own.fold [f y, Each f (l.eraseIdx k)] H fun hp ⟨a, b, ha, hb, hd, he⟩ => by
    have hb := star_single.1 hb
    exact star_perm ((setA_perm hk).map f) ⟨a, b, ha, hb, hd, he⟩

theorem Own.eachNil (H : Own w F M) (f : α → Assn) : Own w F (Each f [] :: M) :=
  Own.fold [] H fun _ h => h

theorem Own.eachPush (H : Own w F (f x :: Each f l :: M)) : Own w F (Each f (l ++ [x]) :: M) :=
  Own.fold [f x, Each f l] H fun hp ⟨a, b, ha, hb, hd, he⟩ => by
    have hb := star_single.1 hb
    exact star_perm ((List.perm_append_singleton x l).symm.map f) ⟨a, b, ha, hb, hd, he⟩
end

section
variable {P : Program} {w : World} {fn : Func} {R : Ending → World → Prop} {js : List J} {st : St} {F : Fm} {M : List Assn} {v : Value} {e size : Nat} {L : List (List Value)}

theorem rows_news {w : World} {v : Value} {e size : Nat} {g : Option Nat} {L : List (List Value)} {b : Nat} (r : SlRep w e size g v L) (hv : ∃ n c, v = .slice (some ⟨b, 0, none⟩) n c) : ∀ j u, (L.flatMap id)[j]? = some u → w.cell? ((⟨b, 0, none⟩ : Addr).add j) = some u := by
  intro j u hj
  obtain ⟨n, c, rfl⟩ := hv
  rcases r.at_ with ⟨_, h, _⟩ | ⟨b', cap, cur, h1, h2, h3, h4, h5, h6, h7⟩
  · cases h
  · cases h2
    have e1 : (⟨b, 0, none⟩ : Addr).add j = ⟨b, j, none⟩ := by unfold Addr.add; split <;> simp_all
    rw [e1]
    have hlt : j < (L.flatMap id).length := (List.getElem?_eq_some_iff.1 hj).1
    rw [flat_len r.len] at hlt
    have := rows_take r.len h7 (by rw [h6]; exact Nat.mul_le_mul_right _ h4)
    rw [← this, List.getElem?_take_of_lt hlt, Array.getElem?_toList] at hj
    exact cell_of_blk h3 hj

/-- append(v, x...): both slices owned. -/
theorem y_appendAll {t ty : TypeId} {a2 : Option Addr} {n2 c2 : Nat} {L2 : List (List Value)} (k kx : Nat) (bytes : Nat) (z : Value) (H : Own w F M) (hk : M[k]? = some (rows v e size L)) (hx : M[kx]? = some (rows (.slice a2 n2 c2) e size L2))
    (h1 : ∀ c ∈ L2, ∀ u ∈ c, u.oneCell' = true) (h63 : L.length + L2.length ≤ maxLen) (hbytes : (L.length + L2.length) * bytes ≤ 140737488355328)
    (ht : P.underlying t = some (.slice e)) (hi : (P.info? e).map (fun i => (i.size, i.bytes, i.zero)) = some (size, bytes, some z)) (hzs : z.cells.size = size) (hsz : 0 < size)
    (hr : req st = .bi .append #[t, t] ty #[v, .slice a2 n2 c2]) (hm : st.m = 0)
    (kk : ∀ a cap w', Own w' F (M.set k (rows (.slice a (L.length + L2.length) cap) e size (L ++ L2))) → G P fn R js (nx P fn st (.v (.slice a (L.length + L2.length) cap))) w') : G P fn R js st w := by
  have H1 := H.front k hk
  obtain ⟨g, r⟩ := H1.rep
  obtain ⟨g2, r2⟩ := (H.front kx hx).rep
  have hlt := (List.getElem?_eq_some_iff.1 hk).1
  obtain ⟨a0, cap0, hv, hcap0, hmax0⟩ := Own.shape k H hk
  have hn2 : n2 = L2.length := by
    obtain ⟨_, _, h, _⟩ := Own.shape kx H hx; injection h
  subst hn2
  obtain ⟨i0, hi0, hie⟩ := Option.map_eq_some_iff.1 hi
  rcases Nat.eq_zero_or_pos L2.length with h0 | h0
  · have hL2 : L2 = [] := List.eq_nil_of_length_eq_zero h0
    subst hL2
    subst hv
    have hrun : (Builtin.append_ #[t, t] ty #[.slice a0 L.length cap0, .slice a2 0 c2]).run P w = .ok (.slice a0 L.length cap0) w := by
      cases a0 <;> cases a2 <;> simp [Builtin.append_, run_underlying ht, sizeOf, typeInfo, hi0, Builtin.lenOf, Builtin.firstCells, hcap0, storeCells, loadCells, loadCellsFrom]
    refine s_op (v := .slice a0 L.length cap0) hr rfl hrun (.inl hm) (kk a0 cap0 w ?_)
    rw [List.append_nil]
    exact Own.back k hlt H1
  · obtain ⟨b2, cap2, h2, _, _⟩ := Own.shapeN kx H hx h0
    injection h2 with h2 _ _
    subst h2
    refine x_append (m := L2.length) size bytes z (L2.flatMap id) r.owns (rows_news r2 ⟨_, _, rfl⟩) ?_ (flat_len r2.len) h63 hbytes h0 ht hi hzs hsz hr hm (fun g' cap' cur w' h2 h3 h4 h5 h6 h7 h8 _ => ?_)
    · intro u hu
      obtain ⟨c, hc, hu⟩ := List.mem_flatMap.1 hu
      exact h1 c hc u hu
    · rw [r.own] at h7 h8
      have hl : ∀ x ∈ L ++ L2, x.length = size := by
        intro x hx
        rcases List.mem_append.1 hx with hx | hx
        · exact r.len x hx
        · exact r2.len x hx
      have r' : SlRep w' e size (some g') (.slice (some ⟨g', 0, none⟩) (L.length + L2.length) cap') (L ++ L2) :=
        ⟨hl, .inr ⟨g', cap', cur, rfl, by rw [List.length_append], h2, by rw [List.length_append]; exact h3, h4, h5, rows_of_take hl (by rw [List.length_append, List.flatMap_append]; exact h6)⟩⟩
      refine kk _ cap' w' (Own.back k hlt (own_of_rep H1 r r' h7 ?_))
      rcases h8 with h | h
      · exact .inl h.symm
      · exact .inr ⟨g', rfl, by omega⟩

theorem Own.addRow {w' : World} {b : Nat} {v' : Value} {L' : List (List Value)} (H : Own w F M) (k : Keep [] w w') (r : SlRep w' e size (some b) v' L') (hb : w.heap.size ≤ b) : Own w' F (rows v' e size L' :: M) :=
  own_of_rep (H.nilRows e size) (SlRep.nil w e size) r k (.inr ⟨b, rfl, hb⟩)

theorem flat_replicate (n : Nat) (z : Value) : List.replicate n z = (List.replicate n [z]).flatMap id := by
  induction n with
  | zero => rfl
  | succ n ih => rw [List.replicate_succ, List.replicate_succ, List.flatMap_cons, ← ih]; rfl

/-- make([]T, n), of one-cell elements. -/
theorem y_make1 {t : TypeId} {kl kc : IntKind} {n : Nat} {e : TypeId} (bytes : Nat) (z : Value) (H : Own w F M) (hbytes : bytes * n ≤ 16777216) (hn : n ≤ 16777216)
    (ht : P.underlying t = some (.slice e)) (hi : (P.info? e).map (fun i => (i.size, i.bytes, i.zero)) = some (1, bytes, some z)) (hz : z.cells = #[z])
    (hr : req st = .makeSlice t (.int kl (n : Int)) (.int kc (n : Int))) (hm : st.m = 0)
    (kk : ∀ b w', Own w' F (rows (.slice (some ⟨b, 0, none⟩) n n) e 1 (List.replicate n [z]) :: M) → G P fn R js (nx P fn st (.v (.slice (some ⟨b, 0, none⟩) n n))) w') : G P fn R js st w := by
  obtain ⟨i0, hi0, hie⟩ := Option.map_eq_some_iff.1 hi
  simp only [Prod.mk.injEq] at hie
  obtain ⟨w', hrun, hown, hg⟩ := run_makeSlice_full (P := P) (w := w) 0 t e i0 z 1 ht hi0 hie.2.2 hie.1 kl kc n (by omega) (by rw [hie.2.1]; omega) (by simp only [maxLen]; omega) (Nat.zero_le _)
  have hk : Keep [] w w' := ⟨hg.os, hg.tape, hg.output, hg.size, fun k hk _ => hg.block k hk (by simp)⟩
  refine s_op hr rfl hrun (.inl hm) (kk _ w' (H.addRow hk (b := w.heap.size) ?_ (Nat.le_refl _)))
  refine ⟨?_, ?_⟩
  · intro c hc
    rw [(List.mem_replicate.1 hc).2]; rfl
  · rcases hown.2 with ⟨h, _⟩ | ⟨g, cap, cur, h1, _, h2, h3, h4, h5, h6⟩
    · cases h
    · cases h1
      refine .inr ⟨_, _, cur, rfl, by rw [List.length_replicate], h2, by rw [List.length_replicate]; exact h3, h4, h5, ?_⟩
      refine rows_of_take (by intro c hc; rw [(List.mem_replicate.1 hc).2]; rfl) ?_
      rw [List.length_replicate, h6, hz, Nat.mul_one, toList_madeCells_one]
      exact flat_replicate n z
end

/-! Slices that are only read: they lie in the frame. -/
def View (h : Hl) (v : Value) (size : Nat) (L : List (List Value)) : Prop :=
  ∃ a c, v = .slice a L.length c ∧ L.length ≤ c ∧ (∀ x ∈ L, x.length = size) ∧ (L ≠ [] → ∃ b off cur T fz, a = some ⟨b, off, none⟩ ∧ h b = some (.cells cur T fz) ∧
    ∀ (k : Nat) (x : List Value), L[k]? = some x → ∀ (j : Nat) (u : Value), x[j]? = some u → cur[off + k * size + j]? = some u)

theorem View.le {h h' : Hl} {v : Value} {size : Nat} {L : List (List Value)} (V : View h v size L) (k : hle h h') : View h' v size L := by
  obtain ⟨a, c, h1, h2, h3, h4⟩ := V
  exact ⟨a, c, h1, h2, h3, fun hn => by obtain ⟨b, off, cur, T, fz, h5, h6, h7⟩ := h4 hn; exact ⟨b, off, cur, T, fz, h5, k _ _ h6, h7⟩⟩

theorem View.nil (h : Hl) (size : Nat) : View h (.slice none 0 0) size [] := ⟨none, 0, rfl, Nat.le_refl _, (fun _ h => nomatch h), fun h => absurd rfl h⟩

theorem View.shape {h : Hl} {v : Value} {size : Nat} {L : List (List Value)} (V : View h v size L) : ∃ a c, v = .slice a L.length c ∧ L.length ≤ c := by
  obtain ⟨a, c, h1, h2, _⟩ := V; exact ⟨a, c, h1, h2⟩

/-- The elements lie where they should. -/
theorem View.open {h : Hl} {v : Value} {size : Nat} {L : List (List Value)} (V : View h v size L) (hn : 0 < L.length) : ∃ b off c, v = .slice (some ⟨b, off, none⟩) L.length c ∧ L.length ≤ c ∧ ∃ cur T fz, h b = some (.cells cur T fz) ∧
    ∀ (k : Nat) (x : List Value), L[k]? = some x → ∀ (j : Nat) (u : Value), x[j]? = some u → cur[off + k * size + j]? = some u := by
  obtain ⟨a, c, h1, h2, _, h4⟩ := V
  obtain ⟨b, off, cur, T, fz, rfl, h6, h7⟩ := h4 (by intro h; rw [h] at hn; simp at hn)
  exact ⟨b, off, c, h1, h2, cur, T, fz, h6, h7⟩

section
variable {P : Program} {w : World} {fn : Func} {R : Ending → World → Prop} {js : List J} {st : St} {F : Fm} {M : List Assn} {v : Value} {e size : Nat} {L : List (List Value)}

theorem View.cell {b off n c : Nat} {k j o : Nat} {x : List Value} {u : Value} (H : Own w F M) (V : View F.hl (.slice (some ⟨b, off, none⟩) n c) size L) (hk : L[k]? = some x) (hj : x[j]? = some u) (ho : o = off + k * size + j) : w.cell? ⟨b, o, none⟩ = some u := by
  obtain ⟨a, c', h1, h2, _, h4⟩ := V
  obtain ⟨b', off', cur, T, fz, h5, h6, h7⟩ := h4 (by intro h; rw [h] at hk; cases hk)
  injection h1 with h1 _ _
  rw [h5] at h1
  cases h1
  subst ho
  exact cell_of_blk (H.frame h6) (h7 k x hk j u hj)

theorem y_vload {b off n c : Nat} {k j o : Nat} {x : List Value} {u : Value} (H : Own w F M) (V : View F.hl (.slice (some ⟨b, off, none⟩) n c) size L) (hk : L[k]? = some x) (hj : x[j]? = some u) (ho : o = off + k * size + j)
    (hr : req st = .load ⟨b, o, none⟩) (kk : G P fn R js (nx P fn st (.v u)) w) : G P fn R js st w := s_load hr (View.cell H V hk hj ho) kk

/-- v[l:h] of a slice that is only read. -/
theorem y_vslice {K : Hl} {t : TypeId} {a : Option Addr} {n c : Nat} {lo hi : Option Value} {l h : Nat} (V : View K (.slice a n c) size L) (hlo : Bd lo 0 l) (hhi : Bd hi n h) (h1 : l ≤ h) (h2 : h ≤ L.length) (hs : elemSize P t = some size)
    (hr : req st = .slice t (.slice a n c) lo hi none) (kk : ∀ a' c', View K (.slice a' (h - l) c') size ((L.take h).drop l) → G P fn R js (nx P fn st (.v (.slice a' (h - l) c'))) w) : G P fn R js st w := by
  unfold elemSize at hs
  split at hs
  · rename_i e he
    obtain ⟨i0, hi0, hsz⟩ := Option.map_eq_some_iff.1 hs
    obtain ⟨a0, c0, g1, g2, g3, g4⟩ := V
    injection g1 with ga gn gc
    subst ga gn gc
    have hln : ((L.take h).drop l).length = h - l := by simp; omega
    refine s_val hr rfl (run_sliceSl he hi0 hlo hhi h1 (by omega)) (kk _ _ ⟨_, _, by rw [hln], by rw [hln]; omega, fun x hx => g3 x (List.mem_of_mem_take (List.mem_of_mem_drop hx)), fun hn => ?_⟩)
    have hlt : 0 < h - l := by rw [← hln]; exact List.length_pos_iff.2 hn
    obtain ⟨b, off, cur, T, fz, rfl, h6, h7⟩ := g4 (by intro h0; rw [h0] at h2; simp at h2; omega)
    refine ⟨b, off + l * size, cur, T, fz, ?_, h6, fun k x hk j u hj => ?_⟩
    · rw [if_neg (by omega), hsz]
      simp only [Option.map_some, Option.some.injEq]
      unfold Addr.add; split <;> simp_all
    · have hkl : l + k < h := by
        have := (List.getElem?_eq_some_iff.1 hk).1
        rw [hln] at this; omega
      have hk2 : L[l + k]? = some x := by
        rw [List.getElem?_drop, List.getElem?_take_of_lt hkl] at hk
        exact hk
      have := h7 (l + k) x hk2 j u hj
      rwa [Nat.add_mul, ← Nat.add_assoc off] at this
  · cases hs

theorem x_min {ts : Array TypeId} {t : TypeId} {k k' : IntKind} {x y : Int} (c : Int) (h : (if y < x then y else x) = c) (hr : req st = .bi .min ts t #[.int k x, .int k' y]) (kk : G P fn R js (nx P fn st (.v (.int k c))) w) : G P fn R js st w :=
  s_val hr rfl (by subst h; exact run_min_int2 _ ts t k k' x y) kk
theorem x_max {ts : Array TypeId} {t : TypeId} {k k' : IntKind} {x y : Int} (c : Int) (h : (if y > x then y else x) = c) (hr : req st = .bi .max ts t #[.int k x, .int k' y]) (kk : G P fn R js (nx P fn st (.v (.int k c))) w) : G P fn R js st w :=
  s_val hr rfl (by subst h; exact run_max_int2 _ ts t k k' x y) kk
theorem h_min {C : Cls} {ts : Array TypeId} {t : TypeId} {k k' : IntKind} {x y : Int} (c : Int) (h : (if y < x then y else x) = c) (hr : req st = .bi .min ts t #[.int k x, .int k' y]) (hm : Nat.beq st.m 0 = false) (kk : GQ P fn R js C (nxq P fn st (.v (.int k c)))) : GQ P fn R js C st :=
  q_val hr rfl hm (fun _ _ => by subst h; exact run_min_int2 _ ts t k k' x y) kk
theorem h_max {C : Cls} {ts : Array TypeId} {t : TypeId} {k k' : IntKind} {x y : Int} (c : Int) (h : (if y > x then y else x) = c) (hr : req st = .bi .max ts t #[.int k x, .int k' y]) (hm : Nat.beq st.m 0 = false) (kk : GQ P fn R js C (nxq P fn st (.v (.int k c)))) : GQ P fn R js C st :=
  q_val hr rfl hm (fun _ _ => by subst h; exact run_max_int2 _ ts t k k' x y) kk
end
end Go.XM
