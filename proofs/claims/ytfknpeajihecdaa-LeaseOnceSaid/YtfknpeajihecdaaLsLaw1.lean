/-
  A pool of leases, in plain data: what each call keeps true.
-/
import Derived.Test.YtfknpeajihecdaaLsPure
namespace Go.Ls

/-- The order of two entries. -/
def Before (x y : EntV) : Prop := x.addr < y.addr ∧ x.client ≠ y.client

structure LI (first many : Int) (l : List EntV) : Prop where
  sort : l.Pairwise Before
  rng : ∀ x ∈ l, first ≤ x.addr ∧ x.addr < first + many

section
variable {first many : Int} {l : List EntV}

theorem LI.nil : LI first many [] := ⟨.nil, fun _ h => nomatch h⟩

theorem LI.sub {l' : List EntV} (h : LI first many l) (hs : l'.Sublist l) : LI first many l' := ⟨h.sort.sublist hs, fun x hx => h.rng x (hs.subset hx)⟩

theorem sorted_ge : ∀ {l : List EntV} {first : Int}, l.Pairwise Before → (∀ x ∈ l, first ≤ x.addr) → ∀ (j : Nat) (x : EntV), l[j]? = some x → first + j ≤ x.addr
  | y :: l, first, _, hr, 0, x, hx => by simp at hx; subst hx; have := hr y (by simp); omega
  | y :: l, first, hp, hr, j + 1, x, hx => by
    have hp := List.pairwise_cons.1 hp
    have hy := hr y (by simp)
    have := sorted_ge (first := first + 1) hp.2 (fun z hz => by have := (hp.1 z hz).1; omega) j x (by simpa using hx)
    omega

theorem LI.len (h : LI first many l) (hm : 0 ≤ many) : (l.length : Int) ≤ many := by
  rcases Nat.eq_zero_or_pos l.length with h0 | h0
  · omega
  · have hx := List.getElem?_eq_getElem (show l.length - 1 < l.length by omega)
    have h1 := sorted_ge h.sort (fun x hx => (h.rng x hx).1) _ _ hx
    have h2 := (h.rng _ (List.mem_of_getElem? hx)).2
    omega

theorem LI.idx (h : LI first many l) {i j : Nat} {x y : EntV} (hx : l[i]? = some x) (hy : l[j]? = some y) (hij : i < j) : Before x y := by
  obtain ⟨h1, rfl⟩ := List.getElem?_eq_some_iff.1 hx
  obtain ⟨h2, rfl⟩ := List.getElem?_eq_some_iff.1 hy
  exact List.pairwise_iff_getElem.1 h.sort i j h1 h2 hij

theorem LI.client (h : LI first many l) {x y : EntV} (hx : x ∈ l) (hy : y ∈ l) (e : x.client = y.client) : x = y := by
  obtain ⟨i, hi⟩ := List.mem_iff_getElem?.1 hx
  obtain ⟨j, hj⟩ := List.mem_iff_getElem?.1 hy
  rcases Nat.lt_trichotomy i j with h1 | h1 | h1
  · exact absurd e (h.idx hi hj h1).2
  · subst h1; rw [hi] at hj; cases hj; rfl
  · exact absurd e.symm (h.idx hj hi h1).2

theorem LI.addr (h : LI first many l) {x y : EntV} (hx : x ∈ l) (hy : y ∈ l) (e : x.addr = y.addr) : x = y := by
  obtain ⟨i, hi⟩ := List.mem_iff_getElem?.1 hx
  obtain ⟨j, hj⟩ := List.mem_iff_getElem?.1 hy
  rcases Nat.lt_trichotomy i j with h1 | h1 | h1
  · have := (h.idx hi hj h1).1; omega
  · subst h1; rw [hi] at hj; cases hj; rfl
  · have := (h.idx hj hi h1).1; omega

theorem LI.mod (h : LI first many l) {f : EntV → EntV} (hf : ∀ x, (f x).addr = x.addr ∧ (f x).client = x.client) (i : Nat) : LI first many (l.modify i f) := by
  have hg : ∀ (j : Nat) (x : EntV), (l.modify i f)[j]? = some x → ∃ y, l[j]? = some y ∧ x.addr = y.addr ∧ x.client = y.client := by
    intro j x hx
    rw [List.getElem?_modify] at hx
    obtain ⟨y, hy, rfl⟩ := Option.map_eq_some_iff.1 hx
    refine ⟨y, hy, ?_⟩
    split
    · exact hf y
    · exact ⟨rfl, rfl⟩
  refine ⟨List.pairwise_iff_getElem.2 fun a b ha hb hab => ?_, fun x hx => ?_⟩
  · obtain ⟨y, hy, e1, e2⟩ := hg a _ (List.getElem?_eq_getElem ha)
    obtain ⟨z, hz, e3, e4⟩ := hg b _ (List.getElem?_eq_getElem hb)
    have := h.idx hy hz hab
    exact ⟨by rw [e1, e3]; exact this.1, by rw [e2, e4]; exact this.2⟩
  · obtain ⟨j, hj⟩ := List.mem_iff_getElem?.1 hx
    obtain ⟨y, hy, e1, e2⟩ := hg j x hj
    rw [e1]
    exact h.rng y (List.mem_of_getElem? hy)

theorem gap_spec (first : Int) : ∀ (l : List EntV) (k : Nat), k ≤ gapFrom first k l ∧ gapFrom first k l ≤ k + l.length ∧ (∀ j, k + j < gapFrom first k l → ∃ x, l[j]? = some x ∧ x.addr = (first + (k + j : Nat)) % 4294967296) ∧
    (∀ x, l[gapFrom first k l - k]? = some x → x.addr ≠ (first + (gapFrom first k l : Nat)) % 4294967296)
  | [], k => by
    refine ⟨Nat.le_refl _, Nat.le_refl _, fun j hj => ?_, fun x hx => by simp at hx⟩
    unfold gapFrom at hj; omega
  | y :: l, k => by
    unfold gapFrom
    split
    · rename_i h
      obtain ⟨h1, h2, h3, h4⟩ := gap_spec first l (k + 1)
      refine ⟨by omega, by simp; omega, fun j hj => ?_, fun x hx => ?_⟩
      · cases j with
        | zero => exact ⟨y, rfl, by simpa using h⟩
        | succ j =>
          obtain ⟨x, hx, hxa⟩ := h3 j (by omega)
          exact ⟨x, by simpa using hx, by rw [hxa, show k + (j + 1) = k + 1 + j by omega]⟩
      · have e : gapFrom first (k + 1) l - k = (gapFrom first (k + 1) l - (k + 1)) + 1 := by omega
        rw [e, List.getElem?_cons_succ] at hx
        exact h4 x hx
    · rename_i h
      refine ⟨Nat.le_refl _, by omega, fun j hj => by omega, fun x hx => ?_⟩
      rw [Nat.sub_self] at hx
      simp at hx; subst hx; exact h

theorem LI.insert (h : LI first many l) {c t : Int} {o : Bool} (hf0 : 0 ≤ first) (hfm : first + many ≤ 4294967295) (hk : ((gapFrom first 0 l : Nat) : Int) < many) (hc : ∀ x ∈ l, x.client ≠ c) :
    LI first many (insertAt l (gapFrom first 0 l) ⟨(first + gapFrom first 0 l) % 4294967296, c, o, t⟩) := by
  obtain ⟨_, h2, h3, h4⟩ := gap_spec first l 0
  generalize gapFrom first 0 l = k at h2 h3 h4 hk
  have e : (first + (k : Int)) % 4294967296 = first + k := Int.emod_eq_of_lt (by omega) (by omega)
  rw [e]
  have hpl := h.sort
  rw [← List.take_append_drop k l] at hpl
  obtain ⟨p1, p2, p3⟩ := List.pairwise_append.1 hpl
  have htk : ∀ x ∈ l.take k, x.addr < first + k := by
    intro x hx
    obtain ⟨j, hj⟩ := List.mem_iff_getElem?.1 hx
    rw [List.getElem?_take] at hj
    split at hj
    · rename_i hjk
      obtain ⟨y, hy, hya⟩ := h3 j (by omega)
      rw [hj] at hy; cases hy
      rw [hya, Nat.zero_add, Int.emod_eq_of_lt (by omega) (by omega)]
      omega
    · cases hj
  have hdk : ∀ x ∈ l.drop k, first + k < x.addr := by
    intro x hx
    obtain ⟨j, hj⟩ := List.mem_iff_getElem?.1 hx
    rw [List.getElem?_drop] at hj
    have hge := sorted_ge h.sort (fun x hx => (h.rng x hx).1) _ _ hj
    cases j with
    | zero =>
      have := h4 x (by rw [Nat.sub_zero]; exact hj)
      rw [e] at this
      simp at hge
      omega
    | succ j => omega
  refine ⟨List.pairwise_append.2 ⟨p1, List.pairwise_cons.2 ⟨fun b hb => ⟨hdk b hb, fun e => hc b (List.mem_of_mem_drop hb) e.symm⟩, p2⟩, fun a ha b hb => ?_⟩, fun x hx => ?_⟩
  · rcases List.mem_cons.1 hb with rfl | hb
    · exact ⟨htk a ha, hc a (List.mem_of_mem_take ha)⟩
    · exact p3 a ha b hb
  · unfold insertAt at hx
    rcases List.mem_append.1 hx with hx | hx
    · exact h.rng x (List.mem_of_mem_take hx)
    · rcases List.mem_cons.1 hx with rfl | hx
      · show first ≤ first + k ∧ first + k < first + many; omega
      · exact h.rng x (List.mem_of_mem_drop hx)

theorem LI.live (h : LI first many l) (n : Int) : LI first many (liveL n l) := h.sub List.filter_sublist
theorem mem_live {n : Int} {x : EntV} : x ∈ liveL n l ↔ x ∈ l ∧ n < x.til := by
  unfold liveL overB
  simp [List.mem_filter]
end

/-- What holds of a pool at a time. -/
structure PS (first many time : Int) (p : PoolV) (t : Int) : Prop where
  ef : p.first = first
  em : p.many = many
  et : p.time = time
  now : p.now ≤ t
  li : LI first many p.all

theorem PS.mono {first many time t t' : Int} {p : PoolV} (h : PS first many time p t) (ht : t ≤ t') : PS first many time p t' := ⟨h.ef, h.em, h.et, Int.le_trans h.now ht, h.li⟩

section
variable {first many time t c : Int} {p : PoolV}

theorem begin_zero (h : PS first many time p t) (hc0 : 0 ≤ c) (hc1 : c ≤ 281474976710655) (ht0 : 0 ≤ t) (ht1 : t ≤ 1000000000) : beginV p c t = 0 := by
  have := h.now
  unfold beginV; rw [if_neg (by omega), if_neg (by omega)]

theorem PS.pass (h : PS first many time p t) : PS first many time (passV p t) t := ⟨h.ef, h.em, h.et, Int.le_refl _, h.li.live t⟩

theorem isOf_iff {x : EntV} : isOf c t x = true ↔ x.client = c ∧ t < x.til := by unfold isOf; simp

theorem find_some {l : List EntV} {x : EntV} (hx : l[l.findIdx (isOf c t)]? = some x) : x ∈ l ∧ x.client = c ∧ t < x.til := by
  obtain ⟨h1, rfl⟩ := List.getElem?_eq_some_iff.1 hx
  have := List.findIdx_getElem (p := isOf c t) (xs := l) (w := h1)
  exact ⟨List.getElem_mem h1, isOf_iff.1 this⟩

theorem find_none {l : List EntV} (hx : l[l.findIdx (isOf c t)]? = none) : ∀ x ∈ l, ¬ (x.client = c ∧ t < x.til) := by
  intro x hxm hh
  have h1 := List.getElem?_eq_none_iff.1 hx
  have : l.findIdx (isOf c t) < l.length := List.findIdx_lt_length.2 ⟨x, hxm, isOf_iff.2 hh⟩
  omega

/-- Ask. -/
theorem ask_PS (h : PS first many time p t) (hc0 : 0 ≤ c) (hc1 : c ≤ 281474976710655) (ht0 : 0 ≤ t) (ht1 : t ≤ 1000000000) (hf0 : 0 ≤ first) (hfm : first + many ≤ 4294967295) :
    PS first many time (askV p c t).2 t ∧ ((askV p c t).1.2 = 0 → first ≤ (askV p c t).1.1 ∧ (askV p c t).1.1 < first + many) ∧ ((askV p c t).1.2 = 0 ∨ (askV p c t).1 = (0, 5)) := by
  have hb := begin_zero h hc0 hc1 ht0 ht1
  unfold askV
  rw [if_neg (by omega)]
  split
  · rename_i x hx
    have hm := h.li.mod (f := fun x => if x.off then { x with til := t + 60 } else x) (fun x => by split <;> exact ⟨rfl, rfl⟩) (p.all.findIdx (isOf c t))
    have h2 : PS first many time { p with all := p.all.modify (p.all.findIdx (isOf c t)) fun x => if x.off then { x with til := t + 60 } else x } t := ⟨h.ef, h.em, h.et, h.now, hm⟩
    exact ⟨h2.pass, fun _ => h.li.rng x (List.mem_of_getElem? hx), .inl rfl⟩
  · rename_i hx
    obtain ⟨e1, e2, e3, e4, e5⟩ := h
    subst e1 e2 e3
    split
    · exact ⟨⟨rfl, rfl, rfl, e4, e5⟩, fun h => by simp at h, .inr rfl⟩
    · rename_i hk
      have hk : ((gapFrom p.first 0 (liveL t p.all) : Nat) : Int) < p.many := by omega
      have hi := (e5.live t).insert (c := c) (t := t + 60) (o := true) hf0 hfm hk (fun x hx2 => fun e => find_none hx x (mem_live.1 hx2).1 ⟨e, (mem_live.1 hx2).2⟩)
      refine ⟨⟨rfl, rfl, rfl, Int.le_refl _, hi⟩, fun _ => ?_, .inl rfl⟩
      have e : (p.first + ((gapFrom p.first 0 (liveL t p.all) : Nat) : Int)) % 4294967296 = p.first + gapFrom p.first 0 (liveL t p.all) := Int.emod_eq_of_lt (by omega) (by omega)
      show p.first ≤ (p.first + _) % 4294967296 ∧ (p.first + _) % 4294967296 < p.first + p.many
      rw [e]; omega

theorem take_PS (h : PS first many time p t) (a : Int) : PS first many time (takeV p c a t).2 t := by
  unfold takeV
  split
  · exact h
  · have hm := h.li.mod (f := fun x => { x with off := false, til := t + p.time }) (fun x => ⟨rfl, rfl⟩) (p.all.findIdx (isOf c t))
    have h2 : PS first many time { p with all := p.all.modify (p.all.findIdx (isOf c t)) fun x => { x with off := false, til := t + p.time } } t := ⟨h.ef, h.em, h.et, h.now, hm⟩
    exact h2.pass

theorem give_PS (h : PS first many time p t) (a : Int) : PS first many time (giveV p c a t).2 t := by
  unfold giveV
  split
  · exact h
  · have h2 : PS first many time { p with all := p.all.eraseIdx (p.all.findIdx (isOf c t)) } t := ⟨h.ef, h.em, h.et, h.now, h.li.sub (List.eraseIdx_sublist _ _)⟩
    exact h2.pass
end
end Go.Ls
