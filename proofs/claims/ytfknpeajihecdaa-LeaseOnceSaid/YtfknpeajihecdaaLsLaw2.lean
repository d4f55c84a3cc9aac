/-
  A pool of leases, in plain data: the laws' runs.
-/
import Derived.Test.YtfknpeajihecdaaLsLaw1
namespace Go.Ls

/-! LeaseAll -/
def allE (c0 : Int) (i : Nat) : List EntV := (List.range i).map fun (j : Nat) => ⟨4096 + (j : Int), c0 + (j : Int), true, 60⟩
def poolAll (c0 : Int) (many : Nat) (i : Nat) : PoolV := ⟨4096, many, 100, allE c0 i, 0⟩

theorem allE_len (c0 : Int) (i : Nat) : (allE c0 i).length = i := by simp [allE]
theorem allE_get {c0 : Int} {i j : Nat} {x : EntV} (h : (allE c0 i)[j]? = some x) : j < i ∧ x = ⟨4096 + (j : Int), c0 + j, true, 60⟩ := by
  unfold allE at h
  rw [List.getElem?_map] at h
  obtain ⟨y, hy, rfl⟩ := Option.map_eq_some_iff.1 h
  have h1 := (List.getElem?_eq_some_iff.1 hy).1
  have h2 := (List.getElem?_eq_some_iff.1 hy).2
  simp at h1 h2
  subst h2
  exact ⟨h1, rfl⟩

theorem gap_all {first : Int} {l : List EntV} (h : ∀ j x, l[j]? = some x → x.addr = (first + (j : Nat)) % 4294967296) : gapFrom first 0 l = l.length := by
  obtain ⟨_, h2, _, h4⟩ := gap_spec first l 0
  rcases Nat.lt_or_ge (gapFrom first 0 l) l.length with h5 | h5
  · have hx := List.getElem?_eq_getElem h5
    exact absurd (h _ _ hx) (h4 _ (by rw [Nat.sub_zero]; exact hx))
  · omega

theorem liveL_all {n : Int} {l : List EntV} (h : ∀ x ∈ l, n < x.til) : liveL n l = l := by
  unfold liveL
  refine List.filter_eq_self.2 fun x hx => ?_
  have := h x hx
  unfold overB
  simp; omega

theorem find_nobody {c n : Int} {l : List EntV} (h : ∀ x ∈ l, ¬ (x.client = c ∧ n < x.til)) : l[l.findIdx (isOf c n)]? = none := by
  refine List.getElem?_eq_none_iff.2 ?_
  rcases Nat.lt_or_ge (l.findIdx (isOf c n)) l.length with h1 | h1
  · have h2 := List.findIdx_getElem (p := isOf c n) (xs := l) (w := h1)
    exact absurd (isOf_iff.1 h2) (h _ (List.getElem_mem h1))
  · exact h1

theorem all_ask {c0 : Int} {many i : Nat} (h0 : 0 ≤ c0) (h1 : c0 ≤ 1000) (hm : many ≤ 32) (hi : i ≤ many) :
    askV (poolAll c0 many i) (c0 + i) 0 = if i < many then ((4096 + (i : Int), 0), poolAll c0 many (i + 1)) else ((0, 5), poolAll c0 many i) := by
  have hb : beginV (poolAll c0 many i) (c0 + i) 0 = 0 := by
    unfold beginV poolAll
    rw [if_neg (by omega), if_neg (by simp)]
  have hn : (allE c0 i)[(allE c0 i).findIdx (isOf (c0 + i) 0)]? = none := find_nobody fun x hx => by
    obtain ⟨j, hj⟩ := List.mem_iff_getElem?.1 hx
    obtain ⟨hji, rfl⟩ := allE_get hj
    rintro ⟨h, _⟩
    have h : c0 + (j : Int) = c0 + i := h
    omega
  have hl : liveL 0 (allE c0 i) = allE c0 i := liveL_all fun x hx => by
    obtain ⟨j, hj⟩ := List.mem_iff_getElem?.1 hx
    obtain ⟨_, rfl⟩ := allE_get hj
    show (0 : Int) < 60; omega
  have hg : gapFrom 4096 0 (allE c0 i) = i := by
    rw [gap_all, allE_len]
    intro j x hx
    obtain ⟨hji, rfl⟩ := allE_get hx
    show 4096 + (j : Int) = _
    rw [Int.emod_eq_of_lt (by omega) (by omega)]
  unfold askV
  rw [if_neg (by omega)]
  simp only [poolAll] at hn ⊢
  rw [hn]
  simp only [hl, hg]
  by_cases him : i < many
  · rw [if_pos him, if_neg (by omega)]
    have e : ((4096 : Int) + i) % 4294967296 = 4096 + i := Int.emod_eq_of_lt (by omega) (by omega)
    rw [e]
    have e2 : insertAt (allE c0 i) i ⟨4096 + (i : Int), c0 + i, true, 0 + 60⟩ = allE c0 (i + 1) := by
      unfold insertAt
      rw [List.take_of_length_le (by rw [allE_len]; exact Nat.le_refl _), List.drop_of_length_le (by rw [allE_len]; exact Nat.le_refl _)]
      unfold allE
      rw [List.range_succ, List.map_append]
      rfl
    rw [e2]
  · rw [if_neg him, if_pos (by omega)]

/-! LeaseFree -/
theorem free_ask (time : Int) : askV ⟨7, 1, time, [], 0⟩ 1 10 = ((7, 0), ⟨7, 1, time, [⟨7, 1, true, 70⟩], 10⟩) := rfl

theorem free_take {time : Int} (h : 1 ≤ time) : takeV ⟨7, 1, time, [⟨7, 1, true, 70⟩], 10⟩ 1 7 10 = ((10 + time, 0), ⟨7, 1, time, [⟨7, 1, false, 10 + time⟩], 10⟩) := by
  have e1 : ownV ⟨7, 1, time, [⟨7, 1, true, 70⟩], 10⟩ 1 7 10 = (0, 0) := rfl
  have e2 : ([⟨7, 1, true, 70⟩] : List EntV).findIdx (isOf 1 10) = 0 := rfl
  have e3 : liveL 10 [⟨7, 1, false, 10 + time⟩] = [⟨7, 1, false, 10 + time⟩] := liveL_all (by simp; omega)
  unfold takeV
  rw [e1, if_neg (by simp)]
  simp only [e2, passV, List.modify_zero_cons, e3]

theorem free_full {time e n : Int} {o : Bool} (h0 : 10 ≤ n) (h1 : n < e) (h2 : n ≤ 1000000000) : askV ⟨7, 1, time, [⟨7, 1, o, e⟩], 10⟩ 2 n = ((0, 5), ⟨7, 1, time, [⟨7, 1, o, e⟩], 10⟩) := by
  have hb : beginV ⟨7, 1, time, [⟨7, 1, o, e⟩], 10⟩ 2 n = 0 := by unfold beginV; rw [if_neg (by omega), if_neg (by show ¬ n < 10; omega)]
  have hn : ([⟨7, 1, o, e⟩] : List EntV)[([⟨7, 1, o, e⟩] : List EntV).findIdx (isOf 2 n)]? = none := find_nobody (by simp)
  have hl : liveL n [⟨7, 1, o, e⟩] = [⟨7, 1, o, e⟩] := liveL_all (by simp; omega)
  unfold askV
  rw [if_neg (by omega)]
  simp only [hn, hl]
  rfl

theorem free_next {time e : Int} {o : Bool} (h0 : 10 ≤ e) (h2 : e ≤ 1000000000) : (askV ⟨7, 1, time, [⟨7, 1, o, e⟩], 10⟩ 2 e).1 = (7, 0) := by
  have hb : beginV ⟨7, 1, time, [⟨7, 1, o, e⟩], 10⟩ 2 e = 0 := by unfold beginV; rw [if_neg (by omega), if_neg (by show ¬ e < 10; omega)]
  have hn : ([⟨7, 1, o, e⟩] : List EntV)[([⟨7, 1, o, e⟩] : List EntV).findIdx (isOf 2 e)]? = none := find_nobody (by simp)
  have hl : liveL e [⟨7, 1, o, e⟩] = [] := by unfold liveL overB; simp
  unfold askV
  rw [if_neg (by omega)]
  simp only [hn, hl]
  rfl

/-! LeaseKeeps -/
def Holds (p : PoolV) (c e : Int) : Prop := ∃ x ∈ p.all, x.addr = 1024 ∧ x.client = c ∧ x.til = e

section
variable {time t c c0 e : Int} {p : PoolV}

theorem mem_modify {l : List EntV} {i : Nat} {f : EntV → EntV} {x y : EntV} (hx : x ∈ l) (hy : l[i]? = some y) (hne : x ≠ y) : x ∈ l.modify i f := by
  obtain ⟨j, hj⟩ := List.mem_iff_getElem?.1 hx
  refine List.mem_iff_getElem?.2 ⟨j, ?_⟩
  have hij : ¬ i = j := fun e => by subst e; rw [hj] at hy; cases hy; exact hne rfl
  rw [List.getElem?_modify, hj]
  simp [hij]

theorem keep_ask (h : PS 1024 4 time p t) (hk : Holds p c0 e) (hne : c ≠ c0) (hte : t < e) (hc0 : 0 ≤ c) (hc1 : c ≤ 281474976710655) (ht0 : 0 ≤ t) (ht1 : t ≤ 1000000000) :
    Holds (askV p c t).2 c0 e ∧ ((askV p c t).1.2 = 0 → (askV p c t).1.1 ≠ 1024) := by
  have hb := begin_zero h hc0 hc1 ht0 ht1
  obtain ⟨x, hx, x1, x2, x3⟩ := hk
  unfold askV
  rw [if_neg (by omega)]
  split
  · rename_i y hy
    have hym := find_some hy
    have hxy : x ≠ y := fun e => by subst e; exact hne (hym.2.1.symm.trans x2)
    refine ⟨⟨x, mem_live.2 ⟨mem_modify hx hy hxy, by omega⟩, x1, x2, x3⟩, fun _ ha => hxy (h.li.addr hx hym.1 (by rw [x1]; exact ha.symm))⟩
  · rename_i hy
    have hxl : x ∈ liveL t p.all := mem_live.2 ⟨hx, by omega⟩
    obtain ⟨e1, e2, e3, e4, e5⟩ := h
    split
    · exact ⟨⟨x, hx, x1, x2, x3⟩, fun h => by simp at h⟩
    · rename_i hk
      refine ⟨⟨x, ?_, x1, x2, x3⟩, fun _ => ?_⟩
      · show x ∈ insertAt _ _ _
        unfold insertAt
        have := hxl
        rw [← List.take_append_drop (gapFrom p.first 0 (liveL t p.all)) (liveL t p.all)] at this
        rcases List.mem_append.1 this with h | h
        · exact List.mem_append_left _ h
        · exact List.mem_append_right _ (List.mem_cons_of_mem _ h)
      · show (p.first + _) % 4294967296 ≠ 1024
        rw [e1] at hk ⊢
        rw [e2] at hk
        obtain ⟨_, _, h3, h4⟩ := gap_spec 1024 (liveL t p.all) 0
        have hL := e5.live t
        -- the entry with the first address is the first one
        obtain ⟨j, hj⟩ := List.mem_iff_getElem?.1 hxl
        have hj0 : j = 0 := by
          have := sorted_ge hL.sort (fun x hx => (hL.rng x hx).1) j x hj
          omega
        subst hj0
        rcases Nat.eq_zero_or_pos (gapFrom 1024 0 (liveL t p.all)) with hz | hz
        · rw [hz] at h4
          exact absurd (by rw [x1]; rfl) (h4 x hj)
        · rw [Int.emod_eq_of_lt (by omega) (by omega)]
          omega

theorem keep_deny (h : PS 1024 4 time p t) (hk : Holds p c0 e) (hne : c ≠ c0) : (ownV p c 1024 t).2 ≠ 0 := by
  obtain ⟨x, hx, x1, x2, x3⟩ := hk
  unfold ownV
  split
  · rename_i hb; exact hb
  · split
    · simp
    · split
      · rename_i y hy
        have hym := find_some hy
        split
        · rename_i hya
          have := h.li.addr hx hym.1 (by rw [x1, hya])
          subst this
          exact absurd (hym.2.1.symm.trans x2) hne
        · simp
      · simp

theorem keep_take (h : PS 1024 4 time p t) (hk : Holds p c0 e) (hne : c ≠ c0) : (takeV p c 1024 t).2 = p := by
  unfold takeV; rw [if_pos (keep_deny h hk hne)]
theorem keep_give (h : PS 1024 4 time p t) (hk : Holds p c0 e) (hne : c ≠ c0) : (giveV p c 1024 t).2 = p := by
  unfold giveV; rw [if_pos (keep_deny h hk hne)]

theorem find_own (h : PS 1024 4 time p t) {x : EntV} (hx : x ∈ p.all) (x2 : x.client = c0) (ht : t < x.til) : p.all[p.all.findIdx (isOf c0 t)]? = some x := by
  cases hy : p.all[p.all.findIdx (isOf c0 t)]? with
  | none => exact absurd ⟨x2, ht⟩ (find_none hy x hx)
  | some y =>
    have hym := find_some hy
    rw [h.li.client hx hym.1 (x2.trans hym.2.1.symm)]

theorem keep_renew (h : PS 1024 4 time p t) (hk : Holds p c0 e) (hte : t < e) (htm : 1 ≤ time) (hc0 : 0 ≤ c0) (hc1 : c0 ≤ 281474976710655) (ht0 : 0 ≤ t) (ht1 : t ≤ 1000000000) :
    (takeV p c0 1024 t).1 = (t + time, 0) ∧ Holds (takeV p c0 1024 t).2 c0 (t + time) := by
  have hb := begin_zero h hc0 hc1 ht0 ht1
  obtain ⟨x, hx, x1, x2, x3⟩ := hk
  have hf := find_own h hx x2 (by omega)
  have ho : ownV p c0 1024 t = ((p.all.findIdx (isOf c0 t) : Int), 0) := by
    unfold ownV
    rw [if_neg (by omega), if_neg (by rw [h.ef, h.em]; decide), hf]
    simp [x1]
  unfold takeV
  rw [ho, if_neg (by simp)]
  refine ⟨by rw [h.et], { x with off := false, til := t + time }, mem_live.2 ⟨List.mem_iff_getElem?.2 ⟨p.all.findIdx (isOf c0 t), ?_⟩, by show t < t + time; omega⟩, x1, x2, rfl⟩
  rw [List.getElem?_modify, hf, h.et]
  simp

theorem keep_same (h : PS 1024 4 time p t) (hk : Holds p c0 e) (hte : t < e) (hc0 : 0 ≤ c0) (hc1 : c0 ≤ 281474976710655) (ht0 : 0 ≤ t) (ht1 : t ≤ 1000000000) : (askV p c0 t).1 = (1024, 0) := by
  have hb := begin_zero h hc0 hc1 ht0 ht1
  obtain ⟨x, hx, x1, x2, x3⟩ := hk
  have hf := find_own h hx x2 (by omega)
  unfold askV
  rw [if_neg (by omega), hf]
  simp [x1]

theorem keep_first (hc0 : 0 ≤ c0) (hc1 : c0 ≤ 1000) : (askV ⟨1024, 4, time, [], 0⟩ c0 0).1 = (1024, 0) ∧ Holds (askV ⟨1024, 4, time, [], 0⟩ c0 0).2 c0 60 := by
  have hb : beginV ⟨1024, 4, time, [], 0⟩ c0 0 = 0 := by unfold beginV; rw [if_neg (by omega), if_neg (by simp)]
  have e : askV ⟨1024, 4, time, [], 0⟩ c0 0 = ((1024, 0), ⟨1024, 4, time, [⟨1024, c0, true, 60⟩], 0⟩) := by
    unfold askV
    rw [if_neg (by omega)]
    rfl
  rw [e]
  exact ⟨rfl, _, List.mem_singleton.2 rfl, rfl, rfl, rfl⟩
end
end Go.Ls
