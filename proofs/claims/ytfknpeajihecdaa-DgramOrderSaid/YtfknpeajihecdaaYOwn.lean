/-
  Memory in pieces: what a function owns, piece by piece, beside a frame that stays as it is.
-/
import Derived.Test.YtfknpeajihecdaaXMrows
import Derived.Test.YtfknpeajihecdaaXMtail
namespace Go.XM
open Go Go.RowKit

/-- A piece of a heap. -/
abbrev Hl := Nat → Option Obj
abbrev Assn := Hl → Prop

def hnil : Hl := fun _ => none
def one (b : Nat) (o : Obj) : Hl := fun k => if k = b then some o else none
def hu (a b : Hl) : Hl := fun k => match a k with
  | some o => some o
  | none => b k
def hdj (a b : Hl) : Prop := ∀ k, a k = none ∨ b k = none
def hle (a b : Hl) : Prop := ∀ k o, a k = some o → b k = some o

/-- The frame: a piece that stays, and the world that the whole began with. -/
structure Fm where
  hl : Hl
  ref : World

def Same (r w : World) : Prop := w.os = r.os ∧ w.tape = r.tape ∧ w.output = r.output ∧ r.heap.size ≤ w.heap.size

def star : List Assn → Assn
  | [] => fun h => h = hnil
  | A :: L => fun h => ∃ a b, A a ∧ star L b ∧ hdj a b ∧ h = hu a b

def inW (h : Hl) (w : World) : Prop := ∀ k o, h k = some o → w.heap[k]? = some o

structure Own (w : World) (F : Fm) (L : List Assn) : Prop where
  same : Same F.ref w
  fin : inW F.hl w
  body : ∃ h, star L h ∧ hdj h F.hl ∧ inW h w

theorem hdj.symm {a b : Hl} (h : hdj a b) : hdj b a := fun k => (h k).symm
theorem hu_none {a b : Hl} {k : Nat} : hu a b k = none ↔ a k = none ∧ b k = none := by
  unfold hu; cases a k <;> simp
theorem hu_nil (b : Hl) : hu hnil b = b := rfl
theorem hu_nil' (b : Hl) : hu b hnil = b := by funext k; unfold hu hnil; cases b k <;> rfl
theorem hdj_nil (b : Hl) : hdj hnil b := fun _ => .inl rfl
theorem hdj_hu {a b c : Hl} : hdj a (hu b c) ↔ hdj a b ∧ hdj a c := by
  refine ⟨fun h => ⟨fun k => ?_, fun k => ?_⟩, fun h k => ?_⟩
  · rcases h k with h | h; exact .inl h; exact .inr (hu_none.1 h).1
  · rcases h k with h | h; exact .inl h; exact .inr (hu_none.1 h).2
  · rcases h.1 k with h1 | h1
    · exact .inl h1
    · rcases h.2 k with h2 | h2
      · exact .inl h2
      · exact .inr (hu_none.2 ⟨h1, h2⟩)
theorem hu_hdj {a b c : Hl} : hdj (hu a b) c ↔ hdj a c ∧ hdj b c :=
  ⟨fun h => by have := hdj_hu.1 h.symm; exact ⟨this.1.symm, this.2.symm⟩, fun h => (hdj_hu.2 ⟨h.1.symm, h.2.symm⟩).symm⟩
theorem hu_assoc (a b c : Hl) : hu (hu a b) c = hu a (hu b c) := by
  funext k; unfold hu; cases a k <;> cases b k <;> rfl
theorem hu_comm {a b : Hl} (h : hdj a b) : hu a b = hu b a := by
  funext k; unfold hu
  rcases h k with h1 | h1 <;> rw [h1]
  · cases b k <;> rfl
  · cases a k <;> rfl
theorem hu_left {a b : Hl} : hle a (hu a b) := fun k o h => by unfold hu; rw [h]
theorem hu_right {a b : Hl} (h : hdj a b) : hle b (hu a b) := by rw [hu_comm h]; exact hu_left
theorem inW_hu {a b : Hl} {w : World} : inW a w → inW b w → inW (hu a b) w := by
  intro h1 h2 k o h
  unfold hu at h
  split at h
  · rename_i o' h3; cases h; exact h1 k _ h3
  · exact h2 k o h
theorem inW.le {a b : Hl} {w : World} (h : inW b w) (k : hle a b) : inW a w := fun i o hi => h i o (k i o hi)
theorem inW.lt {a : Hl} {w : World} (h : inW a w) {k : Nat} (hk : a k ≠ none) : k < w.heap.size := by
  cases ha : a k with
  | none => exact absurd ha hk
  | some o => exact lt_of_blk (h k o ha)
theorem hle.hdj {a b c : Hl} (h : hdj b c) (k : hle a b) : hdj a c := fun i => by
  rcases h i with h1 | h1
  · cases ha : a i with
    | none => exact .inl rfl
    | some o => have := k i o ha; rw [h1] at this; cases this
  · exact .inr h1

theorem star_append : ∀ {L M : List Assn} {h : Hl}, star (L ++ M) h ↔ ∃ a b, star L a ∧ star M b ∧ hdj a b ∧ h = hu a b
  | [], M, h => ⟨fun hs => ⟨hnil, h, rfl, hs, hdj_nil _, rfl⟩, fun ⟨a, b, ha, hb, _, he⟩ => by cases ha; rw [he, hu_nil]; exact hb⟩
  | A :: L, M, h => by
    constructor
    · rintro ⟨a, b, ha, hb, hd, rfl⟩
      obtain ⟨c, d, hc, hd', hcd, rfl⟩ := star_append.1 hb
      have := hdj_hu.1 hd
      exact ⟨hu a c, d, ⟨a, c, ha, hc, this.1, rfl⟩, hd', hu_hdj.2 ⟨this.2, hcd⟩, (hu_assoc _ _ _).symm⟩
    · rintro ⟨x, d, ⟨a, c, ha, hc, hac, rfl⟩, hd, hxd, rfl⟩
      have := hu_hdj.1 hxd
      exact ⟨a, hu c d, ha, star_append.2 ⟨c, d, hc, hd, this.2, rfl⟩, hdj_hu.2 ⟨hac, this.1⟩, hu_assoc _ _ _⟩

theorem star_perm {L M : List Assn} (p : L.Perm M) : ∀ {h : Hl}, star L h → star M h := by
  induction p with
  | nil => exact fun h => h
  | cons A _ ih => rintro h ⟨a, b, ha, hb, hd, rfl⟩; exact ⟨a, b, ha, ih hb, hd, rfl⟩
  | swap A B L =>
    rintro h ⟨a, b, ha, ⟨c, d, hc, hd, hcd, rfl⟩, hab, rfl⟩
    have := hdj_hu.1 hab
    refine ⟨c, hu a d, hc, ⟨a, d, ha, hd, this.2, rfl⟩, hdj_hu.2 ⟨this.1.symm, hcd⟩, ?_⟩
    rw [← hu_assoc, ← hu_assoc, hu_comm this.1]
  | trans _ _ ih1 ih2 => exact fun h => ih2 (ih1 h)

theorem star_single {A : Assn} {h : Hl} : star [A] h ↔ A h :=
  ⟨fun ⟨a, b, ha, hb, _, he⟩ => by cases hb; rw [he, hu_nil']; exact ha, fun ha => ⟨h, hnil, ha, rfl, fun _ => .inr rfl, (hu_nil' h).symm⟩⟩

/-! Pieces. -/
def ptO (b : Nat) (o : Obj) : Assn := fun h => h = one b o
def pt (b : Nat) (c : Array Value) (T : TypeId) : Assn := ptO b (.cells c T (0, 0))
def ex {α : Type} (A : α → Assn) : Assn := fun h => ∃ x, A x h
def all (L : List Assn) : Assn := star L
def pu (p : Prop) : Assn := fun h => p ∧ h = hnil
def Each {α : Type} (f : α → Assn) (l : List α) : Assn := star (l.map f)

section
variable {w : World} {F : Fm} {L M : List Assn} {A B : Assn}

theorem Own.perm (H : Own w F L) (p : L.Perm M) : Own w F M := by
  obtain ⟨h, hs, h1, h2⟩ := H.body
  exact ⟨H.same, H.fin, h, star_perm p hs, h1, h2⟩

theorem Own.mono1 (H : Own w F (A :: L)) (k : ∀ h, A h → B h) : Own w F (B :: L) := by
  obtain ⟨h, ⟨a, b, ha, hb, hd, e⟩, h1, h2⟩ := H.body
  exact ⟨H.same, H.fin, h, ⟨a, b, k a ha, hb, hd, e⟩, h1, h2⟩

theorem Own.drop1 (H : Own w F (A :: L)) : Own w F L := by
  obtain ⟨h, ⟨a, b, ha, hb, hd, rfl⟩, h1, h2⟩ := H.body
  exact ⟨H.same, H.fin, b, hb, (hu_hdj.1 h1).2, h2.le (hu_right hd)⟩

theorem Own.only1 {M : List Assn} (H : Own w F (A :: M)) : Own w F [A] := by
  obtain ⟨h, ⟨a, b, ha, hb, hd, rfl⟩, h1, h2⟩ := H.body
  exact ⟨H.same, H.fin, a, star_single.2 ha, (hu_hdj.1 h1).1, h2.le hu_left⟩

theorem Own.fold (L1 : List Assn) (H : Own w F (L1 ++ M)) (k : ∀ h, star L1 h → A h) : Own w F (A :: M) := by
  obtain ⟨h, hs, h1, h2⟩ := H.body
  obtain ⟨a, b, ha, hb, hd, e⟩ := star_append.1 hs
  exact ⟨H.same, H.fin, h, ⟨a, b, k a ha, hb, hd, e⟩, h1, h2⟩

theorem Own.unfold1 (L1 : List Assn) (H : Own w F (A :: M)) (k : ∀ h, A h → star L1 h) : Own w F (L1 ++ M) := by
  obtain ⟨h, ⟨a, b, ha, hb, hd, e⟩, h1, h2⟩ := H.body
  exact ⟨H.same, H.fin, h, star_append.2 ⟨a, b, k a ha, hb, hd, e⟩, h1, h2⟩

theorem Own.ex1 {α : Type} {A : α → Assn} (H : Own w F (ex A :: L)) : ∃ x, Own w F (A x :: L) := by
  obtain ⟨h, ⟨a, b, ⟨x, ha⟩, hb, hd, e⟩, h1, h2⟩ := H.body
  exact ⟨x, H.same, H.fin, h, ⟨a, b, ha, hb, hd, e⟩, h1, h2⟩

theorem Own.inE {α : Type} {A : α → Assn} (x : α) (H : Own w F (A x :: L)) : Own w F (ex A :: L) := H.mono1 fun _ h => ⟨x, h⟩

theorem Own.all1 (H : Own w F (all M :: L)) : Own w F (M ++ L) := H.unfold1 M fun _ h => h
theorem Own.inAll (H : Own w F (M ++ L)) : Own w F (all M :: L) := H.fold M fun _ h => h

theorem Own.pu1 {p : Prop} (H : Own w F (pu p :: L)) : p ∧ Own w F L := by
  obtain ⟨h, ⟨a, b, ⟨hp, rfl⟩, hb, hd, rfl⟩, h1, h2⟩ := H.body
  exact ⟨hp, H.same, H.fin, b, hb, h1, h2⟩

theorem Own.inPu {p : Prop} (hp : p) (H : Own w F L) : Own w F (pu p :: L) := by
  obtain ⟨h, hb, h1, h2⟩ := H.body
  exact ⟨H.same, H.fin, h, ⟨hnil, h, ⟨hp, rfl⟩, hb, hdj_nil _, rfl⟩, h1, h2⟩

theorem Own.of1 {p : Prop} (H : Own w F (A :: L)) (k : ∀ h, A h → p) : p := by
  obtain ⟨h, ⟨a, b, ha, _⟩, _⟩ := H.body
  exact k a ha

/-- Positions of a list, taken out in an order: the chosen ones, then the others. -/
def takeAt (is : List Nat) (L : List Assn) : List Assn := is.filterMap (L[·]?)

theorem filterMap_range : ∀ (L : List Assn), (List.range L.length).filterMap (L[·]?) = L
  | [] => rfl
  | A :: L => by
    rw [List.length_cons, List.range_succ_eq_map, List.filterMap_cons]
    simp only [List.getElem?_cons_zero, List.filterMap_map]
    rw [show ((fun x => (A :: L)[x]?) ∘ Nat.succ) = (fun x => L[x]?) by funext x; simp, filterMap_range L]

theorem takeAt_perm {is : List Nat} (h : is.isPerm (List.range L.length) = true) : L.Perm (takeAt is L) := by
  have hp := (List.isPerm_iff.1 h).filterMap (L[·]?)
  rw [filterMap_range] at hp
  exact hp.symm

/-- The pieces in another order. -/
theorem Own.pick (is : List Nat) (H : Own w F L) (hp : is.isPerm (List.range L.length) = true) : Own w F (takeAt is L) := H.perm (takeAt_perm hp)

theorem front_perm : ∀ {L : List Assn} {k : Nat} {A : Assn}, L[k]? = some A → L.Perm (A :: L.eraseIdx k)
  | B :: L, 0, A, h => by simp at h; subst h; exact .refl _
  | B :: L, k + 1, A, h => by
    have := front_perm (L := L) (k := k) (A := A) (by simpa using h)
    exact (this.cons B).trans (.swap A B _)

theorem Own.front (k : Nat) (H : Own w F L) (hk : L[k]? = some A) : Own w F (A :: L.eraseIdx k) := H.perm (front_perm hk)

theorem set_perm : ∀ {L : List Assn} {k : Nat} {A : Assn}, k < L.length → (A :: L.eraseIdx k).Perm (L.set k A)
  | B :: L, 0, A, _ => .refl _
  | B :: L, k + 1, A, h => ((List.Perm.swap B A _).trans ((set_perm (L := L) (k := k) (by simpa using h)).cons B))

theorem Own.back (k : Nat) (hk : k < L.length) (H : Own w F (A :: L.eraseIdx k)) : Own w F (L.set k A) := H.perm (set_perm hk)

/-- The first piece changes with the world; all else stays. -/
theorem Own.upd {w' : World} (H : Own w F (A :: L)) (hs : Same w w')
    (k : ∀ h, A h → inW h w → ∃ h', B h' ∧ inW h' w' ∧ (∀ i, h' i ≠ none → h i ≠ none ∨ w.heap.size ≤ i) ∧ (∀ i o, h i = none → w.heap[i]? = some o → w'.heap[i]? = some o)) : Own w' F (B :: L) := by
  obtain ⟨h, ⟨a, b, ha, hb, hd, rfl⟩, h1, h2⟩ := H.body
  obtain ⟨h', hB, hw', hf, hk⟩ := k a ha (h2.le hu_left)
  have hF := hu_hdj.1 h1
  have dj : ∀ {c : Hl}, inW c w → hdj a c → hdj h' c := fun {c} hc hac i => by
    cases hi : h' i with
    | none => exact .inl rfl
    | some o =>
      rcases hf i (by rw [hi]; simp) with h3 | h3
      · rcases hac i with h4 | h4
        · exact absurd h4 h3
        · exact .inr h4
      · refine .inr (Classical.byContradiction fun h4 => ?_)
        have := hc.lt h4; omega
  have kp : ∀ {c : Hl}, inW c w → hdj a c → inW c w' := fun {c} hc hac i o hi => by
    refine hk i o ?_ (hc i o hi)
    rcases hac i with h3 | h3
    · exact h3
    · rw [hi] at h3; cases h3
  have hbw := h2.le (hu_right hd)
  refine ⟨⟨hs.1.trans H.same.1, hs.2.1.trans H.same.2.1, hs.2.2.1.trans H.same.2.2.1, Nat.le_trans H.same.2.2.2 hs.2.2.2⟩, kp H.fin hF.1, hu h' b, ⟨h', b, hB, hb, dj hbw hd, rfl⟩, hu_hdj.2 ⟨dj H.fin hF.1, hF.2⟩, inW_hu hw' (kp hbw hd)⟩

theorem Own.blk0 {b : Nat} {o : Obj} (H : Own w F (ptO b o :: L)) : w.heap[b]? = some o := by
  obtain ⟨h, ⟨a, _, ha, _, _, rfl⟩, _, h2⟩ := H.body
  have ha : a = one b o := ha
  exact h2 b o (by unfold hu; rw [ha]; simp [one])

theorem Own.blk {b : Nat} {o : Obj} (k : Nat) (H : Own w F L) (hk : L[k]? = some (ptO b o)) : w.heap[b]? = some o := (H.front k hk).blk0

theorem Own.frame {b : Nat} {o : Obj} (H : Own w F L) (h : F.hl b = some o) : w.heap[b]? = some o := H.fin b o h

theorem Own.alloc {o : Obj} (H : Own w F L) : Own (w.alloc o) F (ptO w.heap.size o :: L) := by
  obtain ⟨h, hs, h1, h2⟩ := H.body
  have hk : ∀ {c : Hl}, inW c w → inW c (w.alloc o) := fun {c} hc i x hi => by
    have := Keep.get (Keep.alloc w o) (hc i x hi) (by simp); exact this
  have hd : ∀ {c : Hl}, inW c w → hdj (one w.heap.size o) c := fun {c} hc i => by
    by_cases hi : i = w.heap.size
    · right
      refine Classical.byContradiction fun h4 => ?_
      have := hc.lt h4; omega
    · left; simp [one, hi]
  have := Keep.alloc w o
  refine ⟨⟨H.same.1, H.same.2.1, H.same.2.2.1, Nat.le_trans H.same.2.2.2 this.size⟩, hk H.fin, _, ⟨one w.heap.size o, h, rfl, hs, hd h2, rfl⟩, hu_hdj.2 ⟨hd H.fin, h1⟩, inW_hu (fun i x hi => ?_) (hk h2)⟩
  unfold one at hi
  split at hi
  · rename_i e; cases hi; subst e; exact blk_alloc
  · cases hi

theorem Own.setCell0 {b o : Nat} {c : Array Value} {T : TypeId} {v : Value} (H : Own w F (pt b c T :: L)) : Own (w.setCell ⟨b, o, none⟩ v) F (pt b (c.setIfInBounds o v) T :: L) := by
  have hB := H.blk0
  have kk : Keep [b] w (w.setCell ⟨b, o, none⟩ v) := Keep.set
  refine H.upd ⟨kk.os, kk.tape, kk.output, kk.size⟩ ?_
  rintro h rfl hw
  refine ⟨one b _, rfl, fun i x hi => ?_, fun i hi => .inl ?_, fun i x hi hx => ?_⟩
  · unfold one at hi
    split at hi
    · rename_i e; cases hi; subst e; exact blk_set hB
    · cases hi
  · unfold one at hi ⊢; split at hi <;> simp_all
  · refine Keep.get kk hx ?_
    unfold one at hi
    intro hm
    simp at hm
    simp [hm] at hi

theorem Own.drew (H : Own w F L) : Own w.drew F L := ⟨H.same, H.fin, H.body⟩

/-- The pieces of M put into the frame for a while. -/
theorem Own.split (H : Own w F (L ++ M)) : ∃ F' : Fm, hle F.hl F'.hl ∧ Own w F' L ∧ ∀ w' L', Own w' F' L' → Own w' F (L' ++ M) := by
  obtain ⟨h, hs, h1, h2⟩ := H.body
  obtain ⟨a, b, ha, hb, hd, rfl⟩ := star_append.1 hs
  have hF := hu_hdj.1 h1
  refine ⟨⟨hu F.hl b, F.ref⟩, hu_left, ⟨H.same, inW_hu H.fin (h2.le (hu_right hd)), a, ha, hdj_hu.2 ⟨hF.1, hd⟩, h2.le hu_left⟩, ?_⟩
  rintro w' L' H'
  obtain ⟨c, hc, h3, h4⟩ := H'.body
  have h5 := hdj_hu.1 h3
  exact ⟨H'.same, H'.fin.le hu_left, _, star_append.2 ⟨c, b, hc, hb, h5.2, rfl⟩, hu_hdj.2 ⟨h5.1, hF.2⟩, inW_hu h4 (H'.fin.le (hu_right hF.2.symm))⟩

/-- The whole world as a frame. -/
def frameOf (w : World) : Fm := ⟨fun k => w.heap[k]?, w⟩
theorem Own.start (w : World) : Own w (frameOf w) [] := ⟨⟨rfl, rfl, rfl, Nat.le_refl _⟩, fun _ _ h => h, hnil, rfl, hdj_nil _, fun _ _ h => by cases h⟩
theorem Own.keep {w' : World} (H : Own w' (frameOf w) L) : Keep [] w w' :=
  ⟨H.same.1, H.same.2.1, H.same.2.2.1, H.same.2.2.2, fun k hk _ => by
    rw [Array.getElem?_eq_getElem hk]; exact H.fin k _ (Array.getElem?_eq_getElem hk)⟩
end

/-- What a function leaves. -/
def Post (F : Fm) (Q : Value → List Assn → Prop) : Value → World → Prop := fun v w' => ∃ L', Q v L' ∧ Own w' F L'

section
variable {P : Program} {w : World} {fn : Func} {R : Ending → World → Prop} {js : List J} {st : St} {F : Fm} {L : List Assn}

theorem y_load {b o : Nat} {c : Array Value} {T : TypeId} {v : Value} (k : Nat) (H : Own w F L) (hk : L[k]? = some (pt b c T)) (hv : c[o]? = some v) (hr : req st = .load ⟨b, o, none⟩)
    (kk : G P fn R js (nx P fn st (.v v)) w) : G P fn R js st w := x_load (H.blk k hk) hv hr kk

theorem y_loadF {b o : Nat} {c : Array Value} {T : TypeId} {fz : Nat × Nat} {v : Value} (H : Own w F L) (hF : F.hl b = some (.cells c T fz)) (hv : c[o]? = some v) (hr : req st = .load ⟨b, o, none⟩)
    (kk : G P fn R js (nx P fn st (.v v)) w) : G P fn R js st w := x_load (H.frame hF) hv hr kk

theorem y_store {b o : Nat} {c c' : Array Value} {T : TypeId} {v : Value} (k : Nat) (H : Own w F L) (hk : L[k]? = some (pt b c T)) (ho : Nat.blt o c.size = true) (hr : req st = .store ⟨b, o, none⟩ v) (hm : st.m = 0) (hv : plainV v = true)
    (hc : c.setIfInBounds o v = c') (kk : ∀ w', Own w' F (L.set k (pt b c' T)) → G P fn R js (nx P fn st .u) w') : G P fn R js st w := by
  have hB := H.blk k hk
  subst hc
  exact s_store hr hm (cell_of_blk hB (Array.getElem?_eq_getElem (by simpa [Nat.blt_eq] using ho))) (frozen_of_blk hB) hv
    (kk _ (Own.back k (List.getElem?_eq_some_iff.1 hk).1 (H.front k hk).setCell0))

theorem y_new {c : Array Value} {T : TypeId} (H : Own w F L) (hr : req st = .new (.cells c T (0, 0))) (hm : st.m = 0) (kk : ∀ w' b, Own w' F (pt b c T :: L) → G P fn R js (nx P fn st (.n b)) w') : G P fn R js st w :=
  s_new hr hm (kk _ _ H.alloc)

/-- The positions that are not in a list. -/
def rest (is : List Nat) (n : Nat) : List Nat := (List.range n).filter fun i => !(is.any (· == i))

/-- A call: the pieces 'is' go to the callee, the others wait. -/
theorem y_call {f : FuncId} {args : Array Value} {Q : Value → List Assn → Prop} (is : List Nat) {L1 M : List Assn} (H : Own w F L) (hp : (is ++ rest is L.length).isPerm (List.range L.length) = true) (h1 : takeAt is L = L1) (h2 : takeAt (rest is L.length) L = M)
    (hr : req st = .call f args) (hm : st.m = 0) (hcl : callableB P f = true) (h : ∀ F', hle F.hl F'.hl → Own w F' L1 → Ret P f args w (Post F' Q))
    (kk : ∀ v w' L', Q v L' → Own w' F (L' ++ M) → G P fn R js (nx P fn st (.v v)) w') : G P fn R js st w := by
  have H1 := H.pick (is ++ rest is L.length) hp
  rw [takeAt, List.filterMap_append] at H1
  change Own w F (takeAt is L ++ takeAt (rest is L.length) L) at H1
  rw [h1, h2] at H1
  obtain ⟨F', hF, H2, back⟩ := H1.split
  refine s_call hr hm hcl (h F' hF H2) ?_
  rintro v w' ⟨L', hQ, H3⟩
  exact kk v w' L' hQ (back w' L' H3)

/-- The function's end. -/
theorem y_done {v : Value} {Q : Value → List Assn → Prop} (hr : req st = .done v) (L' : List Assn) (hQ : Q v L') (H : Own w F L') : G P fn (RR (Post F Q)) js st w := s_done hr ⟨L', hQ, H⟩
end

/-! Slices that begin their block. -/
def rows (v : Value) (e size : Nat) (L : List (List Value)) : Assn := fun h =>
  (∀ c ∈ L, c.length = size) ∧ ((v = .slice none 0 0 ∧ L = [] ∧ h = hnil) ∨
    ∃ b cap cur, v = .slice (some ⟨b, 0, none⟩) L.length cap ∧ L.length ≤ cap ∧ cap ≤ maxLen ∧ cur.size = cap * size ∧ RowsAt cur size L ∧ h = one b (.cells cur e (0, 0)))

section
variable {w : World} {F : Fm} {M : List Assn} {v : Value} {e size : Nat} {L : List (List Value)}

theorem Own.rep (H : Own w F (rows v e size L :: M)) : ∃ g, SlRep w e size g v L := by
  obtain ⟨h, ⟨a, b, ⟨hl, ha⟩, hb, hd, rfl⟩, h1, h2⟩ := H.body
  rcases ha with ⟨h3, h4, h5⟩ | ⟨b', cap, cur, h3, h4, h5, h6, h7, rfl⟩
  · exact ⟨none, hl, .inl ⟨rfl, h3, h4⟩⟩
  · exact ⟨some b', hl, .inr ⟨b', cap, cur, rfl, h3, h2.le hu_left b' _ (by simp [one]), h4, h5, h6, h7⟩⟩

/-- The slice's shape, read off. -/
theorem Own.shape (k : Nat) {M : List Assn} (H : Own w F M) (hk : M[k]? = some (rows v e size L)) : ∃ a cap, v = .slice a L.length cap ∧ L.length ≤ cap ∧ cap ≤ maxLen := by
  obtain ⟨g, h⟩ := (H.front k hk).rep
  rcases h.at_ with ⟨_, h1, h2⟩ | ⟨b, cap, cur, _, h2, _, h3, h4, _⟩
  · subst h2; exact ⟨_, _, h1, Nat.le_refl _, by simp [maxLen]⟩
  · exact ⟨_, _, h2, h3, h4⟩

theorem Own.shapeN (k : Nat) {M : List Assn} (H : Own w F M) (hk : M[k]? = some (rows v e size L)) (h0 : 0 < L.length) : ∃ g cap, v = .slice (some ⟨g, 0, none⟩) L.length cap ∧ L.length ≤ cap ∧ cap ≤ maxLen := by
  obtain ⟨g, h⟩ := (H.front k hk).rep
  rcases h.at_ with ⟨_, h1, h2⟩ | ⟨b, cap, cur, _, h2, _, h3, h4, _⟩
  · subst h2; simp at h0
  · exact ⟨_, _, h2, h3, h4⟩

theorem Own.nilRows (H : Own w F M) (e size : Nat) : Own w F (rows (.slice none 0 0) e size [] :: M) := by
  obtain ⟨h, hb, h1, h2⟩ := H.body
  exact ⟨H.same, H.fin, h, ⟨hnil, h, ⟨(fun _ h => nomatch h), .inl ⟨rfl, rfl, rfl⟩⟩, hb, hdj_nil _, rfl⟩, h1, h2⟩

theorem own_of_rep {w w' : World} {g' g : Option Nat} {v' : Value} {L' : List (List Value)} (H : Own w F (rows v e size L :: M)) (r : SlRep w e size g v L) (r' : SlRep w' e size g' v' L') (k : Keep g.toList w w') (hg : g' = g ∨ ∃ n, g' = some n ∧ w.heap.size ≤ n) : Own w' F (rows v' e size L' :: M) := by
  have hdom : ∀ h, rows v e size L h → ∀ i, h i ≠ none ↔ g = some i := by
    rintro h ⟨_, ha⟩ i
    rcases ha with ⟨h3, h4, rfl⟩ | ⟨b', cap, cur, h3, _, _, _, _, rfl⟩
    · rcases r.at_ with ⟨h5, _⟩ | ⟨b, _, _, h5, h6, _⟩
      · simp [hnil, h5]
      · rw [h6] at h3; cases h3
    · rcases r.at_ with ⟨h5, h6, _⟩ | ⟨b, _, _, h5, h6, _⟩
      · rw [h6] at h3; cases h3
      · rw [h6] at h3
        cases h3
        rw [h5]
        simp [one, eq_comm]
  refine H.upd ⟨k.os, k.tape, k.output, k.size⟩ ?_
  intro h hh hw
  have hd := hdom h hh
  have hrest : ∀ i o, h i = none → w.heap[i]? = some o → w'.heap[i]? = some o := fun i o hi ho => Keep.get k ho fun hm => by
    have := (hd i).2 (by simpa using hm)
    exact this hi
  rcases r'.at_ with ⟨h1, h2, h3⟩ | ⟨b, cap, cur, h1, h2, h3, h4, h5, h6, h7⟩
  · exact ⟨hnil, ⟨r'.len, .inl ⟨h2, h3, rfl⟩⟩, (fun _ _ h => by cases h), (fun i h => absurd rfl h), hrest⟩
  · refine ⟨one b (.cells cur e (0, 0)), ⟨r'.len, .inr ⟨b, cap, cur, h2, h4, h5, h6, h7, rfl⟩⟩, fun i o hi => ?_, fun i hi => ?_, hrest⟩
    · unfold one at hi
      split at hi
      · rename_i e; cases hi; subst e; exact h3
      · cases hi
    · have hib : i = b := by unfold one at hi; split at hi; assumption; exact absurd rfl hi
      subst hib
      rcases hg with hg | ⟨n, hg, hn⟩
      · left; exact (hd i).2 (by rw [← hg, h1])
      · right; rw [h1] at hg; cases hg; exact hn
end

section
variable {P : Program} {w : World} {fn : Func} {R : Ending → World → Prop} {js : List J} {st : St} {F : Fm} {M : List Assn} {v : Value} {e size : Nat} {L : List (List Value)}

/-- append(v, x): x lies in a block of its own (position kx), v at position k. -/
theorem y_push {t ty : TypeId} {b c0 : Nat} {T : TypeId} (k kx : Nat) (bytes : Nat) (z : Value) (c : List Value) (H : Own w F M) (hk : M[k]? = some (rows v e size L)) (hx : M[kx]? = some (pt b c.toArray T)) (hc : c.length = size)
    (h1 : ∀ u ∈ c, u.oneCell' = true) (h63 : L.length + 1 ≤ maxLen) (hbytes : (L.length + 1) * bytes ≤ 140737488355328)
    (ht : P.underlying t = some (.slice e)) (hi : (P.info? e).map (fun i => (i.size, i.bytes, i.zero)) = some (size, bytes, some z)) (hzs : z.cells.size = size) (hsz : 0 < size)
    (hr : req st = .bi .append #[t, t] ty #[v, .slice (some ⟨b, 0, none⟩) 1 c0]) (hm : st.m = 0)
    (kk : ∀ a cap w', L.length + 1 ≤ cap → Own w' F (M.set k (rows (.slice (some ⟨a, 0, none⟩) (L.length + 1) cap) e size (L ++ [c]))) → G P fn R js (nx P fn st (.v (.slice (some ⟨a, 0, none⟩) (L.length + 1) cap))) w') : G P fn R js st w := by
  have H1 := H.front k hk
  obtain ⟨g, r⟩ := H1.rep
  refine x_push size bytes z c r (H.blk kx hx) hc h1 h63 hbytes ht hi hzs hsz hr hm (fun g' cap w' r' hkp hg => ?_)
  have hcap : L.length + 1 ≤ cap := by
    obtain ⟨cap', _, hv, _, h5, _⟩ := r'.blk
    have : cap = cap' := by injection hv
    rw [this]
    simpa using h5
  refine kk _ cap w' hcap (Own.back k (List.getElem?_eq_some_iff.1 hk).1 (own_of_rep H1 r r' hkp ?_))
  rcases hg with h | h
  · exact .inl h.symm
  · exact .inr ⟨g', rfl, by omega⟩

/-- A field of an element. -/
theorem y_elLoad {b o i j n cap : Nat} {u : Value} {c : List Value} (k : Nat) (H : Own w F M) (hk : M[k]? = some (rows (.slice (some ⟨b, 0, none⟩) n cap) e size L)) (hi : L[i]? = some c) (hj : c[j]? = some u) (ho : o = i * size + j)
    (hr : req st = .load ⟨b, o, none⟩) (kk : G P fn R js (nx P fn st (.v u)) w) : G P fn R js st w := by
  obtain ⟨g, r⟩ := (H.front k hk).rep
  have : g = some b := by
    rcases r.at_ with ⟨_, h, _⟩ | ⟨b', _, _, h1, h2, _⟩
    · cases h
    · cases h2; exact h1
  subst this
  exact x_elLoad r hi hj ho hr kk

theorem y_elStore {b o i j n cap : Nat} {u : Value} {c c' : List Value} (k : Nat) (H : Own w F M) (hk : M[k]? = some (rows (.slice (some ⟨b, 0, none⟩) n cap) e size L)) (hi : L[i]? = some c) (hj : j < size) (ho : o = i * size + j)
    (hr : req st = .store ⟨b, o, none⟩ u) (hm : st.m = 0) (hv : plainV u = true) (hc : c.set j u = c')
    (kk : ∀ w', Own w' F (M.set k (rows (.slice (some ⟨b, 0, none⟩) n cap) e size (L.set i c'))) → (L.set i c')[i]? = some c' → G P fn R js (nx P fn st .u) w') : G P fn R js st w := by
  have H1 := H.front k hk
  obtain ⟨g, r⟩ := H1.rep
  have : g = some b := by
    rcases r.at_ with ⟨_, h, _⟩ | ⟨b', _, _, h1, h2, _⟩
    · cases h
    · cases h2; exact h1
  subst this
  subst hc
  refine x_elStore r hi hj ho hr hm hv (fun w' r' hkp => ?_)
  exact kk w' (Own.back k (List.getElem?_eq_some_iff.1 hk).1 (own_of_rep H1 r r' hkp (.inl rfl))) (by rw [List.getElem?_set, if_pos rfl, if_pos (List.getElem?_eq_some_iff.1 hi).1])

/-- A slice type's element: its cells. -/
def elemSize (P : Program) (t : TypeId) : Option Nat :=
  match P.underlying t with
  | some (.slice e) => (P.info? e).map (·.size)
  | _ => none

theorem y_idx {t : TypeId} {b o n c : Nat} {kd : IntKind} {i : Int} (size : Nat) (hs : elemSize P t = some size) (h0 : 0 ≤ i) (h1 : i < n) (hr : req st = .idx t (.slice (some ⟨b, o, none⟩) n c) (.int kd i))
    (k : G P fn R js (nx P fn st (.v (.pointer (some ⟨b, o + i.toNat * size, none⟩)))) w) : G P fn R js st w := by
  unfold elemSize at hs
  split at hs
  · rename_i e he; exact x_idx he hs h0 h1 hr k
  · cases hs

/-! A region's head (XMheld) over owned pieces. -/
theorem Own.ne {w : World} {F : Fm} {L : List Assn} {b b' : Nat} {o o' : Obj} (i j : Nat) (H : Own w F L) (hi : L[i]? = some (ptO b o)) (hj : L[j]? = some (ptO b' o')) (hij : Nat.beq i j = false) : b ≠ b' := by
  have hij : i ≠ j := Nat.ne_of_beq_eq_false hij
  have hp := front_perm hi
  have : ∃ k : Nat, (L.eraseIdx i)[k]? = some (ptO b' o') := by
    have hm : ptO b' o' ∈ L.eraseIdx i := by
      refine List.mem_eraseIdx_iff_getElem?.2 ⟨j, fun e => hij e.symm, hj⟩
    exact List.mem_iff_getElem?.1 hm
  obtain ⟨k, hk⟩ := this
  obtain ⟨h, ⟨x, y, hx, hy, hd, _⟩, _⟩ := (H.perm hp).body
  have hy2 := star_perm (front_perm hk) hy
  obtain ⟨y1, y2, hy1, _, _, rfl⟩ := hy2
  have hx : x = one b o := hx
  have hy1 : y1 = one b' o' := hy1
  intro e
  subst e
  rcases hd b with h | h
  · rw [hx] at h; simp [one] at h
  · have := (hu_none.1 h).1
    rw [hy1] at this; simp [one] at this

theorem Own.cell {w : World} {F : Fm} {L : List Assn} {b o : Nat} {c : Array Value} {T : TypeId} {v : Value} (k : Nat) (H : Own w F L) (hk : L[k]? = some (pt b c T)) (hv : c[o]? = some v) : w.cell? ⟨b, o, none⟩ = some v := cell_of_blk (H.blk k hk) hv

theorem Own.cellS {w : World} {F : Fm} {L : List Assn} {b o : Nat} {c : Array Value} {T : TypeId} (k : Nat) (H : Own w F L) (hk : L[k]? = some (pt b c T)) (hv : (c[o]?).isSome = true) : (w.cell? ⟨b, o, none⟩).isSome = true := by
  obtain ⟨v, hv⟩ := Option.isSome_iff_exists.1 hv
  rw [H.cell k hk hv]; rfl

theorem Own.elCell {w : World} {F : Fm} {M : List Assn} {e size b o i j n cap : Nat} {L : List (List Value)} {u : Value} {c : List Value} (k : Nat) (H : Own w F M) (hk : M[k]? = some (rows (.slice (some ⟨b, 0, none⟩) n cap) e size L)) (hi : L[i]? = some c) (hj : c[j]? = some u) (ho : o = i * size + j) : w.cell? ⟨b, o, none⟩ = some u := by
  obtain ⟨g, r⟩ := (H.front k hk).rep
  have : g = some b := by
    rcases r.at_ with ⟨_, h, _⟩ | ⟨b', _, _, h1, h2, _⟩
    · cases h
    · cases h2; exact h1
  subst this
  obtain ⟨cap', cur, _, hB, _, _, _, hR⟩ := r.blk
  subst ho
  exact cell_of_blk hB (hR i c hi j u hj)

theorem Own.elCellS {w : World} {F : Fm} {M : List Assn} {e size b o i n cap : Nat} {L : List (List Value)} {c : List Value} (j : Nat) (k : Nat) (H : Own w F M) (hk : M[k]? = some (rows (.slice (some ⟨b, 0, none⟩) n cap) e size L)) (hi : L[i]? = some c) (hj : (c[j]?).isSome = true) (ho : o = i * size + j) : (w.cell? ⟨b, o, none⟩).isSome = true := by
  obtain ⟨v, hv⟩ := Option.isSome_iff_exists.1 hj
  rw [H.elCell k hk hi hv ho]; rfl

/-- The block of a row, apart from a piece's. -/
theorem Own.neRow {w : World} {F : Fm} {M : List Assn} {e size b b' n cap : Nat} {L : List (List Value)} {o : Obj} (i j : Nat) (H : Own w F M) (hi : M[i]? = some (rows (.slice (some ⟨b, 0, none⟩) n cap) e size L)) (hj : M[j]? = some (ptO b' o)) (hij : Nat.beq i j = false) : b ≠ b' := by
  have hij : i ≠ j := Nat.ne_of_beq_eq_false hij
  have hm : ptO b' o ∈ M.eraseIdx i := List.mem_eraseIdx_iff_getElem?.2 ⟨j, fun e => hij e.symm, hj⟩
  obtain ⟨k, hk⟩ := List.mem_iff_getElem?.1 hm
  obtain ⟨h, ⟨x, y, hx, hy, hd, _⟩, _⟩ := (H.perm (front_perm hi)).body
  obtain ⟨y1, y2, hy1, _, _, rfl⟩ := star_perm (front_perm hk) hy
  have hy1 : y1 = one b' o := hy1
  obtain ⟨_, hx⟩ := hx
  rcases hx with ⟨h3, _⟩ | ⟨b2, cap2, cur, h3, _, _, _, _, rfl⟩
  · cases h3
  · cases h3
    intro e
    subst e
    rcases hd b with h | h
    · simp [one] at h
    · have := (hu_none.1 h).1
      rw [hy1] at this; simp [one] at this

variable {D : List (Nat × Nat)}

theorem h_load {b o : Nat} {v : Value} (h : w.cell? ⟨b, o, none⟩ = some v) (hn : (b, o) ∉ D) (hr : req st = .load ⟨b, o, none⟩) (hm : Nat.beq st.m 0 = false) (kk : GQ P fn R js (ch P D w) (nxq P fn st (.v v))) : GQ P fn R js (ch P D w) st :=
  q_load hr hm (fun w' hw' => (hw'.1 b o hn).trans h) kk

theorem h_idx {C : Cls} {t : TypeId} {b o n c : Nat} {kd : IntKind} {i : Int} (size : Nat) (hs : elemSize P t = some size) (h0 : 0 ≤ i) (h1 : i < n) (hr : req st = .idx t (.slice (some ⟨b, o, none⟩) n c) (.int kd i)) (hm : Nat.beq st.m 0 = false)
    (k : GQ P fn R js C (nxq P fn st (.v (.pointer (some ⟨b, o + i.toNat * size, none⟩))))) : GQ P fn R js C st := by
  unfold elemSize at hs
  split at hs
  · rename_i e he
    obtain ⟨i0, hi0, hs⟩ := Option.map_eq_some_iff.1 hs
    refine q_val hr rfl hm (fun _ _ => run_indexAt he hi0 h0 h1) ?_
    rw [hs]
    have : (⟨b, o, none⟩ : Addr).add (i.toNat * size) = ⟨b, o + i.toNat * size, none⟩ := by
      unfold Addr.add; split <;> simp_all
    rw [this]
    exact k
  · cases hs

theorem h_add {C : Cls} {t : TypeId} {k : IntKind} {a b : Int} (c : Int) (h : k.wrap (a + b) = c) (hr : req st = .bin .add t (.int k a) (.int k b)) (hm : Nat.beq st.m 0 = false) (kk : GQ P fn R js C (nxq P fn st (.v (.int k c)))) : GQ P fn R js C st :=
  q_val hr rfl hm (fun _ _ => run_arith (op := .add) (by rw [h])) kk
theorem h_sub {C : Cls} {t : TypeId} {k : IntKind} {a b : Int} (c : Int) (h : k.wrap (a - b) = c) (hr : req st = .bin .sub t (.int k a) (.int k b)) (hm : Nat.beq st.m 0 = false) (kk : GQ P fn R js C (nxq P fn st (.v (.int k c)))) : GQ P fn R js C st :=
  q_val hr rfl hm (fun _ _ => run_arith (op := .sub) (by rw [h])) kk
theorem h_mul {C : Cls} {t : TypeId} {k : IntKind} {a b : Int} (c : Int) (h : k.wrap (a * b) = c) (hr : req st = .bin .mul t (.int k a) (.int k b)) (hm : Nat.beq st.m 0 = false) (kk : GQ P fn R js C (nxq P fn st (.v (.int k c)))) : GQ P fn R js C st :=
  q_val hr rfl hm (fun _ _ => run_arith (op := .mul) (by rw [h])) kk
theorem h_conv {C : Cls} {s d : TypeId} {k k' : IntKind} {a : Int} (c : Int) (hs : (P.underlying s).isSome = true) (hd : P.underlying d = some (.int k')) (h : k'.wrap a = c) (hr : req st = .conv s d (.int k a)) (hm : Nat.beq st.m 0 = false) (kk : GQ P fn R js C (nxq P fn st (.v (.int k' c)))) : GQ P fn R js C st :=
  q_val hr rfl hm (fun _ _ => run_convI hs hd h) kk

/-! A region whose tail makes memory: the pieces that are read stay. -/
def SOwn (F : Fm) (L0 : List Assn) : World → Prop := fun w' => ∃ L', Own w' F (L0 ++ L')

theorem y_drawS (id d : Nat) (head tail is : List Nat) {L0 : List Assn} (H : Own w F M) (hp : (is ++ rest is M.length).isPerm (List.range M.length) = true) (h1 : takeAt is M = L0) (hr : req st = .draw id) (hfol : P.follows .mixedOrders = true) (hd0 : js.length = d)
    (hB : (drawOps st).map (fun ops => Region.noSelect ops && Nat.beq (head.length + tail.length) ops.size && heldB ops head tail (Array.replicate ops.size false)) = some true)
    (k : GQ P fn R (js ++ [tailJ P fn R js (opsOf st) (restXI st) (SOwn F L0) head tail]) (ce (SOwn F L0) w.drew) (nxdt P fn st head d)) : G P fn R js st w := by
  have H1 := H.drew.pick (is ++ rest is M.length) hp
  rw [takeAt, List.filterMap_append] at H1
  change Own w.drew F (takeAt is M ++ takeAt (rest is M.length) M) at H1
  rw [h1] at H1
  exact s_drawT2 (SOwn F L0) id d head tail hr hfol hd0 ⟨_, H1⟩ hB k

theorem y_sload {L0 : List Assn} {w0 : World} {a : Addr} {v : Value} (hr : req st = .load a) (hm : Nat.beq st.m 0 = false) (h : ∀ w' L', Own w' F (L0 ++ L') → w'.cell? a = some v) (k : GQ P fn R js (ce (SOwn F L0) w0) (nxq P fn st (.v v))) : GQ P fn R js (ce (SOwn F L0) w0) st :=
  q_load hr hm (fun w' ⟨L', H⟩ => h w' L' H) k

theorem y_send {L0 : List Assn} {w0 : World} (hm : st.m = 0) (k : G P fn R js (nxe P fn st) w0) : GQ P fn R js (ce (SOwn F L0) w0) st := q_endG hm (fun _ _ => trivial) fun w hw => by cases hw; exact k

/-! A region with calls that leave all pieces as they are. -/
theorem y_drawQ (id m : Nat) (H : Own w F M) (hr : req st = .draw id) (hfol : P.follows .mixedOrders = true)
    (hB : (drawOps st).map (fun ops => match Nat.beq ops.size m with | true => Region.lexB .any ops | false => Region.lexTailB .any ops m) = some true)
    (k : GQ P fn R js (cq fun w' => Own w' F M) (nxdq P fn st m)) : G P fn R js st w := s_drawQ _ id m hr hfol H.drew hB k

theorem y_drawP (id : Nat) (pa pb : List Nat) (t0 : Nat) (tl : List Nat) (H : Own w F M) (hr : req st = .draw id) (hfol : P.follows .mixedOrders = true)
    (hB : (drawOps st).map (fun ops => partB ops pa pb t0 tl) = some true) (hp : (pureOps st fn.ntmps P pa).isSome = true)
    (k : GQ P fn R js (cq fun w' => Own w' F M) (nxdp P fn st pa pb (t0 :: tl))) : G P fn R js st w := s_drawP _ id pa pb t0 tl hr hfol H.drew hB hp k

theorem y_qload {a : Addr} {v : Value} (hr : req st = .load a) (hm : Nat.beq st.m 0 = false) (h : ∀ w', Own w' F M → w'.cell? a = some v) (k : GQ P fn R js (cq fun w' => Own w' F M) (nxq P fn st (.v v))) : GQ P fn R js (cq fun w' => Own w' F M) st := q_load hr hm h k

theorem y_qend (hm : st.m = 0) (k : ∀ w, Own w F M → G P fn R js (nxe P fn st) w) : GQ P fn R js (cq fun w' => Own w' F M) st := q_end hm k

theorem y_qcall {f : FuncId} {args : Array Value} (X : Value) (is : List Nat) {L1 : List Assn} (hp : (is ++ rest is M.length).isPerm (List.range M.length) = true) (h1 : takeAt is M = L1)
    (hr : req st = .call f args) (hm : Nat.beq st.m 0 = false) (hcl : callableB P f = true) (h : ∀ F' w, hle F.hl F'.hl → Own w F' L1 → Ret P f args w (Post F' fun v L' => v = X ∧ L' = L1))
    (k : GQ P fn R js (cq fun w' => Own w' F M) (nxq P fn st (.v X))) : GQ P fn R js (cq fun w' => Own w' F M) st := by
  refine q_call hr hm hcl (fun w H => ?_) k
  have H1 := Own.pick (is ++ rest is M.length) H hp
  rw [takeAt, List.filterMap_append] at H1
  change Own w F (takeAt is M ++ takeAt (rest is M.length) M) at H1
  rw [h1] at H1
  obtain ⟨F', hF, H2, back⟩ := H1.split
  refine Ret.mono (h F' w hF H2) ?_
  rintro v w' ⟨L', ⟨rfl, rfl⟩, H3⟩
  refine ⟨rfl, ?_⟩
  have H4 := back w' _ H3
  have hp2 := takeAt_perm hp
  rw [takeAt, List.filterMap_append] at hp2
  change M.Perm (takeAt is M ++ takeAt (rest is M.length) M) at hp2
  rw [h1] at hp2
  exact H4.perm hp2.symm
end
end Go.XM
