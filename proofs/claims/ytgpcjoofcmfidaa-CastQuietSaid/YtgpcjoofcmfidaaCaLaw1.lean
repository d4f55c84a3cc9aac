/-
  The broadcast stream's law, in plain data: what each member keeps true.
-/
import Derived.Test.YtgpcjoofcmfidaaCb7
namespace Go.Proofs.Ytgpcjoofcmfidaa
open Go.XM Go.Ca

/-- An item of member k at a time: the texts T. -/
structure II (T : List ByteArray) (t : Int) (k : Int) (i : Nat) (x : ItemV ByteArray) : Prop where
  body : x.there = true → T[i]? = some x.body
  zero : k = 0 → x.there = true
  miss : x.there = false → x.fresh = false ∧ x.rep = -1
  fresh : k ≠ 0 → x.fresh = false
  ask : x.ask ≤ t + 20
  repL : -1 ≤ x.rep
  repU : x.rep ≤ t + k

/-- A member at a time, N texts said. -/
structure MI (T : List ByteArray) (N : Nat) (t : Int) (m : MemV ByteArray) : Prop where
  idL : 0 ≤ m.id
  idU : m.id < 16
  now : m.now ≤ t
  read : m.read = 0
  len : m.items.length ≤ N
  zero : m.id = 0 → m.items.length = N
  item : ∀ (i : Nat) (x : ItemV ByteArray), m.items[i]? = some x → II T t m.id i x

/-- A good note. -/
structure NI (T : List ByteArray) (N : Nat) (n : NoteV ByteArray) : Prop where
  srcL : 0 ≤ n.src
  srcU : n.src < 16
  noL : 0 ≤ n.no
  kind : (n.kind = 1 ∧ n.no < N ∧ T[n.no.toNat]? = some n.body) ∨ (n.kind = 2 ∧ n.no < N ∧ n.body = ⟨#[]⟩) ∨ (n.kind = 3 ∧ n.no = N ∧ n.body = ⟨#[]⟩)

theorem II.mono {T : List ByteArray} {t t' k : Int} {i : Nat} {x : ItemV ByteArray} (h : II T t k i x) (ht : t ≤ t') : II T t' k i x :=
  ⟨h.body, h.zero, h.miss, h.fresh, by have := h.ask; omega, h.repL, by have := h.repU; omega⟩

theorem MI.mono {T : List ByteArray} {N : Nat} {t t' : Int} {m : MemV ByteArray} (h : MI T N t m) (ht : t ≤ t') : MI T N t' m :=
  ⟨h.idL, h.idU, by have := h.now; omega, h.read, h.len, h.zero, fun i x hx => (h.item i x hx).mono ht⟩

theorem outNotes_mem {id now : Int} {n : NoteV ByteArray} : ∀ (l : List (ItemV ByteArray)) (k : Nat), n ∈ outNotes ⟨#[]⟩ id now k l ↔ ∃ (i : Nat) (x : ItemV ByteArray), l[i]? = some x ∧ (outI ⟨#[]⟩ id now (k + i) x).1 = some n
  | [], k => by simp [outNotes]
  | x :: l, k => by
    simp only [outNotes, List.mem_append, outNotes_mem l (k + 1)]
    constructor
    · rintro (h | ⟨i, y, h1, h2⟩)
      · exact ⟨0, x, rfl, by simpa using h⟩
      · exact ⟨i + 1, y, by simpa using h1, by rw [show k + (i + 1) = k + 1 + i by omega]; exact h2⟩
    · rintro ⟨i, y, h1, h2⟩
      cases i with
      | zero => simp at h1; subst h1; left; simpa using h2
      | succ i => right; exact ⟨i, y, by simpa using h1, by rw [show k + 1 + i = k + (i + 1) by omega]; exact h2⟩

/-- What a note of Out is. -/
theorem outI_note {id now : Int} {i : Nat} {x : ItemV ByteArray} {n : NoteV ByteArray} (h : (outI ⟨#[]⟩ id now i x).1 = some n) : n.src = id ∧ n.no = i ∧
    ((n.kind = 1 ∧ n.body = x.body ∧ (x.fresh = true ∨ x.there = true)) ∨ (n.kind = 2 ∧ n.body = ⟨#[]⟩ ∧ x.there = false ∧ x.ask ≤ now)) := by
  unfold outI at h
  split at h
  · rename_i hc
    cases h
    exact ⟨rfl, rfl, .inl ⟨rfl, rfl, by rcases hc with h | h; exact .inl h; exact .inr h.1⟩⟩
  · split at h
    · rename_i hc; cases h; exact ⟨rfl, rfl, .inr ⟨rfl, rfl, hc.1, hc.2⟩⟩
    · cases h

theorem out_air {T : List ByteArray} {N : Nat} {t : Int} {m : MemV ByteArray} (h : MI T N t m) {n : NoteV ByteArray} (hn : n ∈ outAir ⟨#[]⟩ m t) : NI T N n ∧ n.src = m.id := by
  unfold outAir at hn
  rcases List.mem_append.1 hn with hn | hn
  · obtain ⟨i, x, h1, h2⟩ := (outNotes_mem _ _).1 hn
    rw [Nat.zero_add] at h2
    obtain ⟨e1, e2, e3⟩ := outI_note h2
    have hx := h.item i x h1
    have hi : i < m.items.length := (List.getElem?_eq_some_iff.1 h1).1
    have := h.len
    refine ⟨⟨by rw [e1]; exact h.idL, by rw [e1]; exact h.idU, by omega, ?_⟩, e1⟩
    rcases e3 with ⟨k1, k2, k3⟩ | ⟨k1, k2, _⟩
    · left
      refine ⟨k1, by omega, ?_⟩
      have ht : x.there = true := by
        cases hth : x.there with
        | true => rfl
        | false => have := (hx.miss hth).1; rcases k3 with k3 | k3 <;> simp_all
      rw [k2, e2, Int.toNat_natCast]
      exact hx.body ht
    · exact .inr (.inl ⟨k1, by omega, k2⟩)
  · split at hn
    · rename_i hc
      simp only [List.mem_singleton] at hn
      subst hn
      simp only [tells, Bool.and_eq_true, decide_eq_true_eq] at hc
      exact ⟨⟨by simp, by simp, by simp, .inr (.inr ⟨rfl, by simp [h.zero hc.1.1], rfl⟩)⟩, hc.1.1.symm⟩
    · cases hn

theorem outItem_II {T : List ByteArray} {t k : Int} {i : Nat} {x : ItemV ByteArray} (h : II T t k i x) (hk : 0 ≤ k) (ht : 0 ≤ t) : II T t k i (outItem ⟨#[]⟩ k t x) := by
  unfold outItem outI
  split
  · exact ⟨h.body, h.zero, fun hm => ⟨rfl, rfl⟩, fun _ => rfl, h.ask, Int.le_refl _, by show (-1 : Int) ≤ t + k; omega⟩
  · split
    · exact ⟨h.body, h.zero, h.miss, h.fresh, Int.le_refl _, h.repL, h.repU⟩
    · exact h

theorem out_mem {T : List ByteArray} {N : Nat} {t : Int} {m : MemV ByteArray} (h : MI T N t m) (ht : 0 ≤ t) : MI T N t (outMem ⟨#[]⟩ m t) := by
  refine ⟨h.idL, h.idU, Int.le_refl _, h.read, by simpa [outMem] using h.len, by simpa [outMem] using h.zero, fun i x hx => ?_⟩
  simp only [outMem, List.getElem?_map] at hx
  obtain ⟨y, hy, rfl⟩ := Option.map_eq_some_iff.1 hx
  exact outItem_II (h.item i y hy) h.idL ht

theorem knowsI_get (now : Int) : ∀ (n : Nat) (l : List (ItemV ByteArray)) (i : Nat) (x : ItemV ByteArray), (knowsI ⟨#[]⟩ n now l)[i]? = some x → l[i]? = some x ∨ (l.length ≤ i ∧ x = ⟨false, ⟨#[]⟩, now, -1, false⟩)
  | 0, l, i, x, h => .inl h
  | n + 1, l, i, x, h => by
    unfold knowsI at h
    rcases knowsI_get now n _ i x h with h | ⟨h, hx⟩
    · by_cases hi : i < l.length
      · rw [List.getElem?_append_left hi] at h; exact .inl h
      · rw [List.getElem?_append_right (by omega)] at h
        have : i - l.length = 0 := by
          have := (List.getElem?_eq_some_iff.1 h).1
          simp at this; omega
        rw [this] at h
        simp at h
        exact .inr ⟨by omega, h.symm⟩
    · exact .inr ⟨by simp at h; omega, hx⟩

theorem knowsI_old (now : Int) : ∀ (n : Nat) (l : List (ItemV ByteArray)) (i : Nat) (x : ItemV ByteArray), l[i]? = some x → (knowsI ⟨#[]⟩ n now l)[i]? = some x
  | 0, l, i, x, h => h
  | n + 1, l, i, x, h => by
    unfold knowsI
    exact knowsI_old now n _ i x (by rw [List.getElem?_append_left (List.getElem?_eq_some_iff.1 h).1]; exact h)

/-- A member that hears a good note of another one. -/
theorem hear {T : List ByteArray} {N : Nat} {t : Int} {m : MemV ByteArray} {n : NoteV ByteArray} (h : MI T N t m) (hn : NI T N n) (hs : n.src ≠ m.id) (ht : 0 ≤ t) (hN : N ≤ 8) (hT : ∀ s ∈ T, s.size ≤ 100) :
    (inV m n t).1 = 0 ∧ MI T N t (inCore ⟨#[]⟩ m n t) := by
  have hlen := h.len
  have newII : ∀ (i : Nat), m.id ≠ 0 → II T t m.id i ⟨false, ⟨#[]⟩, t, -1, false⟩ := fun i h0 =>
    ⟨fun h => by simp at h, fun h => absurd h h0, fun _ => ⟨rfl, rfl⟩, fun _ => rfl, by show t ≤ t + 20; omega, Int.le_refl _, by show (-1 : Int) ≤ t + m.id; have := h.idL; omega⟩
  have kn : ∀ many : Int, many ≤ N → (∀ (i : Nat) (x : ItemV ByteArray), (knowsI ⟨#[]⟩ (many - m.items.length).toNat t m.items)[i]? = some x → II T t m.id i x) ∧ (knowsI ⟨#[]⟩ (many - m.items.length).toNat t m.items).length ≤ N ∧ (m.id = 0 → (knowsI ⟨#[]⟩ (many - m.items.length).toNat t m.items).length = N) := by
    intro many hm
    refine ⟨fun i x hx => ?_, ?_, fun h0 => ?_⟩
    · rcases knowsI_get t _ _ i x hx with h1 | ⟨h1, rfl⟩
      · exact h.item i x h1
      · refine newII i fun h0 => ?_
        have h2 := h.zero h0
        have h3 := (List.getElem?_eq_some_iff.1 hx).1
        rw [knowsI_len] at h3
        omega
    · rw [knowsI_len]; omega
    · rw [knowsI_len]; have := h.zero h0; omega
  constructor
  · have e0 : ({ data := #[] } : ByteArray).size = 0 := rfl
    have hb : badN n = false := by
      unfold badN
      rcases hn.kind with ⟨k1, k2, k3⟩ | ⟨k1, k2, k3⟩ | ⟨k1, k2, k3⟩
      · have hs := hT _ (List.mem_of_getElem? k3)
        have := hn.srcL; have := hn.srcU; have := hn.noL
        simp [k1]; omega
      · have := hn.srcL; have := hn.srcU; have := hn.noL
        simp [k1, k3]; omega
      · have := hn.srcL; have := hn.srcU; have := hn.noL
        simp [k1, k3]; omega
    have hbe : ¬ (m.id = 0 ∧ beyondV m n = true) := by
      rintro ⟨h0, h1⟩
      have hz := h.zero h0
      unfold beyondV at h1
      rcases hn.kind with ⟨k1, k2, _⟩ | ⟨k1, k2, _⟩ | ⟨k1, k2, _⟩ <;> simp [k1] at h1 <;> omega
    unfold inV
    rw [if_neg (by rw [hb]; simp), if_neg (by have := h.now; omega), if_neg hbe]
  · unfold inCore
    rw [if_neg hs]
    rcases hn.kind with ⟨k1, k2, k3⟩ | ⟨k1, k2, k3⟩ | ⟨k1, k2, k3⟩
    · rw [if_neg (by omega), if_pos k1]
      have hno := hn.noL
      obtain ⟨q1, q2, q3⟩ := kn ((n.no.toNat + 1 : Nat) : Int) (by omega)
      refine ⟨h.idL, h.idU, Int.le_refl _, h.read, by simpa [gotM, knows] using q2, by simpa [gotM, knows] using q3, fun i x hx => ?_⟩
      simp only [gotM, knows, List.getElem?_modify] at hx
      obtain ⟨y, hy, rfl⟩ := Option.map_eq_some_iff.1 hx
      have hII := q1 i y hy
      split
      · rename_i hi
        subst hi
        refine ⟨fun _ => ?_, fun _ => rfl, (fun hf => by cases hf), hII.fresh, hII.ask, Int.le_refl _, by show (-1 : Int) ≤ t + m.id; have := h.idL; omega⟩
        simp only [gotI]
        split
        · rename_i hth; exact hII.body hth
        · exact k3
      · exact hII
    · rw [if_neg (by omega), if_neg (by omega)]
      have hno := hn.noL
      obtain ⟨q1, q2, q3⟩ := kn ((n.no.toNat + 1 : Nat) : Int) (by omega)
      refine ⟨h.idL, h.idU, Int.le_refl _, h.read, by simpa [asked, knows] using q2, by simpa [asked, knows] using q3, fun i x hx => ?_⟩
      simp only [asked, knows, List.getElem?_modify] at hx
      obtain ⟨y, hy, rfl⟩ := Option.map_eq_some_iff.1 hx
      have hII := q1 i y hy
      split
      · unfold askI
        split
        · exact ⟨hII.body, hII.zero, hII.miss, hII.fresh, Int.le_refl _, hII.repL, hII.repU⟩
        · split
          · rename_i hth _
            exact ⟨hII.body, hII.zero, fun hf => absurd hf hth, hII.fresh, hII.ask, by show (-1 : Int) ≤ t + m.id; have := h.idL; omega, Int.le_refl _⟩
          · exact hII
      · exact hII
    · rw [if_pos k1]
      obtain ⟨q1, q2, q3⟩ := kn n.no (by omega)
      exact ⟨h.idL, h.idU, Int.le_refl _, h.read, q2, q3, q1⟩
end Go.Proofs.Ytgpcjoofcmfidaa
