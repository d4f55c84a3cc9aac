/-
  The broadcast stream's law, in plain data: the announcements, the fates, and what is read in the end.
-/
import Derived.Test.YtgpcjoofcmfidaaCaLaw3
import Derived.Test.YtgpcjoofcmfidaaCb9
namespace Go.Proofs.Ytgpcjoofcmfidaa
open Go.XM Go.Ca

section
variable {dead : Int} {T : List ByteArray} {N : Nat} {t : Int} {ms : List (MemV ByteArray)} {i : Nat}

theorem texts_all {m : MemV ByteArray} (hl : m.items.length = T.length) (h : ∀ i, i < T.length → ∃ x, m.items[i]? = some x ∧ x.there = true ∧ T[i]? = some x.body) : texts m = T := by
  have hg : gotN m.items = m.items.length := by
    have h1 := gotN_le m.items
    have h2 := gotN_ge' m.items m.items.length (fun i hi => by obtain ⟨x, hx, ht, _⟩ := h i (by omega); exact ⟨x, hx, ht⟩)
    omega
  unfold texts
  rw [hg, List.take_length]
  refine List.ext_getElem? fun k => ?_
  rw [List.getElem?_map]
  by_cases hk : k < T.length
  · obtain ⟨x, hx, _, hT⟩ := h k hk
    rw [hx, hT]; rfl
  · rw [List.getElem?_eq_none (by omega), List.getElem?_eq_none (by omega)]; rfl
where
  gotN_ge' : ∀ (l : List (ItemV ByteArray)) (n : Nat), (∀ i, i < n → ∃ x, l[i]? = some x ∧ x.there = true) → n ≤ gotN l
  | _, 0, _ => Nat.zero_le _
  | [], n + 1, h => by obtain ⟨x, hx, _⟩ := h 0 (by omega); cases hx
  | y :: l, n + 1, h => by
    obtain ⟨x, hx, ht⟩ := h 0 (by omega)
    simp at hx; subst hx
    unfold gotN
    rw [if_pos ht]
    have := gotN_ge' l n (fun i hi => by obtain ⟨x, hx, ht⟩ := h (i + 1) (by omega); exact ⟨x, by simpa using hx, ht⟩)
    omega

theorem texts_of {m : MemV ByteArray} (h : MI T T.length t m) (hk : ∀ i, i < T.length → Has i m) : texts m = T := by
  have hl : m.items.length = T.length := by
    have h1 := h.len
    rcases Nat.eq_zero_or_pos T.length with h0 | h0
    · omega
    · obtain ⟨x, hx, _⟩ := hk (T.length - 1) (by omega)
      have := (List.getElem?_eq_some_iff.1 hx).1
      omega
  exact texts_all hl fun i hi => by
    obtain ⟨x, hx, ht⟩ := hk i hi
    exact ⟨x, hx, ht, (h.item i x hx).body ht⟩

/-! Known lengths only grow; an announcement is heard by all. -/
theorem inCore_grow (m : MemV ByteArray) (n : NoteV ByteArray) (t : Int) : m.items.length ≤ (inCore ⟨#[]⟩ m n t).items.length := by
  unfold inCore
  split
  · exact Nat.le_refl _
  · split
    · show _ ≤ (knowsI _ _ _ _).length; rw [knowsI_len]; exact Nat.le_add_right _ _
    · split
      · simp only [gotM, knows, List.length_modify, knowsI_len]; exact Nat.le_add_right _ _
      · simp only [asked, knows, List.length_modify, knowsI_len]; exact Nat.le_add_right _ _

theorem hearM_grow (n : NoteV ByteArray) (fs : List Int) (m : MemV ByteArray) : m.items.length ≤ (hearM ⟨#[]⟩ dead t n fs m).items.length := by
  unfold hearM; split; exact Nat.le_refl _; exact inCore_grow m n t

theorem hearA_grow : ∀ (ns : List (NoteV ByteArray)) (m : MemV ByteArray), m.items.length ≤ (hearA dead t ns m).items.length
  | [], _ => Nat.le_refl _
  | n :: ns, m => Nat.le_trans (hearM_grow n [] m) (hearA_grow ns _)

theorem hearA_told {k : Nat} : ∀ (ns : List (NoteV ByteArray)) (m : MemV ByteArray), m.id ≠ dead → (∃ n ∈ ns, n.kind = 3 ∧ n.no = k ∧ n.src ≠ m.id) → k ≤ (hearA dead t ns m).items.length
  | n :: ns, m, hd, ⟨n', hn', h1, h2, h3⟩ => by
    rcases List.mem_cons.1 hn' with rfl | hn'
    · refine Nat.le_trans ?_ (hearA_grow ns _)
      show k ≤ (hearM ⟨#[]⟩ dead t n' [] m).items.length
      unfold hearM
      rw [if_neg (by rintro (h | h | h); exact hd h; cases h; exact h3 h.symm)]
      unfold inCore
      rw [if_neg h3, if_pos h1]
      show _ ≤ (knowsI _ _ _ _).length
      rw [knowsI_len]
      show k ≤ m.items.length + (n'.no - (m.items.length : Int)).toNat
      omega
    · have := hearA_told ns (hearM ⟨#[]⟩ dead t n [] m) (by rw [hearM_id]; exact hd) ⟨n', hn', h1, h2, by rw [hearM_id]; exact h3⟩
      exact this

theorem told_air {m0 : MemV ByteArray} (hm : m0 ∈ ms) (hd : m0.id ≠ dead) (ht : tells m0 t = true) : (⟨3, 0, m0.items.length, ⟨#[]⟩⟩ : NoteV ByteArray) ∈ ms.flatMap (airD ⟨#[]⟩ dead t) := by
  refine List.mem_flatMap.2 ⟨m0, hm, ?_⟩
  unfold airD; rw [if_neg hd]; unfold outAir
  rw [if_pos ht]
  exact List.mem_append_right _ (by simp)

/-- An announcement without losses: all know. -/
theorem told_know (hal : AliveD dead T N t ms) {m0 : MemV ByteArray} (hm : m0 ∈ ms) (h0 : m0.id = 0) (hd : m0.id ≠ dead) (ht : tells m0 t = true) : ∀ m ∈ ms.map (stepM dead t ms), m.id ≠ dead → N ≤ m.items.length := by
  intro m' hm' hd'
  obtain ⟨m, hmm, rfl⟩ := List.mem_map.1 hm'
  rw [stepM_id] at hd'
  have hz := ((hal m0 hm).2 hd).zero h0
  have ha := told_air hm hd ht
  rw [hz] at ha
  by_cases hid : m.id = 0
  · have := ((hal m hmm).2 hd').zero hid
    unfold stepM
    refine Nat.le_trans ?_ (hearA_grow _ _)
    unfold outD outMem; rw [if_neg hd']; simp [this]
  · unfold stepM
    exact hearA_told _ _ (by rw [outD_id]; exact hd') ⟨_, ha, rfl, rfl, by rw [outD_id]; exact fun e => hid e.symm⟩

/-- What is known and missing is asked for soon. -/
theorem CA_of (hal : AliveD dead T N t ms) (hk : ∀ m ∈ ms, m.id ≠ dead → i < m.items.length) : CA dead i (t + 20) ms := by
  intro m hm hd
  have hx := List.getElem?_eq_getElem (hk m hm hd)
  exact ⟨_, hx, .inr (((hal m hm).2 hd).item i _ hx).ask⟩

theorem Own1_zero (hal : AliveD dead T N t ms) {m0 : MemV ByteArray} (hm : m0 ∈ ms) (h0 : m0.id = 0) (hd : m0.id ≠ dead) (hi : i < N) : Own1 0 i ms := by
  have h := (hal m0 hm).2 hd
  have hx := List.getElem?_eq_getElem (show i < m0.items.length by rw [h.zero h0]; exact hi)
  exact ⟨m0, hm, h0, _, hx, (h.item i _ hx).zero h0⟩

theorem quiet_alive (hN : N ≤ 8) (hT : ∀ s ∈ T, s.size ≤ 100) : ∀ (n : Nat) (t : Int) (ms : List (MemV ByteArray)), AliveD dead T N t ms → 0 ≤ t → AliveD dead T N (t + n) (quietRun dead n t ms)
  | 0, t, ms, h, _ => by simpa [quietRun] using h
  | n + 1, t, ms, h, ht => by
    have := quiet_alive hN hT n (t + 1) _ (alive_step h ht hN hT) (by omega)
    rw [show t + ((n + 1 : Nat) : Int) = t + 1 + n by omega]
    exact this

theorem quiet_ids : ∀ (n : Nat) (t : Int) (ms : List (MemV ByteArray)), Ids ms → Ids (quietRun dead n t ms) ∧ (quietRun dead n t ms).length = ms.length
  | 0, _, _, h => ⟨h, rfl⟩
  | n + 1, t, ms, h => by
    have := quiet_ids n (t + 1) _ (h.map fun m => stepM_id (dead := dead) (t := t) (ms := ms) m)
    exact ⟨this.1, by show (quietRun dead n (t + 1) _).length = _; rw [this.2]; simp⟩

/-! The sender speaks. -/
def sayAt (T : List ByteArray) (k : Nat) (ms : List (MemV ByteArray)) : List (MemV ByteArray) := match T[k]? with
  | some s => ms.modify 0 (fun m => sayV m s)
  | none => ms

theorem say_MI {s : ByteArray} {m : MemV ByteArray} (h : MI T N t m) (h0 : m.id = 0) (hs : T[N]? = some s) (ht : 0 ≤ t) : MI T (N + 1) t (sayV m s) := by
  refine ⟨h.idL, h.idU, h.now, h.read, by simp [sayV]; exact h.len, fun _ => by simp [sayV]; exact h.zero h0, fun i x hx => ?_⟩
  simp only [sayV] at hx
  by_cases hi : i < m.items.length
  · rw [List.getElem?_append_left hi] at hx; exact h.item i x hx
  · rw [List.getElem?_append_right (by omega)] at hx
    have hz := h.zero h0
    have hi0 : i - m.items.length = 0 := by have := (List.getElem?_eq_some_iff.1 hx).1; simp at this; omega
    rw [hi0] at hx
    simp at hx
    subst hx
    have : i = N := by omega
    subst this
    exact ⟨fun _ => hs, fun _ => rfl, fun h => by simp at h, fun h => absurd h0 h, by show (0 : Int) ≤ t + 20; omega, Int.le_refl _, by show (-1 : Int) ≤ t + m.id; omega⟩

theorem say_alive {s : ByteArray} (hid : Ids ms) (h : AliveD (-1) T N t ms) (hs : T[N]? = some s) (ht : 0 ≤ t) (hN : N < 8) : AliveD (-1) T (N + 1) t (ms.modify 0 (fun m => sayV m s)) ∧ Ids (ms.modify 0 (fun m => sayV m s)) := by
  refine ⟨fun m hm => ?_, fun k m hk => ?_⟩
  · obtain ⟨k, hk⟩ := List.mem_iff_getElem?.1 hm
    rw [List.getElem?_modify] at hk
    obtain ⟨m0, hm0, rfl⟩ := Option.map_eq_some_iff.1 hk
    have hmem := List.mem_of_getElem? hm0
    have hidk := hid k m0 hm0
    have hMI := (h m0 hmem).2 (by omega)
    by_cases hk0 : 0 = k
    · subst hk0
      rw [if_pos rfl]
      have hM := say_MI hMI (by omega) hs ht
      exact ⟨by have := hM.len; omega, fun _ => hM⟩
    · rw [if_neg hk0]
      exact ⟨(h m0 hmem).1, fun _ => ⟨hMI.idL, hMI.idU, hMI.now, hMI.read, Nat.le_succ_of_le hMI.len, fun h0 => by omega, hMI.item⟩⟩
  · rw [List.getElem?_modify] at hk
    obtain ⟨m0, hm0, rfl⟩ := Option.map_eq_some_iff.1 hk
    have := hid k m0 hm0
    split
    · exact this
    · exact this
end
end Go.Proofs.Ytgpcjoofcmfidaa
