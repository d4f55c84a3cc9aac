/-
  The broadcast stream's law, in plain data: the run of CastRepairs.
-/
import Derived.Test.YtgpcjoofcmfidaaCaLaw5
namespace Go.Proofs.Ytgpcjoofcmfidaa
open Go.XM Go.Ca

/-- The owner, once it has heard j texts. -/
def ownM (T : List ByteArray) (o : Nat) : Nat → MemV ByteArray
  | 0 => initM o
  | j + 1 => inCore ⟨#[]⟩ (ownM T o j) ⟨1, 0, j, T.getD j ⟨#[]⟩⟩ 0

/-- A member that is told how many there are; the sender is not. -/
def toldM (N : Nat) (m : MemV ByteArray) : MemV ByteArray := if m.id = 0 then m else inCore ⟨#[]⟩ m ⟨3, 0, N, ⟨#[]⟩⟩ 0

theorem gotM_has {m : MemV ByteArray} {no i : Nat} {body : ByteArray} {now : Int} (h : Has i m ∨ i = no) : Has i (gotM ⟨#[]⟩ m no body now) := by
  have hk : ∃ x, (knows ⟨#[]⟩ m ((no + 1 : Nat) : Int) now).items[i]? = some x ∧ (x.there = true ∨ i = no) := by
    rcases h with ⟨x, hx, ht⟩ | rfl
    · exact ⟨x, knowsI_old _ _ _ _ _ hx, .inl ht⟩
    · have : i < (knows ⟨#[]⟩ m ((i + 1 : Nat) : Int) now).items.length := by rw [knows_len]; omega
      exact ⟨_, List.getElem?_eq_getElem this, .inr rfl⟩
  obtain ⟨x, hx, hh⟩ := hk
  unfold Has gotM
  simp only [List.getElem?_modify]
  rw [hx]
  by_cases e : no = i
  · exact ⟨gotI body x, by simp [e], rfl⟩
  · exact ⟨x, by simp [e], by rcases hh with h | h; exact h; exact absurd h.symm e⟩

theorem data_NI {T : List ByteArray} {j : Nat} (hj : j < T.length) : NI T T.length ⟨1, 0, j, T.getD j ⟨#[]⟩⟩ :=
  ⟨Int.le_refl _, by show (0 : Int) < 16; omega, by show (0 : Int) ≤ j; omega, .inl ⟨rfl, by show (j : Int) < T.length; omega, by show T[(j : Int).toNat]? = _; simp [List.getElem?_eq_getElem hj]⟩⟩

theorem told_NI {T : List ByteArray} : NI T T.length ⟨3, 0, T.length, ⟨#[]⟩⟩ :=
  ⟨Int.le_refl _, by show (0 : Int) < 16; omega, by show (0 : Int) ≤ T.length; omega, .inr (.inr ⟨rfl, rfl, rfl⟩)⟩

theorem ownM_ok {T : List ByteArray} {o : Nat} (ho : o ≠ 0) (ho16 : o < 16) (hT8 : T.length ≤ 8) (hTs : ∀ s ∈ T, s.size ≤ 100) : ∀ j, j ≤ T.length → MI T T.length 0 (ownM T o j) ∧ (ownM T o j).id = o ∧ ∀ i, i < j → Has i (ownM T o j)
  | 0, _ => ⟨initM_MI ho16 (fun h => absurd h ho), rfl, fun i hi => absurd hi (Nat.not_lt_zero i)⟩
  | j + 1, hj => by
    obtain ⟨h1, h2, h3⟩ := ownM_ok ho ho16 hT8 hTs j (by omega)
    have hh := hear h1 (data_NI (j := j) (by omega)) (by rw [h2]; show (0 : Int) ≠ o; omega) (Int.le_refl _) hT8 hTs
    refine ⟨hh.2, (inCore_id _ _ _ _).trans h2, fun i hi => ?_⟩
    show Has i (inCore ⟨#[]⟩ (ownM T o j) ⟨1, 0, j, T.getD j ⟨#[]⟩⟩ 0)
    unfold inCore
    rw [if_neg (by rw [h2]; show ¬ (0 : Int) = o; omega), if_neg (by show ¬ (1 : Int) = 3; omega), if_pos rfl]
    refine gotM_has ?_
    by_cases e : i = j
    · exact .inr (by simp [e])
    · exact .inl (h3 i (by omega))

/-- The members at the first tick. -/
def startB (T : List ByteArray) (M o : Nat) : List (MemV ByteArray) := (((List.range M).map initM).set o (ownM T o T.length)).map (toldM T.length)

def runB (T : List ByteArray) (M o : Nat) : Nat → List (MemV ByteArray)
  | 0 => startB T M o
  | i + 1 => (tickM ⟨#[]⟩ 0 i [] (runB T M o i)).1

theorem toldM_id (N : Nat) (m : MemV ByteArray) : (toldM N m).id = m.id := by
  unfold toldM; split; rfl; exact inCore_id _ _ _ _

theorem quiet_snoc {dead : Int} : ∀ (n : Nat) (t : Int) (ms : List (MemV ByteArray)), quietRun dead (n + 1) t ms = (quietRun dead n t ms).map (stepM dead (t + n) (quietRun dead n t ms))
  | 0, t, ms => by simp [quietRun]
  | n + 1, t, ms => by
    show quietRun dead (n + 1) (t + 1) (ms.map (stepM dead t ms)) = _
    rw [quiet_snoc n (t + 1), show t + ((n + 1 : Nat) : Int) = t + 1 + n by omega]
    rfl

theorem runB_quiet {T : List ByteArray} {M o : Nat} : ∀ i, runB T M o i = quietRun 0 i 0 (startB T M o)
  | 0 => rfl
  | i + 1 => by
    rw [quiet_snoc, ← runB_quiet i, show (0 : Int) + (i : Int) = i by omega]
    show (tickM ⟨#[]⟩ 0 i [] (runB T M o i)).1 = _
    rw [tick_quiet]

structure RB (T : List ByteArray) (M : Nat) (i : Nat) (ms : List (MemV ByteArray)) : Prop where
  ids : Ids ms
  len : ms.length = M
  alive : AliveD 0 T T.length i ms
  dead : ∀ m ∈ ms, m.id = 0 → m = initM 0

theorem hearA_dead {t : Int} : ∀ (ns : List (NoteV ByteArray)) (m : MemV ByteArray), m.id = 0 → hearA 0 t ns m = m
  | [], _, _ => rfl
  | n :: ns, m, h => by
    unfold hearA
    rw [List.foldl_cons]
    have e : hearM ⟨#[]⟩ 0 t n [] m = m := by unfold hearM; rw [if_pos (.inl h)]
    rw [e]
    exact hearA_dead ns m h

theorem stepM_dead {t : Int} {ms : List (MemV ByteArray)} {m : MemV ByteArray} (h : m.id = 0) : stepM 0 t ms m = m := by
  unfold stepM
  have e : outD ⟨#[]⟩ 0 t m = m := by unfold outD; rw [if_pos h]
  rw [e, hearA_dead _ _ h]

theorem startB_get {T : List ByteArray} {M o : Nat} (ho : o < M) {k : Nat} {m : MemV ByteArray} (h : (startB T M o)[k]? = some m) : k < M ∧ m = toldM T.length (if k = o then ownM T o T.length else initM k) := by
  unfold startB at h
  rw [List.getElem?_map] at h
  obtain ⟨x, hx, rfl⟩ := Option.map_eq_some_iff.1 h
  rw [List.getElem?_set] at hx
  by_cases e : o = k
  · rw [if_pos e] at hx
    split at hx
    · cases hx; subst e; exact ⟨ho, by rw [if_pos rfl]⟩
    · cases hx
  · rw [if_neg e, List.getElem?_map] at hx
    obtain ⟨y, hy, rfl⟩ := Option.map_eq_some_iff.1 hx
    have hk := (List.getElem?_eq_some_iff.1 hy).1
    have hy2 := (List.getElem?_eq_some_iff.1 hy).2
    simp at hk hy2
    subst hy2
    exact ⟨hk, by rw [if_neg (fun h => e h.symm)]⟩

theorem startB_one {T : List ByteArray} {M o : Nat} (ho0 : o ≠ 0) (ho : o < M) (hM : M ≤ 16) (hT8 : T.length ≤ 8) (hTs : ∀ s ∈ T, s.size ≤ 100) {k : Nat} {m : MemV ByteArray} (h : (startB T M o)[k]? = some m) :
    m.id = k ∧ m.items.length ≤ 64 ∧ (k = 0 → m = initM 0) ∧ (k ≠ 0 → MI T T.length 0 m ∧ T.length ≤ m.items.length) ∧ (k = o → ∀ i, i < T.length → Has i m) := by
  obtain ⟨hk, rfl⟩ := startB_get ho h
  by_cases k0 : k = 0
  · subst k0
    rw [if_neg (fun h => ho0 h.symm)]
    have e : toldM T.length (initM 0) = initM 0 := by unfold toldM; exact if_pos (show (initM 0).id = 0 from rfl)
    rw [e]
    exact ⟨rfl, by simp [initM], fun _ => rfl, fun h => absurd rfl h, fun h => absurd h.symm ho0⟩
  · have key : ∀ x : MemV ByteArray, x.id = k → MI T T.length 0 x → MI T T.length 0 (toldM T.length x) ∧ T.length ≤ (toldM T.length x).items.length ∧ ∀ i, Has i x → Has i (toldM T.length x) := by
      intro x hx hM
      have hh := hear hM (told_NI (T := T)) (by rw [hx]; show (0 : Int) ≠ k; omega) (Int.le_refl _) hT8 hTs
      unfold toldM
      rw [if_neg (by omega)]
      refine ⟨hh.2, ?_, fun i ⟨y, hy, ht⟩ => ?_⟩
      · unfold inCore
        rw [if_neg (by rw [hx]; show ¬ (0 : Int) = k; omega), if_pos rfl, knows_len]
        show T.length ≤ x.items.length + ((T.length : Int) - x.items.length).toNat
        omega
      · unfold inCore
        rw [if_neg (by rw [hx]; show ¬ (0 : Int) = k; omega), if_pos rfl]
        exact ⟨y, knowsI_old _ _ _ _ _ hy, ht⟩
    by_cases e : k = o
    · subst e
      rw [if_pos rfl]
      obtain ⟨h1, h2, h3⟩ := ownM_ok k0 (by omega) hT8 hTs T.length (Nat.le_refl _)
      obtain ⟨q1, q2, q3⟩ := key _ h2 h1
      exact ⟨(toldM_id _ _).trans h2, by have := q1.len; omega, fun h => absurd h k0, fun _ => ⟨q1, q2⟩, fun _ i hi => q3 i (h3 i hi)⟩
    · rw [if_neg e]
      obtain ⟨q1, q2, _⟩ := key (initM k) rfl (initM_MI (by omega) (fun h => absurd h k0))
      exact ⟨(toldM_id _ _).trans rfl, by have := q1.len; omega, fun h => absurd h k0, fun _ => ⟨q1, q2⟩, fun h => absurd h e⟩

theorem runB_ok {T : List ByteArray} {M o : Nat} (ho0 : o ≠ 0) (ho : o < M) (hM : M ≤ 16) (hT8 : T.length ≤ 8) (hTs : ∀ s ∈ T, s.size ≤ 100) : ∀ i, RB T M i (runB T M o i)
  | 0 => by
    refine ⟨fun k m h => (startB_one ho0 ho hM hT8 hTs h).1, by simp [runB, startB], fun m hm => ?_, fun m hm h0 => ?_⟩
    · obtain ⟨k, hk⟩ := List.mem_iff_getElem?.1 hm
      have := startB_one ho0 ho hM hT8 hTs hk
      exact ⟨this.2.1, fun hd => (this.2.2.2.1 (by omega)).1⟩
    · obtain ⟨k, hk⟩ := List.mem_iff_getElem?.1 hm
      have := startB_one ho0 ho hM hT8 hTs hk
      exact this.2.2.1 (by omega)
  | i + 1 => by
    have ih := runB_ok ho0 ho hM hT8 hTs i
    have ti := tick_inv (fs := []) ih.alive (by omega) (by omega) hTs
    have td := tick_ids (dead := 0) (t := (i : Int)) (fs := []) ih.ids
    have e1 : ((i + 1 : Nat) : Int) = (i : Int) + 1 := by omega
    refine ⟨td.1, by show (tickM _ _ _ _ _).1.length = M; rw [td.2, ih.len], by rw [e1]; exact ti.2, fun m hm h0 => ?_⟩
    have hm : m ∈ (tickM ⟨#[]⟩ 0 i [] (runB T M o i)).1 := hm
    rw [tick_quiet] at hm
    obtain ⟨x, hx, rfl⟩ := List.mem_map.1 hm
    rw [stepM_id] at h0
    rw [stepM_dead h0]
    exact ih.dead x hx h0

/-- In the end, every living member has all messages. -/
theorem runB_end {T : List ByteArray} {M o : Nat} (ho0 : o ≠ 0) (ho : o < M) (hM : M ≤ 16) (hT8 : T.length ≤ 8) (hTs : ∀ s ∈ T, s.size ≤ 100) : ∀ m ∈ runB T M o 100, m.items.length ≤ 64 ∧ m.read = 0 ∧ (m.id ≠ 0 → texts m = T) := by
  have h100 := runB_ok ho0 ho hM hT8 hTs 100
  have h0 := runB_ok ho0 ho hM hT8 hTs 0
  intro m hm
  refine ⟨(h100.alive m hm).1, ?_, fun hd => texts_of ((h100.alive m hm).2 hd) fun i hi => ?_⟩
  · by_cases hd : m.id = 0
    · rw [h100.dead m hm hd]; rfl
    · exact ((h100.alive m hm).2 hd).read
  · have hkn : ∀ m ∈ startB T M o, m.id ≠ 0 → i < m.items.length := fun m hm hd => by
      obtain ⟨k, hk⟩ := List.mem_iff_getElem?.1 hm
      have := startB_one ho0 ho hM hT8 hTs hk
      have := (this.2.2.2.1 (by omega)).2
      omega
    have hown : Own1 o i (startB T M o) := by
      have hlt : o < (startB T M o).length := by simpa [startB] using ho
      have hk := List.getElem?_eq_getElem hlt
      have := startB_one ho0 ho hM hT8 hTs hk
      exact ⟨_, List.mem_of_getElem? hk, this.1, this.2.2.2.2 rfl i hi⟩
    have hca : CA 0 i 20 (startB T M o) := CA_of (t := 0) h0.alive hkn
    have hall := run_CA (dead := 0) (T := T) (N := T.length) (i := i) (o := o) (A := 20) hT8 hTs (by omega) (by omega) 100 0 (startB T M o) h0.ids h0.alive (Int.le_refl _) hca hown (by omega) (by omega)
    rw [← runB_quiet] at hall
    exact hall m hm hd
end Go.Proofs.Ytgpcjoofcmfidaa
