/-
  The broadcast stream's law, in plain data: the run of CastQuiet.
-/
import Derived.Test.YtgpcjoofcmfidaaCaLaw6
namespace Go.Proofs.Ytgpcjoofcmfidaa
open Go.XM Go.Ca

/-- The sender, once it has said j texts. -/
def saidM (T : List ByteArray) : Nat → MemV ByteArray
  | 0 => initM 0
  | j + 1 => sayV (saidM T j) (T.getD j ⟨#[]⟩)

theorem saidM_id (T : List ByteArray) : ∀ j, (saidM T j).id = 0
  | 0 => rfl
  | j + 1 => saidM_id T j
theorem saidM_hello (T : List ByteArray) : ∀ j, (saidM T j).hello = 0
  | 0 => rfl
  | j + 1 => saidM_hello T j
theorem saidM_now (T : List ByteArray) : ∀ j, (saidM T j).now = 0
  | 0 => rfl
  | j + 1 => saidM_now T j

theorem saidM_items {T : List ByteArray} : ∀ j, j ≤ T.length → (saidM T j).items = (T.take j).map fun s => ⟨true, s, 0, -1, true⟩
  | 0, _ => by simp [saidM, initM]
  | j + 1, h => by
    show (saidM T j).items ++ _ = _
    rw [saidM_items j (by omega), List.take_add_one, List.getElem?_eq_getElem (by omega), List.map_append]
    simp [List.getD_eq_getElem?_getD, List.getElem?_eq_getElem (show j < T.length by omega)]

theorem saidM_MI {T : List ByteArray} : ∀ j, j ≤ T.length → MI T j 0 (saidM T j)
  | 0, _ => initM_MI (by omega) (fun _ => rfl)
  | j + 1, h => say_MI (saidM_MI j (by omega)) (saidM_id T j) (by simp [List.getD_eq_getElem?_getD, List.getElem?_eq_getElem (show j < T.length by omega)]) (Int.le_refl _)

def startQ (T : List ByteArray) (M : Nat) : List (MemV ByteArray) := ((List.range M).map initM).set 0 (saidM T T.length)

def runQ (T : List ByteArray) (M : Nat) : Nat → List (MemV ByteArray)
  | 0 => startQ T M
  | i + 1 => (tickM ⟨#[]⟩ (-1) i [] (runQ T M i)).1

/-- Calm: all is there, and nothing is to be sent but announcements. -/
structure Calm (N : Nat) (t : Int) (m : MemV ByteArray) : Prop where
  len : m.items.length = N
  now : m.now ≤ t
  item : ∀ x ∈ m.items, x.there = true ∧ x.rep = -1 ∧ x.fresh = false

theorem calm_outI {id t : Int} {k : Nat} {x : ItemV ByteArray} (h : x.there = true ∧ x.rep = -1 ∧ x.fresh = false) : outI ⟨#[]⟩ id t k x = (none, x) := by
  unfold outI
  rw [if_neg (by rw [h.2.2, h.2.1]; simp), if_neg (by rw [h.1]; simp)]

theorem calm_notes {id t : Int} : ∀ (l : List (ItemV ByteArray)) (k : Nat), (∀ x ∈ l, x.there = true ∧ x.rep = -1 ∧ x.fresh = false) → outNotes ⟨#[]⟩ id t k l = []
  | [], _, _ => rfl
  | x :: l, k, h => by
    unfold outNotes
    rw [calm_outI (h x (by simp)), calm_notes l (k + 1) (fun y hy => h y (by simp [hy]))]
    rfl

theorem calm_air {N : Nat} {t t' : Int} {m : MemV ByteArray} (h : Calm N t' m) : outAir ⟨#[]⟩ m t = if tells m t then [⟨3, 0, N, ⟨#[]⟩⟩] else [] := by
  unfold outAir
  rw [calm_notes _ _ h.item, List.nil_append, h.len]

theorem calm_out {N : Nat} {t t' : Int} {m : MemV ByteArray} (h : Calm N t' m) : Calm N t (outMem ⟨#[]⟩ m t) ∧ (outMem ⟨#[]⟩ m t).hello = if tells m t then t + 50 else m.hello := by
  have e : m.items.map (outItem ⟨#[]⟩ m.id t) = m.items := by
    refine (List.map_congr_left fun x hx => ?_).trans (List.map_id _)
    unfold outItem; rw [calm_outI (h.item x hx)]; rfl
  refine ⟨⟨?_, Int.le_refl _, ?_⟩, rfl⟩
  · simp only [outMem, List.length_map]; exact h.len
  · simp only [outMem, e]; exact h.item

theorem calm_hear {N : Nat} {t : Int} {m : MemV ByteArray} (h : Calm N t m) : Calm N t (hearM ⟨#[]⟩ (-1) t ⟨3, 0, N, ⟨#[]⟩⟩ [] m) ∧ (hearM ⟨#[]⟩ (-1) t ⟨3, 0, N, ⟨#[]⟩⟩ [] m).hello = m.hello := by
  unfold hearM
  split
  · exact ⟨h, rfl⟩
  · unfold inCore
    split
    · exact ⟨⟨h.len, Int.le_refl _, h.item⟩, rfl⟩
    · rw [if_pos rfl]
      have e : (((N : Nat) : Int) - (m.items.length : Int)).toNat = 0 := by rw [h.len]; omega
      have e2 : knows (⟨#[]⟩ : ByteArray) { m with now := t } ((N : Nat) : Int) t = { m with now := t } := by
        unfold knows; simp only [e, knowsI]
      show Calm N t (knows (⟨#[]⟩ : ByteArray) { m with now := t } ((N : Nat) : Int) t) ∧ (knows (⟨#[]⟩ : ByteArray) { m with now := t } ((N : Nat) : Int) t).hello = m.hello
      rw [e2]
      exact ⟨⟨h.len, Int.le_refl _, h.item⟩, rfl⟩

theorem calm_hearA {N : Nat} {t : Int} : ∀ (ns : List (NoteV ByteArray)) (m : MemV ByteArray), (∀ n ∈ ns, n = ⟨3, 0, N, ⟨#[]⟩⟩) → Calm N t m → Calm N t (hearA (-1) t ns m) ∧ (hearA (-1) t ns m).hello = m.hello
  | [], _, _, h => ⟨h, rfl⟩
  | n :: ns, m, hn, h => by
    have e := hn n (by simp)
    subst e
    have h1 := calm_hear h
    have h2 := calm_hearA ns _ (fun n' hn' => hn n' (by simp [hn'])) h1.1
    exact ⟨h2.1, h2.2.trans h1.2⟩

theorem Calm.mono {N : Nat} {t t' : Int} {m : MemV ByteArray} (h : Calm N t m) (ht : t ≤ t') : Calm N t' m := ⟨h.len, Int.le_trans h.now ht, h.item⟩

/-- A calm group; the next announcement is due at h. -/
structure GQ (N : Nat) (t h : Int) (ms : List (MemV ByteArray)) : Prop where
  ids : Ids ms
  calm : ∀ m ∈ ms, Calm N t m
  hello : ∀ m ∈ ms, m.id = 0 → m.hello = h

theorem calm_tells {N : Nat} {t t' : Int} {m : MemV ByteArray} (h : Calm N t' m) (h0 : m.id = 0) : tells m t = (decide (0 < N) && decide (m.hello ≤ t)) := by
  unfold tells
  rw [h.len, h0]
  simp

theorem GQ.out {N : Nat} {t t' h : Int} {ms : List (MemV ByteArray)} (g : GQ N t' h ms) : GQ N t (if 0 < N ∧ h ≤ t then t + 50 else h) (ms.map fun m => outMem ⟨#[]⟩ m t) := by
  refine ⟨g.ids.map fun m => rfl, fun m' hm' => ?_, fun m' hm' h0 => ?_⟩
  · obtain ⟨m, hm, rfl⟩ := List.mem_map.1 hm'
    exact (calm_out (g.calm m hm)).1
  · obtain ⟨m, hm, rfl⟩ := List.mem_map.1 hm'
    have h0 : m.id = 0 := h0
    rw [(calm_out (g.calm m hm)).2, calm_tells (g.calm m hm) h0, g.hello m hm h0]
    simp

theorem GQ.step {N : Nat} {t h : Int} {ms : List (MemV ByteArray)} (g : GQ N t h ms) : GQ N (t + 1) (if 0 < N ∧ h ≤ t then t + 50 else h) (tickM ⟨#[]⟩ (-1) t [] ms).1 := by
  have hid : ∀ m ∈ ms, m.id ≠ -1 := fun m hm => by
    obtain ⟨k, hk⟩ := List.mem_iff_getElem?.1 hm
    have := g.ids k m hk; omega
  have hair : ∀ n ∈ ms.flatMap (airD ⟨#[]⟩ (-1) t), n = ⟨3, 0, N, ⟨#[]⟩⟩ := by
    intro n hn
    obtain ⟨m, hm, hn⟩ := List.mem_flatMap.1 hn
    unfold airD at hn
    rw [if_neg (hid m hm), calm_air (g.calm m hm)] at hn
    split at hn
    · simpa using hn
    · cases hn
  have go := g.out (t := t)
  rw [tick_quiet]
  refine ⟨g.ids.map fun m => stepM_id m, fun m' hm' => ?_, fun m' hm' h0 => ?_⟩
  · obtain ⟨m, hm, rfl⟩ := List.mem_map.1 hm'
    unfold stepM outD
    rw [if_neg (hid m hm)]
    exact (calm_hearA _ _ hair ((calm_out (g.calm m hm)).1.mono (by omega))).1
  · obtain ⟨m, hm, rfl⟩ := List.mem_map.1 hm'
    rw [stepM_id] at h0
    unfold stepM outD
    rw [if_neg (hid m hm), (calm_hearA _ _ hair ((calm_out (t := t) (g.calm m hm)).1.mono (by omega))).2]
    exact go.hello _ (List.mem_map.2 ⟨m, hm, rfl⟩) h0

/-! The first tick. -/
theorem first_hear {k : Nat} (hk : k ≠ 0) : ∀ (U P : List ByteArray) (m : MemV ByteArray), m.id = k → m.hello = 0 → m.now ≤ 1 → m.items = (P.map fun s => ⟨true, s, 1, -1, false⟩) →
    ∃ m', hearA (-1) 1 (outNotes ⟨#[]⟩ 0 0 P.length (U.map fun s => ⟨true, s, 0, -1, true⟩)) m = m' ∧ m'.id = k ∧ m'.hello = 0 ∧ m'.now ≤ 1 ∧ m'.items = ((P ++ U).map fun s => ⟨true, s, 1, -1, false⟩)
  | [], P, m, h1, h2, h3, h4 => ⟨m, rfl, h1, h2, h3, by rw [List.append_nil]; exact h4⟩
  | s :: U, P, m, h1, h2, h3, h4 => by
    have e1 : outI (⟨#[]⟩ : ByteArray) 0 0 P.length (⟨true, s, 0, -1, true⟩ : ItemV ByteArray) = (some ⟨1, 0, P.length, s⟩, ⟨true, s, 0, -1, false⟩) := by unfold outI; rw [if_pos (.inl rfl)]
    have hl : lostAt [] m.id.toNat = false := rfl
    have e2 : hearM ⟨#[]⟩ (-1) 1 ⟨1, 0, P.length, s⟩ [] m = ⟨m.id, (P ++ [s]).map fun s => ⟨true, s, 1, -1, false⟩, m.read, m.hello, 1⟩ := by
      unfold hearM
      rw [if_neg (by rintro (h | h | h); (rw [h1] at h; omega); (rw [hl] at h; cases h); (rw [h1] at h; have h : (k : Int) = 0 := h; omega))]
      unfold inCore
      rw [if_neg (by rw [h1]; show ¬ (0 : Int) = k; omega), if_neg (by show ¬ (1 : Int) = 3; omega), if_pos rfl]
      have e3 : (((P.length : Int).toNat + 1 : Nat) : Int) - (((P.map fun s => (⟨true, s, 1, -1, false⟩ : ItemV ByteArray)).length : Nat) : Int) = 1 := by rw [List.length_map]; omega
      unfold gotM knows
      simp only [h4]
      rw [show (((P.length : Int).toNat + 1 : Nat) : Int) - (((P.map fun s => (⟨true, s, 1, -1, false⟩ : ItemV ByteArray)).length : Nat) : Int) = 1 from e3]
      show (⟨m.id, (knowsI ⟨#[]⟩ 1 1 _).modify _ _, m.read, m.hello, 1⟩ : MemV ByteArray) = _
      congr 1
      simp only [knowsI, List.map_append, List.map_cons, List.map_nil]
      refine List.ext_getElem? fun i => ?_
      rw [List.getElem?_modify]
      have e5 : ((P.length : Int)).toNat = P.length := by omega
      rw [e5]
      by_cases hi : i < P.length
      · rw [List.getElem?_append_left (by simpa using hi), List.getElem?_append_left (by simpa using hi)]
        have hne : ¬ P.length = i := by omega
        simp [hne]
      · by_cases hi2 : i = P.length
        · subst hi2
          simp [gotI]
        · rw [List.getElem?_eq_none (by simp; omega), List.getElem?_eq_none (by simp; omega)]
          rfl
    have ih := first_hear hk U (P ++ [s]) ⟨m.id, (P ++ [s]).map fun s => ⟨true, s, 1, -1, false⟩, m.read, m.hello, 1⟩ h1 h2 (Int.le_refl _) rfl
    obtain ⟨m', q0, q1, q2, q3, q4⟩ := ih
    refine ⟨m', ?_, q1, q2, q3, by rw [q4, List.append_assoc]; rfl⟩
    simp only [List.map_cons, outNotes, e1, Option.toList_some, List.singleton_append]
    show hearA (-1) 1 _ (hearM ⟨#[]⟩ (-1) 1 ⟨1, 0, P.length, s⟩ [] m) = m'
    rw [e2, ← q0, List.length_append]
    rfl

theorem hearA_append {dead t : Int} (a b : List (NoteV ByteArray)) (m : MemV ByteArray) : hearA dead t (a ++ b) m = hearA dead t b (hearA dead t a m) := List.foldl_append

theorem hearA_own {t : Int} : ∀ (ns : List (NoteV ByteArray)) (m : MemV ByteArray), (∀ n ∈ ns, n.src = m.id) → hearA (-1) t ns m = m
  | [], _, _ => rfl
  | n :: ns, m, h => by
    have e : hearM ⟨#[]⟩ (-1) t n [] m = m := by unfold hearM; rw [if_pos (.inr (.inr (h n (by simp)).symm))]
    show hearA (-1) t ns (hearM ⟨#[]⟩ (-1) t n [] m) = m
    rw [e]
    exact hearA_own ns m (fun n' hn' => h n' (by simp [hn']))

theorem startQ_get {T : List ByteArray} {M : Nat} {k : Nat} {m : MemV ByteArray} (h : (startQ T M)[k]? = some m) : k < M ∧ m = if k = 0 then saidM T T.length else initM k := by
  unfold startQ at h
  rw [List.getElem?_set] at h
  by_cases e : 0 = k
  · rw [if_pos e] at h
    split at h
    · rename_i hl; cases h; subst e; exact ⟨by simpa using hl, by rw [if_pos rfl]⟩
    · cases h
  · rw [if_neg e, List.getElem?_map] at h
    obtain ⟨y, hy, rfl⟩ := Option.map_eq_some_iff.1 h
    have hk := (List.getElem?_eq_some_iff.1 hy).1
    have hy2 := (List.getElem?_eq_some_iff.1 hy).2
    simp at hk hy2
    subst hy2
    exact ⟨hk, by rw [if_neg (fun h => e h.symm)]⟩

theorem startQ_ids {T : List ByteArray} {M : Nat} : Ids (startQ T M) := fun k m h => by
  obtain ⟨_, rfl⟩ := startQ_get h
  split
  · rename_i e; subst e; exact saidM_id _ _
  · rfl

theorem startQ_air {T : List ByteArray} {M : Nat} (hM : 0 < M) : (startQ T M).flatMap (airD ⟨#[]⟩ (-1) 0) = outAir ⟨#[]⟩ (saidM T T.length) 0 := by
  obtain ⟨n, rfl⟩ : ∃ n, M = n + 1 := ⟨M - 1, by omega⟩
  have e : startQ T (n + 1) = saidM T T.length :: ((List.range n).map fun k => initM (k + 1)) := by
    unfold startQ
    rw [List.range_succ_eq_map]
    simp
  rw [e, List.flatMap_cons]
  have e1 : airD (⟨#[]⟩ : ByteArray) (-1) 0 (saidM T T.length) = outAir ⟨#[]⟩ (saidM T T.length) 0 := by
    unfold airD; rw [if_neg (by rw [saidM_id]; omega)]
  have e2 : ((List.range n).map fun k => initM (k + 1)).flatMap (airD ⟨#[]⟩ (-1) 0) = [] := by
    refine List.flatMap_eq_nil_iff.2 fun x hx => ?_
    obtain ⟨k, _, rfl⟩ := List.mem_map.1 hx
    unfold airD
    rw [if_neg (by show ¬ ((k + 1 : Nat) : Int) = -1; omega)]
    unfold outAir tells initM
    simp [outNotes]
  rw [e1, e2, List.append_nil]

theorem said_tells {T : List ByteArray} : tells (saidM T T.length) 0 = decide (0 < T.length) := by
  unfold tells
  rw [saidM_id, saidM_hello, saidM_items _ (Nat.le_refl _)]
  simp

theorem said_air {T : List ByteArray} : outAir ⟨#[]⟩ (saidM T T.length) 0 = outNotes ⟨#[]⟩ 0 0 0 (T.map fun s => ⟨true, s, 0, -1, true⟩) ++ (if 0 < T.length then [⟨3, 0, T.length, ⟨#[]⟩⟩] else []) := by
  unfold outAir
  rw [said_tells, saidM_id, saidM_items _ (Nat.le_refl _), List.take_length, List.length_map]
  simp only [decide_eq_true_eq]

theorem runQ_one {T : List ByteArray} {M : Nat} (hM : 0 < M) : GQ T.length 1 (if 0 < T.length then 50 else 0) (runQ T M 1) := by
  show GQ _ _ _ (tickM ⟨#[]⟩ (-1) ((0 : Nat) : Int) [] (startQ T M)).1
  rw [tick_quiet]
  have each : ∀ m ∈ startQ T M, Calm T.length 1 (stepM (-1) 0 (startQ T M) m) ∧ (m.id = 0 → (stepM (-1) 0 (startQ T M) m).hello = if 0 < T.length then 50 else 0) := by
    intro m hm
    obtain ⟨k, hk⟩ := List.mem_iff_getElem?.1 hm
    obtain ⟨hkM, rfl⟩ := startQ_get hk
    unfold stepM
    rw [startQ_air hM, show (0 : Int) + 1 = 1 from rfl]
    by_cases k0 : k = 0
    · rw [if_pos k0]
      have e1 : outD ⟨#[]⟩ (-1) 0 (saidM T T.length) = outMem ⟨#[]⟩ (saidM T T.length) 0 := by unfold outD; rw [if_neg (by rw [saidM_id]; omega)]
      rw [e1, hearA_own]
      · refine ⟨⟨?_, by show (0 : Int) ≤ 1; omega, ?_⟩, fun _ => ?_⟩
        · simp only [outMem, List.length_map, saidM_items _ (Nat.le_refl _), List.take_length]
        · intro x hx
          simp only [outMem, saidM_items _ (Nat.le_refl _), List.map_map] at hx
          obtain ⟨s, _, rfl⟩ := List.mem_map.1 hx
          simp [outItem, outI]
        · show (if tells (saidM T T.length) 0 = true then (0 : Int) + 50 else (saidM T T.length).hello) = _
          rw [said_tells, saidM_hello]
          simp
      · intro n hn
        have := (out_air (saidM_MI T.length (Nat.le_refl _)) hn).2
        rw [this, saidM_id]; exact (saidM_id _ _).symm
    · rw [if_neg k0]
      have e1 : outD ⟨#[]⟩ (-1) 0 (initM k) = initM k := by
        unfold outD; rw [if_neg (by show ¬ (k : Int) = -1; omega)]
        unfold outMem tells initM
        simp
      rw [e1, said_air, hearA_append]
      obtain ⟨m', q0, q1, q2, q3, q4⟩ := first_hear k0 T [] (initM k) rfl rfl (by show (0 : Int) ≤ 1; omega) rfl
      rw [List.length_nil] at q0
      rw [q0]
      rw [List.nil_append] at q4
      have hc : Calm T.length 1 m' := ⟨by rw [q4, List.length_map], q3, fun x hx => by
        rw [q4] at hx
        obtain ⟨s, _, rfl⟩ := List.mem_map.1 hx
        exact ⟨rfl, rfl, rfl⟩⟩
      have hh := calm_hearA (if 0 < T.length then [⟨3, 0, T.length, ⟨#[]⟩⟩] else []) m' (by intro n hn; split at hn; simpa using hn; cases hn) hc
      exact ⟨hh.1, fun h => by have h : (k : Int) = 0 := h; omega⟩
  refine ⟨startQ_ids.map fun m => stepM_id m, fun m' hm' => ?_, fun m' hm' h0 => ?_⟩
  · obtain ⟨m, hm, rfl⟩ := List.mem_map.1 hm'
    exact (each m hm).1
  · obtain ⟨m, hm, rfl⟩ := List.mem_map.1 hm'
    rw [stepM_id] at h0
    exact (each m hm).2 h0

/-- When the next announcement is due at time i. -/
def hq (N i : Nat) : Int := if N = 0 then 0 else ((50 * ((i + 49) / 50) : Nat) : Int)

theorem hq_step (N i : Nat) : (if 0 < N ∧ hq N i ≤ (i : Int) then (i : Int) + 50 else hq N i) = hq N (i + 1) := by
  unfold hq
  split
  · split
    · rename_i h _; omega
    · rename_i h _; omega
  · split
    · rename_i h; have h2 := h.2; omega
    · rename_i h; omega

theorem runQ_calm {T : List ByteArray} {M : Nat} (hM : 0 < M) : ∀ i, GQ T.length (i + 1 : Nat) (hq T.length (i + 1)) (runQ T M (i + 1))
  | 0 => by
    have h := runQ_one (T := T) hM
    have e : (if 0 < T.length then (50 : Int) else 0) = hq T.length 1 := by unfold hq; split <;> split <;> omega
    rw [e] at h
    exact h
  | i + 1 => by
    have h := (runQ_calm (T := T) hM i).step
    rw [hq_step] at h
    exact h

structure RQ (T : List ByteArray) (M : Nat) (i : Nat) (ms : List (MemV ByteArray)) : Prop where
  ids : Ids ms
  len : ms.length = M
  alive : AliveD (-1) T T.length i ms

theorem runQ_ok {T : List ByteArray} {M : Nat} (hM16 : M ≤ 16) (hT8 : T.length ≤ 8) (hTs : ∀ s ∈ T, s.size ≤ 100) : ∀ i, RQ T M i (runQ T M i)
  | 0 => by
    refine ⟨startQ_ids, by simp [runQ, startQ], fun m hm => ?_⟩
    obtain ⟨k, hk⟩ := List.mem_iff_getElem?.1 hm
    obtain ⟨hkM, rfl⟩ := startQ_get hk
    split
    · have := saidM_MI (T := T) T.length (Nat.le_refl _)
      exact ⟨by have := this.len; omega, fun _ => this⟩
    · rename_i k0
      have := initM_MI (T := T) (N := T.length) (k := k) (by omega) (fun h => absurd h k0)
      exact ⟨by have := this.len; omega, fun _ => this⟩
  | i + 1 => by
    have ih := runQ_ok (M := M) hM16 hT8 hTs i
    have ti := tick_inv (fs := []) ih.alive (by omega) (by omega) hTs
    have td := tick_ids (dead := -1) (t := (i : Int)) (fs := []) ih.ids
    have e1 : ((i + 1 : Nat) : Int) = (i : Int) + 1 := by omega
    exact ⟨td.1, by show (tickM _ _ _ _ _).1.length = M; rw [td.2, ih.len], by rw [e1]; exact ti.2⟩

/-! The last rounds: each member is asked, and nobody hears. -/
def lastQ (T : List ByteArray) (M : Nat) : Nat → List (MemV ByteArray)
  | 0 => runQ T M 60
  | i + 1 => (lastQ T M i).map fun m => outMem ⟨#[]⟩ m (60 + i : Nat)

theorem lastQ_calm {T : List ByteArray} {M : Nat} (hM : 0 < M) : ∀ i, GQ T.length (60 + i : Nat) (hq T.length (60 + i)) (lastQ T M i)
  | 0 => runQ_calm hM 59
  | i + 1 => by
    have h := (lastQ_calm (T := T) hM i).out (t := ((60 + i : Nat) : Int))
    rw [hq_step] at h
    exact ⟨h.ids, fun m hm => (h.calm m hm).mono (by omega), h.hello⟩

theorem lastQ_len {T : List ByteArray} {M : Nat} (h0 : (runQ T M 60).length = M) : ∀ i, (lastQ T M i).length = M
  | 0 => h0
  | i + 1 => by
    show ((lastQ T M i).map _).length = M
    rw [List.length_map, lastQ_len h0 i]

/-- How many notes were sent in the last rounds. -/
def sentQ (N i : Nat) : Nat := if 0 < N ∧ 40 < i then 1 else 0

theorem lastQ_air {T : List ByteArray} {M : Nat} (hM : 0 < M) {i k : Nat} (hi : i < 50) {m : MemV ByteArray} (h : (lastQ T M i)[k]? = some m) :
    (outAir ⟨#[]⟩ m (60 + i : Nat)).length = if k = 0 then sentQ T.length (i + 1) - sentQ T.length i else 0 := by
  have g := lastQ_calm (T := T) hM i
  have hm := List.mem_of_getElem? h
  have hid := g.ids k m h
  rw [calm_air (g.calm m hm)]
  by_cases k0 : k = 0
  · subst k0
    rw [if_pos rfl, calm_tells (g.calm m hm) (by omega), g.hello m hm (by omega)]
    unfold sentQ hq
    by_cases hN : T.length = 0
    · simp [hN]
    · by_cases h40 : i = 40
      · subst h40
        simp [hN, Nat.pos_of_ne_zero hN]
      · have : ¬ 50 * ((60 + i + 49) / 50) ≤ 60 + i := by omega
        have e : (decide (0 < T.length) && decide ((if T.length = 0 then (0 : Int) else ((50 * ((60 + i + 49) / 50) : Nat) : Int)) ≤ ((60 + i : Nat) : Int))) = false := by
          rw [if_neg hN]; simp; omega
        rw [e, if_neg (show ¬ false = true by simp)]
        by_cases h41 : 40 < i
        · rw [if_pos ⟨Nat.pos_of_ne_zero hN, by omega⟩, if_pos ⟨Nat.pos_of_ne_zero hN, h41⟩]; rfl
        · rw [if_neg (by omega), if_neg (by omega)]; rfl
  · rw [if_neg k0]
    have : tells m ((60 + i : Nat) : Int) = false := by unfold tells; simp; omega
    rw [this]; rfl

theorem sentQ_mono (N i : Nat) : sentQ N i ≤ sentQ N (i + 1) := by unfold sentQ; split <;> split <;> omega
theorem sentQ_end (N : Nat) : sentQ N 50 = min N 1 := by unfold sentQ; split <;> omega
theorem sentQ_le (N i : Nat) : sentQ N i ≤ 1 := by unfold sentQ; split <;> omega
end Go.Proofs.Ytgpcjoofcmfidaa
