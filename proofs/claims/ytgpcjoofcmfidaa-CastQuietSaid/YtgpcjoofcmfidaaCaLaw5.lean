/-
  The broadcast stream's law, in plain data: the run of CastArrives.
-/
import Derived.Test.YtgpcjoofcmfidaaCaLaw4
namespace Go.Proofs.Ytgpcjoofcmfidaa
open Go.XM Go.Ca

def runA (T : List ByteArray) (M : Nat) (fs0 : List Int) : Nat → List (MemV ByteArray) × List Int
  | 0 => ((List.range M).map initM, fs0)
  | i + 1 => tickM ⟨#[]⟩ (-1) i (runA T M fs0 i).2 (sayAt T i (runA T M fs0 i).1)

/-- How many fates are left at most. -/
def left (i : Nat) : Nat := if i = 0 then 8 else if i ≤ 50 then 4 else if i ≤ 100 then 2 else 0

structure RA (T : List ByteArray) (M : Nat) (i : Nat) (p : List (MemV ByteArray) × List Int) : Prop where
  ids : Ids p.1
  len : p.1.length = M
  alive : AliveD (-1) T (min i T.length) i p.1
  hello : 0 < T.length → ∃ m0 ∈ p.1, m0.id = 0 ∧ (i : Int) ≤ m0.hello ∧ m0.hello < i + 50 ∧ m0.hello % 50 = 0
  fates : 0 < T.length → p.2.length ≤ left i

theorem hearM_hello (dead t : Int) (n : NoteV ByteArray) (fs : List Int) (m : MemV ByteArray) : (hearM ⟨#[]⟩ dead t n fs m).hello = m.hello := by
  unfold hearM; split; rfl
  unfold inCore; split; rfl; split; rfl; split <;> rfl

theorem tick_hello {dead t : Int} {ms : List (MemV ByteArray)} {fs : List Int} {m0 : MemV ByteArray} (hm : m0 ∈ ms) (hd : m0.id ≠ dead) : ∃ m ∈ (tickM ⟨#[]⟩ dead t fs ms).1, m.id = m0.id ∧ m.hello = if tells m0 t then t + 50 else m0.hello := by
  obtain ⟨f, h1, h2⟩ := deliver_map (dead := dead) (t := t + 1) (fun m m' => m'.id = m.id ∧ m'.hello = m.hello) (fun _ => ⟨rfl, rfl⟩) (fun _ _ _ a b => ⟨b.1.trans a.1, b.2.trans a.2⟩) (fun n fs m => ⟨hearM_id ⟨#[]⟩ dead (t + 1) n fs m, hearM_hello dead (t + 1) n fs m⟩) (ms.flatMap (airD ⟨#[]⟩ dead t)) fs (ms.map (outD ⟨#[]⟩ dead t))
  unfold tickM
  rw [h1]
  refine ⟨f (outD ⟨#[]⟩ dead t m0), List.mem_map.2 ⟨_, List.mem_map.2 ⟨m0, hm, rfl⟩, rfl⟩, ?_, ?_⟩
  · rw [(h2 _).1, outD_id]
  · rw [(h2 _).2]
    unfold outD; rw [if_neg hd]; rfl

theorem initM_ids (M : Nat) : Ids ((List.range M).map initM) := by
  intro k m hk
  rw [List.getElem?_map] at hk
  obtain ⟨x, hx, rfl⟩ := Option.map_eq_some_iff.1 hk
  have := (List.getElem?_eq_some_iff.1 hx).2
  simp at this
  rw [← this]; rfl

theorem initM_MI {T : List ByteArray} {k N : Nat} (hk : k < 16) (h0 : k = 0 → N = 0) : MI T N 0 (initM k) :=
  ⟨by simp [initM], by simp [initM]; omega, by simp [initM], rfl, by simp [initM], fun h => by simp [initM] at h ⊢; exact (h0 h).symm, fun i x hx => by simp [initM] at hx⟩

theorem say_at {T : List ByteArray} {i : Nat} {ms : List (MemV ByteArray)} (hid : Ids ms) (h : AliveD (-1) T (min i T.length) i ms) (hT8 : T.length ≤ 8) : AliveD (-1) T (min (i + 1) T.length) i (sayAt T i ms) ∧ Ids (sayAt T i ms) ∧ (sayAt T i ms).length = ms.length := by
  unfold sayAt
  split
  · rename_i s hs
    have hi : i < T.length := (List.getElem?_eq_some_iff.1 hs).1
    have h1 := say_alive hid (by rwa [Nat.min_eq_left (by omega)] at h) hs (by omega) (by omega)
    exact ⟨by rw [Nat.min_eq_left (by omega)]; exact h1.1, h1.2, by simp⟩
  · rename_i hs
    have hi : T.length ≤ i := by
      rcases Nat.lt_or_ge i T.length with h | h
      · rw [List.getElem?_eq_getElem h] at hs; cases hs
      · exact h
    exact ⟨by rw [Nat.min_eq_right (by omega)] at h ⊢; exact h, hid, rfl⟩

theorem say_mem {T : List ByteArray} {i : Nat} {ms : List (MemV ByteArray)} (hid : Ids ms) {m0 : MemV ByteArray} (hm : m0 ∈ ms) (h0 : m0.id = 0) : ∃ m ∈ sayAt T i ms, m.id = 0 ∧ m.hello = m0.hello ∧ ∀ s, T[i]? = some s → m = sayV m0 s := by
  obtain ⟨k, hk⟩ := List.mem_iff_getElem?.1 hm
  have := hid k m0 hk
  have hk0 : k = 0 := by omega
  subst hk0
  unfold sayAt
  cases hs : T[i]? with
  | none => exact ⟨m0, hm, h0, rfl, fun s h => by cases h⟩
  | some s =>
    refine ⟨sayV m0 s, List.mem_iff_getElem?.2 ⟨0, by rw [List.getElem?_modify]; simp [hk]⟩, h0, rfl, fun s' h => by cases h; rfl⟩

theorem flat_len_ge {α β : Type} {f : α → List β} {a : α} {n : Nat} : ∀ {l : List α}, a ∈ l → n ≤ (f a).length → n ≤ (l.flatMap f).length
  | x :: l, h, hn => by
    rw [List.flatMap_cons, List.length_append]
    rcases List.mem_cons.1 h with rfl | h
    · omega
    · have := flat_len_ge h hn; omega

theorem runA_ok {T : List ByteArray} {M : Nat} {fs0 : List Int} (hT8 : T.length ≤ 8) (hT : ∀ s ∈ T, s.size ≤ 100) (hM : 2 ≤ M) (hM16 : M ≤ 16) (hf : fs0.length ≤ 8) : ∀ i, RA T M i (runA T M fs0 i)
  | 0 => by
    refine ⟨initM_ids M, by simp [runA], fun m hm => ?_, fun _ => ?_, fun _ => by simpa [runA, left] using hf⟩
    · obtain ⟨k, hk, rfl⟩ := List.mem_map.1 hm
      have hk := List.mem_range.1 hk
      exact ⟨by simp [initM], fun _ => by simpa using initM_MI (T := T) (N := 0) (k := k) (by omega) (fun _ => rfl)⟩
    · exact ⟨initM 0, List.mem_map.2 ⟨0, List.mem_range.2 (by omega), rfl⟩, rfl, by simp [initM], by simp [initM], by simp [initM]⟩
  | i + 1 => by
    have ih := runA_ok (T := T) (M := M) (fs0 := fs0) hT8 hT hM hM16 hf i
    obtain ⟨s1, s2, s3⟩ := say_at ih.ids ih.alive hT8
    have ti := tick_inv (fs := (runA T M fs0 i).2) s1 (by omega) (by omega) hT
    have td := tick_ids (dead := -1) (t := (i : Int)) (fs := (runA T M fs0 i).2) s2
    have e1 : ((i + 1 : Nat) : Int) = (i : Int) + 1 := by omega
    refine ⟨td.1, by show (tickM _ _ _ _ _).1.length = M; rw [td.2, s3, ih.len], by rw [e1]; exact ti.2, fun hN => ?_, fun hN => ?_⟩
    · obtain ⟨m0, hm0, h0, g1, g2, g3⟩ := ih.hello hN
      obtain ⟨m1, hm1, h1, gh, _⟩ := say_mem (T := T) (i := i) ih.ids hm0 h0
      obtain ⟨m2, hm2, h2, gh2⟩ := tick_hello (dead := -1) (t := (i : Int)) (fs := (runA T M fs0 i).2) hm1 (by omega)
      have hz := ((s1 m1 hm1).2 (by omega)).zero h1
      refine ⟨m2, hm2, by omega, ?_⟩
      have htl : tells m1 i = decide (m1.hello ≤ (i : Int)) := by
        unfold tells; rw [hz]
        have : 0 < min (i + 1) T.length := by omega
        simp [h1, this]
      rw [gh2, htl]
      by_cases hh : m1.hello ≤ (i : Int)
      · simp only [hh, decide_true, if_true]
        omega
      · simp only [hh, decide_false, Bool.false_eq_true, if_false]
        omega
    · have hfs : (runA T M fs0 (i + 1)).2 = (runA T M fs0 i).2.drop (((sayAt T i (runA T M fs0 i).1).flatMap (airD ⟨#[]⟩ (-1) i)).length * (sayAt T i (runA T M fs0 i).1).length) := tick_fs
      rw [hfs, List.length_drop, s3, ih.len]
      have ihf := ih.fates hN
      obtain ⟨m0, hm0, h0, g1, g2, g3⟩ := ih.hello hN
      obtain ⟨m1, hm1, h1, gh, gs⟩ := say_mem (T := T) (i := i) ih.ids hm0 h0
      have hz := ((s1 m1 hm1).2 (by omega)).zero h1
      have htl : tells m1 i = decide (m1.hello ≤ (i : Int)) := by
        unfold tells; rw [hz]
        have : 0 < min (i + 1) T.length := by omega
        simp [h1, this]
      have hair1 : m1.hello ≤ (i : Int) → 1 ≤ ((sayAt T i (runA T M fs0 i).1).flatMap (airD ⟨#[]⟩ (-1) i)).length := by
        intro hh
        exact List.length_pos_of_mem (told_air hm1 (by omega) (by rw [htl]; simpa using hh))
      have hair0 : i = 0 → 2 ≤ ((sayAt T i (runA T M fs0 i).1).flatMap (airD ⟨#[]⟩ (-1) i)).length := by
        intro hi0
        have hs : T[i]? = some (T[i]'(by omega)) := List.getElem?_eq_getElem _
        have hm1e := gs _ hs
        refine flat_len_ge hm1 ?_
        unfold airD; rw [if_neg (by omega)]; unfold outAir
        rw [htl, List.length_append]
        have a1 : 1 ≤ (outNotes ⟨#[]⟩ m1.id (i : Int) 0 m1.items).length := by
          have hin : (⟨1, m1.id, (m0.items.length : Nat), T[i]'(by omega)⟩ : NoteV ByteArray) ∈ outNotes ⟨#[]⟩ m1.id (i : Int) 0 m1.items :=
            (outNotes_mem _ _).2 ⟨m0.items.length, ⟨true, T[i]'(by omega), 0, -1, true⟩, by rw [hm1e]; simp [sayV], by simp [outI]⟩
          exact List.length_pos_of_mem hin
        have hh : m1.hello ≤ (i : Int) := by omega
        simp only [hh, decide_true, if_true, List.length_singleton]
        omega
      generalize ((sayAt T i (runA T M fs0 i).1).flatMap (airD ⟨#[]⟩ (-1) i)).length = A at hair0 hair1 ⊢
      generalize (runA T M fs0 i).2.length = fl at ihf ⊢
      have p1 : m1.hello ≤ (i : Int) → 2 ≤ A * M := fun h => Nat.le_trans (show 2 ≤ 1 * 2 by omega) (Nat.mul_le_mul (hair1 h) hM)
      have p0 : i = 0 → 4 ≤ A * M := fun h => Nat.le_trans (show 4 ≤ 2 * 2 by omega) (Nat.mul_le_mul (hair0 h) hM)
      generalize A * M = X at p0 p1 ⊢
      clear hair0 hair1 hfs
      have h50 : i = 50 ∨ i = 100 → m1.hello ≤ (i : Int) := by omega
      unfold left at ihf ⊢
      rw [if_neg (by omega)]
      by_cases hi0 : i = 0
      · have := p0 hi0
        rw [if_pos hi0] at ihf
        rw [if_pos (by omega)]
        omega
      · rw [if_neg hi0] at ihf
        by_cases c1 : i ≤ 50
        · rw [if_pos c1] at ihf
          by_cases c2 : i = 50
          · have := p1 (h50 (.inl c2))
            rw [if_neg (by omega), if_pos (by omega)]
            omega
          · rw [if_pos (by omega)]; omega
        · rw [if_neg c1] at ihf
          by_cases c3 : i ≤ 100
          · rw [if_pos c3] at ihf
            by_cases c4 : i = 100
            · have := p1 (h50 (.inr c4))
              rw [if_neg (by omega), if_neg (by omega)]
              omega
            · rw [if_neg (by omega), if_pos (by omega)]; omega
          · rw [if_neg c3] at ihf
            rw [if_neg (by omega), if_neg (by omega)]; omega

/-- In the end, every member has all messages. -/
theorem runA_end {T : List ByteArray} {M : Nat} {fs0 : List Int} (hT8 : T.length ≤ 8) (hT : ∀ s ∈ T, s.size ≤ 100) (hM : 2 ≤ M) (hM16 : M ≤ 16) (hf : fs0.length ≤ 8) : ∀ m ∈ (runA T M fs0 250).1, m.items.length ≤ 64 ∧ m.read = 0 ∧ texts m = T := by
  have hR := runA_ok (T := T) (M := M) (fs0 := fs0) hT8 hT hM hM16 hf
  have hfin := (hR 250).alive
  rw [Nat.min_eq_right (by omega)] at hfin
  intro m hm
  have hid0 : ∀ (i : Nat), ∀ m ∈ (runA T M fs0 i).1, m.id ≠ -1 := fun i m hm => by
    obtain ⟨k, hk⟩ := List.mem_iff_getElem?.1 hm
    have := (hR i).ids k m hk; omega
  refine ⟨(hfin m hm).1, ((hfin m hm).2 (hid0 250 m hm)).read, texts_of ((hfin m hm).2 (hid0 250 m hm)) fun i hi => ?_⟩
  have hN : 0 < T.length := by omega
  -- from tick 150 on: no fates, nobody speaks
  have nofate : ∀ j, 101 ≤ j → (runA T M fs0 j).2 = [] := fun j hj => by
    have := (hR j).fates hN
    unfold left at this
    rw [if_neg (by omega), if_neg (by omega), if_neg (by omega)] at this
    exact List.eq_nil_of_length_eq_zero (by omega)
  have nosay : ∀ j (ms : List (MemV ByteArray)), 8 ≤ j → sayAt T j ms = ms := fun j ms hj => by
    unfold sayAt; rw [List.getElem?_eq_none (by omega)]
  have stepq : ∀ j, 101 ≤ j → (runA T M fs0 (j + 1)).1 = (runA T M fs0 j).1.map (stepM (-1) (j : Int) (runA T M fs0 j).1) := fun j hj => by
    show (tickM _ _ _ _ _).1 = _
    rw [nofate j hj, nosay j _ (by omega), tick_quiet]
  have tail : ∀ n, (runA T M fs0 (151 + n)).1 = quietRun (-1) n 151 (runA T M fs0 151).1 := by
    have gen : ∀ n j, 101 ≤ j → (runA T M fs0 (j + n)).1 = quietRun (-1) n (j : Int) (runA T M fs0 j).1 := by
      intro n
      induction n with
      | zero => intro j _; rfl
      | succ n ih =>
        intro j hj
        rw [show j + (n + 1) = (j + 1) + n by omega, ih (j + 1) (by omega), stepq j hj]
        rfl
    exact fun n => gen n 151 (by omega)
  have a150 := (hR 150).alive
  rw [Nat.min_eq_right (by omega)] at a150
  have a151 := (hR 151).alive
  rw [Nat.min_eq_right (by omega)] at a151
  obtain ⟨m0, hm0, h0, g1, g2, g3⟩ := (hR 150).hello hN
  have hz := ((a150 m0 hm0).2 (hid0 150 m0 hm0)).zero h0
  have htl : tells m0 ((150 : Nat) : Int) = true := by
    unfold tells; rw [hz]
    simp [h0, hN]; omega
  have hkn := told_know a150 hm0 h0 (hid0 150 m0 hm0) htl
  rw [← stepq 150 (by omega)] at hkn
  obtain ⟨m1, hm1, h1, _⟩ := (hR 151).hello hN
  have hall := run_CA (dead := -1) (T := T) (N := T.length) (i := i) (o := 0) (A := 171) hT8 hT (by omega) (by omega) 99 151 (runA T M fs0 151).1 (hR 151).ids a151 (by omega)
    (CA_of (t := 151) a151 (fun m hm hd => Nat.lt_of_lt_of_le hi (hkn m hm hd))) (Own1_zero a151 hm1 h1 (hid0 151 m1 hm1) hi) (by omega) (by omega)
  rw [← tail 99] at hall
  exact hall m hm (hid0 250 m hm)
end Go.Proofs.Ytgpcjoofcmfidaa
