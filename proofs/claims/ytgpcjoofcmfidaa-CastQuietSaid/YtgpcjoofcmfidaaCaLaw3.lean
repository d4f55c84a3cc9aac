/-
  The broadcast stream's law, in plain data: without losses, a message that one member has comes to all.
-/
import Derived.Test.YtgpcjoofcmfidaaCaLaw2
namespace Go.Proofs.Ytgpcjoofcmfidaa
open Go.XM Go.Ca

section
variable {dead : Int} {T : List ByteArray} {N : Nat} {t : Int} {ms : List (MemV ByteArray)} {i : Nat}

/-- The tick without losses, member by member. -/
def stepM (dead t : Int) (ms : List (MemV ByteArray)) (m : MemV ByteArray) : MemV ByteArray := hearA dead (t + 1) (ms.flatMap (airD ⟨#[]⟩ dead t)) (outD ⟨#[]⟩ dead t m)

theorem tick_quiet : tickM ⟨#[]⟩ dead t [] ms = (ms.map (stepM dead t ms), []) := by
  unfold tickM
  rw [deliver_quiet, List.map_map]
  rfl

theorem stepM_id (m : MemV ByteArray) : (stepM dead t ms m).id = m.id := by unfold stepM; rw [hearA_id, outD_id]

def Has (i : Nat) (m : MemV ByteArray) : Prop := ∃ x, m.items[i]? = some x ∧ x.there = true
def AllHas (dead : Int) (i : Nat) (ms : List (MemV ByteArray)) : Prop := ∀ m ∈ ms, m.id ≠ dead → Has i m
/-- All that miss it ask by A. -/
def CA (dead : Int) (i : Nat) (A : Int) (ms : List (MemV ByteArray)) : Prop := ∀ m ∈ ms, m.id ≠ dead → ∃ x, m.items[i]? = some x ∧ (x.there = true ∨ x.ask ≤ A)
def Own1 (o : Int) (i : Nat) (ms : List (MemV ByteArray)) : Prop := ∃ m ∈ ms, m.id = o ∧ Has i m
/-- The owner sends it by D. -/
def BD (o : Int) (i : Nat) (D : Int) (ms : List (MemV ByteArray)) : Prop := ∃ m ∈ ms, m.id = o ∧ ∃ x, m.items[i]? = some x ∧ x.there = true ∧ 0 ≤ x.rep ∧ x.rep ≤ D

theorem out_item {m : MemV ByteArray} {x : ItemV ByteArray} (hd : m.id ≠ dead) (h : m.items[i]? = some x) : (outD ⟨#[]⟩ dead t m).items[i]? = some (outItem ⟨#[]⟩ m.id t x) := by
  unfold outD; rw [if_neg hd]
  simp [outMem, h]

theorem step_item {m : MemV ByteArray} {x : ItemV ByteArray} (hd : m.id ≠ dead) (h : m.items[i]? = some x) :
    (stepM dead t ms m).items[i]? = some ((ms.flatMap (airD ⟨#[]⟩ dead t)).foldl (stepI dead (t + 1) m.id i) (outItem ⟨#[]⟩ m.id t x)) := by
  have := hearA_item (dead := dead) (t := t + 1) (ms.flatMap (airD ⟨#[]⟩ dead t)) (outD ⟨#[]⟩ dead t m) _ (out_item hd h)
  rw [outD_id] at this
  exact this

theorem outItem_there {id : Int} {x : ItemV ByteArray} (h : x.there = true) : (outItem ⟨#[]⟩ id t x).there = true := by
  unfold outItem outI; split; exact h; split <;> exact h

/-- A note of an item is in the air, or the item stays. -/
theorem out_or {m : MemV ByteArray} {x : ItemV ByteArray} (hm : m ∈ ms) (hd : m.id ≠ dead) (h : m.items[i]? = some x) :
    (∃ n ∈ ms.flatMap (airD ⟨#[]⟩ dead t), n.kind = 1 ∧ n.no = i ∧ n.src = m.id ∧ (x.fresh = true ∨ x.there = true ∧ 0 ≤ x.rep ∧ x.rep ≤ t)) ∨
    (∃ n ∈ ms.flatMap (airD ⟨#[]⟩ dead t), n.kind = 2 ∧ n.no = i ∧ n.src = m.id ∧ x.there = false ∧ x.ask ≤ t) ∨
    (outItem ⟨#[]⟩ m.id t x = x ∧ ¬ (x.fresh = true ∨ x.there = true ∧ 0 ≤ x.rep ∧ x.rep ≤ t) ∧ ¬ (x.there = false ∧ x.ask ≤ t)) := by
  have inair : ∀ n, (outI ⟨#[]⟩ m.id t i x).1 = some n → n ∈ ms.flatMap (airD ⟨#[]⟩ dead t) := by
    intro n hn
    refine List.mem_flatMap.2 ⟨m, hm, ?_⟩
    unfold airD; rw [if_neg hd]; unfold outAir
    exact List.mem_append_left _ ((outNotes_mem _ _).2 ⟨i, x, h, by rw [Nat.zero_add]; exact hn⟩)
  by_cases h1 : x.fresh = true ∨ x.there = true ∧ 0 ≤ x.rep ∧ x.rep ≤ t
  · left
    have e : outI ⟨#[]⟩ m.id t i x = (some ⟨1, m.id, i, x.body⟩, { x with fresh := false, rep := -1 }) := by unfold outI; rw [if_pos h1]
    exact ⟨_, inair _ (by rw [e]), rfl, rfl, rfl, h1⟩
  · by_cases h2 : x.there = false ∧ x.ask ≤ t
    · right; left
      have e : outI ⟨#[]⟩ m.id t i x = (some ⟨2, m.id, i, ⟨#[]⟩⟩, { x with ask := t + 20 }) := by unfold outI; rw [if_neg h1, if_pos h2]
      exact ⟨_, inair _ (by rw [e]), rfl, rfl, rfl, h2⟩
    · right; right
      exact ⟨by unfold outItem outI; rw [if_neg h1, if_neg h2], h1, h2⟩

/-- What is in the air was sent. -/
theorem air_from {n : NoteV ByteArray} (hn : n ∈ ms.flatMap (airD ⟨#[]⟩ dead t)) (hk : n.kind ≠ 3) : ∃ m ∈ ms, m.id ≠ dead ∧ n.src = m.id ∧ ∃ (i : Nat) (x : ItemV ByteArray), m.items[i]? = some x ∧ n.no = i ∧ (outI ⟨#[]⟩ m.id t i x).1 = some n := by
  obtain ⟨m, hm, hn⟩ := List.mem_flatMap.1 hn
  unfold airD at hn
  split at hn
  · cases hn
  · rename_i hd
    unfold outAir at hn
    rcases List.mem_append.1 hn with hn | hn
    · obtain ⟨i, x, h1, h2⟩ := (outNotes_mem _ _).1 hn
      rw [Nat.zero_add] at h2
      have := outI_note h2
      exact ⟨m, hm, hd, this.1, i, x, h1, this.2.1, h2⟩
    · split at hn
      · simp only [List.mem_singleton] at hn; subst hn; exact absurd rfl hk
      · cases hn

theorem step_all (h : AllHas dead i ms) : AllHas dead i (ms.map (stepM dead t ms)) := by
  intro m' hm' hd
  obtain ⟨m, hm, rfl⟩ := List.mem_map.1 hm'
  rw [stepM_id] at hd
  obtain ⟨x, hx, hth⟩ := h m hm hd
  exact ⟨_, step_item hd hx, f_there _ _ (outItem_there hth)⟩

/-- A message in the air comes to all. -/
theorem data_all (hid : Ids ms) (hal : AliveD dead T N t ms) (hkn : ∀ m ∈ ms, m.id ≠ dead → i < m.items.length) {n : NoteV ByteArray} (hn : n ∈ ms.flatMap (airD ⟨#[]⟩ dead t)) (h1 : n.kind = 1) (h2 : n.no = i) :
    AllHas dead i (ms.map (stepM dead t ms)) := by
  intro m' hm' hd
  obtain ⟨m, hm, rfl⟩ := List.mem_map.1 hm'
  rw [stepM_id] at hd
  have hx := List.getElem?_eq_getElem (hkn m hm hd)
  refine ⟨_, step_item hd hx, ?_⟩
  by_cases hs : n.src = m.id
  · obtain ⟨m2, hm2, hd2, hs2, j, y, hy, hj, ho⟩ := air_from hn (by omega)
    have : m = m2 := hid.eq hm hm2 (by rw [← hs, hs2])
    subst this
    have : j = i := by omega
    subst this
    rw [hx] at hy; cases hy
    refine f_there _ _ (outItem_there ?_)
    have hn2 := outI_note ho
    rcases hn2.2.2 with ⟨_, _, h | h⟩ | ⟨h, _⟩
    · cases hth : (m.items[j]'(hkn m hm hd)).there with
      | true => rfl
      | false => have := (((hal m hm).2 hd).item j _ hx).miss hth; rw [this.1] at h; cases h
    · exact h
    · omega
  · exact f_data hd _ _ ⟨n, hn, h1, by omega, hs⟩

/-- One tick, while the missing ones have not asked. -/
theorem step_CA {o A : Int} (hid : Ids ms) (hal : AliveD dead T N t ms) (hC : CA dead i A ms) (hO : Own1 o i ms) (ho : o ≠ dead) (ho0 : 0 ≤ o) (ht : 0 ≤ t) :
    AllHas dead i (ms.map (stepM dead t ms)) ∨ BD o i (t + 1 + o) (ms.map (stepM dead t ms)) ∨ (t < A ∧ CA dead i A (ms.map (stepM dead t ms)) ∧ Own1 o i (ms.map (stepM dead t ms))) := by
  have hkn : ∀ m ∈ ms, m.id ≠ dead → i < m.items.length := fun m hm hd => by
    obtain ⟨x, hx, _⟩ := hC m hm hd; exact (List.getElem?_eq_some_iff.1 hx).1
  by_cases hD : ∃ n ∈ ms.flatMap (airD ⟨#[]⟩ dead t), n.kind = 1 ∧ n.no = i
  · obtain ⟨n, hn, h1, h2⟩ := hD
    exact .inl (data_all hid hal hkn hn h1 h2)
  · have noD : ∀ n ∈ ms.flatMap (airD ⟨#[]⟩ dead t), n.kind = 1 → n.no.toNat ≠ i := fun n hn h1 h2 => hD ⟨n, hn, h1, by have := (air_ni hal n hn).1.noL; omega⟩
    obtain ⟨mo, hmo, hio, xo, hxo, htho⟩ := hO
    have hdo : mo.id ≠ dead := by rw [hio]; exact ho
    have hso : outItem ⟨#[]⟩ mo.id t xo = xo := by
      rcases out_or (t := t) hmo hdo hxo with ⟨n, hn, h1, h2, _⟩ | ⟨n, hn, h1, h2, _, h3, _⟩ | ⟨h, _⟩
      · exact absurd ⟨n, hn, h1, h2⟩ hD
      · rw [htho] at h3; cases h3
      · exact h
    have hsi := step_item (ms := ms) (t := t) hdo hxo
    rw [hso] at hsi
    by_cases hA : ∃ n ∈ ms.flatMap (airD ⟨#[]⟩ dead t), n.kind = 2 ∧ n.no = i
    · obtain ⟨n, hn, h1, h2⟩ := hA
      right; left
      have hns : n.src ≠ mo.id := by
        intro e
        obtain ⟨m2, hm2, _, hs2, j, y, hy, hj, hoo⟩ := air_from hn (by omega)
        have : mo = m2 := hid.eq hmo hm2 (by rw [← e, hs2])
        subst this
        have : j = i := by omega
        subst this
        rw [hxo] at hy; cases hy
        rcases (outI_note hoo).2.2 with ⟨h, _⟩ | ⟨_, _, h, _⟩
        · omega
        · rw [htho] at h; cases h
      refine ⟨_, List.mem_map.2 ⟨mo, hmo, rfl⟩, by rw [stepM_id]; exact hio, _, hsi, ?_⟩
      have hII := ((hal mo hmo).2 hdo).item i xo hxo
      by_cases hr : xo.rep < 0
      · rw [f_ask hdo (by rw [hio]; omega) _ _ noD htho hr ⟨n, hn, h1, by omega, hns⟩]
        exact ⟨htho, by show 0 ≤ t + 1 + mo.id; rw [hio]; omega, by show t + 1 + mo.id ≤ _; rw [hio]; omega⟩
      · rw [f_keep _ _ noD htho (by omega)]
        exact ⟨htho, by omega, by have := hII.repU; rw [hio] at this; omega⟩
    · have quiet : ∀ n ∈ ms.flatMap (airD ⟨#[]⟩ dead t), n.kind ≠ 3 → n.no.toNat ≠ i := by
        intro n hn h3 h4
        have hni := (air_ni hal n hn).1
        have hnL := hni.noL
        rcases hni.kind with ⟨k, _⟩ | ⟨k, _⟩ | ⟨k, _⟩
        · exact noD n hn k h4
        · exact hA ⟨n, hn, k, by omega⟩
        · exact h3 k
      have same : ∀ m ∈ ms, m.id ≠ dead → ∀ x, m.items[i]? = some x → (stepM dead t ms m).items[i]? = some x ∧ ¬ (x.there = false ∧ x.ask ≤ t) := by
        intro m hm hd x hx
        rcases out_or (t := t) hm hd hx with ⟨n, hn, h1, h2, _⟩ | ⟨n, hn, h1, h2, _⟩ | ⟨h, _, h2⟩
        · exact absurd ⟨n, hn, h1, h2⟩ hD
        · exact absurd ⟨n, hn, h1, h2⟩ hA
        · have := step_item (ms := ms) (t := t) hd hx
          rw [h, f_none _ _ quiet] at this
          exact ⟨this, h2⟩
      by_cases htA : t < A
      · right; right
        refine ⟨htA, fun m' hm' hd => ?_, ?_⟩
        · obtain ⟨m, hm, rfl⟩ := List.mem_map.1 hm'
          rw [stepM_id] at hd
          obtain ⟨x, hx, h⟩ := hC m hm hd
          exact ⟨x, (same m hm hd x hx).1, h⟩
        · exact ⟨_, List.mem_map.2 ⟨mo, hmo, rfl⟩, by rw [stepM_id]; exact hio, xo, (same mo hmo hdo xo hxo).1, htho⟩
      · left
        intro m' hm' hd
        obtain ⟨m, hm, rfl⟩ := List.mem_map.1 hm'
        rw [stepM_id] at hd
        obtain ⟨x, hx, h⟩ := hC m hm hd
        have := same m hm hd x hx
        refine ⟨x, this.1, ?_⟩
        rcases h with h | h
        · exact h
        · cases hth : x.there with
          | true => rfl
          | false => exact absurd ⟨hth, by omega⟩ this.2

/-- One tick, once the owner is to send it. -/
theorem step_BD {o D : Int} (hid : Ids ms) (hal : AliveD dead T N t ms) (hkn : ∀ m ∈ ms, m.id ≠ dead → i < m.items.length) (hB : BD o i D ms) (ho : o ≠ dead) :
    AllHas dead i (ms.map (stepM dead t ms)) ∨ (t < D ∧ BD o i D (ms.map (stepM dead t ms))) := by
  by_cases hD : ∃ n ∈ ms.flatMap (airD ⟨#[]⟩ dead t), n.kind = 1 ∧ n.no = i
  · obtain ⟨n, hn, h1, h2⟩ := hD
    exact .inl (data_all hid hal hkn hn h1 h2)
  · have noD : ∀ n ∈ ms.flatMap (airD ⟨#[]⟩ dead t), n.kind = 1 → n.no.toNat ≠ i := fun n hn h1 h2 => hD ⟨n, hn, h1, by have := (air_ni hal n hn).1.noL; omega⟩
    obtain ⟨mo, hmo, hio, xo, hxo, htho, hr0, hrD⟩ := hB
    have hdo : mo.id ≠ dead := by rw [hio]; exact ho
    rcases out_or (t := t) hmo hdo hxo with ⟨n, hn, h1, h2, _⟩ | ⟨n, hn, h1, h2, _, h3, _⟩ | ⟨hs, h2, _⟩
    · exact absurd ⟨n, hn, h1, h2⟩ hD
    · rw [htho] at h3; cases h3
    · right
      have hsi := step_item (ms := ms) (t := t) hdo hxo
      rw [hs, f_keep _ _ noD htho hr0] at hsi
      refine ⟨?_, _, List.mem_map.2 ⟨mo, hmo, rfl⟩, by rw [stepM_id]; exact hio, xo, hsi, htho, hr0, hrD⟩
      refine Classical.byContradiction fun h => h2 (.inr ⟨htho, hr0, by omega⟩)

/-- What is known stays known. -/
theorem step_know (h : ∀ m ∈ ms, m.id ≠ dead → i < m.items.length) : ∀ m ∈ ms.map (stepM dead t ms), m.id ≠ dead → i < m.items.length := by
  intro m' hm' hd
  obtain ⟨m, hm, rfl⟩ := List.mem_map.1 hm'
  rw [stepM_id] at hd
  exact (List.getElem?_eq_some_iff.1 (step_item hd (List.getElem?_eq_getElem (h m hm hd)))).1

/-- Ticks without losses. -/
def quietRun (dead : Int) : Nat → Int → List (MemV ByteArray) → List (MemV ByteArray)
  | 0, _, ms => ms
  | n + 1, t, ms => quietRun dead n (t + 1) (ms.map (stepM dead t ms))

theorem alive_step (hal : AliveD dead T N t ms) (ht : 0 ≤ t) (hN : N ≤ 8) (hT : ∀ s ∈ T, s.size ≤ 100) : AliveD dead T N (t + 1) (ms.map (stepM dead t ms)) := by
  have := (tick_inv (fs := []) hal ht hN hT).2
  rw [tick_quiet] at this
  exact this

theorem run_all : ∀ (n : Nat) (t : Int) (ms : List (MemV ByteArray)), AllHas dead i ms → AllHas dead i (quietRun dead n t ms)
  | 0, _, _, h => h
  | n + 1, t, ms, h => run_all n (t + 1) _ (step_all h)

theorem run_BD {o D : Int} (hN : N ≤ 8) (hT : ∀ s ∈ T, s.size ≤ 100) (ho : o ≠ dead) : ∀ (n : Nat) (t : Int) (ms : List (MemV ByteArray)), Ids ms → AliveD dead T N t ms → 0 ≤ t → (∀ m ∈ ms, m.id ≠ dead → i < m.items.length) → BD o i D ms → D < t + n → AllHas dead i (quietRun dead n t ms) ∨ n = 0
  | 0, _, _, _, _, _, _, _, _ => .inr rfl
  | n + 1, t, ms, hid, hal, ht, hkn, hB, hD => by
    left
    show AllHas dead i (quietRun dead n (t + 1) (ms.map (stepM dead t ms)))
    rcases step_BD hid hal hkn hB ho with h | ⟨h, hB'⟩
    · exact run_all n _ _ h
    · rcases run_BD hN hT ho n (t + 1) _ (hid.map fun m => stepM_id m) (alive_step hal ht hN hT) (by omega) (step_know hkn) hB' (by omega) with h | h
      · exact h
      · omega

theorem run_CA {o A : Int} (hN : N ≤ 8) (hT : ∀ s ∈ T, s.size ≤ 100) (ho : o ≠ dead) (ho0 : 0 ≤ o) : ∀ (n : Nat) (t : Int) (ms : List (MemV ByteArray)), Ids ms → AliveD dead T N t ms → 0 ≤ t → CA dead i A ms → Own1 o i ms → A + 2 + o ≤ t + n → t ≤ A → AllHas dead i (quietRun dead n t ms)
  | 0, t, _, _, _, _, _, _, h, _ => by omega
  | n + 1, t, ms, hid, hal, ht, hC, hO, hn, htA => by
    show AllHas dead i (quietRun dead n (t + 1) (ms.map (stepM dead t ms)))
    have hkn : ∀ m ∈ ms, m.id ≠ dead → i < m.items.length := fun m hm hd => by
      obtain ⟨x, hx, _⟩ := hC m hm hd; exact (List.getElem?_eq_some_iff.1 hx).1
    have hid' := hid.map fun m => stepM_id (dead := dead) (t := t) (ms := ms) m
    have hal' := alive_step hal ht hN hT
    rcases step_CA hid hal hC hO ho ho0 ht with h | h | ⟨h1, h2, h3⟩
    · exact run_all n _ _ h
    · rcases run_BD hN hT ho n (t + 1) _ hid' hal' (by omega) (step_know hkn) h (by omega) with h | h
      · exact h
      · omega
    · exact run_CA hN hT ho ho0 n (t + 1) _ hid' hal' (by omega) h2 h3 (by omega) (by omega)
end
end Go.Proofs.Ytgpcjoofcmfidaa
