/-
  The broadcast stream's law, in plain data: a tick keeps what is kept, and what is missing comes.
-/
import Derived.Test.YtgpcjoofcmfidaaCaLaw1
namespace Go.Proofs.Ytgpcjoofcmfidaa
open Go.XM Go.Ca

def AliveD (dead : Int) (T : List ByteArray) (N : Nat) (t : Int) (ms : List (MemV ByteArray)) : Prop := ∀ m ∈ ms, m.items.length ≤ 64 ∧ (m.id ≠ dead → MI T N t m)
def Ids (ms : List (MemV ByteArray)) : Prop := ∀ (k : Nat) (m : MemV ByteArray), ms[k]? = some m → m.id = k

theorem Ids.eq {ms : List (MemV ByteArray)} (h : Ids ms) {m m' : MemV ByteArray} (hm : m ∈ ms) (hm' : m' ∈ ms) (e : m.id = m'.id) : m = m' := by
  obtain ⟨k, hk⟩ := List.mem_iff_getElem?.1 hm
  obtain ⟨k', hk'⟩ := List.mem_iff_getElem?.1 hm'
  have := h k m hk; have := h k' m' hk'
  have : k = k' := by omega
  subst this
  rw [hk] at hk'; cases hk'; rfl

theorem Ids.map {ms : List (MemV ByteArray)} (h : Ids ms) {f : MemV ByteArray → MemV ByteArray} (hf : ∀ m, (f m).id = m.id) : Ids (ms.map f) := by
  intro k m hk
  rw [List.getElem?_map] at hk
  obtain ⟨m0, hm0, rfl⟩ := Option.map_eq_some_iff.1 hk
  rw [hf]; exact h k m0 hm0

section
variable {dead : Int} {T : List ByteArray} {N : Nat} {t : Int}

theorem hear_alive {ms : List (MemV ByteArray)} {n : NoteV ByteArray} {fs : List Int} (h : AliveD dead T N t ms) (hn : NI T N n) (ht : 0 ≤ t) (hN : N ≤ 8) (hT : ∀ s ∈ T, s.size ≤ 100) :
    (∀ m ∈ ms, m.items.length ≤ 64 ∧ (¬ (m.id = dead ∨ lostAt fs m.id.toNat = true ∨ m.id = n.src) → (inV m n t).1 = 0)) ∧ AliveD dead T N t (ms.map (hearM ⟨#[]⟩ dead t n fs)) := by
  refine ⟨fun m hm => ⟨(h m hm).1, fun hh => ?_⟩, fun m' hm' => ?_⟩
  · exact (hear ((h m hm).2 (fun e => hh (.inl e))) hn (fun e => hh (.inr (.inr e.symm))) ht hN hT).1
  · obtain ⟨m, hm, rfl⟩ := List.mem_map.1 hm'
    unfold hearM
    split
    · exact h m hm
    · rename_i hh
      have hd : m.id ≠ dead := fun e => hh (.inl e)
      have := (hear ((h m hm).2 hd) hn (fun e => hh (.inr (.inr e.symm))) ht hN hT).2
      exact ⟨by have := this.len; omega, fun _ => this⟩

theorem deliver_ok (ht : 0 ≤ t) (hN : N ≤ 8) (hT : ∀ s ∈ T, s.size ≤ 100) : ∀ (ns : List (NoteV ByteArray)) (fs : List Int) (ms : List (MemV ByteArray)), (∀ n ∈ ns, NI T N n) → AliveD dead T N t ms →
    okD dead t ns fs ms ∧ AliveD dead T N t (deliver ⟨#[]⟩ dead t ns fs ms).1
  | [], _, _, _, h => ⟨trivial, h⟩
  | n :: ns, fs, ms, hn, h => by
    have h1 := hear_alive (fs := fs) h (hn n (by simp)) ht hN hT
    have h2 := deliver_ok ht hN hT ns (fs.drop ms.length) _ (fun n' hn' => hn n' (by simp [hn'])) h1.2
    exact ⟨⟨h1.1, h2.1⟩, h2.2⟩

theorem deliver_fs : ∀ (ns : List (NoteV ByteArray)) (fs : List Int) (ms : List (MemV ByteArray)), (deliver ⟨#[]⟩ dead t ns fs ms).2 = fs.drop (ns.length * ms.length)
  | [], fs, ms => by simp [deliver]
  | n :: ns, fs, ms => by
    rw [deliver_cons, deliver_fs ns]
    simp only [List.length_map, List.drop_drop, List.length_cons]
    congr 1
    rw [Nat.add_mul]; omega

theorem deliver_map (p : MemV ByteArray → MemV ByteArray → Prop) (hr : ∀ m, p m m) (htr : ∀ a b c, p a b → p b c → p a c) (hs : ∀ n fs m, p m (hearM ⟨#[]⟩ dead t n fs m)) : ∀ (ns : List (NoteV ByteArray)) (fs : List Int) (ms : List (MemV ByteArray)),
    ∃ f : MemV ByteArray → MemV ByteArray, (deliver ⟨#[]⟩ dead t ns fs ms).1 = ms.map f ∧ ∀ m, p m (f m)
  | [], fs, ms => ⟨id, by simp [deliver], fun m => hr m⟩
  | n :: ns, fs, ms => by
    obtain ⟨f, h1, h2⟩ := deliver_map p hr htr hs ns (fs.drop ms.length) (ms.map (hearM ⟨#[]⟩ dead t n fs))
    refine ⟨fun m => f (hearM ⟨#[]⟩ dead t n fs m), by rw [deliver_cons, h1, List.map_map]; rfl, fun m => htr _ _ _ (hs n fs m) (h2 _)⟩

theorem air_ni {ms : List (MemV ByteArray)} (h : AliveD dead T N t ms) : ∀ n ∈ ms.flatMap (airD ⟨#[]⟩ dead t), NI T N n ∧ n.src ≠ dead := by
  intro n hn
  obtain ⟨m, hm, hn⟩ := List.mem_flatMap.1 hn
  unfold airD at hn
  split at hn
  · cases hn
  · rename_i hd
    have := out_air ((h m hm).2 hd) hn
    exact ⟨this.1, by rw [this.2]; exact hd⟩

theorem out_alive {ms : List (MemV ByteArray)} (h : AliveD dead T N t ms) (ht : 0 ≤ t) : AliveD dead T N t (ms.map (outD ⟨#[]⟩ dead t)) := by
  intro m' hm'
  obtain ⟨m, hm, rfl⟩ := List.mem_map.1 hm'
  refine ⟨?_, fun hd => ?_⟩
  · unfold outD outMem; split
    · exact (h m hm).1
    · simpa using (h m hm).1
  · rw [outD_id] at hd
    unfold outD
    rw [if_neg hd]
    exact out_mem ((h m hm).2 hd) ht

theorem AliveD.mono {ms : List (MemV ByteArray)} {t' : Int} (h : AliveD dead T N t ms) (ht : t ≤ t') : AliveD dead T N t' ms := fun m hm => ⟨(h m hm).1, fun hd => ((h m hm).2 hd).mono ht⟩

theorem tick_inv {ms : List (MemV ByteArray)} {fs : List Int} (h : AliveD dead T N t ms) (ht : 0 ≤ t) (hN : N ≤ 8) (hT : ∀ s ∈ T, s.size ≤ 100) :
    okD dead (t + 1) (ms.flatMap (airD ⟨#[]⟩ dead t)) fs (ms.map (outD ⟨#[]⟩ dead t)) ∧ AliveD dead T N (t + 1) (tickM ⟨#[]⟩ dead t fs ms).1 :=
  deliver_ok (by omega) hN hT _ _ _ (fun n hn => (air_ni h n hn).1) ((out_alive h ht).mono (by omega))

theorem tick_fs {ms : List (MemV ByteArray)} {fs : List Int} : (tickM ⟨#[]⟩ dead t fs ms).2 = fs.drop ((ms.flatMap (airD ⟨#[]⟩ dead t)).length * ms.length) := by
  unfold tickM; rw [deliver_fs, List.length_map]

theorem tick_ids {ms : List (MemV ByteArray)} {fs : List Int} (h : Ids ms) : Ids (tickM ⟨#[]⟩ dead t fs ms).1 ∧ (tickM ⟨#[]⟩ dead t fs ms).1.length = ms.length := by
  obtain ⟨f, h1, h2⟩ := deliver_map (dead := dead) (t := t + 1) (fun m m' => m'.id = m.id) (fun _ => rfl) (fun _ _ _ a b => b.trans a) (fun n fs m => hearM_id ⟨#[]⟩ dead (t + 1) n fs m) (ms.flatMap (airD ⟨#[]⟩ dead t)) fs (ms.map (outD ⟨#[]⟩ dead t))
  unfold tickM
  rw [h1]
  exact ⟨(h.map (fun m => outD_id ⟨#[]⟩ dead t m)).map h2, by simp⟩

/-! One item. -/
def stepI (dead t id : Int) (i : Nat) (x : ItemV ByteArray) (n : NoteV ByteArray) : ItemV ByteArray :=
  if id = dead ∨ id = n.src then x else if n.kind = 3 then x else if n.no.toNat = i then (if n.kind = 1 then gotI n.body x else askI id t x) else x

theorem hear_item {m : MemV ByteArray} {i : Nat} {x : ItemV ByteArray} {n : NoteV ByteArray} (h : m.items[i]? = some x) : (hearM ⟨#[]⟩ dead t n [] m).items[i]? = some (stepI dead t m.id i x n) := by
  unfold hearM stepI
  by_cases h1 : m.id = dead ∨ m.id = n.src
  · rw [if_pos (by rcases h1 with h1 | h1; exact .inl h1; exact .inr (.inr h1)), if_pos h1]; exact h
  · have hl : lostAt [] m.id.toNat = false := rfl
    rw [if_neg (by rintro (h2 | h2 | h2); exact h1 (.inl h2); (rw [hl] at h2; cases h2); exact h1 (.inr h2)), if_neg h1]
    unfold inCore
    rw [if_neg (fun e => h1 (.inr e.symm))]
    by_cases h3 : n.kind = 3
    · rw [if_pos h3, if_pos h3]; exact knowsI_old t _ _ i x h
    · rw [if_neg h3, if_neg h3]
      have hk := fun (many : Int) => knowsI_old t (many - m.items.length).toNat m.items i x h
      by_cases h4 : n.kind = 1
      · rw [if_pos h4]
        simp only [gotM, knows, List.getElem?_modify, hk]
        by_cases h5 : n.no.toNat = i <;> simp [h5, h4]
      · rw [if_neg h4]
        simp only [asked, knows, List.getElem?_modify, hk]
        by_cases h5 : n.no.toNat = i <;> simp [h5, h4]

def hearA (dead t : Int) (ns : List (NoteV ByteArray)) (m : MemV ByteArray) : MemV ByteArray := ns.foldl (fun m n => hearM ⟨#[]⟩ dead t n [] m) m

theorem deliver_quiet : ∀ (ns : List (NoteV ByteArray)) (ms : List (MemV ByteArray)), deliver ⟨#[]⟩ dead t ns [] ms = (ms.map (hearA dead t ns), [])
  | [], ms => by
    rw [deliver_nil, show (hearA dead t [] : MemV ByteArray → MemV ByteArray) = id from rfl, List.map_id]
  | n :: ns, ms => by
    rw [deliver_cons, List.drop_nil, deliver_quiet ns, List.map_map]
    rfl

theorem hearA_id : ∀ (ns : List (NoteV ByteArray)) (m : MemV ByteArray), (hearA dead t ns m).id = m.id
  | [], _ => rfl
  | n :: ns, m => by
    show (hearA dead t ns (hearM ⟨#[]⟩ dead t n [] m)).id = m.id
    rw [hearA_id ns, hearM_id]

theorem hearA_item {i : Nat} : ∀ (ns : List (NoteV ByteArray)) (m : MemV ByteArray) (x : ItemV ByteArray), m.items[i]? = some x → (hearA dead t ns m).items[i]? = some (ns.foldl (stepI dead t m.id i) x)
  | [], _, _, h => h
  | n :: ns, m, x, h => by
    have := hearA_item ns (hearM ⟨#[]⟩ dead t n [] m) _ (hear_item h)
    rw [hearM_id] at this
    exact this

theorem f_there {id : Int} {i : Nat} : ∀ (ns : List (NoteV ByteArray)) (x : ItemV ByteArray), x.there = true → (ns.foldl (stepI dead t id i) x).there = true
  | [], _, h => h
  | n :: ns, x, h => by
    refine f_there ns _ ?_
    unfold stepI; split; exact h; split; exact h; split
    · split
      · rfl
      · unfold askI; rw [if_neg (by rw [h]; simp)]; split <;> exact h
    · exact h

theorem f_data {id : Int} {i : Nat} (hd : id ≠ dead) : ∀ (ns : List (NoteV ByteArray)) (x : ItemV ByteArray), (∃ n ∈ ns, n.kind = 1 ∧ n.no.toNat = i ∧ n.src ≠ id) → (ns.foldl (stepI dead t id i) x).there = true
  | n :: ns, x, ⟨n', hn', h1, h2, h3⟩ => by
    rcases List.mem_cons.1 hn' with rfl | hn'
    · refine f_there ns _ ?_
      unfold stepI
      rw [if_neg (by rintro (h | h); exact hd h; exact h3 h.symm), if_neg (by omega), if_pos h2, if_pos h1]
      rfl
    · exact f_data hd ns _ ⟨n', hn', h1, h2, h3⟩

theorem f_none {id : Int} {i : Nat} : ∀ (ns : List (NoteV ByteArray)) (x : ItemV ByteArray), (∀ n ∈ ns, n.kind ≠ 3 → n.no.toNat ≠ i) → ns.foldl (stepI dead t id i) x = x
  | [], _, _ => rfl
  | n :: ns, x, h => by
    have e : stepI dead t id i x n = x := by
      unfold stepI; split; rfl; split; rfl
      rename_i h3
      rw [if_neg (h n (by simp) h3)]
    show ns.foldl (stepI dead t id i) (stepI dead t id i x n) = x
    rw [e]; exact f_none ns x (fun n' hn' => h n' (by simp [hn']))

theorem f_keep {id : Int} {i : Nat} : ∀ (ns : List (NoteV ByteArray)) (x : ItemV ByteArray), (∀ n ∈ ns, n.kind = 1 → n.no.toNat ≠ i) → x.there = true → 0 ≤ x.rep → ns.foldl (stepI dead t id i) x = x
  | [], _, _, _, _ => rfl
  | n :: ns, x, h, h1, h2 => by
    have e : stepI dead t id i x n = x := by
      unfold stepI; split; rfl; split; rfl; split
      · rename_i h5
        rw [if_neg (fun hk => h n (by simp) hk h5)]
        unfold askI
        rw [if_neg (by rw [h1]; simp), if_neg (by omega)]
      · rfl
    show ns.foldl (stepI dead t id i) (stepI dead t id i x n) = x
    rw [e]; exact f_keep ns x (fun n' hn' => h n' (by simp [hn'])) h1 h2

theorem f_ask {id : Int} {i : Nat} (hd : id ≠ dead) (h0 : 0 ≤ t + id) : ∀ (ns : List (NoteV ByteArray)) (x : ItemV ByteArray), (∀ n ∈ ns, n.kind = 1 → n.no.toNat ≠ i) → x.there = true → x.rep < 0 → (∃ n ∈ ns, n.kind = 2 ∧ n.no.toNat = i ∧ n.src ≠ id) →
    ns.foldl (stepI dead t id i) x = { x with rep := t + id }
  | n :: ns, x, h, h1, h2, ⟨n', hn', k1, k2, k3⟩ => by
    have hrest : ∀ n'' ∈ ns, n''.kind = 1 → n''.no.toNat ≠ i := fun n'' hn'' => h n'' (by simp [hn''])
    have cases2 : stepI dead t id i x n = x ∨ stepI dead t id i x n = { x with rep := t + id } := by
      unfold stepI; split; exact .inl rfl; split; exact .inl rfl; split
      · rename_i h5
        rw [if_neg (fun hk => h n (by simp) hk h5)]
        unfold askI
        rw [if_neg (by rw [h1]; simp), if_pos h2]
        exact .inr rfl
      · exact .inl rfl
    show ns.foldl (stepI dead t id i) (stepI dead t id i x n) = _
    rcases cases2 with e | e
    · rw [e]
      rcases List.mem_cons.1 hn' with rfl | hn'
      · exfalso
        have : stepI dead t id i x n' = { x with rep := t + id } := by
          unfold stepI
          rw [if_neg (by rintro (h | h); exact hd h; exact k3 h.symm), if_neg (by omega), if_pos k2, if_neg (by omega)]
          unfold askI
          rw [if_neg (by rw [h1]; simp), if_pos h2]
        rw [this] at e
        have : t + id = x.rep := by rw [← e]
        omega
      · exact f_ask hd h0 ns x hrest h1 h2 ⟨n', hn', k1, k2, k3⟩
    · rw [e]; exact f_keep ns _ hrest h1 h0
end
end Go.Proofs.Ytgpcjoofcmfidaa
