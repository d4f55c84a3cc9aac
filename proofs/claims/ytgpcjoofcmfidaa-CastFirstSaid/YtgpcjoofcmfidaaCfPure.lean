/-
  One member of a broadcast stream, whatever notes come.
-/
import Derived.Test.YtgpcjoofcmfidaaCaLaw2
namespace Go.Proofs.Ytgpcjoofcmfidaa
open Go.XM Go.Ca

theorem badN_spec {n : NoteV ByteArray} (h : badN n = false) : 1 ≤ n.kind ∧ n.kind ≤ 3 ∧ 0 ≤ n.no ∧ n.no ≤ 64 ∧ (n.kind ≠ 3 → n.no ≤ 63) := by
  simp only [badN, Bool.or_eq_false_iff, decide_eq_false_iff_not] at h
  have := h.1.1
  refine ⟨by omega, by omega, by omega, ?_, ?_⟩
  · by_cases hk : n.kind = 3 <;> simp [hk] at this <;> omega
  · intro hk; simp [hk] at this; omega

theorem inCore_item {m : MemV ByteArray} {n : NoteV ByteArray} {t : Int} {i : Nat} {x : ItemV ByteArray} (h : m.items[i]? = some x) :
    ∃ x', (inCore ⟨#[]⟩ m n t).items[i]? = some x' ∧ (x.there = true → x'.there = true ∧ x'.body = x.body) := by
  have hk := fun (many : Int) => knowsI_old t (many - m.items.length).toNat m.items i x h
  unfold inCore
  split
  · exact ⟨x, h, fun h => ⟨h, rfl⟩⟩
  · split
    · exact ⟨x, hk _, fun h => ⟨h, rfl⟩⟩
    · split
      · simp only [gotM, knows, List.getElem?_modify, hk, Option.map_some]
        refine ⟨_, rfl, fun ht => ?_⟩
        split
        · simp [gotI, ht]
        · exact ⟨ht, rfl⟩
      · simp only [asked, knows, List.getElem?_modify, hk, Option.map_some]
        refine ⟨_, rfl, fun ht => ?_⟩
        split
        · show (askI m.id t x).there = true ∧ (askI m.id t x).body = x.body
          unfold askI
          rw [if_neg (by rw [ht]; simp)]
          split <;> exact ⟨ht, rfl⟩
        · exact ⟨ht, rfl⟩

theorem inCore_len {m : MemV ByteArray} {n : NoteV ByteArray} {t : Int} (h : m.items.length ≤ 64) (hb : badN n = false) : (inCore ⟨#[]⟩ m n t).items.length ≤ 64 := by
  have hs := badN_spec hb
  unfold inCore
  split
  · exact h
  · split
    · show (knowsI _ _ _ _).length ≤ 64
      rw [knowsI_len]; show m.items.length + (n.no - (m.items.length : Int)).toNat ≤ 64; omega
    · rename_i h3
      have := hs.2.2.2.2 h3
      split
      · simp only [gotM, knows, List.length_modify, knowsI_len]; omega
      · simp only [asked, knows, List.length_modify, knowsI_len]; omega

theorem inCore_same {m : MemV ByteArray} {n : NoteV ByteArray} {t : Int} : (inCore ⟨#[]⟩ m n t).read = m.read ∧ (inCore ⟨#[]⟩ m n t).now = t := by
  unfold inCore; split; exact ⟨rfl, rfl⟩; split; exact ⟨rfl, rfl⟩; split <;> exact ⟨rfl, rfl⟩

/-- A member that received message q. -/
structure PF (m : MemV ByteArray) : Prop where
  id : m.id = 3
  now : m.now = 0
  read : m.read = 0
  len : m.items.length ≤ 64

def Th (i : Nat) (m : MemV ByteArray) : Prop := ∃ x, m.items[i]? = some x ∧ x.there = true
def ThB (i : Nat) (B : ByteArray) (m : MemV ByteArray) : Prop := ∃ x, m.items[i]? = some x ∧ x.there = true ∧ x.body = B

theorem pf_in {m : MemV ByteArray} (n : NoteV ByteArray) (h : PF m) : PF (inV m n 0).2 ∧ (∀ i, Th i m → Th i (inV m n 0).2) ∧ (∀ i B, ThB i B m → ThB i B (inV m n 0).2) := by
  unfold inV
  split
  · exact ⟨h, fun _ h => h, fun _ _ h => h⟩
  · rename_i hb
    split
    · exact ⟨h, fun _ h => h, fun _ _ h => h⟩
    · split
      · exact ⟨h, fun _ h => h, fun _ _ h => h⟩
      · refine ⟨⟨by rw [inCore_id]; exact h.id, inCore_same.2, by rw [inCore_same.1]; exact h.read, inCore_len h.len (by simpa using hb)⟩, ?_, ?_⟩
        · rintro i ⟨x, hx, ht⟩
          obtain ⟨x', hx', hk⟩ := inCore_item (n := n) (t := 0) hx
          exact ⟨x', hx', (hk ht).1⟩
        · rintro i B ⟨x, hx, ht, hB⟩
          obtain ⟨x', hx', hk⟩ := inCore_item (n := n) (t := 0) hx
          exact ⟨x', hx', (hk ht).1, (hk ht).2.trans hB⟩

theorem data_ok {m : MemV ByteArray} {i : Nat} {B : ByteArray} (h : PF m) (hi : i < 5) (hB : B.size ≤ 100) : (inV m ⟨1, 0, i, B⟩ 0).1 = 0 ∧ Th i (inV m ⟨1, 0, i, B⟩ 0).2 ∧ (m.items = [] → ThB i B (inV m ⟨1, 0, i, B⟩ 0).2) := by
  have hb : badN ⟨1, 0, i, B⟩ = false := by unfold badN; simp; omega
  have e : inV m ⟨1, 0, i, B⟩ 0 = (0, inCore ⟨#[]⟩ m ⟨1, 0, i, B⟩ 0) := by
    unfold inV
    rw [if_neg (by rw [hb]; simp), if_neg (by have := h.now; omega), if_neg (by have := h.id; omega)]
  rw [e]
  have e2 : inCore ⟨#[]⟩ m ⟨1, 0, i, B⟩ 0 = gotM ⟨#[]⟩ { m with now := 0 } i B 0 := by
    unfold inCore
    rw [if_neg (by show (0 : Int) ≠ m.id; have := h.id; omega), if_neg (by show ¬ ((1 : Int) = 3); omega), if_pos rfl]
    rfl
  simp only [e2]
  have hl : i < (knowsI ⟨#[]⟩ (((i + 1 : Nat) : Int) - m.items.length).toNat 0 m.items).length := by rw [knowsI_len]; omega
  obtain ⟨y, hx⟩ : ∃ y, (knowsI ⟨#[]⟩ (((i + 1 : Nat) : Int) - m.items.length).toNat 0 m.items)[i]? = some y := ⟨_, List.getElem?_eq_getElem hl⟩
  refine ⟨trivial, ⟨_, by simp only [gotM, knows, List.getElem?_modify]; rw [hx]; rfl, by simp [gotI]⟩, fun hm => ?_⟩
  refine ⟨_, by simp only [gotM, knows, List.getElem?_modify]; rw [hx]; rfl, by simp [gotI], ?_⟩
  rcases knowsI_get 0 _ _ _ _ hx with h1 | ⟨_, h1⟩
  · rw [hm] at h1; cases h1
  · rw [h1]; simp [gotI]

theorem gotN_ge : ∀ (l : List (ItemV ByteArray)) (n : Nat), (∀ i, i < n → ∃ x, l[i]? = some x ∧ x.there = true) → n ≤ gotN l
  | _, 0, _ => Nat.zero_le _
  | [], n + 1, h => by obtain ⟨x, hx, _⟩ := h 0 (by omega); cases hx
  | y :: l, n + 1, h => by
    obtain ⟨x, hx, ht⟩ := h 0 (by omega)
    simp at hx; subst hx
    unfold gotN
    rw [if_pos ht]
    have := gotN_ge l n (fun i hi => by obtain ⟨x, hx, ht⟩ := h (i + 1) (by omega); exact ⟨x, by simpa using hx, ht⟩)
    omega
end Go.Proofs.Ytgpcjoofcmfidaa
