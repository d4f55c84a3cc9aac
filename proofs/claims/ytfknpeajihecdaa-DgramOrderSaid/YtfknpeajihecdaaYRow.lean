/-
  A law's parameters as read-only slices, and the law's end.
-/
import Derived.Test.YtfknpeajihecdaaXMrow
import Derived.Test.YtfknpeajihecdaaYMore
namespace Go.XM
open Go Go.RowKit

theorem toKeep {P : Program} {f : FuncId} {args : Array Value} {w : World} {X : Value} (h : Ret P f args w (Post (frameOf w) fun v _ => v = X)) : Ret P f args w fun v w' => v = X ∧ Keep [] w w' :=
  Ret.mono h fun _ _ ⟨_, hv, H⟩ => ⟨hv, H.keep⟩

theorem view_of {w : World} {v : Value} {size : Nat} {ks : List Kd} (h : v = .slice none 0 0 ∨ ∃ (b off len cap : Nat) (c : Array Value) (T : TypeId) (fz : Nat × Nat), v = .slice (some ⟨b, off, none⟩) len cap ∧ len ≤ cap ∧ cap ≤ maxLen ∧ w.heap[b]? = some (.cells c T fz) ∧
      ∀ i, i < len → ∃ cs : List Value, cs.length = size ∧ KdsOk ks cs ∧ ∀ j, j < size → c[off + i * size + j]? = cs[j]?) :
    ∃ L : List (List Value), View (frameOf w).hl v size L ∧ ∀ c ∈ L, KdsOk ks c := by
  rcases h with rfl | ⟨b, off, len, cap, c, T, fz, rfl, hl, hm, hB, hx⟩
  · exact ⟨[], View.nil _ _, fun _ h => nomatch h⟩
  · have : ∀ n, n ≤ len → ∃ L : List (List Value), L.length = n ∧ ∀ (k : Nat) (x : List Value), L[k]? = some x → x.length = size ∧ KdsOk ks x ∧ ∀ j, j < size → c[off + k * size + j]? = x[j]? := by
      intro n
      induction n with
      | zero => exact fun _ => ⟨[], rfl, fun _ _ h => nomatch h⟩
      | succ n ih =>
        intro hn
        obtain ⟨L, h1, h2⟩ := ih (by omega)
        obtain ⟨cs, h3⟩ := hx n (by omega)
        refine ⟨L ++ [cs], by simp [h1], fun k x hk => ?_⟩
        by_cases hkl : k < L.length
        · rw [List.getElem?_append_left hkl] at hk; exact h2 k x hk
        · rw [List.getElem?_append_right (by omega)] at hk
          have hk0 : k - L.length = 0 := by
            have := (List.getElem?_eq_some_iff.1 hk).1
            simp at this; omega
          rw [hk0] at hk
          simp at hk
          subst hk
          have : k = n := by omega
          subst this
          exact h3
    obtain ⟨L, h1, h2⟩ := this len (Nat.le_refl _)
    refine ⟨L, ⟨some ⟨b, off, none⟩, cap, by rw [h1], by rw [h1]; exact hl, fun x hx => ?_, fun _ => ⟨b, off, c, T, fz, rfl, hB, fun k x hk j u hu => ?_⟩⟩, fun x hx => ?_⟩
    · obtain ⟨k, hk⟩ := List.mem_iff_getElem?.1 hx; exact (h2 k x hk).1
    · have := h2 k x hk
      rw [this.2.2 j (by rw [← this.1]; exact (List.getElem?_eq_some_iff.1 hu).1)]
      exact hu
    · obtain ⟨k, hk⟩ := List.mem_iff_getElem?.1 hx; exact (h2 k x hk).2.1

theorem map_of {α β : Type} {f : α → β} {p : α → Prop} : ∀ (L : List β), (∀ c ∈ L, ∃ a, c = f a ∧ p a) → ∃ A : List α, L = A.map f ∧ ∀ a ∈ A, p a
  | [], _ => ⟨[], rfl, fun _ h => nomatch h⟩
  | c :: L, h => by
    obtain ⟨a, rfl, ha⟩ := h c (by simp)
    obtain ⟨A, rfl, hA⟩ := map_of L fun c hc => h c (by simp [hc])
    exact ⟨a :: A, rfl, fun x hx => by rcases List.mem_cons.1 hx with rfl | hx; exact ha; exact hA x hx⟩

/-- A slice of texts. -/
theorem view_strs {w : World} {v : Value} (h : ∃ L : List (List Value), View (frameOf w).hl v 1 L ∧ ∀ c ∈ L, KdsOk [.s] c) : ∃ T : List ByteArray, View (frameOf w).hl v 1 (T.map fun s => [.string s]) ∧ ∀ s ∈ T, s.size ≤ maxLen := by
  obtain ⟨L, hV, hL⟩ := h
  obtain ⟨T, rfl, hT⟩ := map_of (f := fun s : ByteArray => [Value.string s]) (p := fun s => s.size ≤ maxLen) L fun c hc => by
    obtain ⟨c0, cs, rfl, ⟨s, rfl, hs⟩, h2⟩ := (hL c hc).cons
    rw [KdsOk.nil h2]
    exact ⟨s, rfl, hs⟩
  exact ⟨T, hV, hT⟩

/-- A slice of ints. -/
theorem view_ints {w : World} {v : Value} (h : ∃ L : List (List Value), View (frameOf w).hl v 1 L ∧ ∀ c ∈ L, KdsOk [.i .i64] c) : ∃ T : List Int, View (frameOf w).hl v 1 (T.map fun n => [.int .i64 n]) ∧ ∀ n ∈ T, -9223372036854775808 ≤ n ∧ n ≤ 9223372036854775807 := by
  obtain ⟨L, hV, hL⟩ := h
  obtain ⟨T, rfl, hT⟩ := map_of (f := fun n : Int => [Value.int .i64 n]) (p := fun n => -9223372036854775808 ≤ n ∧ n ≤ 9223372036854775807) L fun c hc => by
    obtain ⟨c0, cs, rfl, ⟨n, rfl, hn⟩, h2⟩ := (hL c hc).cons
    rw [KdsOk.nil h2]
    exact ⟨n, rfl, by simpa [Lit.wf, IntKind.min, IntKind.max, IntKind.signed, IntKind.bits] using hn⟩
  exact ⟨T, hV, hT⟩
end Go.XM
