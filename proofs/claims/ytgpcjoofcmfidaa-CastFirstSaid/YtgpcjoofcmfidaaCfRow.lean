/-
  A law's notes as read-only rows.
-/
import Derived.Test.YtgpcjoofcmfidaaYRow
import Derived.Test.YtgpcjoofcmfidaaCf1
namespace Go.Proofs.Ytgpcjoofcmfidaa
open Go.XM Go.Ca

theorem view_notes {w : World} {v : Value} (h : ∃ L : List (List Value), View (frameOf w).hl v 4 L ∧ ∀ c ∈ L, KdsOk [.i .i64, .i .i64, .i .i64, .s] c) : ∃ N : List (NoteV ByteArray), View (frameOf w).hl v 4 (N.map encN) := by
  obtain ⟨L, hV, hL⟩ := h
  obtain ⟨N, rfl, _⟩ := map_of (f := encN) (p := fun _ => True) L fun c hc => by
    obtain ⟨c0, s1, rfl, ⟨a, rfl, _⟩, k1⟩ := (hL c hc).cons
    obtain ⟨c1, s2, rfl, ⟨b, rfl, _⟩, k2⟩ := k1.cons
    obtain ⟨c2, s3, rfl, ⟨d, rfl, _⟩, k3⟩ := k2.cons
    obtain ⟨c3, s4, rfl, ⟨s, rfl, _⟩, k4⟩ := k3.cons
    rw [KdsOk.nil k4]
    exact ⟨⟨a, b, d, s⟩, rfl, trivial⟩
  exact ⟨N, hV⟩
end Go.Proofs.Ytgpcjoofcmfidaa
