import Derived.Test.YtfknpeajihecdaaRu7
import Derived.Test.YtfknpeajihecdaaXMrow
namespace Go.Proofs.Ytfknpeajihecdaa
open Go.XM Go.RowKit Go.Dg Go.Ru
set_option maxRecDepth 100000

theorem w64_of {a : Int} (h : (Lit.int .i64 a).wf = true) : W64 a := by
  simp [Lit.wf, IntKind.min, IntKind.max, IntKind.signed, IntKind.bits] at h
  unfold W64
  omega

def ksR : List Kd := [.b, .i .u32, .i .i64, .i .u32, .i .i64, .i .i64, .i .i64, .i .i64, .i .i64, .i .i64]
def ksP : List Kd := [.i .u32, .i .u32, .i .i64, .i .i64, .i .i64, .i .i64, .b, .b, .s]

theorem packet_of {cs : List Value} (h : KdsOk ksP cs) : ∃ p : PktV, cs = encP p ∧ W64 p.off ∧ p.body.size ≤ Go.maxLen := by
  obtain ⟨_, cs0, rfl, ⟨x0, rfl, _⟩, g0⟩ := KdsOk.cons h
  obtain ⟨_, cs1, rfl, ⟨x1, rfl, _⟩, g1⟩ := KdsOk.cons g0
  obtain ⟨_, cs2, rfl, ⟨x2, rfl, _⟩, g2⟩ := KdsOk.cons g1
  obtain ⟨_, cs3, rfl, ⟨x3, rfl, _⟩, g3⟩ := KdsOk.cons g2
  obtain ⟨_, cs4, rfl, ⟨x4, rfl, _⟩, g4⟩ := KdsOk.cons g3
  obtain ⟨_, cs5, rfl, ⟨x5, rfl, h5⟩, g5⟩ := KdsOk.cons g4
  obtain ⟨_, cs6, rfl, ⟨x6, rfl⟩, g6⟩ := KdsOk.cons g5
  obtain ⟨_, cs7, rfl, ⟨x7, rfl⟩, g7⟩ := KdsOk.cons g6
  obtain ⟨_, cs8, rfl, ⟨x8, rfl, h8⟩, g8⟩ := KdsOk.cons g7
  obtain rfl := KdsOk.nil g8
  exact ⟨⟨x0, x1, x2, x3, x4, x5, x6, x7, x8⟩, rfl, w64_of h5, h8⟩

theorem rule_of {cs : List Value} (h : KdsOk ksR cs) : ∃ r : RuleV, cs = encR r ∧ W64 r.sb ∧ W64 r.db := by
  obtain ⟨_, cs0, rfl, ⟨x0, rfl⟩, g0⟩ := KdsOk.cons h
  obtain ⟨_, cs1, rfl, ⟨x1, rfl, _⟩, g1⟩ := KdsOk.cons g0
  obtain ⟨_, cs2, rfl, ⟨x2, rfl, h2⟩, g2⟩ := KdsOk.cons g1
  obtain ⟨_, cs3, rfl, ⟨x3, rfl, _⟩, g3⟩ := KdsOk.cons g2
  obtain ⟨_, cs4, rfl, ⟨x4, rfl, h4⟩, g4⟩ := KdsOk.cons g3
  obtain ⟨_, cs5, rfl, ⟨x5, rfl, _⟩, g5⟩ := KdsOk.cons g4
  obtain ⟨_, cs6, rfl, ⟨x6, rfl, _⟩, g6⟩ := KdsOk.cons g5
  obtain ⟨_, cs7, rfl, ⟨x7, rfl, _⟩, g7⟩ := KdsOk.cons g6
  obtain ⟨_, cs8, rfl, ⟨x8, rfl, _⟩, g8⟩ := KdsOk.cons g7
  obtain ⟨_, cs9, rfl, ⟨x9, rfl, _⟩, g9⟩ := KdsOk.cons g8
  obtain rfl := KdsOk.nil g9
  exact ⟨⟨x0, x1, x2, x3, x4, x5, x6, x7, x8, x9⟩, rfl, w64_of h2, w64_of h4⟩

theorem rsl_of {w : World} {v : Value} {m : Nat} (hm : m = 10) (h : v = .slice none 0 0 ∨ ∃ (b off len cap : Nat) (c : Array Value) (T : TypeId) (fz : Nat × Nat), v = .slice (some ⟨b, off, none⟩) len cap ∧ len ≤ cap ∧ cap ≤ Go.maxLen ∧ w.heap[b]? = some (.cells c T fz) ∧
      ∀ i, i < len → ∃ cs : List Value, cs.length = m ∧ KdsOk ksR cs ∧ ∀ j, j < m → c[off + i * m + j]? = cs[j]?) : ∃ L, RSl w v L ∧ ∀ r ∈ L, W64 r.sb ∧ W64 r.db := by
  subst hm
  rcases h with rfl | ⟨b, off, len, cap, c, T, fz, rfl, _, _, hB, hx⟩
  · exact ⟨[], .inl ⟨rfl, rfl⟩, fun _ h => nomatch h⟩
  · have hr : ∀ i : Fin len, ∃ r : RuleV, (W64 r.sb ∧ W64 r.db) ∧ ∀ (j : Nat) (v : Value), (encR r)[j]? = some v → c[off + i.1 * 10 + j]? = some v := by
      intro i
      obtain ⟨cs, hl, hk, hc⟩ := hx i.1 i.2
      obtain ⟨r, rfl, hw⟩ := rule_of hk
      refine ⟨r, hw, fun j v hv => ?_⟩
      have hj : j < 10 := by rw [← hl]; exact (List.getElem?_eq_some_iff.1 hv).1
      rw [hc j hj, hv]
    refine ⟨List.ofFn (fun i => Classical.choose (hr i)), .inr ⟨b, off, cap, c, T, fz, by rw [List.length_ofFn], hB, fun k r hk j v hv => ?_⟩, fun r hr' => ?_⟩
    · rw [List.getElem?_ofFn] at hk
      split at hk
      · rename_i hk'
        have := (Classical.choose_spec (hr ⟨k, hk'⟩)).2 j v
        simp only [Option.some.injEq] at hk
        rw [hk] at this
        rw [Int.toNat_natCast]
        exact this hv
      · cases hk
    · obtain ⟨i, rfl⟩ := (List.mem_ofFn ..).1 hr'
      exact (Classical.choose_spec (hr i)).1
end Go.Proofs.Ytfknpeajihecdaa
