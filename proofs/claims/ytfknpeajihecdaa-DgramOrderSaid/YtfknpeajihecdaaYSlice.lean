/-
  Slices that are only read, cut in a region that draws.
-/
import Derived.Test.YtfknpeajihecdaaYMore
namespace Go.XM
open Go Go.RowKit
section
variable {P : Program} {w : World} {fn : Func} {R : Ending → World → Prop} {js : List J} {st : St} {F : Fm} {M : List Assn} {v : Value} {e size : Nat} {L : List (List Value)}

/-- v[l:h] of a slice that is only read, in a region that draws. -/
theorem h_vslice {C : Cls} {K : Hl} {t : TypeId} {a : Option Addr} {n c : Nat} {lo hi : Option Value} {l h : Nat} (V : View K (.slice a n c) size L) (hlo : Bd lo 0 l) (hhi : Bd hi n h) (h1 : l ≤ h) (h2 : h ≤ L.length) (hs : elemSize P t = some size)
    (hr : req st = .slice t (.slice a n c) lo hi none) (hm : Nat.beq st.m 0 = false) (kk : ∀ a' c', View K (.slice a' (h - l) c') size ((L.take h).drop l) → GQ P fn R js C (nxq P fn st (.v (.slice a' (h - l) c')))) : GQ P fn R js C st := by
  unfold elemSize at hs
  split at hs
  · rename_i e he
    obtain ⟨i0, hi0, hsz⟩ := Option.map_eq_some_iff.1 hs
    obtain ⟨a0, c0, g1, g2, g3, g4⟩ := V
    injection g1 with ga gn gc
    subst ga gn gc
    have hln : ((L.take h).drop l).length = h - l := by simp; omega
    refine q_val hr rfl hm (fun _ _ => run_sliceSl he hi0 hlo hhi h1 (by omega)) (kk _ _ ⟨_, _, by rw [hln], by rw [hln]; omega, fun x hx => g3 x (List.mem_of_mem_take (List.mem_of_mem_drop hx)), fun hn => ?_⟩)
    have hlt : 0 < h - l := by rw [← hln]; exact List.length_pos_iff.2 hn
    obtain ⟨b, off, cur, T, fz, rfl, h6, h7⟩ := g4 (by intro h0; rw [h0] at h2; simp at h2; omega)
    refine ⟨b, off + l * size, cur, T, fz, ?_, h6, fun k x hk j u hj => ?_⟩
    · rw [if_neg (by omega), hsz]
      simp only [Option.map_some, Option.some.injEq]
      unfold Addr.add; split <;> simp_all
    · have hkl : l + k < h := by
        have := (List.getElem?_eq_some_iff.1 hk).1
        rw [hln] at this; omega
      have hk2 : L[l + k]? = some x := by
        rw [List.getElem?_drop, List.getElem?_take_of_lt hkl] at hk
        exact hk
      have := h7 (l + k) x hk2 j u hj
      rwa [Nat.add_mul, ← Nat.add_assoc off] at this
  · cases hs
end
end Go.XM
