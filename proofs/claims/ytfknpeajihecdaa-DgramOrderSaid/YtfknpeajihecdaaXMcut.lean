/-
  The X machine: a cut. What stands behind a loop is shown once, for all ways out of it.
-/
import Derived.Test.YtfknpeajihecdaaXMtake
namespace Go.XM

def keepFr : List Nat → Fr → Fr
  | [], _ => []
  | s :: r, fr => (s, look fr s) :: keepFr r fr

theorem look_keep {t : Nat} {fr : Fr} : ∀ {keep : List Nat} {v : Value}, (look (keepFr keep fr) t).get = some v → (look fr t).get = some v
  | [], v, h => by cases h
  | s :: r, v, h => by
    unfold keepFr look at h
    split at h
    · rename_i hb
      have : s = t := Nat.eq_of_beq_eq_true hb
      subst this; exact h
    · exact look_keep (keep := r) h

theorem Agree.keep {n : Nat} {fr : Fr} {a : Act} (h : Agree n fr a) (keep : List Nat) : Agree n (keepFr keep fr) a := ⟨h.1, fun t v ht => h.2 t v (look_keep ht)⟩

theorem Agree.setVals {n : Nat} {fr fr' : Fr} {a : Act} (h : Agree n fr a) (h' : Agree n fr' a) {slots : List Nat} {vals : List Value} (hv : vals? fr' slots = vals.map some) : Agree n (XM.setVals slots vals fr) a :=
  ⟨h.1, fun t v ht => by
    rcases look_setVals slots vals _ v ht with ⟨i, h1, h2⟩ | ht
    · exact h'.2 t v (vals_spec hv h1 h2)
    · exact h.2 t v ht⟩

def cutJ {γ : Type} (n : Nat) (K : Fr) (slots : List Nat) (vals : γ → List Value) (I : γ → World → Prop) : J :=
  fun a w => a.defers = [] ∧ ∃ g, Agree n (setVals slots (vals g) K) a ∧ I g w

def cutSt (st : St) (k d : Nat) : St := ⟨st.todo.take k ++ .lp d :: st.todo.drop k, st.ops, st.rops, st.fr, st.m, st.cur⟩
def cutOk (st : St) (_k d : Nat) : Bool :=
  (match st.cur, st.rops with
    | .idle, [] => true
    | _, _ => false) && lpsBelow d st.todo
def behind (st : St) (k : Nat) (fr : Fr) : St := ⟨st.todo.drop k, #[], [], fr, 0, .idle⟩

section
variable {P : Program} {fn : Func} {R : Ending → World → Prop} {js : List J} {st : St} {w : World}

theorem KQ_cut {Qf : Exit → Act → World → Prop} {J0 : J} {d : Nat} (hd : js.length = d) : ∀ (A B : List XI), (∀ e, XI.lp e ∈ A ++ B → e < d) → (∀ a w, J0 a w → KQ P Qf js B .normal a w) →
    ∀ e a w, KQ P Qf (js ++ [J0]) (A ++ .lp d :: B) e a w → KQ P Qf js (A ++ B) e a w
  | [], B, hb, hJ, e, a, w, h => by
    have hB : KQ P Qf (js ++ [J0]) B = KQ P Qf js B := KQ_js B fun e he => by
      have := hb e (by simpa using he)
      rw [← hd] at this
      simp [List.getElem?_append_left this]
    have h : Exit.then ((js ++ [J0]).getD d (fun _ _ => False)) (KQ P Qf (js ++ [J0]) B) e a w := h
    rw [hB, ← hd] at h
    simp only [List.getD_eq_getElem?_getD, List.getElem?_concat_length, Option.getD_some] at h
    cases e with
    | normal => exact hJ a w h
    | exit id => exact h
    | goto l => exact h
    | ret => exact h
    | panic c => exact h
    | outgrown => exact h
  | .code c :: A, B, hb, hJ, e, a, w, h => by
    have ih := KQ_cut hd A B (fun e he => hb e (by simp only [List.cons_append]; exact List.mem_cons_of_mem _ he)) hJ
    have h : Exit.then (c.wp P (KQ P Qf (js ++ [J0]) (A ++ .lp d :: B))) (KQ P Qf (js ++ [J0]) (A ++ .lp d :: B)) e a w := h
    show Exit.then (c.wp P (KQ P Qf js (A ++ B))) (KQ P Qf js (A ++ B)) e a w
    cases e with
    | normal => exact wp_mono h (fun e a w => ih e a w)
    | exit id => exact ih _ _ _ h
    | goto l => exact ih _ _ _ h
    | ret => exact ih _ _ _ h
    | panic c => exact ih _ _ _ h
    | outgrown => exact ih _ _ _ h
  | .blk id :: A, B, hb, hJ, e, a, w, h => by
    have ih := KQ_cut hd A B (fun e he => hb e (by simp only [List.cons_append]; exact List.mem_cons_of_mem _ he)) hJ
    have h : Exit.inBlock id (KQ P Qf (js ++ [J0]) (A ++ .lp d :: B)) e a w := h
    show Exit.inBlock id (KQ P Qf js (A ++ B)) e a w
    cases e with
    | normal => exact ih _ _ _ h
    | exit id' =>
      unfold Exit.inBlock at h ⊢
      simp only at h ⊢
      split
      · rename_i hi; rw [if_pos hi] at h; exact ih _ _ _ h
      · rename_i hi; rw [if_neg hi] at h; exact ih _ _ _ h
    | goto l => exact ih _ _ _ h
    | ret => exact ih _ _ _ h
    | panic c => exact ih _ _ _ h
    | outgrown => exact ih _ _ _ h
  | .lp f :: A, B, hb, hJ, e, a, w, h => by
    have ih := KQ_cut hd A B (fun e he => hb e (by simp only [List.cons_append]; exact List.mem_cons_of_mem _ he)) hJ
    have hf : f < d := hb f (by simp)
    rw [← hd] at hf
    have h : Exit.then ((js ++ [J0]).getD f (fun _ _ => False)) (KQ P Qf (js ++ [J0]) (A ++ .lp d :: B)) e a w := h
    show Exit.then (js.getD f (fun _ _ => False)) (KQ P Qf js (A ++ B)) e a w
    simp only [List.getD_eq_getElem?_getD, List.getElem?_append_left hf] at h
    cases e with
    | normal =>
      have h' : (js[f]?.getD fun _ _ => False) a w := h
      show (js.getD f (fun _ _ => False)) a w
      simpa [List.getD_eq_getElem?_getD] using h'
    | exit id => exact ih _ _ _ h
    | goto l => exact ih _ _ _ h
    | ret => exact ih _ _ _ h
    | panic c => exact ih _ _ _ h
    | outgrown => exact ih _ _ _ h

/-- A cut behind the first k pieces of what is to be done: they end in I; what stands behind is shown from there. -/
theorem s_cut {γ : Type} (d k : Nat) (keep slots : List Nat) (vals : γ → List Value) (I : γ → World → Prop) (hok : cutOk st k d = true) (hd : js.length = d)
    (h1 : G P fn R (js ++ [cutJ fn.ntmps (keepFr keep st.fr) slots vals I]) (cutSt st k d) w) (h2 : ∀ g w, I g w → G P fn R js (nxe P fn (behind st k (setVals slots (vals g) (keepFr keep st.fr)))) w) : G P fn R js st w := by
  simp only [cutOk, Bool.and_eq_true] at hok
  obtain ⟨hidle, hlp⟩ := hok
  split at hidle
  · rename_i hc hr
    refine ⟨fun a hd' ha => ?_⟩
    have h3 := h1.out a hd' ha
    unfold Gd at h3 ⊢
    have hc2 : (cutSt st k d).cur = .idle := hc
    have hr2 : (cutSt st k d).rops = [] := hr
    rw [hc2, hr2] at h3
    rw [hc, hr]
    refine cont_nil.2 ?_
    have h4 := cont_nil.1 h3
    have := KQ_cut (P := P) (Qf := bodyPost P fn R) hd (st.todo.take k) (st.todo.drop k) (fun e he => lpsBelow_spec hlp e (by rwa [List.take_append_drop] at he)) (fun a w hJ => by
      obtain ⟨hda, g, hag, hI⟩ := hJ
      have h5 := (G_adv _ (h2 g w hI)).out a hda hag
      exact cont_nil.1 h5) _ a w h4
    rwa [List.take_append_drop] at this
  · cases hidle

/-- The cut is reached. -/
theorem s_meet {γ : Type} (d : Nat) {K : Fr} {slots : List Nat} {vals : γ → List Value} {I : γ → World → Prop} (g : γ) (raw : List Value) (keep : List Nat)
    (hj : js.getD d (fun _ _ => False) = cutJ fn.ntmps K slots vals I) (hr : req st = .again d) (hk : keepFr keep st.fr = K) (hv : vals? st.fr slots = raw.map some) (hraw : raw = vals g) (hI : I g w) : G P fn R js st w := by
  obtain ⟨hc, hro, kk, ht⟩ := req_again hr
  refine ⟨fun a hd ha => ?_⟩
  unfold Gd
  rw [hc, hro]
  refine cont_nil.2 ?_
  rw [ht]
  show js.getD d (fun _ _ => False) a w
  rw [hj]
  subst hraw hk
  exact ⟨hd, g, (ha.keep keep).setVals ha hv, hI⟩
end
end Go.XM
