/-
  The X machine in a region that draws its order: reads taken first, then a tail in one order that makes memory, appends, calls and stores; what the reads saw stays until they can no longer come.
-/
import Derived.Test.YtfknpeajihecdaaXMcut
namespace Go.XM

/-- An operation that waits for each of the head. -/
def lateB (ops : Array Oper) (head : List Nat) (j : Nat) : Bool := head.all fun h => Region.waitsFor .any ops j h

section
variable {P : Program} {ops : Array Oper} {Q : Exit → Act → World → Prop} {S : World → Prop} {head : List Nat}

def wpAnyT (P : Program) (ops : Array Oper) (Q : Exit → Act → World → Prop) (S : World → Prop) (head : List Nat) : Nat → Array Bool → Act → World → Prop
  | 0, listed, a, w => Region.ready .any ops listed = [] ∧ Q .normal a w
  | fuel + 1, listed, a, w =>
    (Region.ready .any ops listed = [] → Q .normal a w) ∧
    ∀ i ∈ Region.ready .any ops listed, wpOp P ops Q i (fun a' w' => (lateB ops head i = true ∨ S w') ∧ wpAnyT P ops Q S head fuel (listed.setIfInBounds i true) a' w') a w

theorem wpAny_of_T : ∀ (fuel : Nat) (listed : Array Bool) (a : Act) (w : World), wpAnyT P ops Q S head fuel listed a w → wpAny P .any ops Q fuel listed a w
  | 0, _, _, _, h => h
  | fuel + 1, _, _, _, h => ⟨h.1, fun i hi => wpOp_mono (fun a' w' h' => wpAny_of_T fuel _ a' w' h'.2) (h.2 i hi)⟩

theorem wpAnyT_first {i : Nat} {oi : Oper} {v : Value} (hi : ops[i]? = some oi) (hih : i ∈ head) (hsel : ∀ (j : Nat) (o : Oper) cs b, ops[j]? = some o → o.op ≠ .select cs b)
    (hQ : ∀ c a w, Q (.panic c) (a.put oi.dst v) w → Q (.panic c) a w) :
    ∀ (fuel : Nat) (listed : Array Bool) (a : Act) (w : World),
      (∀ j oj, ops[j]? = some oj → j ≠ i → listed.getD j true = false → (∀ e ∈ oj.after, Region.binds .any e = true → e.on ≠ i) → oi.apart ops oj = true) →
      i ∈ Region.ready .any ops listed → YieldsIf P ops S oi v a → S w →
      wpAnyT P ops Q S head fuel (listed.setIfInBounds i true) (a.put oi.dst v) w → wpAnyT P ops Q S head (fuel + 1) listed a w := by
  intro fuel
  induction fuel with
  | zero =>
    intro listed a w _ hr hy hS H
    refine ⟨fun h => (by rw [h] at hr; cases hr), fun j hj => ?_⟩
    by_cases hji : j = i
    · subst hji; exact hy.wpOp hi hS ⟨.inr hS, H⟩
    · have := ready_mono hj hji
      rw [H.1] at this
      cases this
  | succ fuel ih =>
    intro listed a w hfree hr hy hS H
    refine ⟨fun h => (by rw [h] at hr; cases hr), fun j hj => ?_⟩
    by_cases hji : j = i
    · subst hji; exact hy.wpOp hi hS ⟨.inr hS, H⟩
    · have h1 := H.2 j (ready_mono hj hji)
      obtain ⟨hjun, oj, hoj, hall⟩ := mem_ready.1 hj
      have hiun := getD_both (mem_ready.1 hr).1
      have hnot : ∀ e ∈ oj.after, Region.binds .any e = true → e.on ≠ i := fun e he hb heq => by
        have h1 := hall e he hb
        rw [heq, hiun] at h1
        cases h1
      have hlate : lateB ops head j = true → False := fun hl => by
        have := List.all_eq_true.1 hl i hih
        exact not_ready_of_wait this hiun hj
      have h2 := wpOp_putIf hoj (hfree j oj hoj hji hjun hnot) (fun cs b => hsel i oi cs b hi) (fun cs b => hsel j oj cs b hoj) hQ hy h1
      have hfree' : ∀ k ok, ops[k]? = some ok → k ≠ i → (listed.setIfInBounds j true).getD k true = false →
          (∀ e ∈ ok.after, Region.binds .any e = true → e.on ≠ i) → oi.apart ops ok = true := fun k ok hk hki hun hno => by
        refine hfree k ok hk hki ?_ hno
        by_cases hjk : j = k
        · subst hjk; exact hjun
        · rw [getD_set_ne true hjk] at hun; exact hun
      refine wpOp_mono (fun a' w' h3 => ?_) h2
      have hS' : S w' := by
        rcases h3.2.1 with h | h
        · exact (hlate h).elim
        · exact h
      refine ⟨.inr hS', ih (listed.setIfInBounds j true) a' w' hfree' (ready_mono hr (Ne.symm hji)) h3.1 hS' ?_⟩
      rw [Array.setIfInBounds_comm _ _ hji]
      exact h3.2.2

/-- The tail, one after the other; behind each that is not late, S. -/
def wpListT (P : Program) (ops : Array Oper) (Q : Exit → Act → World → Prop) (S : World → Prop) (head : List Nat) : List Nat → Act → World → Prop
  | [], a, w => Q .normal a w
  | i :: rest, a, w => wpOp P ops Q i (fun a' w' => (lateB ops head i = true ∨ S w') ∧ wpListT P ops Q S head rest a' w') a w

theorem tail_wpT : ∀ (tail : List Nat) (listed : Array Bool) (a : Act) (w : World), heldT ops tail listed = true → wpListT P ops Q S head tail a w → wpAnyT P ops Q S head tail.length listed a w
  | [], listed, a, w, hB, h => ⟨by simpa [heldT] using hB, h⟩
  | i :: tail, listed, a, w, hB, h => by
    simp only [heldT, Bool.and_eq_true, decide_eq_true_eq] at hB
    refine ⟨fun h1 => (by rw [hB.1] at h1; cases h1), fun k hk => ?_⟩
    rw [hB.1] at hk
    have hki : k = i := by simpa using hk
    subst hki
    exact wpOp_mono (fun a' w' h' => ⟨h'.1, tail_wpT tail _ a' w' hB.2 h'.2⟩) h

theorem held_wpT (hs : Region.noSelect ops = true) (hQ : ∀ c a d v w, Q (.panic c) (a.put d v) w → Q (.panic c) a w) : ∀ (hd tail : List Nat) (listed : Array Bool) (a : Act) (w : World), (∀ i ∈ hd, i ∈ head) → S w → heldB ops hd tail listed = true →
    wpQuiet P ops S (fun a' => wpListT P ops Q S head tail a' w) (hd.filterMap (ops[·]?)) a → wpAnyT P ops Q S head (hd.length + tail.length) listed a w
  | i :: hs', tail, listed, a, w, hm, hw, hB, h => by
    simp only [heldB, Bool.and_eq_true] at hB
    obtain ⟨⟨⟨h1, h2⟩, h3⟩, h4⟩ := hB
    obtain ⟨o, ho, hv⟩ := heldHead_spec h3
    rw [List.filterMap_cons] at h
    simp only [ho] at h
    rw [List.length_cons, show hs'.length + 1 + tail.length = hs'.length + tail.length + 1 by omega]
    have hr : i ∈ Region.ready .any ops listed := by simpa using h1
    unfold wpQuiet at h
    split at h
    · rename_i hwn
      obtain ⟨v, hy, hn⟩ := h
      exact wpAnyT_first ho (hm i (by simp)) (Region.noSelect_spec hs) (fun c a w => hQ c a _ _ w) _ listed a w (Region.free_spec ho h2) hr (.inl ⟨hwn, fun w' hw' => quiet_value hv hw' (hy w' hw')⟩) hw
        (held_wpT hs hQ hs' tail _ _ w (fun k hk => hm k (List.mem_cons_of_mem _ hk)) hw h4 hn)
    · rename_i hwn
      exact wpAnyT_first ho (hm i (by simp)) (Region.noSelect_spec hs) (fun c a w => hQ c a _ _ w) _ listed a w (Region.free_spec ho h2) hr (.inr ⟨by simpa using hwn, rfl⟩) hw
        (held_wpT hs hQ hs' tail _ _ w (fun k hk => hm k (List.mem_cons_of_mem _ hk)) hw h4 h)
  | [], tail, listed, a, w, _, hw, hB, h => by
    have := tail_wpT (P := P) (Q := Q) (S := S) (head := head) tail listed a w hB h
    simpa using this
end

section
variable {P : Program} {fn : Func} {R : Ending → World → Prop} {js : List J} {st : St}

theorem KQ_outgrown {P : Program} {Qf : Exit → Act → World → Prop} {js : List J} {a : Act} {w : World} : ∀ k : List XI, KQ P Qf js k .outgrown a w = Qf .outgrown a w
  | [] => rfl
  | .code _ :: k => KQ_outgrown (js := js) k
  | .blk _ :: k => KQ_outgrown (js := js) k
  | .lp _ :: k => KQ_outgrown (js := js) k

theorem upon_exits {P : Program} {o : Oper} {a : Act} {K : Act → World → Prop} {Q Q' : Exit → Act → World → Prop} (h1 : ∀ c a w, Q (.panic c) a w → Q' (.panic c) a w) (h2 : LetsOut Q → LetsOut Q') {r : Result Next} (h : o.upon P a K Q r) : o.upon P a K Q' r := by
  cases r with
  | ok n w' =>
    cases n <;> simp only [Oper.upon] at h ⊢ <;> first
      | exact h
      | (refine Calls.mono h fun e w'' he => ?_
         cases e with
         | returned u => exact he
         | panicked c => exact h1 _ _ _ he
         | outgrown => exact h2 he)
  | halt x w' =>
    cases x <;> simp only [Oper.upon] at h ⊢ <;> first
      | exact h
      | exact h1 _ _ _ h

def tailJ (P : Program) (fn : Func) (R : Ending → World → Prop) (js : List J) (ops : Array Oper) (kk : List XI) (S : World → Prop) (head tl : List Nat) : J :=
  fun a w => a.defers = [] ∧ wpListT P ops (KQ P (bodyPost P fn R) js kk) S head tl a w

def headSt (st : St) (head : List Nat) (d : Nat) : St :=
  match st.todo with
  | .code (.region _ ops true) :: _ => ⟨[.lp d], ops, head.filterMap (ops[·]?), st.fr, head.length, .idle⟩
  | _ => bad st
def restXI (st : St) : List XI := st.todo.tail
def nxdt (P : Program) (fn : Func) (st : St) (head : List Nat) (d : Nat) : St := advQ P fn.ntmps fn.results 5000 (headSt st head d)
def ce (S : World → Prop) (w0 : World) : Cls := ⟨S, (· = w0), fun _ _ => True⟩
def opsOf (st : St) : Array Oper := (drawOps st).getD #[]

theorem getD_last {α : Type} {l : List α} {x d : α} : (l ++ [x]).getD l.length d = x := by
  simp [List.getD_eq_getElem?_getD]

/-- A region that draws its order: 'head' only reads, in the class S; then 'tail'. -/
theorem s_drawT2 {w : World} (S : World → Prop) (id d : Nat) (head tail : List Nat) (hr : req st = .draw id) (hfol : P.follows .mixedOrders = true) (hd0 : js.length = d) (hS : S w.drew)
    (hB : (drawOps st).map (fun ops => Region.noSelect ops && Nat.beq (head.length + tail.length) ops.size && heldB ops head tail (Array.replicate ops.size false)) = some true)
    (k : GQ P fn R (js ++ [tailJ P fn R js (opsOf st) (restXI st) S head tail]) (ce S w.drew) (nxdt P fn st head d)) : G P fn R js st w := by
  obtain ⟨hc, hro, ops, kk, ht⟩ := req_draw hr
  have k := GQ_advQ _ k
  refine ⟨fun a hd ha => ?_⟩
  unfold Gd
  rw [hc, hro]
  refine cont_nil.2 ?_
  rw [ht]
  have ho : opsOf st = ops := by simp [opsOf, drawOps, ht]
  have hk : restXI st = kk := by simp [restXI, ht]
  rw [ho, hk] at k
  simp only [drawOps, ht, Option.map_some, Option.some.injEq, Bool.and_eq_true] at hB
  obtain ⟨⟨hns, hlen⟩, hB⟩ := hB
  have hlen : head.length + tail.length = ops.size := Nat.eq_of_beq_eq_true hlen
  unfold headSt at k
  rw [ht] at k
  have k2 := k.idle rfl hd ha
  simp only [contQ, ce, true_and] at k2
  have hl := filterMap_len hB
  rw [List.take_of_length_le (by omega), List.drop_of_length_le (by omega)] at k2
  show (Code.region id ops true).wp P (KQ P (bodyPost P fn R) js kk) a w
  refine wp_region_any hfol (wpAny_of_T (S := S) (head := head) _ _ _ _ ?_)
  have hq : wpQuiet P ops S (fun a' => wpListT P ops (KQ P (bodyPost P fn R) js kk) S head tail a' w.drew) (head.filterMap (ops[·]?)) a :=
    quiet_mono' (fun a' h => by
      have h1 := h w.drew rfl
      have h2 : (js ++ [tailJ P fn R js ops kk S head tail]).getD d (fun _ _ => False) a' w.drew := h1
      rw [← hd0, getD_last] at h2
      exact h2.2) _ _ k2
  have := held_wpT (head := head) (Q := KQ P (bodyPost P fn R) js kk) hns (fun c a d v w h => Qd_panic h) head tail _ a w.drew (fun _ h => h) hS hB hq
  rw [hlen] at this
  exact this

def tailOp (st : St) (ops : Array Oper) (i d : Nat) : St :=
  match ops[i]? with
  | some o => ⟨[.lp d], ops, [o], st.fr, 0, .idle⟩
  | none => bad st

/-- The tail's next operation. -/
theorem s_tail {w : World} {S : World → Prop} {ops : Array Oper} {kk : List XI} {head tl : List Nat} {i d : Nat} (hd0 : js.length = d) (hr : req st = .again d)
    (k : G P fn R (js ++ [fun a w => (lateB ops head i = true ∨ S w) ∧ tailJ P fn R js ops kk S head tl a w]) (nxe P fn (tailOp st ops i d)) w) : G P fn R (js ++ [tailJ P fn R js ops kk S head (i :: tl)]) st w := by
  have k := G_adv _ k
  obtain ⟨hc, hro, kk', ht⟩ := req_again hr
  refine ⟨fun a hd ha => ?_⟩
  unfold Gd
  rw [hc, hro]
  refine cont_nil.2 ?_
  rw [ht]
  show (js ++ [tailJ P fn R js ops kk S head (i :: tl)]).getD d (fun _ _ => False) a w
  rw [← hd0, getD_last]
  refine ⟨hd, ?_⟩
  unfold tailOp at k
  show wpOp P ops _ i _ a w
  unfold wpOp
  cases ho : ops[i]? with
  | none =>
    rw [ho] at k
    exact (k.out a hd ha).elim
  | some o =>
    rw [ho] at k
    have k2 := k.out a hd ha
    unfold Gd at k2
    simp only [cont, wpStill, List.take_zero, List.drop_zero] at k2
    unfold wpList at k2
    have conv : ∀ a' w', wpList P ops (Qd P fn R (js ++ [fun a w => (lateB ops head i = true ∨ S w) ∧ tailJ P fn R js ops kk S head tl a w]) [.lp d]) [] a' w' → (lateB ops head i = true ∨ S w') ∧ wpListT P ops (KQ P (bodyPost P fn R) js kk) S head tl a' w' := by
      intro a' w' h
      have h2 : (js ++ [fun a w => (lateB ops head i = true ∨ S w) ∧ tailJ P fn R js ops kk S head tl a w]).getD d (fun _ _ => False) a' w' := h
      rw [← hd0, getD_last] at h2
      exact ⟨h2.1, h2.2.2⟩
    split at k2
    · rename_i hw
      simp only [hw, if_true]
      have x1 : ∀ c a w, Qd P fn R (js ++ [fun a w => (lateB ops head i = true ∨ S w) ∧ tailJ P fn R js ops kk S head tl a w]) [.lp d] (.panic c) a w → KQ P (bodyPost P fn R) js kk (.panic c) a w := fun c a w h => by
        rw [KQ_panic]
        unfold Qd at h
        rwa [KQ_panic] at h
      have x2 : LetsOut (Qd P fn R (js ++ [fun a w => (lateB ops head i = true ∨ S w) ∧ tailJ P fn R js ops kk S head tl a w]) [.lp d]) → LetsOut (KQ P (bodyPost P fn R) js kk) := fun ⟨a, w, h⟩ => ⟨a, w, by
        rw [KQ_outgrown]
        unfold Qd at h
        rwa [KQ_outgrown] at h⟩
      rcases k2 with k2 | k2
      · exact .inl (upon_exits x1 x2 (Oper.wp_mono conv k2))
      · exact .inr ⟨k2.1, x2 k2.2⟩
    · rename_i hw
      simp only [hw]
      exact conv _ _ k2

/-- Between two operations of a tail: S, unless the last one was late. -/
theorem s_tailS {w : World} {S : World → Prop} {ops : Array Oper} {kk : List XI} {head tl : List Nat} {i d : Nat} (hd0 : js.length = d) (hr : req st = .again d) (h : lateB ops head i = true ∨ S w)
    (k : G P fn R (js ++ [tailJ P fn R js ops kk S head tl]) st w) : G P fn R (js ++ [fun a w => (lateB ops head i = true ∨ S w) ∧ tailJ P fn R js ops kk S head tl a w]) st w := by
  obtain ⟨hc, hro, kk', ht⟩ := req_again hr
  refine ⟨fun a hd ha => ?_⟩
  have k2 := k.out a hd ha
  unfold Gd at k2 ⊢
  rw [hc, hro] at k2 ⊢
  rw [ht] at k2 ⊢
  refine cont_nil.2 ?_
  have k3 : (js ++ [tailJ P fn R js ops kk S head tl]).getD d (fun _ _ => False) a w := cont_nil.1 k2
  rw [← hd0, getD_last] at k3
  show (js ++ [fun a w => (lateB ops head i = true ∨ S w) ∧ tailJ P fn R js ops kk S head tl a w]).getD d (fun _ _ => False) a w
  rw [← hd0, getD_last]
  exact ⟨h, k3⟩

def behindTail (st : St) (kk : List XI) : St := ⟨kk, #[], [], st.fr, 0, .idle⟩

/-- The tail's end. -/
theorem s_tailEnd {w : World} {S : World → Prop} {ops : Array Oper} {kk : List XI} {head : List Nat} {d : Nat} (hd0 : js.length = d) (hr : req st = .again d)
    (k : G P fn R js (nxe P fn (behindTail st kk)) w) : G P fn R (js ++ [tailJ P fn R js ops kk S head []]) st w := by
  have k := G_adv _ k
  obtain ⟨hc, hro, kk', ht⟩ := req_again hr
  refine ⟨fun a hd ha => ?_⟩
  have k2 := k.out a hd ha
  unfold Gd
  rw [hc, hro]
  rw [ht]
  refine cont_nil.2 ?_
  show (js ++ [tailJ P fn R js ops kk S head []]).getD d (fun _ _ => False) a w
  rw [← hd0, getD_last]
  exact ⟨hd, cont_nil.1 k2⟩
end
end Go.XM
