/-
  The X machine in a region that draws its order, in three parts: operations that only compute, taken first; operations that are quiet in a class of worlds; a tail in one order.
-/
import Derived.Test.YtfknpeajihecdaaXMheld
namespace Go.XM

theorem KQ_panic {P : Program} {Qf : Exit → Act → World → Prop} {js : List J} {c : List PanicEntry} {a : Act} {w : World} : ∀ k : List XI, KQ P Qf js k (.panic c) a w = Qf (.panic c) a w
  | [] => rfl
  | .code _ :: k => KQ_panic (js := js) k
  | .blk _ :: k => KQ_panic (js := js) k
  | .lp _ :: k => KQ_panic (js := js) k

theorem Qd_panic {P : Program} {fn : Func} {R : Ending → World → Prop} {js : List J} {k : List XI} {c : List PanicEntry} {a : Act} {d : Option Tmp} {v : Value} {w : World} (h : KQ P (bodyPost P fn R) js k (.panic c) (a.put d v) w) : KQ P (bodyPost P fn R) js k (.panic c) a w := by
  rw [KQ_panic] at h ⊢
  exact ⟨by have := h.1; cases d <;> exact this, h.2⟩

def pureRun (P : Program) (n : Nat) : Fr → List Oper → Option Fr
  | fr, [] => some fr
  | fr, o :: r => match o.guard with
    | some _ => none
    | none => match isSelect o.op, allP fr o.op.operands.toList with
      | false, true => match semVal P 50 (execOp (evT fr) o) with
        | some v => match putE n fr o.dst (.val v) with
          | some fr' => pureRun P n fr' r
          | none => none
        | none => none
      | _, _ => none

def listAll : List Nat → Array Bool → Array Bool
  | [], l => l
  | i :: r, l => listAll r (l.setIfInBounds i true)

def takeB (ops : Array Oper) : List Nat → Array Bool → Bool
  | [], _ => true
  | i :: r, l => (Region.ready .any ops l).contains i && Region.free .any ops l i && takeB ops r (l.setIfInBounds i true)

section
variable {P : Program} {ops : Array Oper} {Q : Exit → Act → World → Prop} {C : World → Prop}

theorem take_wp (hs : Region.noSelect ops = true) (hQ : ∀ c a d v w, Q (.panic c) (a.put d v) w → Q (.panic c) a w) {n fuel : Nat} {w : World} {fr' : Fr} : ∀ (pa : List Nat) (listed : Array Bool) (fr : Fr) (a : Act), takeB ops pa listed = true → Agree n fr a → a.defers = [] →
    pureRun P n fr (pa.filterMap (ops[·]?)) = some fr' → (∀ a', Agree n fr' a' → a'.defers = [] → wpAny P .any ops Q fuel (listAll pa listed) a' w) → wpAny P .any ops Q (pa.length + fuel) listed a w
  | [], listed, fr, a, _, ha, hd, hp, k => by
    simp only [List.filterMap_nil, pureRun, Option.some.injEq] at hp
    subst hp
    rw [List.length_nil, Nat.zero_add]
    exact k a ha hd
  | i :: r, listed, fr, a, hB, ha, hd, hp, k => by
    simp only [takeB, Bool.and_eq_true] at hB
    obtain ⟨⟨h1, h2⟩, h3⟩ := hB
    rw [List.length_cons, show r.length + 1 + fuel = r.length + fuel + 1 by omega]
    cases ho : ops[i]? with
    | none =>
      have : i ∈ Region.ready .any ops listed := by simpa using h1
      obtain ⟨_, o, ho', _⟩ := mem_ready.1 this
      rw [ho] at ho'; cases ho'
    | some o =>
      rw [List.filterMap_cons] at hp
      simp only [ho] at hp
      unfold pureRun at hp
      split at hp
      · cases hp
      · rename_i hg
        split at hp
        · rename_i hsel hq
          split at hp
          · rename_i v hv
            split at hp
            · rename_i fr1 hf
              refine wpAny_take ho hs h2 h1 (fun c a w => hQ c a _ _ w) (.inl ⟨by simp [Region.wanted, hg], fun w => ?_⟩) (take_wp hs hQ r _ fr1 _ h3 (ha.put hf rfl) (by cases o.dst <;> exact hd) hp k)
              rw [execOp_evT ha hsel hq]
              exact semVal_run 50 _ hv
            · cases hp
          · cases hp
        · cases hp

/-- The quiet part, in whatever order: every operation of it quiet; then L. -/
def wpHB (P : Program) (ops : Array Oper) (C : World → Prop) (pb : List Nat) (L : Array Bool → Act → Prop) : Nat → Array Bool → Act → Prop
  | 0, listed, a => L listed a
  | f + 1, listed, a => Region.ready .any ops listed ≠ [] ∧ ∀ i ∈ Region.ready .any ops listed, i ∈ pb ∧ qOp P ops C i (wpHB P ops C pb L f (listed.setIfInBounds i true)) a

theorem wpAny_of_wpHB {pb : List Nat} {g : Nat} {L : Array Bool → Act → Prop} (hL : ∀ listed a w, C w → L listed a → wpAny P .any ops Q g listed a w) :
    ∀ (f : Nat) (listed : Array Bool) (a : Act) (w : World), C w → wpHB P ops C pb L f listed a → wpAny P .any ops Q (f + g) listed a w
  | 0, listed, a, w, hw, h => by rw [Nat.zero_add]; exact hL _ _ _ hw h
  | f + 1, listed, a, w, hw, h => by
    rw [show f + 1 + g = (f + g) + 1 by omega]
    exact ⟨fun h0 => absurd h0 h.1, fun i hi => wpOp_of_qOp hw (fun a' w' hw' h' => wpAny_of_wpHB hL f _ a' w' hw' h') (h.2 i hi).2⟩

def sinkP (ops : Array Oper) (t0 : Nat) : List Nat → Bool
  | [] => true
  | i :: r => (r ++ [t0]).any (fun j => Region.waitsFor .any ops j i) && sinkP ops t0 r

def chainP (ops : Array Oper) : List Nat → Bool
  | t :: r => (match r with
    | t' :: _ => Region.waitsFor .any ops t' t
    | [] => true) && chainP ops r
  | [] => true

def coverP (listed : Array Bool) (pb tl : List Nat) (n : Nat) : Bool := (List.range n).all fun i => listed.getD i false || pb.contains i || tl.contains i

structure HInv (ops : Array Oper) (pb tl : List Nat) (listed : Array Bool) : Prop where
  size : listed.size = ops.size
  closed : ∀ j oj, ops[j]? = some oj → listed.getD j false = true → ∀ e ∈ oj.after, Region.binds .any e = true → listed.getD e.on false = true
  tail : ∀ t ∈ tl, listed.getD t false = false
  cover : ∀ i, i < ops.size → listed.getD i false = true ∨ i ∈ pb ∨ i ∈ tl

def Closed (ops : Array Oper) (listed : Array Bool) : Prop := listed.size = ops.size ∧ ∀ j oj, ops[j]? = some oj → listed.getD j false = true → ∀ e ∈ oj.after, Region.binds .any e = true → listed.getD e.on false = true

theorem Closed.set {i : Nat} {listed : Array Bool} (inv : Closed ops listed) (hi : i ∈ Region.ready .any ops listed) : Closed ops (listed.setIfInBounds i true) := by
  obtain ⟨_, oi, hoi, hall⟩ := mem_ready.1 hi
  refine ⟨by simp [inv.1], fun j oj hj hl e he hb => ?_⟩
  by_cases hij : i = j
  · subst hij
    have : oj = oi := Option.some.inj (hj.symm.trans hoi)
    subst this
    exact getD_set_true (hall e he hb)
  · rw [getD_set_ne false hij] at hl
    exact getD_set_true (inv.2 j oj hj hl e he hb)

theorem take_closed : ∀ (pa : List Nat) (listed : Array Bool), Closed ops listed → takeB ops pa listed = true → Closed ops (listAll pa listed)
  | [], _, h, _ => h
  | i :: r, listed, h, hB => by
    simp only [takeB, Bool.and_eq_true] at hB
    exact take_closed r _ (h.set (by simpa using hB.1.1)) hB.2

theorem HInv.set {pb tl : List Nat} {i : Nat} {listed : Array Bool} (inv : HInv ops pb tl listed) (hi : i ∈ Region.ready .any ops listed) (hin : i ∉ tl) : HInv ops pb tl (listed.setIfInBounds i true) := by
  have hc := Closed.set ⟨inv.size, inv.closed⟩ hi
  refine ⟨hc.1, hc.2, fun t ht => ?_, fun k hk => ?_⟩
  · rw [getD_set_ne false (fun e : i = t => hin (by rw [e]; exact ht))]; exact inv.tail t ht
  · rcases inv.cover k hk with h | h
    · exact .inl (getD_set_true h)
    · exact .inr h

theorem not_ready_of_wait {listed : Array Bool} {t j : Nat} (h : Region.waitsFor .any ops t j = true) (hj : listed.getD j false = false) : t ∉ Region.ready .any ops listed := by
  intro hr
  obtain ⟨_, ot, hot, hall⟩ := mem_ready.1 hr
  obtain ⟨o', ho', e, he, hb, hon⟩ := Region.waitsFor_spec h
  have : o' = ot := Option.some.inj (ho'.symm.trans hot)
  subst this
  have h2 := hall e he hb
  rw [hon, hj] at h2; cases h2

theorem sink_waits {pb0 tl : List Nat} {t0 : Nat} {listed : Array Bool} (inv : HInv ops pb0 tl listed) : ∀ (pb : List Nat), sinkP ops t0 pb = true → ∀ i ∈ pb, listed.getD i false = false → t0 ∉ Region.ready .any ops listed
  | j :: r, hs, i, hi, hun => by
    simp only [sinkP, Bool.and_eq_true] at hs
    have key : listed.getD j false = false → t0 ∉ Region.ready .any ops listed := fun hj => by
      obtain ⟨k, hk, hw⟩ := List.any_eq_true.1 hs.1
      rcases List.mem_append.1 hk with hk | hk
      · cases hl : listed.getD k false with
        | false => exact sink_waits inv r hs.2 k hk hl
        | true =>
          obtain ⟨ok, hok, e, he, hb, hon⟩ := Region.waitsFor_spec hw
          have := inv.closed k ok hok hl e he hb
          rw [hon, hj] at this; cases this
      · rw [List.mem_singleton.1 hk] at hw
        exact not_ready_of_wait hw hj
    rcases List.mem_cons.1 hi with rfl | hi
    · exact key hun
    · exact sink_waits inv r hs.2 i hi hun

theorem chain_waits {pb0 tl0 : List Nat} {listed : Array Bool} (inv : HInv ops pb0 tl0 listed) : ∀ (t0 : Nat) (tl : List Nat), chainP ops (t0 :: tl) = true → (∀ t ∈ t0 :: tl, t ∈ tl0) → ∀ t ∈ tl, t ∉ Region.ready .any ops listed
  | t0, t1 :: r, hc, hm, t, ht => by
    simp only [chainP, Bool.and_eq_true] at hc
    rcases List.mem_cons.1 ht with rfl | ht
    · exact not_ready_of_wait hc.1 (inv.tail t0 (hm t0 (by simp)))
    · exact chain_waits inv t1 r (by simp only [chainP, Bool.and_eq_true]; exact hc.2) (fun t ht => hm t (List.mem_cons_of_mem _ ht)) t ht

/-- While one of the quiet part is open, the tail waits. -/
theorem tail_waits' {pb : List Nat} {t0 : Nat} {tl : List Nat} {listed : Array Bool} (hs : sinkP ops t0 pb = true) (hc : chainP ops (t0 :: tl) = true) (inv : HInv ops pb (t0 :: tl) listed) {i : Nat} (hi : i ∈ pb) (hun : listed.getD i false = false) : ∀ t ∈ t0 :: tl, t ∉ Region.ready .any ops listed := by
  intro t ht
  rcases List.mem_cons.1 ht with rfl | ht
  · exact sink_waits inv pb hs i hi hun
  · exact chain_waits inv t0 tl hc (fun _ h => h) t ht

theorem wpHB_first {pb : List Nat} {t0 : Nat} {tl : List Nat} {i : Nat} {oi : Oper} {v : Value} {L : Array Bool → Act → Prop} (hi : ops[i]? = some oi) (hsel : ∀ (j : Nat) (o : Oper) cs b, ops[j]? = some o → o.op ≠ .select cs b)
    (hs : sinkP ops t0 pb = true) (hc : chainP ops (t0 :: tl) = true) (hdj : ∀ t ∈ t0 :: tl, t ∉ pb) (hin : i ∈ pb) (hdone : ∀ listed a, L listed a → ∀ j ∈ Region.ready .any ops listed, j ∈ t0 :: tl) :
    ∀ (f : Nat) (listed : Array Bool) (a : Act), HInv ops pb (t0 :: tl) listed →
      (∀ j oj, ops[j]? = some oj → j ≠ i → listed.getD j true = false → (∀ e ∈ oj.after, Region.binds .any e = true → e.on ≠ i) → oi.apart ops oj = true) →
      i ∈ Region.ready .any ops listed → YieldsIn P ops C oi v a →
      wpHB P ops C pb L f (listed.setIfInBounds i true) (a.put oi.dst v) → wpHB P ops C pb L (f + 1) listed a := by
  intro f
  have inB : ∀ {listed : Array Bool}, HInv ops pb (t0 :: tl) listed → i ∈ Region.ready .any ops listed → ∀ j ∈ Region.ready .any ops listed, j ∈ pb := by
    intro listed inv hr j hj
    have hlt : j < ops.size := by obtain ⟨_, o, ho, _⟩ := mem_ready.1 hj; exact (Array.getElem?_eq_some_iff.1 ho).1
    rcases inv.cover j hlt with h | h | h
    · have := getD_both (mem_ready.1 hj).1; rw [h] at this; cases this
    · exact h
    · exact absurd hj (tail_waits' hs hc inv hin (getD_both (mem_ready.1 hr).1) j h)
  induction f with
  | zero =>
    intro listed a inv _ hr hy H
    refine ⟨List.ne_nil_of_mem hr, fun j hj => ?_⟩
    have hjp := inB inv hr j hj
    refine ⟨hjp, ?_⟩
    rcases Nat.decEq j i with hji | hji
    · exact absurd hjp (hdj j (hdone _ _ H j (ready_mono hj hji)))
    · subst hji; exact hy.qOp hi H
  | succ f ih =>
    intro listed a inv hfree hr hy H
    refine ⟨List.ne_nil_of_mem hr, fun j hj => ?_⟩
    have hjp := inB inv hr j hj
    refine ⟨hjp, ?_⟩
    rcases Nat.decEq j i with hji | hji
    · obtain ⟨hjun, oj, hoj, hall⟩ := mem_ready.1 hj
      have hap := hfree j oj hoj hji hjun (not_listed_dep hr oj hoj hall)
      refine qOp_mono (fun a' h3 => ?_) (qOp_put hoj hap (fun cs b => hsel i oi cs b hi) (fun cs b => hsel j oj cs b hoj) hy (H.2 j (ready_mono hj hji)).2)
      refine ih (listed.setIfInBounds j true) a' (inv.set hj (fun h => hdj j h hjp)) (fun k ok hk hki hun hno => hfree k ok hk hki ?_ hno) (ready_mono hr (Ne.symm hji)) h3.1 ?_
      · by_cases hjk : j = k
        · subst hjk; exact hjun
        · rwa [getD_set_ne true hjk] at hun
      · rw [Array.setIfInBounds_comm _ _ hji]; exact h3.2
    · subst hji; exact hy.qOp hi H

def headP (ops : Array Oper) (tl : List Nat) : List Nat → Array Bool → Bool
  | i :: r, listed => (Region.ready .any ops listed).contains i && Region.free .any ops listed i && headP ops tl r (listed.setIfInBounds i true)
  | [], listed => heldT ops tl listed

theorem heldT_ready {tl : List Nat} {listed : Array Bool} (h : heldT ops tl listed = true) : ∀ j ∈ Region.ready .any ops listed, j ∈ tl := by
  intro j hj
  cases tl with
  | nil => simp only [heldT, List.isEmpty_iff] at h; rw [h] at hj; cases hj
  | cons t tl =>
    simp only [heldT, Bool.and_eq_true, decide_eq_true_eq] at h
    rw [h.1] at hj
    rw [List.mem_singleton.1 hj]; simp

theorem wpHB_lex {pb0 : List Nat} {t0 : Nat} {tl : List Nat} {Lq : Act → Prop} (hsel : Region.noSelect ops = true) (hs : sinkP ops t0 pb0 = true) (hc : chainP ops (t0 :: tl) = true) (hdj : ∀ t ∈ t0 :: tl, t ∉ pb0) :
    ∀ (pb : List Nat) (listed : Array Bool) (a : Act), (∀ i ∈ pb, i ∈ pb0) → HInv ops pb0 (t0 :: tl) listed → headP ops (t0 :: tl) pb listed = true → wpQuiet P ops C Lq (pb.filterMap (ops[·]?)) a →
    wpHB P ops C pb0 (fun listed' a' => heldT ops (t0 :: tl) listed' = true ∧ Lq a') pb.length listed a
  | [], listed, a, _, inv, hB, h => ⟨by simpa [headP] using hB, h⟩
  | i :: r, listed, a, hm, inv, hB, h => by
    simp only [headP, Bool.and_eq_true] at hB
    obtain ⟨⟨h1, h2⟩, h3⟩ := hB
    have hr : i ∈ Region.ready .any ops listed := by simpa using h1
    obtain ⟨_, o, ho, _⟩ := mem_ready.1 hr
    rw [List.filterMap_cons] at h
    simp only [ho] at h
    have hst : qOp P ops C i (wpQuiet P ops C Lq (r.filterMap (ops[·]?))) a := by unfold qOp; simp only [ho]; exact h
    obtain ⟨v, hy, hK⟩ := yieldsIn_of_qOp ho hst
    exact wpHB_first ho (Region.noSelect_spec hsel) hs hc hdj (hm i (by simp)) (fun listed a hL => heldT_ready hL.1) r.length listed a inv (Region.free_spec ho h2) hr hy
      (wpHB_lex hsel hs hc hdj r _ _ (fun k hk => hm k (List.mem_cons_of_mem _ hk)) (inv.set hr (fun h => hdj i h (hm i (by simp)))) h3 hK)

theorem seq_wp : ∀ (tl : List Nat) (listed : Array Bool) (a : Act) (w : World), heldT ops tl listed = true → wpList P ops Q (tl.filterMap (ops[·]?)) a w → wpAny P .any ops Q tl.length listed a w
  | [], listed, a, w, hB, h => ⟨by simpa [heldT] using hB, h⟩
  | i :: tl, listed, a, w, hB, h => by
    simp only [heldT, Bool.and_eq_true, decide_eq_true_eq] at hB
    refine ⟨fun h1 => (by rw [hB.1] at h1; cases h1), fun k hk => ?_⟩
    rw [hB.1] at hk
    have hki : k = i := by simpa using hk
    subst hki
    have : k ∈ Region.ready .any ops listed := by rw [hB.1]; simp
    obtain ⟨_, o, ho, _⟩ := mem_ready.1 this
    rw [List.filterMap_cons] at h
    simp only [ho] at h
    have hw : wpOp P ops Q k (wpList P ops Q (tl.filterMap (ops[·]?))) a w := by unfold wpOp; simp only [ho]; exact h
    exact wpOp_mono (fun a' w' h' => seq_wp tl _ a' w' hB.2 h') hw

def partB (ops : Array Oper) (pa pb : List Nat) (t0 : Nat) (tl : List Nat) : Bool :=
  Region.noSelect ops && Nat.beq (pa.length + (pb.length + (t0 :: tl).length)) ops.size && takeB ops pa (Array.replicate ops.size false) && headP ops (t0 :: tl) pb (listAll pa (Array.replicate ops.size false)) && sinkP ops t0 pb && chainP ops (t0 :: tl) &&
    coverP (listAll pa (Array.replicate ops.size false)) pb (t0 :: tl) ops.size && (t0 :: tl).all (fun t => !pb.contains t && !(listAll pa (Array.replicate ops.size false)).getD t false)

theorem part_wp {w : World} {a : Act} {n : Nat} {fr fr' : Fr} (pa pb : List Nat) (t0 : Nat) (tl : List Nat) (hB : partB ops pa pb t0 tl = true) (hQ : ∀ c a d v w, Q (.panic c) (a.put d v) w → Q (.panic c) a w) (hC : C w) (ha : Agree n fr a) (hd : a.defers = [])
    (hp : pureRun P n fr (pa.filterMap (ops[·]?)) = some fr') (k : ∀ a', Agree n fr' a' → a'.defers = [] → wpQuiet P ops C (fun a' => ∀ w', C w' → wpList P ops Q ((t0 :: tl).filterMap (ops[·]?)) a' w') (pb.filterMap (ops[·]?)) a') :
    wpAny P .any ops Q ops.size (Array.replicate ops.size false) a w := by
  simp only [partB, Bool.and_eq_true] at hB
  obtain ⟨⟨⟨⟨⟨⟨⟨hsel, hlen⟩, hA⟩, hH⟩, hS⟩, hCh⟩, hcov⟩, htl⟩ := hB
  have hlen : pa.length + (pb.length + (t0 :: tl).length) = ops.size := Nat.eq_of_beq_eq_true hlen
  have hcl := take_closed pa (Array.replicate ops.size false) ⟨by simp, fun j oj _ hl => (by rw [getD_replicate_false] at hl; cases hl)⟩ hA
  have htl' : ∀ t ∈ t0 :: tl, t ∉ pb ∧ (listAll pa (Array.replicate ops.size false)).getD t false = false := by
    intro t ht
    have := List.all_eq_true.1 htl t ht
    simpa using this
  have inv : HInv ops pb (t0 :: tl) (listAll pa (Array.replicate ops.size false)) := ⟨hcl.1, hcl.2, fun t ht => (htl' t ht).2, fun i hi => by
    have := List.all_eq_true.1 hcov i (List.mem_range.2 hi)
    simp only [Bool.or_eq_true, List.contains_iff_mem] at this
    rcases this with (h | h) | h
    · exact .inl h
    · exact .inr (.inl h)
    · exact .inr (.inr h)⟩
  have := take_wp (P := P) (Q := Q) hsel hQ (fuel := pb.length + (t0 :: tl).length) (w := w) (fr' := fr') pa (Array.replicate ops.size false) fr a hA ha hd hp (fun a' ha' hd' => by
    have H := wpHB_lex (P := P) (C := C) hsel hS hCh (fun t ht => (htl' t ht).1) pb _ a' (fun _ h => h) inv hH (k a' ha' hd')
    exact wpAny_of_wpHB (Q := Q) (g := (t0 :: tl).length) (fun listed a w hw hL => seq_wp _ listed a w hL.1 (hL.2 w hw)) _ _ _ _ hC H)
  rwa [hlen] at this
end

section
variable {P : Program} {fn : Func} {R : Ending → World → Prop} {js : List J} {st : St}

def pureOps (st : St) (n : Nat) (P : Program) (pa : List Nat) : Option Fr :=
  match st.todo with
  | .code (.region _ ops true) :: _ => pureRun P n st.fr (pa.filterMap (ops[·]?))
  | _ => none

def enterP (st : St) (fr : Fr) (pb tl : List Nat) : St :=
  match st.todo with
  | .code (.region _ ops true) :: k => ⟨k, ops, pb.filterMap (ops[·]?) ++ tl.filterMap (ops[·]?), fr, pb.length, .idle⟩
  | _ => bad st

def frameP (P : Program) (fn : Func) (st : St) (pa : List Nat) : Fr :=
  match pureOps st fn.ntmps P pa with
  | some fr => fr
  | none => []

def nxdp (P : Program) (fn : Func) (st : St) (pa pb tl : List Nat) : St := advQ P fn.ntmps fn.results 5000 (enterP st (frameP P fn st pa) pb tl)

theorem headP_len {ops : Array Oper} : ∀ {pb tl : List Nat} {listed : Array Bool}, headP ops tl pb listed = true → (pb.filterMap (ops[·]?)).length = pb.length
  | [], _, _, _ => rfl
  | i :: r, tl, listed, h => by
    simp only [headP, Bool.and_eq_true] at h
    have hr : i ∈ Region.ready .any ops listed := by simpa using h.1.1
    obtain ⟨_, o, ho, _⟩ := mem_ready.1 hr
    rw [List.filterMap_cons]
    simp only [ho, List.length_cons, headP_len h.2]

/-- A region that draws its order: 'pa' only compute and are taken first; 'pb' are quiet in the class C; then t0 and tl, in this order. -/
theorem s_drawP {w : World} (C : World → Prop) (id : Nat) (pa pb : List Nat) (t0 : Nat) (tl : List Nat) (hr : req st = .draw id) (hfol : P.follows .mixedOrders = true) (hC : C w.drew)
    (hB : (drawOps st).map (fun ops => partB ops pa pb t0 tl) = some true) (hp : (pureOps st fn.ntmps P pa).isSome = true)
    (k : GQ P fn R js (cq C) (nxdp P fn st pa pb (t0 :: tl))) : G P fn R js st w := by
  obtain ⟨hc, hro, ops, kk, ht⟩ := req_draw hr
  have k := GQ_advQ _ k
  obtain ⟨fr', hfr⟩ := Option.isSome_iff_exists.1 hp
  have hfP : frameP P fn st pa = fr' := by unfold frameP; rw [hfr]
  rw [hfP] at k
  unfold pureOps at hfr
  rw [ht] at hfr
  refine ⟨fun a hd ha => ?_⟩
  unfold Gd
  rw [hc, hro]
  refine cont_nil.2 ?_
  rw [ht]
  simp only [drawOps, ht, Option.map_some, Option.some.injEq] at hB
  unfold enterP at k
  rw [ht] at k
  show (Code.region id ops true).wp P (KQ P (bodyPost P fn R) js kk) a w
  refine wp_region_any hfol ?_
  refine part_wp pa pb t0 tl hB (fun c a d v w h => Qd_panic h) hC ha hd hfr (fun a' ha' hd' => ?_)
  have k2 := k.idle rfl hd' ha'
  simp only [contQ, cq, true_and] at k2
  simp only [partB, Bool.and_eq_true] at hB
  have hl := headP_len hB.1.1.1.1.2
  rw [← hl, List.take_left, List.drop_left] at k2
  exact k2
end
end Go.XM
