/-
  The X machine in a region that draws its order and holds calls that make memory: a class of worlds in the place of one world.
-/
import Derived.Test.YtfknpeajihecdaaXMmem
import Derived.Deep.Quiet
namespace Go.XM

section
variable {P : Program} {md : Region.Mode} {ops : Array Oper} {C : World → Prop}

/-- The head of a region, in whatever order: every operation quiet; then L. -/
def wpHQ (P : Program) (md : Region.Mode) (ops : Array Oper) (C : World → Prop) (n : Nat) (L : Array Bool → Act → Prop) : Nat → Array Bool → Act → Prop
  | 0, listed, a => L listed a
  | f + 1, listed, a => Region.ready md ops listed ≠ [] ∧ ∀ i ∈ Region.ready md ops listed, i < n ∧ qOp P ops C i (wpHQ P md ops C n L f (listed.setIfInBounds i true)) a

theorem wpAny_of_wpHQ {n g : Nat} {L : Array Bool → Act → Prop} {Q' : Exit → Act → World → Prop} (hL : ∀ listed a w, C w → L listed a → wpAny P md ops Q' g listed a w) :
    ∀ (f : Nat) (listed : Array Bool) (a : Act) (w : World), C w → wpHQ P md ops C n L f listed a → wpAny P md ops Q' (f + g) listed a w
  | 0, listed, a, w, hw, h => by rw [Nat.zero_add]; exact hL _ _ _ hw h
  | f + 1, listed, a, w, hw, h => by
    rw [show f + 1 + g = (f + g) + 1 by omega]
    exact ⟨fun h0 => absurd h0 h.1, fun i hi => wpOp_of_qOp hw (fun a' w' hw' h' => wpAny_of_wpHQ hL f _ a' w' hw' h') (h.2 i hi).2⟩

theorem not_listed_dep {i : Nat} {listed : Array Bool} {j : Nat} (hi : i ∈ Region.ready md ops listed) :
    ∀ oj, ops[j]? = some oj → (∀ e ∈ oj.after, Region.binds md e = true → listed.getD e.on false = true) → ∀ e ∈ oj.after, Region.binds md e = true → e.on ≠ i := by
  intro oj _ hall e he hb heq
  have h1 := hall e he hb
  rw [heq, getD_both (mem_ready.1 hi).1] at h1
  cases h1

theorem wpHQ_first {n i : Nat} {oi : Oper} {v : Value} {L : Array Bool → Act → Prop} (hi : ops[i]? = some oi) (hsel : ∀ (j : Nat) (o : Oper) cs b, ops[j]? = some o → o.op ≠ .select cs b)
    (hs : Region.sinkB md ops n = true) (hc : Region.chainB md ops n = true) (hn : n < ops.size) (hin : i < n) (hdone : ∀ listed a, L listed a → ∀ j ∈ Region.ready md ops listed, n ≤ j) :
    ∀ (f : Nat) (listed : Array Bool) (a : Act), HeadInv md ops n listed →
      (∀ j oj, ops[j]? = some oj → j ≠ i → listed.getD j true = false → (∀ e ∈ oj.after, Region.binds md e = true → e.on ≠ i) → oi.apart ops oj = true) →
      i ∈ Region.ready md ops listed → YieldsIn P ops C oi v a →
      wpHQ P md ops C n L f (listed.setIfInBounds i true) (a.put oi.dst v) → wpHQ P md ops C n L (f + 1) listed a := by
  intro f
  induction f with
  | zero =>
    intro listed a inv _ hr hy H
    refine ⟨List.ne_nil_of_mem hr, fun j hj => ?_⟩
    have hjn : j < n := Nat.lt_of_not_le fun h => tail_waits hs hc hn inv _ i rfl hin (mem_ready.1 hr).1 j h hj
    refine ⟨hjn, ?_⟩
    rcases Nat.decEq j i with hji | hji
    · exact absurd (hdone _ _ H j (ready_mono hj hji)) (by omega)
    · subst hji; exact hy.qOp hi H
  | succ f ih =>
    intro listed a inv hfree hr hy H
    refine ⟨List.ne_nil_of_mem hr, fun j hj => ?_⟩
    have hjn : j < n := Nat.lt_of_not_le fun h => tail_waits hs hc hn inv _ i rfl hin (mem_ready.1 hr).1 j h hj
    refine ⟨hjn, ?_⟩
    rcases Nat.decEq j i with hji | hji
    · obtain ⟨hjun, oj, hoj, hall⟩ := mem_ready.1 hj
      have hap := hfree j oj hoj hji hjun (not_listed_dep hr oj hoj hall)
      refine qOp_mono (fun a' h3 => ?_) (qOp_put hoj hap (fun cs b => hsel i oi cs b hi) (fun cs b => hsel j oj cs b hoj) hy (H.2 j (ready_mono hj hji)).2)
      refine ih (listed.setIfInBounds j true) a' (inv.set hj hjn) (fun k ok hk hki hun hno => hfree k ok hk hki ?_ hno) (ready_mono hr (Ne.symm hji)) h3.1 ?_
      · by_cases hjk : j = k
        · subst hjk; exact hjun
        · rwa [getD_set_ne true hjk] at hun
      · rw [Array.setIfInBounds_comm _ _ hji]; exact h3.2
    · subst hji; exact hy.qOp hi H

theorem wpHQ_lex {n g : Nat} {Lq : Act → Prop} (hsel : Region.noSelect ops = true) (hs : Region.sinkB md ops n = true) (hc : Region.chainB md ops n = true) (hn : n < ops.size) :
    ∀ (l : List Oper) (k : Nat) (listed : Array Bool) (a : Act), (∀ j, j < l.length → l[j]? = ops[k + j]?) → k + l.length = n → HeadInv md ops n listed →
    Region.lexHead md ops g l.length k listed = true → wpQuiet P ops C Lq l a →
    wpHQ P md ops C n (fun listed' a' => Region.seqB md ops g n listed' = true ∧ Lq a') l.length listed a
  | [], k, listed, a, _, hk, _, hB, h => by
    have : k = n := by simpa using hk
    subst this
    exact ⟨by simpa [Region.lexHead] using hB, h⟩
  | o :: l, k, listed, a, hl, hk, inv, hB, h => by
    have h0 : ops[k]? = some o := by simpa using (hl 0 (by simp)).symm
    simp only [List.length_cons, Region.lexHead, Bool.and_eq_true] at hB
    have hkn : k < n := by simp only [List.length_cons] at hk; omega
    have hr' : k ∈ Region.ready md ops listed := by simpa using hB.1.1
    have hst : qOp P ops C k (wpQuiet P ops C Lq l) a := by unfold qOp; simp only [h0]; exact h
    obtain ⟨v, hy, hK⟩ := yieldsIn_of_qOp h0 hst
    exact wpHQ_first h0 (Region.noSelect_spec hsel) hs hc hn hkn (fun listed' a' hL => seqB_ready hL.1) l.length listed a inv (Region.free_spec h0 hB.1.2) hr' hy
      (wpHQ_lex hsel hs hc hn l (k + 1) _ _ (fun j hj => by have := hl (j + 1) (by simp; omega); simpa [Nat.add_assoc, Nat.add_comm 1 j] using this) (by simp only [List.length_cons] at hk; omega) (inv.set hr' hkn) hB.2 hK)

theorem wp_region_quiet_tail {id : Nat} {Q : Exit → Act → World → Prop} {a : Act} {w : World} (n : Nat) (hm : P.follows .mixedOrders = true) (hB : Region.lexTailB .any ops n = true) (hC : C w.drew)
    (h : wpQuiet P ops C (fun a' => ∀ w', C w' → wpList P ops Q (ops.toList.drop n) a' w') (ops.toList.take n) a) : (Code.region id ops true).wp P Q a w := by
  simp only [Region.lexTailB, Bool.and_eq_true, decide_eq_true_eq] at hB
  obtain ⟨⟨⟨⟨hsel, hn⟩, hs⟩, hc⟩, hlex⟩ := hB
  have htl : (ops.toList.take n).length = n := by simp; omega
  have hdl : (ops.toList.drop n).length = ops.size - n := by simp
  have inv0 : HeadInv .any ops n (Array.replicate ops.size false) :=
    ⟨by simp, fun j oj _ hl => (by rw [getD_replicate_false] at hl; cases hl), fun t _ ht => getD_in (by simpa using ht) (getD_replicate_false _ _)⟩
  have H := wpHQ_lex (md := .any) (g := ops.size - n) hsel hs hc hn (ops.toList.take n) 0 _ a (fun j hj => by rw [htl] at hj; simp [hj]) (by simpa using htl) inv0 (by rw [htl]; exact hlex) h
  refine wp_region_any hm ?_
  have := wpAny_of_wpHQ (Q' := Q) (g := ops.size - n) (fun listed a' w' hw' hL => by
    have := wpAny_of_seq (md := .any) (Q' := Q) (ops.toList.drop n) n listed a' w' (fun j => by simp [List.getElem?_drop]) (by rw [hdl]; exact hL.1) (hL.2 w' hw')
    rwa [hdl] at this) _ _ _ _ hC H
  rw [htl, show n + (ops.size - n) = ops.size by omega] at this
  exact this
end

/-- A class of worlds for a region's head: where its operations yield, where it goes on, and what its tail is asked. -/
structure Cls where
  c : World → Prop
  e : World → Prop
  x : List Oper → Act → Prop

def cq (C : World → Prop) : Cls := ⟨C, C, fun _ _ => True⟩

section
variable (P : Program) (fn : Func) (R : Ending → World → Prop) (js : List J) (C : Cls)

def contQ (ops : Array Oper) (Q : Exit → Act → World → Prop) (m : Nat) (rops : List Oper) (a : Act) : Prop :=
  wpQuiet P ops C.c (fun a' => C.x (rops.drop m) a' ∧ ∀ w, C.e w → wpList P ops Q (rops.drop m) a' w) (rops.take m) a

def QW (ops : Array Oper) (Q : Exit → Act → World → Prop) (m : Nat) (rest : List Oper) (o : Oper) (a : Act) (r : World → Result Next) : Prop :=
  ∃ v, (∀ w, C.c w → Oper.quietUpon P C.c w v (r w)) ∧ contQ P C ops Q (m - 1) rest (a.put o.dst v)

def GdQ (st : St) (a : Act) : Prop :=
  match st.cur with
  | .idle => contQ P C st.ops (Qd P fn R js st.todo) st.m st.rops a
  | .op o => QW P C st.ops (Qd P fn R js st.todo) st.m st.rops o a fun w => (execOp (evT st.fr) o).run P w
  | .sem s o => QW P C st.ops (Qd P fn R js st.todo) st.m st.rops o a fun w => s.run P w
  | .gtest b s want o => a.tmps[s]? = some (.bool b) →
      if b == want then QW P C st.ops (Qd P fn R js st.todo) st.m st.rops o a fun w => (execOp a.eval o).run P w
      else contQ P C st.ops (Qd P fn R js st.todo) (st.m - 1) st.rops (a.put o.dst undef)
  | _ => False

structure GQ (st : St) : Prop where
  out : ∀ a : Act, a.defers = [] → Agree fn.ntmps st.fr a → (st.m = 0 → C.x st.rops a ∧ ∀ w, C.e w → Gd P fn R js st a w) ∧ (st.m ≠ 0 → GdQ P fn R js C st a)
end

section
variable {P : Program} {fn : Func} {R : Ending → World → Prop} {js : List J} {C : Cls} {st : St}

theorem contQ_zero {ops : Array Oper} {Q : Exit → Act → World → Prop} {rops : List Oper} {a : Act} : contQ P C ops Q 0 rops a ↔ C.x rops a ∧ ∀ w, C.e w → cont P ops Q 0 rops a w := by
  unfold contQ cont
  simp [wpQuiet, wpStill]

theorem contQ_cons {ops : Array Oper} {Q : Exit → Act → World → Prop} {m : Nat} {o : Oper} {rest : List Oper} {a : Act} (hm : m ≠ 0)
    (h : if Region.wanted o (yielded ops a.tmps) then QW P C ops Q m rest o a (fun w => (execOp a.eval o).run P w) else contQ P C ops Q (m - 1) rest (a.put o.dst undef)) : contQ P C ops Q m (o :: rest) a := by
  obtain ⟨m, rfl⟩ : ∃ k, m = k + 1 := ⟨m - 1, by omega⟩
  show wpQuiet P ops C.c _ (o :: rest.take m) a
  unfold wpQuiet
  split
  · rename_i hw; rw [if_pos hw] at h; exact h
  · rename_i hw; rw [if_neg hw] at h; exact h

/-- All modes at once: what idle means. -/
theorem GQ.idle {a : Act} (h : GQ P fn R js C st) (hc : st.cur = .idle) (hd : a.defers = []) (ha : Agree fn.ntmps st.fr a) : contQ P C st.ops (Qd P fn R js st.todo) st.m st.rops a := by
  have h1 := h.out a hd ha
  rcases Nat.eq_zero_or_pos st.m with hm | hm
  · have h2 := h1.1 hm
    rw [hm]
    refine contQ_zero.2 ⟨h2.1, fun w hw => ?_⟩
    have h3 := h2.2 w hw
    unfold Gd at h3
    rw [hc, hm] at h3
    exact h3
  · have h2 := h1.2 (by omega)
    unfold GdQ at h2
    rw [hc] at h2
    exact h2

theorem GQ_bad {a : Act} (h : GQ P fn R js C (bad st)) (hm : st.m ≠ 0) (hd : a.defers = []) (ha : Agree fn.ntmps st.fr a) : False :=
  (h.out a hd ha).2 hm

theorem GQ_finish {o : Oper} {e : Ent} {v : Value} (he : e.get = some v) (h : GQ P fn R js C (finish fn.ntmps st o e)) (hm : st.m ≠ 0) {a : Act} (hd : a.defers = []) (ha : Agree fn.ntmps st.fr a) :
    contQ P C st.ops (Qd P fn R js st.todo) (st.m - 1) st.rops (a.put o.dst v) := by
  unfold finish at h
  split at h
  · rename_i fr' hp
    exact h.idle rfl (a := a.put o.dst v) (by cases o.dst <;> exact hd) (ha.put hp he)
  · exact (GQ_bad h hm hd ha).elim

theorem GQ_finishV {o : Oper} {v : Value} (h : GQ P fn R js C (finishV fn.ntmps st o v)) (hm : st.m ≠ 0) {a : Act} (hd : a.defers = []) (ha : Agree fn.ntmps st.fr a) :
    contQ P C st.ops (Qd P fn R js st.todo) (st.m - 1) st.rops (a.put o.dst v) := by
  rw [finishV_eq] at h
  exact GQ_finish rfl h hm hd ha

theorem GQ_copyE {o : Oper} {x : Operand} (h : GQ P fn R js C (copyE fn.ntmps st o (entOf st.fr x))) (hm : st.m ≠ 0) {a : Act} (hd : a.defers = []) (ha : Agree fn.ntmps st.fr a) :
    contQ P C st.ops (Qd P fn R js st.todo) (st.m - 1) st.rops (a.put o.dst (a.eval x)) := by
  unfold copyE at h
  cases hx : entOf st.fr x with
  | none => rw [hx] at h; exact (GQ_bad h hm hd ha).elim
  | val v =>
    rw [hx] at h
    rw [ha.eval (x := x) (v := v) (by rw [hx]; rfl)]
    exact GQ_finish rfl h hm hd ha
  | dec b =>
    rw [hx] at h
    rw [ha.eval (x := x) (v := .bool b) (by rw [hx]; rfl)]
    exact GQ_finish rfl h hm hd ha

theorem QW_value {ops : Array Oper} {Q : Exit → Act → World → Prop} {m : Nat} {rest : List Oper} {o : Oper} {a : Act} {v : Value} {r : World → Result Next} (hr : ∀ w, C.c w → r w = .ok (.value v) w)
    (h : contQ P C ops Q (m - 1) rest (a.put o.dst v)) : QW P C ops Q m rest o a r :=
  ⟨v, fun w hw => by rw [hr w hw]; exact ⟨rfl, rfl⟩, h⟩

theorem GQ_goOp {o : Oper} (h : GQ P fn R js C (goOp st o)) (hm : st.m ≠ 0) {a : Act} (hd : a.defers = []) (ha : Agree fn.ntmps st.fr a) :
    QW P C st.ops (Qd P fn R js st.todo) st.m st.rops o a fun w => (execOp a.eval o).run P w := by
  unfold goOp at h
  split at h
  · rename_i hs hp
    rw [execOp_evT ha hs hp]
    split at h <;> exact (h.out a hd ha).2 hm
  · exact (GQ_bad h hm hd ha).elim

theorem GQ_runOp {o : Oper} (h : GQ P fn R js C (runOp fn.ntmps st o)) (hm : st.m ≠ 0) {a : Act} (hd : a.defers = []) (ha : Agree fn.ntmps st.fr a) :
    QW P C st.ops (Qd P fn R js st.todo) st.m st.rops o a fun w => (execOp a.eval o).run P w := by
  obtain ⟨dst, op, type, pos, after, guard⟩ := o
  unfold runOp at h
  split at h
  · rename_i x hop
    simp only at hop; subst hop
    exact QW_value (o := ⟨dst, .move x, type, pos, after, guard⟩) (fun w _ => rfl) (GQ_copyE h hm hd ha)
  · rename_i x hop
    simp only at hop; subst hop
    exact QW_value (o := ⟨dst, .assign x, type, pos, after, guard⟩) (fun w _ => rfl) (GQ_copyE h hm hd ha)
  · rename_i c x y hop
    simp only at hop; subst hop
    split at h
    · rename_i hc
      have he : a.eval c = .bool true := ha.eval (by rw [hc]; rfl)
      exact QW_value (o := ⟨dst, .pick c x y, type, pos, after, guard⟩) (fun w _ => by simp [execOp, he, asBool]) (GQ_copyE h hm hd ha)
    · rename_i hc
      have he : a.eval c = .bool false := ha.eval (by rw [hc]; rfl)
      exact QW_value (o := ⟨dst, .pick c x y, type, pos, after, guard⟩) (fun w _ => by simp [execOp, he, asBool]) (GQ_copyE h hm hd ha)
    · exact GQ_goOp h hm hd ha
  · rename_i t x hop
    simp only at hop; subst hop
    split at h
    · rename_i b hb
      have he : a.eval x = .bool b := ha.eval (by rw [hb]; rfl)
      exact QW_value (o := ⟨dst, .unOp .not t x, type, pos, after, guard⟩) (fun w _ => by simp [execOp, he, Op.unary]) (GQ_finish rfl h hm hd ha)
    · exact GQ_goOp h hm hd ha
  · exact GQ_goOp h hm hd ha

theorem GQ_bop {o : Oper} {rest : List Oper} (hr : st.rops = o :: rest) (hc : st.cur = .idle) (hm : st.m ≠ 0) (h : GQ P fn R js C (bop st o rest fn.ntmps)) : GQ P fn R js C st := by
  refine ⟨fun a hd ha => ⟨fun h0 => absurd h0 hm, fun _ => ?_⟩⟩
  unfold GdQ
  rw [hc, hr]
  refine contQ_cons hm ?_
  unfold bop at h
  split at h
  · rename_i hg
    rw [if_pos (by simp [Region.wanted, hg])]
    exact GQ_runOp h hm hd ha
  · rename_i j want hg
    split at h
    · rename_i s hj
      split at h
      · rename_i b hb
        have hy := yielded_of hj (ha.2 s _ (by rw [hb]; rfl))
        split at h
        · rename_i hbw
          rw [if_pos (by simpa [Region.wanted, hg, hy] using hbw)]
          exact GQ_runOp h hm hd ha
        · rename_i hbw
          rw [if_neg (by simpa [Region.wanted, hg, hy] using hbw)]
          exact GQ_finish rfl h hm hd ha
      · rename_i b hb
        have hs : a.tmps[s]? = some (.bool b) := ha.2 s _ (by rw [hb]; rfl)
        have hy := yielded_of hj hs
        have h1 := (h.out a hd ha).2 hm hs
        by_cases hbw : (b == want) = true
        · rw [if_pos (by simpa [Region.wanted, hg, hy] using hbw)]
          simp only [hbw, if_true] at h1
          exact h1
        · rw [if_neg (by simpa [Region.wanted, hg, hy] using hbw)]
          simp only [hbw] at h1
          exact h1
      · rename_i l hl
        have hy := yielded_none hj (ha.2 s _ (by rw [hl]; rfl))
        rw [if_neg (by simp [Region.wanted, hg, hy])]
        exact GQ_finish rfl h hm hd ha
      · exact (GQ_bad h hm hd ha).elim
    · exact (GQ_bad h hm hd ha).elim

theorem GQ_of_G (hm : st.m = 0) (hx : ∀ a, Agree fn.ntmps st.fr a → C.x st.rops a) (h : ∀ w, C.e w → G P fn R js st w) : GQ P fn R js C st := ⟨fun a hd ha => ⟨fun _ => ⟨hx a ha, fun w hw => (h w hw).out a hd ha⟩, fun h0 => absurd hm h0⟩⟩

theorem G_of_GQ {w : World} (hm : st.m = 0) (hw : C.e w) (h : GQ P fn R js C st) : G P fn R js st w := ⟨fun a hd ha => ((h.out a hd ha).1 hm).2 w hw⟩

/-- What a step of the machine turns in a region's middle. -/
theorem GQ_adv1 {st' : St} (hm : st.m ≠ 0) (hro : st.rops ≠ [] ∨ st.cur ≠ .idle) (hnf : ∀ s, st.cur ≠ .fin s) (hs : adv1 P fn.ntmps fn.results st = some st') (h : GQ P fn R js C st') : GQ P fn R js C st := by
  unfold adv1 at hs
  split at hs
  · rename_i s o hc
    split at hs
    · rename_i nx
      split at hs
      · cases hs
        refine ⟨fun a hd ha => ⟨fun h0 => absurd h0 hm, fun _ => ?_⟩⟩
        unfold GdQ; rw [hc]
        exact QW_value (fun w _ => rfl) (GQ_finishV h hm hd ha)
      · cases hs
        refine ⟨fun a hd ha => ⟨fun h0 => absurd h0 hm, fun _ => ?_⟩⟩
        unfold GdQ; rw [hc]
        exact ⟨undef, fun w hw => ⟨rfl, rfl⟩, GQ_finish rfl h hm hd ha⟩
      · cases hs
    · cases hs
      refine ⟨fun a hd ha => ⟨fun h0 => absurd h0 hm, fun _ => ?_⟩⟩
      unfold GdQ; rw [hc]
      exact (h.out a hd ha).2 hm
    · cases hs
      refine ⟨fun a hd ha => ⟨fun h0 => absurd h0 hm, fun _ => ?_⟩⟩
      unfold GdQ; rw [hc]
      exact (h.out a hd ha).2 hm
    · cases hs
  · rename_i s hc
    exact absurd hc (hnf s)
  · rename_i hc
    split at hs
    · rename_i o rest hr
      cases hs
      exact GQ_bop hr hc hm h
    · rename_i hr
      rcases hro with hro | hro
      · exact absurd hr hro
      · exact absurd hc hro
  · cases hs

/-- The machine stops at a region's end in this mode; 'advQ': as far as the head goes. -/
def advQ (P : Program) (n : Nat) (rs : Array ResultVar) : Nat → St → St
  | 0, st => st
  | f + 1, st => match Nat.beq st.m 0 with
    | true => st
    | false => match st.cur with
      | .fin _ => st
      | .idle => match st.rops with
        | [] => st
        | _ => match adv1 P n rs st with
          | some st' => advQ P n rs f st'
          | none => st
      | _ => match adv1 P n rs st with
        | some st' => advQ P n rs f st'
        | none => st

theorem GQ_advQ : ∀ (f : Nat) {st : St}, GQ P fn R js C (advQ P fn.ntmps fn.results f st) → GQ P fn R js C st
  | 0, _, h => h
  | f + 1, st, h => by
    unfold advQ at h
    split at h
    · exact h
    · rename_i hb
      have hm : st.m ≠ 0 := Nat.ne_of_beq_eq_false hb
      split at h
      · exact h
      · rename_i hc
        split at h
        · exact h
        · rename_i hr
          split at h
          · rename_i st' hs
            exact GQ_adv1 hm (.inl hr) (fun s e => by rw [hc] at e; cases e) hs (GQ_advQ f h)
          · exact h
      · rename_i h1 h2
        split at h
        · rename_i st' hs
          exact GQ_adv1 hm (.inr h2) (fun s => h1 s) hs (GQ_advQ f h)
        · exact h

def nxq (P : Program) (fn : Func) (st : St) (r : Rsp) : St := advQ P fn.ntmps fn.results 5000 (ans fn.ntmps st r)
def nxdq (P : Program) (fn : Func) (st : St) (m : Nat) : St := advQ P fn.ntmps fn.results 5000 (enterDraw st m)
def nxe (P : Program) (fn : Func) (st : St) : St := adv P fn.ntmps fn.results 5000 st

/-- Behind the head: the tail, and what follows, in whatever world of the class. -/
theorem q_endG (hm : st.m = 0) (hx : ∀ a, Agree fn.ntmps st.fr a → C.x st.rops a) (k : ∀ w, C.e w → G P fn R js (nxe P fn st) w) : GQ P fn R js C st := GQ_of_G hm hx fun w hw => G_adv _ (k w hw)

theorem q_end {C : World → Prop} (hm : st.m = 0) (k : ∀ w, C w → G P fn R js (nxe P fn st) w) : GQ P fn R js (cq C) st := q_endG hm (fun _ _ => trivial) k

theorem q_load {a : Addr} {v : Value} (hr : req st = .load a) (hm : Nat.beq st.m 0 = false) (h : ∀ w, C.c w → w.cell? a = some v) (k : GQ P fn R js C (nxq P fn st (.v v))) : GQ P fn R js C st := by
  have hm : st.m ≠ 0 := Nat.ne_of_beq_eq_false hm
  have k := GQ_advQ _ k
  rcases req_sem_or hr (by simp) (by simp) (by simp) (by simp) (by simp) with ⟨s, o, hc⟩ | ⟨s, hc⟩ | ⟨o, hc, ho⟩
  · unfold req at hr
    rw [hc] at hr
    simp only at hr
    split at hr <;> cases hr
    refine ⟨fun ac hd ha => ⟨fun h0 => absurd h0 hm, fun _ => ?_⟩⟩
    unfold ans at k
    rw [hc] at k
    obtain ⟨v', h1, h2⟩ := (k.out ac hd ha).2 hm
    unfold GdQ
    rw [hc]
    exact ⟨v', fun w hw => by simp only [Sem.run, h w hw]; exact h1 w hw, h2⟩
  · unfold req at hr
    rw [hc] at hr
    simp only at hr
    split at hr <;> cases hr
    refine ⟨fun ac hd ha => ⟨fun h0 => absurd h0 hm, fun _ => ?_⟩⟩
    unfold ans at k
    rw [hc] at k
    exact ((k.out ac hd ha).2 hm).elim
  · rcases reqOp_not ho with h | h | h | h | h | h | h | h | h <;> simp at h

theorem q_val {r : Req} {s : Sem Value} {v : Value} (hr : req st = r) (hs : valSem r = some s) (hm : Nat.beq st.m 0 = false) (hrun : ∀ w, C.c w → s.run P w = .ok v w)
    (k : GQ P fn R js C (nxq P fn st (.v v))) : GQ P fn R js C st := by
  have hm : st.m ≠ 0 := Nat.ne_of_beq_eq_false hm
  obtain ⟨o, hc, ho⟩ := op_of_req hr hs
  have k := GQ_advQ _ k
  refine ⟨fun a hd ha => ⟨fun h0 => absurd h0 hm, fun _ => ?_⟩⟩
  unfold GdQ
  rw [hc]
  unfold ans at k
  rw [hc] at k
  refine QW_value (fun w hw => ?_) (GQ_finishV k hm hd ha)
  rw [run_special (P := P) ho hs w, hrun w hw]
  rfl

theorem q_call {f : FuncId} {args : Array Value} {v : Value} (hr : req st = .call f args) (hm : Nat.beq st.m 0 = false) (hcl : callableB P f = true) (h : ∀ w, C.c w → Ret P f args w fun v' w' => v' = v ∧ C.c w')
    (k : GQ P fn R js C (nxq P fn st (.v v))) : GQ P fn R js C st := by
  have hm : st.m ≠ 0 := Nat.ne_of_beq_eq_false hm
  obtain ⟨o, hc, ho⟩ := call_of_req hr
  have k := GQ_advQ _ k
  refine ⟨fun a hd ha => ⟨fun h0 => absurd h0 hm, fun _ => ?_⟩⟩
  unfold GdQ
  rw [hc]
  unfold ans at k
  rw [hc] at k
  refine ⟨v, fun w hw => ?_, GQ_finishV k hm hd ha⟩
  simp only
  rw [run_call ho hcl w]
  refine ⟨rfl, Calls.mono (h w hw) ?_⟩
  rintro e w' ⟨_, rfl, rfl, hC⟩
  exact ⟨rfl, hC⟩

def isGtest (st : St) : Bool :=
  match st.cur with
  | .gtest .. => true
  | _ => false

theorem q_if {b : Bool} (hr : req st = .test b) (hg : isGtest st = true) (hm : Nat.beq st.m 0 = false) (kt : b = true → GQ P fn R js C (nxq P fn st (.b true))) (kf : b = false → GQ P fn R js C (nxq P fn st (.b false))) : GQ P fn R js C st := by
  have hm : st.m ≠ 0 := Nat.ne_of_beq_eq_false hm
  have key : GQ P fn R js C (nxq P fn st (.b b)) := by cases b; exact kf rfl; exact kt rfl
  have k := GQ_advQ _ key
  refine ⟨fun a hd ha => ⟨fun h0 => absurd h0 hm, fun _ => ?_⟩⟩
  unfold req at hr
  split at hr
  · split at hr <;> cases hr
  · rename_i o hc; rcases reqOp_not hr with h | h | h | h | h | h | h | h | h <;> simp at h
  · rename_i b' s want o hc
    cases hr
    unfold GdQ
    rw [hc]
    simp only
    intro hs
    unfold ans at k
    rw [hc] at k
    simp only at k
    split at k
    · rename_i hw
      rw [if_pos hw]
      exact GQ_runOp k hm hd (ha.dec' hs)
    · rename_i hw
      rw [if_neg (by simpa using hw)]
      exact GQ_finish rfl k hm hd (ha.dec' hs)
  · rename_i b' t e hc
    unfold isGtest at hg
    rw [hc] at hg
    cases hg
  · split at hr <;> cases hr
  · repeat' split at hr
    all_goals cases hr
  · cases hr

theorem s_drawQ {w : World} (C : World → Prop) (id m : Nat) (hr : req st = .draw id) (hfol : P.follows .mixedOrders = true) (hC : C w.drew)
    (hB : (drawOps st).map (fun ops => match Nat.beq ops.size m with | true => Region.lexB .any ops | false => Region.lexTailB .any ops m) = some true)
    (k : GQ P fn R js (cq C) (nxdq P fn st m)) : G P fn R js st w := by
  obtain ⟨hc, hro, ops, kk, ht⟩ := req_draw hr
  have k := GQ_advQ _ k
  refine ⟨fun a hd ha => ?_⟩
  unfold Gd
  rw [hc, hro]
  refine cont_nil.2 ?_
  rw [ht]
  simp only [drawOps, ht, Option.map_some, Option.some.injEq] at hB
  unfold enterDraw at k
  rw [ht] at k
  have k2 := k.idle rfl hd ha
  simp only [contQ, cq, true_and] at k2
  show (Code.region id ops true).wp P (KQ P (bodyPost P fn R) js kk) a w
  split at hB
  · rename_i hsz
    have hsz : ops.size = m := Nat.eq_of_beq_eq_true hsz
    refine wp_region_quiet hfol hB hC ?_
    rw [List.take_of_length_le (by simp [hsz]), List.drop_of_length_le (by simp [hsz])] at k2
    exact k2
  · exact wp_region_quiet_tail m hfol hB hC k2

end
end Go.XM
