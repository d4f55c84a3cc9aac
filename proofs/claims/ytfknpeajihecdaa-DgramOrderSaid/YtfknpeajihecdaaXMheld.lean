/-
  The X machine in a region that draws its order, reads, and then stores: the reads are taken first, in whatever order the text allows; the stores come in one order.
-/
import Derived.Test.YtfknpeajihecdaaXMquiet
import Derived.OrdersHeld
import Derived.Deep.RegionHeld3
namespace Go.XM

/-- Operations that yield a value and nothing else. -/
def valueOp : Op → Bool
  | .load .. | .fieldAddr .. | .nilCheck .. | .move .. | .assign .. | .binOp .. | .unOp .. | .convert .. | .indexAddr .. | .index .. | .field .. | .extract .. | .pick .. => true
  | .call { callee := .builtin .len, .. } | .call { callee := .builtin .cap, .. } => true
  | _ => false

theorem value_of_and {r : Result Value} {n : Next} {w' : World} (h : r.andThen (fun v w' => (.ok (.value v) w' : Result Next)) = .ok n w') : ∃ u, n = .value u := by
  cases r with
  | ok v w1 => cases h; exact ⟨v, rfl⟩
  | halt x w1 => cases h

def heldHeadOk (ops : Array Oper) (i : Nat) : Bool :=
  match ops[i]? with
  | some o => valueOp o.op
  | none => false

def heldT (ops : Array Oper) : List Nat → Array Bool → Bool
  | i :: tl, listed => decide (Region.ready .any ops listed = [i]) && heldT ops tl (listed.setIfInBounds i true)
  | [], listed => (Region.ready .any ops listed).isEmpty

def heldB (ops : Array Oper) : List Nat → List Nat → Array Bool → Bool
  | i :: hs, tl, listed => (Region.ready .any ops listed).contains i && Region.free .any ops listed i && heldHeadOk ops i && heldB ops hs tl (listed.setIfInBounds i true)
  | [], tl, listed => heldT ops tl listed

def wpListS (P : Program) (ops : Array Oper) (Q : Exit → Act → World → Prop) (S : World → Prop) : List Oper → Act → World → Prop
  | [], a, w => Q .normal a w
  | o :: rest, a, w => if Region.wanted o (yielded ops a.tmps) then o.wp P a w (fun a' w' => S w' ∧ wpListS P ops Q S rest a' w') Q ∨ (o.asks P a w ∧ LetsOut Q) else S w ∧ wpListS P ops Q S rest (a.put o.dst undef) w

theorem quiet_value {P : Program} {S : World → Prop} {o : Oper} {a : Act} {w : World} {v : Value} (ho : valueOp o.op = true) (hw : S w) (h : Oper.quietUpon P S w v ((execOp a.eval o).run P w)) : (execOp a.eval o).run P w = .ok (.value v) w := by
  have key : ∀ n w', (execOp a.eval o).run P w = .ok n w' → ∃ u, n = .value u := by
    intro n w' hr
    obtain ⟨dst, op, type, pos, after, guard⟩ := o
    have hb : ∀ (b : Builtin) args at', b = .len ∨ b = .cap → op = .call ⟨.builtin b, args, at'⟩ → ∃ u, n = .value u := by
      rintro b args at' (rfl | rfl) rfl
      all_goals
        simp only [execOp, resolve, invoke, builtin, Sem.run_bind, Sem.run_pure, Result.andThen_ok] at hr
        exact value_of_and hr
    cases op
    all_goals try (simp only [valueOp] at ho; cases ho; done)
    case call c =>
      obtain ⟨callee, args, at'⟩ := c
      cases callee <;> simp [valueOp] at ho
      rename_i b
      cases b <;> simp at ho
      · exact hb _ _ _ (.inr rfl) rfl
      · exact hb _ _ _ (.inl rfl) rfl
    case move x => simp [execOp] at hr; exact ⟨_, hr.1.symm⟩
    case assign x => simp [execOp] at hr; exact ⟨_, hr.1.symm⟩
    case nilCheck x =>
      simp only [execOp] at hr
      split at hr
      · cases hr
      · cases hr
      · cases hr
      · split at hr
        · cases hr
        · simp only [Sem.run_bind] at hr
          rename_i t0 w0 _
          have hp : ∃ q, (program.run P w : Result Program) = .ok q w := ⟨P, rfl⟩
          obtain ⟨q, hq⟩ := hp
          rw [hq] at hr
          simp only [Result.andThen_ok] at hr
          cases hs : (nilAhead (q.types.size + Made.depth) t0 w0 _).run P w with
          | ok b w1 =>
            rw [hs] at hr
            simp only [Result.andThen_ok] at hr
            split at hr
            · cases hr
            · cases hr; exact ⟨_, rfl⟩
          | halt x w1 => rw [hs] at hr; cases hr
        · cases hr; exact ⟨_, rfl⟩
      · cases hr; exact ⟨_, rfl⟩
    all_goals (simp only [execOp, Sem.run_bind, Sem.run_pure] at hr; first | exact value_of_and hr | skip)
    case pick c x y =>
      cases hs : (asBool (a.eval c)).run P w with
      | ok v w1 => rw [hs] at hr; cases hr; exact ⟨_, rfl⟩
      | halt x w1 => rw [hs] at hr; cases hr
  generalize (execOp a.eval o).run P w = r at h key ⊢
  cases r with
  | ok n w' =>
    obtain ⟨u, rfl⟩ := key n w' rfl
    obtain ⟨rfl, rfl⟩ := h
    rfl
  | halt x w' => exact h.elim

section
variable {P : Program} {ops : Array Oper} {Q : Exit → Act → World → Prop} {S : World → Prop}

theorem heldHead_spec {i : Nat} (h : heldHeadOk ops i = true) : ∃ o, ops[i]? = some o ∧ valueOp o.op = true := by
  unfold heldHeadOk at h
  split at h
  · rename_i o ho; exact ⟨o, ho, h⟩
  · cases h

theorem held_wp (hs : Region.noSelect ops = true) (hQ : ∀ c a d v w, Q (.panic c) (a.put d v) w → Q (.panic c) a w) : ∀ (head tail : List Nat) (listed : Array Bool) (a : Act) (w : World), S w → heldB ops head tail listed = true →
    wpQuiet P ops S (fun a' => wpListS P ops Q S (tail.filterMap (ops[·]?)) a' w) (head.filterMap (ops[·]?)) a → wpAnyH P .any ops Q S (head.length + tail.length) listed a w
  | i :: hs', tail, listed, a, w, hw, hB, h => by
    simp only [heldB, Bool.and_eq_true] at hB
    obtain ⟨⟨⟨h1, h2⟩, h3⟩, h4⟩ := hB
    obtain ⟨o, ho, hv⟩ := heldHead_spec h3
    rw [List.filterMap_cons] at h
    simp only [ho] at h
    rw [List.length_cons, show hs'.length + 1 + tail.length = hs'.length + tail.length + 1 by omega]
    unfold wpQuiet at h
    split at h
    · rename_i hwn
      obtain ⟨v, hy, hn⟩ := h
      exact wpAnyH_take ho hs h2 h1 (fun c a w => hQ c a _ _ w) (.inl ⟨hwn, fun w' hw' => quiet_value hv hw' (hy w' hw')⟩) hw (held_wp hs hQ hs' tail _ _ w hw h4 hn)
    · rename_i hwn
      exact wpAnyH_take ho hs h2 h1 (fun c a w => hQ c a _ _ w) (.inr ⟨by simpa using hwn, rfl⟩) hw (held_wp hs hQ hs' tail _ _ w hw h4 h)
  | [], i :: tail, listed, a, w, hw, hB, h => by
    simp only [heldB, heldT, Bool.and_eq_true, decide_eq_true_eq] at hB
    have h : wpListS P ops Q S ((i :: tail).filterMap (ops[·]?)) a w := h
    rw [List.length_cons, List.length_nil, show 0 + (tail.length + 1) = 0 + tail.length + 1 by omega]
    refine wpAnyH_all hB.1 (by simp) ?_
    intro k hk
    have hk : k = i := by simpa using hk
    subst hk
    rw [List.filterMap_cons] at h
    cases ho : ops[k]? with
    | none =>
      have : k ∈ Region.ready .any ops listed := by rw [hB.1]; simp
      obtain ⟨_, o, ho', _⟩ := mem_ready.1 this
      rw [ho] at ho'; cases ho'
    | some o =>
      simp only [ho] at h
      have go : ∀ a' w', S w' ∧ wpListS P ops Q S (tail.filterMap (ops[·]?)) a' w' → S w' ∧ wpAnyH P .any ops Q S (0 + tail.length) (listed.setIfInBounds k true) a' w' := fun a' w' ⟨h1, h2⟩ =>
        ⟨h1, by have := held_wp hs hQ [] tail _ a' w' h1 hB.2 h2; simpa using this⟩
      unfold wpListS at h
      unfold wpOp
      simp only [ho]
      split
      · rename_i hw'; rw [if_pos hw'] at h; exact h.imp (Oper.wp_mono go) id
      · rename_i hw'; rw [if_neg hw'] at h; exact go _ _ h
  | [], [], listed, a, w, hw, hB, h => by
    have hr : Region.ready .any ops listed = [] := by simpa [heldB, heldT] using hB
    exact ⟨hr, h⟩

theorem quiet_mono' {K K' : Act → Prop} (h : ∀ a, K a → K' a) : ∀ (l : List Oper) (a : Act), wpQuiet P ops S K l a → wpQuiet P ops S K' l a
  | [], a, hq => h a hq
  | o :: l, a, hq => by
    unfold wpQuiet at hq ⊢
    split at hq
    · rename_i hw; rw [if_pos hw]; obtain ⟨v, h1, h2⟩ := hq; exact ⟨v, h1, quiet_mono' h l _ h2⟩
    · rename_i hw; rw [if_neg hw]; exact quiet_mono' h l _ hq

/-- The tail's operations store into the cells D, or only compute. -/
def tailOk (P : Program) (D : List (Nat × Nat)) : List Oper → Act → Prop
  | [], _ => True
  | o :: r, a => o.guard = none ∧ ((o.dst = none ∧ (∃ t x v b off, o.op = .store t x v ∧ a.eval x = .pointer (some ⟨b, off, none⟩) ∧ ∀ i, i < (a.eval v).cells.size → (b, off + i) ∈ D) ∧ tailOk P D r a) ∨
      ∃ v, (∀ w, (execOp a.eval o).run P w = .ok (.value v) w) ∧ tailOk P D r (a.put o.dst v))

/-- The worlds that differ in these cells alone. -/
def Near (D : List (Nat × Nat)) (w w' : World) : Prop := (∀ b off, (b, off) ∉ D → w'.cell? ⟨b, off, none⟩ = w.cell? ⟨b, off, none⟩) ∧ ∀ p ∈ D, (w'.cell? ⟨p.1, p.2, none⟩).isSome = true

theorem cell_set {w : World} {b off b' off' : Nat} {v : Value} : (w.setCell ⟨b, off, none⟩ v).cell? ⟨b', off', none⟩ = if b = b' ∧ off = off' ∧ (w.cell? ⟨b, off, none⟩).isSome = true then some v else w.cell? ⟨b', off', none⟩ := by
  unfold World.cell? World.setCell
  simp only [Array.getElem?_modify, Option.isSome_none, Bool.false_eq_true, if_false]
  by_cases hb : b = b'
  · subst hb
    simp only [if_true, true_and]
    cases h : w.heap[b]? with
    | none => simp
    | some o =>
      cases o <;> simp
      rename_i c e fz
      rw [Array.getElem?_setIfInBounds]
      by_cases ho : off = off'
      · subst ho
        by_cases hl : off < c.size <;> simp [hl]
      · simp [ho]
  · simp only [if_neg hb]
    simp [hb]

theorem Near.set {D : List (Nat × Nat)} {w0 w : World} {b off : Nat} {v : Value} (h : Near D w0 w) (hb : (b, off) ∈ D) : Near D w0 (w.setCell ⟨b, off, none⟩ v) := by
  refine ⟨fun b' off' hn => ?_, fun p hp => ?_⟩
  · rw [cell_set, if_neg, h.1 b' off' hn]
    rintro ⟨rfl, rfl, _⟩; exact hn hb
  · rw [cell_set]
    split
    · rfl
    · exact h.2 p hp

theorem near_store {D : List (Nat × Nat)} {w0 : World} {b off : Nat} : ∀ (l : List Value) (i : Nat) (w : World) (r : Result Unit), Near D w0 w → (∀ j, j < l.length → (b, off + i + j) ∈ D) → (storeCells ⟨b, off, none⟩ l i).run P w = r →
    (∃ u w', r = .ok u w' ∧ Near D w0 w') ∨ ∃ z w', r = .halt z w' ∧ ∀ u, z ≠ .panic u
  | [], i, w, r, hN, _, h => by
    simp [storeCells] at h
    exact .inl ⟨_, _, h.symm, hN⟩
  | v :: l, i, w, r, hN, hD, h => by
    simp only [storeCells, Sem.run_bind] at h
    have e1 : (⟨b, off, none⟩ : Addr).add i = ⟨b, off + i, none⟩ := by unfold Addr.add; split <;> simp_all
    rw [e1] at h
    have hmem : (b, off + i) ∈ D := by simpa using hD 0 (by simp)
    obtain ⟨u0, hcell⟩ := Option.isSome_iff_exists.1 (hN.2 _ hmem)
    have hrun : (∃ z w1, (store ⟨b, off + i, none⟩ v).run P w = .halt z w1 ∧ ∀ u, z ≠ .panic u) ∨ (store ⟨b, off + i, none⟩ v).run P w = .ok () (w.setCell ⟨b, off + i, none⟩ v) := by
      unfold store
      cases v <;> simp only [Sem.run, hcell] <;> first
        | (left; exact ⟨_, _, rfl, by simp⟩)
        | (split
           · left; exact ⟨_, _, rfl, by simp⟩
           · right; rfl)
    rcases hrun with ⟨z, w1, h1, h2⟩ | h1
    · rw [h1] at h
      exact .inr ⟨z, w1, h.symm, h2⟩
    · rw [h1] at h
      simp only [Result.andThen_ok] at h
      exact near_store l (i + 1) _ r (hN.set hmem) (fun j hj => by
        have := hD (j + 1) (by simpa using hj)
        rwa [show off + i + (j + 1) = off + (i + 1) + j by omega] at this) h

theorem storeAt_inv {b off : Nat} {t : TypeId} {v : Value} {w : World} {r : Result Unit} (hs : (Instr.storeAt t (.pointer (some ⟨b, off, none⟩)) v).run P w = r) :
    r = (storeCells ⟨b, off, none⟩ v.cells.toList).run P w ∨ ∃ z, r = .halt z w ∧ ∀ u, z ≠ .panic u := by
  subst hs
  cases hi : P.info? t with
  | none => right; exact ⟨_, by simp [Instr.storeAt, Instr.sureAddr, storeVar, sizeOf, typeInfo, hi]; rfl, by simp⟩
  | some i =>
    by_cases hc : v.cells.size = i.size
    · left; simp [Instr.storeAt, Instr.sureAddr, storeVar, sizeOf, typeInfo, hi, hc]
    · right; exact ⟨_, by simp [Instr.storeAt, Instr.sureAddr, storeVar, sizeOf, typeInfo, hi, hc]; rfl, by simp⟩

theorem near_storeAt {D : List (Nat × Nat)} {w0 w : World} {b off : Nat} {t : TypeId} {v : Value} (hN : Near D w0 w) (hD : ∀ i, i < v.cells.size → (b, off + i) ∈ D) {r : Result Unit} (hs : (Instr.storeAt t (.pointer (some ⟨b, off, none⟩)) v).run P w = r) :
    (∃ u w', r = .ok u w' ∧ Near D w0 w') ∨ ∃ z w', r = .halt z w' ∧ ∀ u, z ≠ .panic u := by
  rcases storeAt_inv hs with h | ⟨z, h, h2⟩
  · exact near_store _ 0 _ _ hN (fun j hj => by simpa using hD j (by simpa using hj)) h.symm
  · exact .inr ⟨z, w, h, h2⟩

theorem listS_of_list {D : List (Nat × Nat)} {w0 : World} : ∀ (l : List Oper) (a : Act) (w : World), Near D w0 w → tailOk P D l a → wpList P ops Q l a w → wpListS P ops (NoPanic Q) (Near D w0) l a w
  | [], a, w, hw, _, h => NoPanic.normal h
  | o :: l, a, w, hw, hT, h => by
    unfold tailOk at hT
    obtain ⟨hg, hT⟩ := hT
    have hwn : Region.wanted o (yielded ops a.tmps) = true := by simp [Region.wanted, hg]
    unfold wpList at h
    unfold wpListS
    rw [if_pos hwn] at h ⊢
    refine h.imp (fun h => ?_) (fun h => ⟨h.1, ?_⟩)
    rotate_left
    · obtain ⟨a1, w1, h1⟩ := h.2; exact ⟨a1, w1, h1⟩
    rcases hT with ⟨hd, ⟨t, x, v, b, off, hop, hx, hb⟩, hl⟩ | ⟨v, hv, hl⟩
    · obtain ⟨dst, op, type, pos, after, guard⟩ := o
      simp only at hd hop
      subst hd hop
      unfold Oper.wp at h ⊢
      simp only [execOp, hx, Sem.run_bind, Sem.run_pure] at h ⊢
      rcases near_storeAt (P := P) (t := t) hw hb rfl with ⟨u, w', hr, hN⟩ | ⟨z, w', hr, hz⟩
      · rw [hr] at h ⊢
        simp only [Result.andThen_ok, Oper.upon] at h ⊢
        exact ⟨hN, listS_of_list l _ w' hN hl h⟩
      · rw [hr] at h ⊢
        simp only [Result.andThen_halt, Oper.upon] at h ⊢
        cases z <;> first
          | exact h
          | exact absurd rfl (hz _)
    · unfold Oper.wp at h ⊢
      rw [hv w] at h ⊢
      simp only [Oper.upon] at h ⊢
      exact ⟨hw, listS_of_list l _ w hw hl h⟩
end

section
variable {P : Program} {fn : Func} {R : Ending → World → Prop} {js : List J} {st : St}

/-- What an operation that asks nothing of the world comes to. -/
def semVal (P : Program) : Nat → Sem Next → Option Value
  | 0, _ => none
  | f + 1, s => match s with
    | .pure nx => match nx with
      | .value v => some v
      | _ => none
    | .program k => semVal P f (k P)
    | .mark _ k => semVal P f k
    | _ => none

theorem semVal_run {v : Value} {w : World} : ∀ (f : Nat) (s : Sem Next), semVal P f s = some v → s.run P w = .ok (.value v) w
  | 0, _, h => by cases h
  | f + 1, s, h => by
    unfold semVal at h
    split at h
    · split at h <;> cases h
      rfl
    · rename_i k
      have := semVal_run (w := w) f _ h
      simpa [Sem.run] using this
    · rename_i k
      have := semVal_run (w := w) f _ h
      simpa [Sem.run] using this
    · cases h

def tailRun (P : Program) (n : Nat) : Fr → List Oper → Option (List (Value × Value))
  | _, [] => some []
  | fr, o :: r => match o.guard with
    | some _ => none
    | none => match o.op with
      | .store _ x v => match o.dst with
        | some _ => none
        | none => match (entOf fr x).get, (entOf fr v).get, tailRun P n fr r with
          | some p, some u, some l => some ((p, u) :: l)
          | _, _, _ => none
      | _ => match isSelect o.op, allP fr o.op.operands.toList with
        | false, true => match semVal P 50 (execOp (evT fr) o) with
          | some v => match putE n fr o.dst (.val v) with
            | some fr' => tailRun P n fr' r
            | none => none
          | none => none
        | _, _ => none

/-- A tail's store: a place, a value; its cells are of D. -/
def InD (D : List (Nat × Nat)) (p : Value × Value) : Prop := ∃ b off, p.1 = .pointer (some ⟨b, off, none⟩) ∧ ∀ i, i < p.2.cells.size → (b, off + i) ∈ D

theorem inD1 {D : List (Nat × Nat)} {b off : Nat} {v : Value} (hv : plainV v = true) (h : (b, off) ∈ D) : InD D (.pointer (some ⟨b, off, none⟩), v) :=
  ⟨b, off, rfl, fun i hi => by
    have : v.cells.size = 1 := by cases v <;> first | rfl | cases hv
    have hi : i < v.cells.size := hi
    obtain rfl : i = 0 := by omega
    exact h⟩

def allSome (w : World) : List (Nat × Nat) → Prop
  | [] => True
  | p :: r => (w.cell? ⟨p.1, p.2, none⟩).isSome = true ∧ allSome w r

theorem allSome_spec {w : World} : ∀ {D : List (Nat × Nat)}, allSome w D → ∀ p ∈ D, (w.cell? ⟨p.1, p.2, none⟩).isSome = true
  | _ :: _, h, p, hp => by
    rcases List.mem_cons.1 hp with rfl | hp
    · exact h.1
    · exact allSome_spec h.2 p hp

def allIn (D : List (Nat × Nat)) : List (Value × Value) → Prop
  | [] => True
  | p :: r => InD D p ∧ allIn D r

theorem allIn_spec {D : List (Nat × Nat)} : ∀ {l : List (Value × Value)}, allIn D l → ∀ p ∈ l, InD D p
  | _ :: _, h, p, hp => by
    rcases List.mem_cons.1 hp with rfl | hp
    · exact h.1
    · exact allIn_spec h.2 p hp

theorem tailRun_spec {D : List (Nat × Nat)} {n : Nat} : ∀ (l : List Oper) (fr : Fr) (a : Act), Agree n fr a → ∀ (ps : List (Value × Value)), tailRun P n fr l = some ps → allIn D ps → tailOk P D l a
  | [], _, _, _, _, _, _ => trivial
  | o :: l, fr, a, ha, ps, h, hp => by
    unfold tailRun at h
    split at h
    · cases h
    · rename_i hg
      refine ⟨hg, ?_⟩
      split at h
      · rename_i t x v hop
        split at h
        · cases h
        · rename_i hd
          split at h
          · rename_i p u l' h1 h2 h3
            cases h
            obtain ⟨b, off, h4, h5⟩ := hp.1
            exact .inl ⟨hd, ⟨t, x, v, b, off, hop, by rw [ha.eval h1]; exact h4, by rw [ha.eval h2]; exact h5⟩, tailRun_spec l fr a ha l' h3 hp.2⟩
          · cases h
      · split at h
        · rename_i hs hq
          split at h
          · rename_i v hv
            split at h
            · rename_i fr' hf
              refine .inr ⟨v, fun w => ?_, tailRun_spec l fr' _ (ha.put hf rfl) ps h hp⟩
              rw [execOp_evT ha hs hq]
              exact semVal_run 50 _ hv
            · cases h
          · cases h
        · cases h

def reorder (st : St) (head tail : List Nat) : St :=
  match st.todo with
  | .code (.region _ ops true) :: k => ⟨k, ops, head.filterMap (ops[·]?) ++ tail.filterMap (ops[·]?), st.fr, head.length, .idle⟩
  | _ => bad st

def nxdh (P : Program) (fn : Func) (st : St) (head tail : List Nat) : St := advQ P fn.ntmps fn.results 5000 (reorder st head tail)

def ch (P : Program) (T : List (Nat × Nat)) (w0 : World) : Cls := ⟨Near T w0, (· = w0), tailOk P T⟩

theorem filterMap_len {ops : Array Oper} : ∀ {head : List Nat} {tail : List Nat} {listed : Array Bool}, heldB ops head tail listed = true → (head.filterMap (ops[·]?)).length = head.length
  | [], _, _, _ => rfl
  | i :: hs, tail, listed, h => by
    simp only [heldB, Bool.and_eq_true] at h
    obtain ⟨o, ho, _⟩ := heldHead_spec h.1.2
    rw [List.filterMap_cons]
    simp only [ho, List.length_cons, filterMap_len h.2]

/-- A region that draws its order: its reads ('head'), in an order that may be taken first; then its stores ('tail'), into the cells T. -/
theorem s_drawH {w : World} (T : List (Nat × Nat)) (id : Nat) (head tail : List Nat) (hr : req st = .draw id) (hfol : P.follows .mixedOrders = true)
    (hT : allSome w.drew T)
    (hB : (drawOps st).map (fun ops => Region.noSelect ops && Nat.beq (head.length + tail.length) ops.size && heldB ops head tail (Array.replicate ops.size false)) = some true)
    (k : GQ P fn R js (ch P T w.drew) (nxdh P fn st head tail)) : G P fn R js st w := by
  obtain ⟨hc, hro, ops, kk, ht⟩ := req_draw hr
  have k := GQ_advQ _ k
  refine ⟨fun a hd ha => ?_⟩
  unfold Gd
  rw [hc, hro]
  refine cont_nil.2 ?_
  rw [ht]
  simp only [drawOps, ht, Option.map_some, Option.some.injEq, Bool.and_eq_true] at hB
  obtain ⟨⟨hns, hlen⟩, hB⟩ := hB
  have hlen : head.length + tail.length = ops.size := Nat.eq_of_beq_eq_true hlen
  unfold reorder at k
  rw [ht] at k
  have k2 := k.idle rfl hd ha
  simp only [contQ, ch] at k2
  have hl := filterMap_len hB
  rw [← hl, List.take_left, List.drop_left] at k2
  show (Code.region id ops true).wp P (KQ P (bodyPost P fn R) js kk) a w
  have hN : Near T w.drew w.drew := ⟨fun _ _ _ => rfl, allSome_spec hT⟩
  refine wp_region_noPanic (wp_region_held (S := Near T w.drew) hfol ?_)
  have hq : wpQuiet P ops (Near T w.drew) (fun a' => wpListS P ops (NoPanic (KQ P (bodyPost P fn R) js kk)) (Near T w.drew) (tail.filterMap (ops[·]?)) a' w.drew) (head.filterMap (ops[·]?)) a :=
    quiet_mono' (fun a' h => listS_of_list _ _ _ hN h.1 (h.2 _ rfl)) _ _ k2
  have := held_wp (Q := NoPanic (KQ P (bodyPost P fn R) js kk)) hns (fun c a d v w h => h.elim) head tail _ a w.drew hN hB hq
  rw [hlen] at this
  exact this

/-- The head's end: the tail's stores, looked up. -/
theorem q_endH {T : List (Nat × Nat)} {w0 : World} (ps : List (Value × Value)) (hm : st.m = 0) (hp : tailRun P fn.ntmps st.fr st.rops = some ps) (hT : allIn T ps) (k : G P fn R js (nxe P fn st) w0) : GQ P fn R js (ch P T w0) st :=
  q_endG hm (fun _ ha => tailRun_spec _ _ _ ha _ hp hT) (fun w hw => by cases hw; exact k)
end
end Go.XM
