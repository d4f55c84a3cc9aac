/-
  The soundness of the X machine: what it computes is what the model's code does.
-/
import Derived.Test.YtfknpeajihecdaaXObase
import Derived.Laws.Sem
import Derived.Tactics
namespace Go.XO

abbrev J := Act → World → Prop

def KQ (P : Program) (Qf : Exit → Act → World → Prop) (js : List J) : List XI → Exit → Act → World → Prop
  | [] => Qf
  | .code c :: k => Exit.then (c.wp P (KQ P Qf js k)) (KQ P Qf js k)
  | .blk id :: k => Exit.inBlock id (KQ P Qf js k)
  | .lp d :: k => Exit.then (js.getD d (fun _ _ => False)) (KQ P Qf js k)

def cont (P : Program) (ops : Array Oper) (Q : Exit → Act → World → Prop) (m : Nat) (rops : List Oper) (a : Act) (w : World) : Prop :=
  wpStill P ops w (fun a' => wpList P ops Q (rops.drop m) a' w) (rops.take m) a

def opW (P : Program) (ops : Array Oper) (Q : Exit → Act → World → Prop) (m : Nat) (rest : List Oper) (o : Oper) (a : Act) (w : World) (r : Result Next) : Prop :=
  match m with
  | 0 => o.upon P a (cont P ops Q 0 rest) Q r
  | m' + 1 => o.stillUpon P a w (fun a' => cont P ops Q m' rest a' w) r

theorem cont_cons {P : Program} {ops : Array Oper} {Q : Exit → Act → World → Prop} {m : Nat} {o : Oper} {rest : List Oper} {a : Act} {w : World}
    (h : if Region.wanted o (yielded ops a.tmps) then opW P ops Q m rest o a w ((execOp a.eval o).run P w) else cont P ops Q (m - 1) rest (a.put o.dst undef) w) :
    cont P ops Q m (o :: rest) a w := by
  cases m with
  | zero =>
    show wpList P ops Q (o :: rest) a w
    unfold wpList
    split
    · rename_i hw; rw [if_pos hw] at h; exact .inl h
    · rename_i hw; rw [if_neg hw] at h; exact h
  | succ m =>
    show wpStill P ops w _ (o :: rest.take m) a
    unfold wpStill
    split
    · rename_i hw; rw [if_pos hw] at h; exact h
    · rename_i hw; rw [if_neg hw] at h; exact h

theorem cont_nil {P : Program} {ops : Array Oper} {Q : Exit → Act → World → Prop} {m : Nat} {a : Act} {w : World} : cont P ops Q m [] a w ↔ Q .normal a w := by
  unfold cont
  simp [wpStill, wpList]

theorem opW_value {P : Program} {ops : Array Oper} {Q : Exit → Act → World → Prop} {m : Nat} {o : Oper} {rest : List Oper} {a : Act} {w : World} {v : Value}
    (h : cont P ops Q (m - 1) rest (a.put o.dst v) w) : opW P ops Q m rest o a w (.ok (.value v) w) := by
  cases m with
  | zero => exact h
  | succ m => exact ⟨rfl, h⟩

theorem opW_skip {P : Program} {ops : Array Oper} {Q : Exit → Act → World → Prop} {m : Nat} {o : Oper} {rest : List Oper} {a : Act} {w : World}
    (h : cont P ops Q (m - 1) rest (a.put o.dst undef) w) : opW P ops Q m rest o a w (.ok .skip w) := by
  cases m with
  | zero => exact h
  | succ m => exact ⟨rfl, h⟩

section
variable (P : Program) (fn : Func) (R : Ending → World → Prop) (js : List J)

def Qd : List XI → Exit → Act → World → Prop := KQ P (bodyPost P fn R) js

def Gd (st : St) (a : Act) (w : World) : Prop :=
  match st.cur with
  | .idle => cont P st.ops (Qd P fn R js st.todo) st.m st.rops a w
  | .op o => opW P st.ops (Qd P fn R js st.todo) st.m st.rops o a w ((execOp (evT st.fr) o).run P w)
  | .sem s o => opW P st.ops (Qd P fn R js st.todo) st.m st.rops o a w (s.run P w)
  | .gtest b s want o => a.tmps[s]? = some (.bool b) →
      if b == want then opW P st.ops (Qd P fn R js st.todo) st.m st.rops o a w ((execOp a.eval o).run P w)
      else cont P st.ops (Qd P fn R js st.todo) (st.m - 1) st.rops (a.put o.dst undef) w
  | .test b t e => (if b then t else e).wp P (Qd P fn R js st.todo) a w
  | .fin s => ∃ v, s.run P w = .ok v w ∧ R (.returned v) w
  | .bad => False

structure G (st : St) (w : World) : Prop where
  out : ∀ a : Act, a.defers = [] → Agree fn.ntmps st.fr a → Gd P fn R js st a w
end

section
variable {P : Program} {fn : Func} {R : Ending → World → Prop} {js : List J} {st : St} {w : World}

theorem G_finish {o : Oper} {e : Ent} {v : Value} (he : e.get = some v) (h : G P fn R js (finish fn.ntmps st o e) w) {a : Act} (hd : a.defers = []) (ha : Agree fn.ntmps st.fr a) :
    cont P st.ops (Qd P fn R js st.todo) (st.m - 1) st.rops (a.put o.dst v) w := by
  unfold finish at h
  split at h
  · rename_i fr' hp
    have := h.out (a.put o.dst v) (by cases o.dst <;> exact hd) (ha.put hp he)
    exact this
  · exact (h.out a hd ha).elim

theorem G_finishV {o : Oper} {v : Value} (h : G P fn R js (finishV fn.ntmps st o v) w) {a : Act} (hd : a.defers = []) (ha : Agree fn.ntmps st.fr a) :
    cont P st.ops (Qd P fn R js st.todo) (st.m - 1) st.rops (a.put o.dst v) w := by
  rw [finishV_eq] at h
  exact G_finish rfl h hd ha

theorem G_copyE {o : Oper} {x : Operand} (h : G P fn R js (copyE fn.ntmps st o (entOf st.fr x)) w) {a : Act} (hd : a.defers = []) (ha : Agree fn.ntmps st.fr a) :
    cont P st.ops (Qd P fn R js st.todo) (st.m - 1) st.rops (a.put o.dst (a.eval x)) w := by
  unfold copyE at h
  cases hx : entOf st.fr x with
  | none => rw [hx] at h; exact (h.out a hd ha).elim
  | val v =>
    rw [hx] at h
    rw [ha.eval (x := x) (v := v) (by rw [hx]; rfl)]
    exact G_finish rfl h hd ha
  | dec b =>
    rw [hx] at h
    rw [ha.eval (x := x) (v := .bool b) (by rw [hx]; rfl)]
    exact G_finish rfl h hd ha

theorem allP_spec {fr : Fr} : ∀ {l : List Operand}, allP fr l = true → ∀ x ∈ l, ((entOf fr x).get).isSome = true
  | [], _, x, hx => by cases hx
  | y :: l, h, x, hx => by
    unfold allP at h
    split at h
    · rename_i hp
      rcases List.mem_cons.1 hx with rfl | hx
      · unfold present at hp
        split at hp
        · cases hp
        · rename_i h1
          cases he : entOf fr x with
          | none => exact (h1 he).elim
          | val v => rfl
          | dec b => rfl
      · exact allP_spec h x hx
    · cases h

theorem execOp_evT {fr : Fr} {n : Nat} {a : Act} (ha : Agree n fr a) {o : Oper} (hs : isSelect o.op = false) (hp : allP fr o.op.operands.toList = true) : execOp a.eval o = execOp (evT fr) o :=
  execOp_congr o (fun cs b hc => by rw [hc] at hs; cases hs) fun x hx => ha.evT (allP_spec hp x (by simpa using hx))

theorem G_goOp {o : Oper} (h : G P fn R js (goOp st o) w) {a : Act} (hd : a.defers = []) (ha : Agree fn.ntmps st.fr a) :
    opW P st.ops (Qd P fn R js st.todo) st.m st.rops o a w ((execOp a.eval o).run P w) := by
  unfold goOp at h
  split at h
  · rename_i hs hp
    rw [execOp_evT ha hs hp]
    split at h <;> exact h.out a hd ha
  · exact (h.out a hd ha).elim

theorem G_runOp {o : Oper} (h : G P fn R js (runOp fn.ntmps st o) w) {a : Act} (hd : a.defers = []) (ha : Agree fn.ntmps st.fr a) :
    opW P st.ops (Qd P fn R js st.todo) st.m st.rops o a w ((execOp a.eval o).run P w) := by
  obtain ⟨dst, op, type, pos, after, guard⟩ := o
  unfold runOp at h
  split at h
  · rename_i x hop
    simp only at hop; subst hop
    exact opW_value (o := ⟨dst, .move x, type, pos, after, guard⟩) (G_copyE h hd ha)
  · rename_i x hop
    simp only at hop; subst hop
    exact opW_value (o := ⟨dst, .assign x, type, pos, after, guard⟩) (G_copyE h hd ha)
  · rename_i c x y hop
    simp only at hop; subst hop
    split at h
    · rename_i hc
      have he : a.eval c = .bool true := ha.eval (by rw [hc]; rfl)
      have hr : (execOp a.eval ⟨dst, .pick c x y, type, pos, after, guard⟩).run P w = .ok (.value (a.eval x)) w := by
        simp [execOp, he, asBool, Sem.run_pure]
      rw [hr]
      exact opW_value (o := ⟨dst, .pick c x y, type, pos, after, guard⟩) (G_copyE h hd ha)
    · rename_i hc
      have he : a.eval c = .bool false := ha.eval (by rw [hc]; rfl)
      have hr : (execOp a.eval ⟨dst, .pick c x y, type, pos, after, guard⟩).run P w = .ok (.value (a.eval y)) w := by
        simp [execOp, he, asBool, Sem.run_pure]
      rw [hr]
      exact opW_value (o := ⟨dst, .pick c x y, type, pos, after, guard⟩) (G_copyE h hd ha)
    · exact G_goOp h hd ha
  · rename_i t x hop
    simp only at hop; subst hop
    split at h
    · rename_i b hb
      have he : a.eval x = .bool b := ha.eval (by rw [hb]; rfl)
      have hr : (execOp a.eval ⟨dst, .unOp .not t x, type, pos, after, guard⟩).run P w = .ok (.value (.bool (!b))) w := by
        simp [execOp, he, Op.unary, Sem.run_pure]
      rw [hr]
      exact opW_value (o := ⟨dst, .unOp .not t x, type, pos, after, guard⟩) (G_finish rfl h hd ha)
    · exact G_goOp h hd ha
  · exact G_goOp h hd ha

theorem yielded_of {ops : Array Oper} {a : Act} {j s : Nat} {b : Bool} (hj : (ops[j]?).bind (·.dst) = some s) (hs : a.tmps[s]? = some (.bool b)) : yielded ops a.tmps j = some b := by
  unfold yielded
  rw [hj]
  simp [hs]

theorem yielded_none {ops : Array Oper} {a : Act} {j s : Nat} {l : Array Value} (hj : (ops[j]?).bind (·.dst) = some s) (hs : a.tmps[s]? = some (.tuple l)) : yielded ops a.tmps j = none := by
  unfold yielded
  rw [hj]
  simp [hs]

theorem G_bop {o : Oper} {rest : List Oper} (hr : st.rops = o :: rest) (hc : st.cur = .idle) (h : G P fn R js (bop st o rest fn.ntmps) w) : G P fn R js st w := by
  refine ⟨fun a hd ha => ?_⟩
  unfold Gd
  rw [hc, hr]
  refine cont_cons ?_
  unfold bop at h
  split at h
  · rename_i hg
    rw [if_pos (by simp [Region.wanted, hg])]
    exact G_runOp h hd ha
  · rename_i j want hg
    split at h
    · rename_i s hj
      split at h
      · rename_i b hb
        have hs : a.tmps[s]? = some (.bool b) := ha.2 s _ (by rw [hb]; rfl)
        have hy := yielded_of hj hs
        split at h
        · rename_i hbw
          rw [if_pos (by simpa [Region.wanted, hg, hy] using hbw)]
          exact G_runOp h hd ha
        · rename_i hbw
          rw [if_neg (by simpa [Region.wanted, hg, hy] using hbw)]
          exact G_finish rfl h hd ha
      · rename_i b hb
        have hs : a.tmps[s]? = some (.bool b) := ha.2 s _ (by rw [hb]; rfl)
        have hy := yielded_of hj hs
        have h1 := h.out a hd ha hs
        by_cases hbw : (b == want) = true
        · rw [if_pos (by simpa [Region.wanted, hg, hy] using hbw)]
          simp only [hbw, if_true] at h1
          exact h1
        · rw [if_neg (by simpa [Region.wanted, hg, hy] using hbw)]
          simp only [hbw] at h1
          exact h1
      · rename_i l hl
        have hy := yielded_none hj (ha.2 s _ (by rw [hl]; rfl))
        rw [if_neg (by simp [Region.wanted, hg, hy])]
        exact G_finish rfl h hd ha
      · exact (h.out a hd ha).elim
    · exact (h.out a hd ha).elim

theorem KQ_ret {Qf : Exit → Act → World → Prop} {a : Act} {w : World} (h : Qf .ret a w) : ∀ k, KQ P Qf js k .ret a w
  | [] => h
  | .code _ :: k => KQ_ret h k
  | .blk _ :: k => KQ_ret h k
  | .lp _ :: k => KQ_ret h k

theorem KQ_exit {Qf : Exit → Act → World → Prop} {a : Act} {w : World} {id : Nat} : ∀ {k k' : List XI}, popTo id k = some k' → KQ P Qf js k' .normal a w → KQ P Qf js k (.exit id) a w
  | [], _, hp, _ => by cases hp
  | .code _ :: k, _, hp, h => KQ_exit (k := k) hp h
  | .lp _ :: k, _, hp, h => KQ_exit (k := k) hp h
  | .blk i :: k, k', hp, h => by
    unfold popTo at hp
    split at hp
    · rename_i hi
      have : i = id := Nat.eq_of_beq_eq_true hi
      cases hp
      show Exit.inBlock i _ _ _ _
      simp only [Exit.inBlock]
      rw [if_pos this.symm]
      exact h
    · rename_i hi
      have : i ≠ id := Nat.ne_of_beq_eq_false hi
      show Exit.inBlock i _ _ _ _
      simp only [Exit.inBlock]
      rw [if_neg (fun e => this e.symm)]
      exact KQ_exit (k := k) hp h

theorem list_mapM_congr {α β : Type} {f g : α → Sem β} : ∀ {l : List α}, (∀ x ∈ l, f x = g x) → l.mapM f = l.mapM g
  | [], _ => rfl
  | x :: l, h => by
    rw [List.mapM_cons, List.mapM_cons, h x (by simp), list_mapM_congr (l := l) fun y hy => h y (by simp [hy])]

theorem results_resF {a : Act} {fr : Fr} {n : Nat} (ha : Agree n fr a) (hp : resPresent fn.results fr = true) : results fn a.tmps = resF fn.results fr := by
  unfold results resF
  have hm : fn.results.mapM (m := Sem) (fun | .tmp t => pure (a.tmps.getD t undef) | .cell s t => do loadVar t (← asAddr (a.tmps.getD s undef))) =
      fn.results.mapM (m := Sem) (fun | .tmp t => pure (evT fr (.tmp t)) | .cell s t => do loadVar t (← asAddr (evT fr (.tmp s)))) := by
    rw [Array.mapM_eq_mapM_toList, Array.mapM_eq_mapM_toList]
    congr 1
    refine list_mapM_congr fun x hx => ?_
    have hx' := List.all_eq_true.1 hp x hx
    cases x with
    | tmp t => 
      have := ha.evT (x := .tmp t) (allP_spec (l := [.tmp t]) (by unfold allP; simp only at hx'; rw [hx']; rfl) _ (by simp))
      simp only [Act.eval] at this
      simp only [this]
    | cell s t =>
      have := ha.evT (x := .tmp s) (allP_spec (l := [.tmp s]) (by unfold allP; simp only at hx'; rw [hx']; rfl) _ (by simp))
      simp only [Act.eval] at this
      simp only [this]
  exact congrArg (fun s : Sem (Array Value) => s >>= fun vs => (pure (if h : vs.size = 1 then vs[0] else .tuple vs) : Sem Value)) hm

theorem G_fin {todo : List XI} {ops : Array Oper} {rops : List Oper} {m : Nat} (h : G P fn R js (startFin fn.results ⟨todo, ops, rops, st.fr, m, .idle⟩) w) {a : Act} (hd : a.defers = []) (ha : Agree fn.ntmps st.fr a) :
    a.defers = [] ∧ ∃ v, (results fn a.tmps).run P w = .ok v w ∧ R (.returned v) w := by
  unfold startFin at h
  split at h
  · rename_i hp
    rw [results_resF ha hp]
    exact ⟨hd, h.out a hd ha⟩
  · exact (h.out a hd ha).elim

theorem G_bcode {c : Code} {k : List XI} {st' : St} (ht : st.todo = .code c :: k) (hr : st.rops = []) (hc : st.cur = .idle) (hb : bcode fn.results st c k = some st') (h : G P fn R js st' w) : G P fn R js st w := by
  refine ⟨fun a hd ha => ?_⟩
  unfold Gd
  rw [hc, hr]
  refine cont_nil.2 ?_
  rw [ht]
  show c.wp P (Qd P fn R js k) a w
  unfold bcode at hb
  split at hb
  · cases hb; exact wp_skip (cont_nil.1 (h.out a hd ha))
  · cases hb; exact wp_seq (cont_nil.1 (h.out a hd ha))
  · cases hb; exact wp_block (cont_nil.1 (h.out a hd ha))
  · split at hb
    · rename_i k' hp
      cases hb
      exact wp_exit (KQ_exit hp (cont_nil.1 (h.out a hd ha)))
    · cases hb
  · rename_i c' t e
    split at hb
    · rename_i hx
      cases hb
      exact wp_cond_true (ha.eval (by rw [hx]; rfl)) (cont_nil.1 (h.out a hd ha))
    · rename_i hx
      cases hb
      exact wp_cond_false (ha.eval (by rw [hx]; rfl)) (cont_nil.1 (h.out a hd ha))
    · rename_i b hx
      cases hb
      exact wp_cond (ha.eval (by rw [hx]; rfl)) (h.out a hd ha)
    · cases hb
  · rename_i id ops
    cases hb
    refine wp_region_list ?_
    exact h.out a hd ha
  · cases hb
    exact wp_ret (KQ_ret (G_fin h hd ha) k)
  · cases hb

theorem G_adv1 {st' : St} (hs : adv1 P fn.ntmps fn.results st = some st') (h : G P fn R js st' w) : G P fn R js st w := by
  unfold adv1 at hs
  split at hs
  · rename_i s o hc
    split at hs
    · rename_i nx
      split at hs
      · cases hs
        refine ⟨fun a hd ha => ?_⟩
        unfold Gd; rw [hc]
        exact opW_value (G_finishV h hd ha)
      · cases hs
        refine ⟨fun a hd ha => ?_⟩
        unfold Gd; rw [hc]
        exact opW_skip (G_finish rfl h hd ha)
      · cases hs
    · cases hs
      refine ⟨fun a hd ha => ?_⟩
      unfold Gd; rw [hc]
      exact h.out a hd ha
    · cases hs
      refine ⟨fun a hd ha => ?_⟩
      unfold Gd; rw [hc]
      exact h.out a hd ha
    · cases hs
  · rename_i s hc
    split at hs
    · cases hs
      refine ⟨fun a hd ha => ?_⟩
      unfold Gd; rw [hc]
      exact h.out a hd ha
    · cases hs
      refine ⟨fun a hd ha => ?_⟩
      unfold Gd; rw [hc]
      exact h.out a hd ha
    · cases hs
  · rename_i hc
    split at hs
    · rename_i o rest hr
      cases hs
      exact G_bop hr hc h
    · rename_i hr
      split at hs
      · rename_i ht
        cases hs
        refine ⟨fun a hd ha => ?_⟩
        unfold Gd; rw [hc, hr]
        refine cont_nil.2 ?_
        rw [ht]
        exact G_fin h hd ha
      · rename_i id k ht
        cases hs
        refine ⟨fun a hd ha => ?_⟩
        unfold Gd; rw [hc, hr]
        refine cont_nil.2 ?_
        rw [ht]
        show Qd P fn R js k .normal a w
        exact cont_nil.1 (h.out a hd ha)
      · cases hs
      · rename_i c k ht
        exact G_bcode ht hr hc hs h
  · cases hs

theorem G_adv : ∀ (f : Nat) {st : St}, G P fn R js (adv P fn.ntmps fn.results f st) w → G P fn R js st w
  | 0, _, h => h
  | f + 1, st, h => by
    unfold adv at h
    split at h
    · rename_i st' hs
      exact G_adv1 hs (G_adv f h)
    · exact h

end
end Go.XO
