/-
  The X machine's step laws, second part: operations with a law of their own, calls, loops, drawn orders.
-/
import Derived.Test.YtfknpeajihecdaaXMsteps
import Derived.Deep.LoopGhost
namespace Go.XM

def valSem : Req → Option (Sem Value)
  | .idx t x i => some (Instr.indexAt t x i)
  | .index t x i => some (Instr.index t x i)
  | .slice t x lo hi mx => some (Instr.sliceAt t x lo hi mx)
  | .makeSlice t l c => some (Instr.makeSlice t l c)
  | .bin op t x y => match op with
    | .eql => none
    | .neq => none
    | op => some (binOp op t x y)
  | .conv s d x => some (convert s d x)
  | .bi b at' ty args => match b with
    | .append => some (Builtin.append_ at' ty args)
    | .copy => some (Builtin.copy_ at' ty args)
    | .min => some (Builtin.min_ at' ty args)
    | .max => some (Builtin.max_ at' ty args)
    | .clear => some (Builtin.clear_ at' ty args)
    | _ => none
  | _ => none

def callableB (P : Program) (f : FuncId) : Bool :=
  match P.funcs[f]? with
  | some fn => !(fn.name == "runtime.NumGoroutine") && !fn.body.isNone
  | none => false

theorem run_eqGuard_free {P : Program} {op : BinOp} {t : TypeId} {x y : Operand} {a b : Value} (w : World) (h1 : op ≠ .eql) (h2 : op ≠ .neq) : (eqGuard op t x y a b).run P w = .ok () w := by
  unfold eqGuard
  cases op <;> first | rfl | exact absurd rfl h1 | exact absurd rfl h2

theorem run_special {P : Program} {fr : Fr} {o : Oper} {r : Req} {s : Sem Value} (h : reqOp fr o = r) (hs : valSem r = some s) (w : World) :
    (execOp (evT fr) o).run P w = (s.run P w).andThen fun v w' => .ok (.value v) w' := by
  obtain ⟨dst, op, type, pos, after, guard⟩ := o
  subst h
  cases op <;> simp only [reqOp, valSem] at hs <;> first | cases hs | skip
  case binOp op t x y yt =>
    have h1 : op ≠ .eql := fun e => by subst e; simp at hs
    have h2 : op ≠ .neq := fun e => by subst e; simp at hs
    have hs' : some (binOp op t (evT fr x) (evT fr y)) = some s := by
      revert hs; cases op <;> first | exact id | exact absurd rfl h1 | exact absurd rfl h2
    cases hs'
    simp [execOp, run_eqGuard_free w h1 h2]
  case call c =>
    obtain ⟨callee, args, at'⟩ := c
    cases callee with
    | value f =>
      simp only at hs
      have hv : ∀ x : Value, valSem (match x with | .func (.func g) first cap => .call g (first ++ argsOf fr args ++ cap) | _ => .bad) = none := by
        intro x; split <;> rfl
      have h2 : none = some s := (hv (evT fr f)).symm.trans hs
      cases h2
    | invoke r m => simp at hs
    | builtin b =>
      simp only at hs
      cases b <;> simp at hs <;> subst hs <;> simp [execOp, resolve, invoke, builtin, argsOf]
  all_goals simp [execOp]

theorem run_call {P : Program} {fr : Fr} {o : Oper} {f : FuncId} {args : Array Value} (h : reqOp fr o = .call f args) (hc : callableB P f = true) (w : World) :
    (execOp (evT fr) o).run P w = .ok (.enter f args) w := by
  obtain ⟨dst, op, type, pos, after, guard⟩ := o
  cases op <;> simp only [reqOp] at h <;> first | cases h | skip
  case call c =>
    obtain ⟨callee, cargs, at'⟩ := c
    cases callee with
    | invoke r m => simp at h
    | builtin b => simp at h
    | value g =>
      simp only at h
      split at h
      · rename_i g' first cap hg
        cases h
        unfold callableB at hc
        split at hc
        · rename_i fn hfn
          simp at hc
          obtain ⟨h1, h2⟩ := hc
          have h3 : fn.body ≠ none := by intro e; rw [e] at h2; cases h2
          simp [execOp, resolve, hg, Deferred.ofValue, invoke, callFunc, program, Sem.run, hfn, h1, h3, argsOf, Array.append_assoc]
        · cases hc
      · cases h

section
variable {P : Program} {fn : Func} {f : FuncId} {w : World} {R : Ending → World → Prop} {js : List J} {st : St}

theorem op_of_req {r : Req} {s : Sem Value} (hr : req st = r) (hs : valSem r = some s) : ∃ o, st.cur = .op o ∧ reqOp st.fr o = r := by
  have h : (∃ s o, st.cur = .sem s o) ∨ (∃ s, st.cur = .fin s) ∨ (∃ o, st.cur = .op o ∧ reqOp st.fr o = r) := by
    refine req_sem_or hr ?_ ?_ ?_ ?_ ?_ <;> (intros; intro e; subst e; simp [valSem] at hs)
  rcases h with ⟨s', o, hc⟩ | ⟨s', hc⟩ | h
  · unfold req at hr; rw [hc] at hr; simp only at hr; split at hr <;> (subst hr; simp [valSem] at hs)
  · unfold req at hr; rw [hc] at hr; simp only at hr; split at hr <;> (subst hr; simp [valSem] at hs)
  · exact h

/-- An operation met by a law: what its run comes to. -/
theorem s_op {r : Req} {s : Sem Value} {v : Value} {w' : World} (hr : req st = r) (hs : valSem r = some s) (hrun : s.run P w = .ok v w') (hm : st.m = 0 ∨ w' = w)
    (k : G P fn R js (nx P fn st (.v v)) w') : G P fn R js st w := by
  obtain ⟨o, hc, ho⟩ := op_of_req hr hs
  have k := of_nx k
  refine ⟨fun a hd ha => ?_⟩
  unfold Gd
  rw [hc]
  unfold ans at k
  rw [hc] at k
  have hx := run_special (P := P) ho hs w
  rw [hrun] at hx
  simp only [Result.andThen_ok] at hx
  simp only
  rw [hx]
  have k2 := G_finishV k hd ha
  rcases hm with hm | hm
  · rw [hm] at k2 ⊢; exact k2
  · subst hm; exact opW_value k2

/-- An operation that leaves the world alone. -/
theorem s_val {r : Req} {s : Sem Value} {v : Value} (hr : req st = r) (hs : valSem r = some s) (hrun : s.run P w = .ok v w)
    (k : G P fn R js (nx P fn st (.v v)) w) : G P fn R js st w := s_op hr hs hrun (.inr rfl) k

theorem call_of_req {args : Array Value} (hr : req st = .call f args) : ∃ o, st.cur = .op o ∧ reqOp st.fr o = .call f args := by
  rcases req_sem_or hr (by simp) (by simp) (by simp) (by simp) (by simp) with ⟨s', o, hc⟩ | ⟨s', hc⟩ | h
  · unfold req at hr; rw [hc] at hr; simp only at hr; split at hr <;> cases hr
  · unfold req at hr; rw [hc] at hr; simp only at hr; split at hr <;> cases hr
  · exact h

/-- A call, by what is known of the callee. -/
theorem s_call {args : Array Value} {Rc : Value → World → Prop} (hr : req st = .call f args) (hm : st.m = 0) (hcl : callableB P f = true) (h : Ret P f args w Rc)
    (k : ∀ v w', Rc v w' → G P fn R js (nx P fn st (.v v)) w') : G P fn R js st w := by
  obtain ⟨o, hc, ho⟩ := call_of_req hr
  refine ⟨fun a hd ha => ?_⟩
  unfold Gd
  rw [hc]
  simp only
  rw [run_call ho hcl w, hm]
  refine Calls.mono h ?_
  rintro e w' ⟨v, rfl, hv⟩
  have k := of_nx (k v w' hv)
  unfold ans at k
  rw [hc] at k
  have k2 := G_finishV k hd ha
  rw [hm] at k2
  exact k2

/-- A call of a function that only computes: in every mode. -/
theorem s_callS {args : Array Value} {v : Value} (hr : req st = .call f args) (hcl : callableB P f = true) (h : Ret P f args w fun v' w' => v' = v ∧ w' = w)
    (k : G P fn R js (nx P fn st (.v v)) w) : G P fn R js st w := by
  obtain ⟨o, hc, ho⟩ := call_of_req hr
  refine ⟨fun a hd ha => ?_⟩
  unfold Gd
  rw [hc]
  simp only
  rw [run_call ho hcl w]
  have k := of_nx k
  unfold ans at k
  rw [hc] at k
  have k2 := G_finishV k hd ha
  cases hm : st.m with
  | zero =>
    rw [hm] at k2
    refine Calls.mono h ?_
    rintro e w' ⟨_, rfl, rfl, rfl⟩
    exact k2
  | succ m =>
    rw [hm] at k2
    refine ⟨rfl, v, Calls.mono h ?_, k2⟩
    rintro e w' ⟨_, rfl, rfl, rfl⟩
    exact ⟨rfl, rfl⟩

/-! Drawn orders. -/

def drawOps (st : St) : Option (Array Oper) :=
  match st.todo with
  | .code (.region _ ops true) :: _ => some ops
  | _ => none

def enterDraw (st : St) (m : Nat) : St :=
  match st.todo with
  | .code (.region _ ops true) :: k => ⟨k, ops, ops.toList, st.fr, m, .idle⟩
  | _ => bad st

def nxd (P : Program) (fn : Func) (st : St) (m : Nat) : St := adv P fn.ntmps fn.results 5000 (enterDraw st m)

theorem req_draw {id : Nat} (hr : req st = .draw id) : st.cur = .idle ∧ st.rops = [] ∧ ∃ ops k, st.todo = .code (.region id ops true) :: k := by
  unfold req at hr
  split at hr
  · split at hr <;> cases hr
  · rcases reqOp_not hr with h | h | h | h | h | h | h | h | h <;> simp at h
  · cases hr
  · cases hr
  · split at hr <;> cases hr
  · rename_i hc
    split at hr
    · rename_i hro
      split at hr <;> cases hr
      rename_i ops k ht
      exact ⟨hc, hro, ops, k, ht⟩
    · cases hr
  · cases hr

/-- A region that draws its order and only reads: all m operations of it are still. -/
theorem s_draw (id m : Nat) (hr : req st = .draw id) (hfol : P.follows .mixedOrders = true) (hB : (drawOps st).map (fun ops => Region.lexB .any ops && decide (ops.size = m)) = some true)
    (k : G P fn R js (nxd P fn st m) w.drew) : G P fn R js st w := by
  obtain ⟨hc, hro, ops, kk, ht⟩ := req_draw hr
  have k : G P fn R js (enterDraw st m) w.drew := G_adv _ k
  refine ⟨fun a hd ha => ?_⟩
  unfold Gd
  rw [hc, hro]
  refine cont_nil.2 ?_
  rw [ht]
  simp only [drawOps, ht, Option.map_some, Option.some.injEq, Bool.and_eq_true, decide_eq_true_eq] at hB
  refine wp_region_still hfol hB.1 ?_
  unfold enterDraw at k
  rw [ht] at k
  have k2 := k.out a hd ha
  simp only [Gd] at k2
  unfold cont at k2
  rw [List.take_of_length_le (by simp [hB.2]), List.drop_of_length_le (by simp [hB.2])] at k2
  exact k2

/-- A region that draws its order: m operations that only read, then a tail whose order is forced. -/
theorem s_drawT (id m : Nat) (hr : req st = .draw id) (hfol : P.follows .mixedOrders = true) (hB : (drawOps st).map (fun ops => Region.lexTailB .any ops m) = some true)
    (k : G P fn R js (nxd P fn st m) w.drew) : G P fn R js st w := by
  obtain ⟨hc, hro, ops, kk, ht⟩ := req_draw hr
  have k : G P fn R js (enterDraw st m) w.drew := G_adv _ k
  refine ⟨fun a hd ha => ?_⟩
  unfold Gd
  rw [hc, hro]
  refine cont_nil.2 ?_
  rw [ht]
  simp only [drawOps, ht, Option.map_some, Option.some.injEq] at hB
  have h2 : (Code.region id ops.toList.toArray true).wp P (KQ P (bodyPost P fn R) js kk) a w := by
    refine wp_region_still_tail m hfol (by simpa using hB) ?_
    unfold enterDraw at k
    rw [ht] at k
    have k2 := k.out a hd ha
    simp only [Gd] at k2
    unfold cont at k2
    simpa [Qd] using k2
  show (Code.region id ops true).wp P (KQ P (bodyPost P fn R) js kk) a w
  simpa using h2

/-! Loops. -/

def wrOps : List Oper → List Nat
  | [] => []
  | o :: r => match o.dst with
    | some d => d :: wrOps r
    | none => wrOps r

def wr : Code → List Nat
  | .region _ ops _ => wrOps ops.toList
  | .seq a b => wr a ++ wr b
  | .cond _ t e => wr t ++ wr e
  | .block _ c => wr c
  | .loop c => wr c
  | .scope c => wr c
  | _ => []

def poison : List Nat → Fr → Fr
  | [], fr => fr
  | s :: r, fr => (s, .none) :: poison r fr

def setVals : List Nat → List Value → Fr → Fr
  | s :: r, v :: vs, fr => (s, .val v) :: setVals r vs fr
  | _, _, fr => fr

def enterFr (L : Fr) (wrs slots : List Nat) (vals : List Value) : Fr := setVals slots vals (poison wrs L)

def depth : List XI → Nat
  | [] => 0
  | .lp _ :: k => depth k + 1
  | _ :: k => depth k

def loopBody (st : St) : Option Code :=
  match st.todo with
  | .code (.loop body) :: _ => some body
  | _ => none

def loopWr (st : St) : List Nat :=
  match st.todo with
  | .code (.loop body) :: _ => wr body
  | _ => []

def enterLoop (st : St) (slots : List Nat) (vals : List Value) : St :=
  match st.todo with
  | .code (.loop body) :: k => ⟨.code body :: .lp (depth k) :: k, #[], [], enterFr st.fr (wr body) slots vals, 0, .idle⟩
  | _ => bad st

def nxl (P : Program) (fn : Func) (st : St) (slots : List Nat) (vals : List Value) : St := adv P fn.ntmps fn.results 5000 (enterLoop st slots vals)

def vals? (fr : Fr) (slots : List Nat) : List (Option Value) := slots.map fun s => (look fr s).get

def inB (l : List Nat) (t : Nat) : Bool :=
  match l with
  | [] => false
  | x :: r => match Nat.beq x t with
    | true => true
    | false => inB r t

def frNorm (wrs : List Nat) : Fr → Fr
  | [] => []
  | (t, e) :: r => match inB wrs t with
    | true => frNorm wrs r
    | false => (t, e) :: frNorm wrs r

def loopJ {γ : Type} (n : Nat) (L : Fr) (wrs slots : List Nat) (vals : γ → List Value) (I : γ → World → Prop) (μ : γ → Nat) (m : Nat) : J :=
  fun a w => a.defers = [] ∧ ∃ g, Agree n (enterFr L wrs slots (vals g)) a ∧ I g w ∧ μ g < m

theorem inB_true {l : List Nat} {t : Nat} : inB l t = true → t ∈ l := by
  induction l with
  | nil => intro h; cases h
  | cons x l ih =>
    intro h
    unfold inB at h
    split at h
    · rename_i hb
      have : x = t := Nat.eq_of_beq_eq_true hb
      subst this; simp
    · exact List.mem_cons_of_mem _ (ih h)

theorem inB_false {l : List Nat} {t : Nat} : inB l t = false → t ∉ l := by
  induction l with
  | nil => intro _ h; cases h
  | cons x l ih =>
    intro h hm
    unfold inB at h
    split at h
    · cases h
    · rename_i hb
      have : x ≠ t := Nat.ne_of_beq_eq_false hb
      rcases List.mem_cons.1 hm with rfl | hm
      · exact this rfl
      · exact ih h hm

theorem look_frNorm {wrs : List Nat} {t : Nat} (ht : inB wrs t = false) : ∀ fr : Fr, look (frNorm wrs fr) t = look fr t
  | [] => rfl
  | (k, e) :: r => by
    unfold frNorm
    split
    · rename_i hk
      rw [look_frNorm ht r]
      show _ = (match Nat.beq k t with | true => e | false => look r t)
      split
      · rename_i hb
        have : k = t := Nat.eq_of_beq_eq_true hb
        subst this
        rw [ht] at hk; cases hk
      · rfl
    · show (match Nat.beq k t with | true => e | false => look (frNorm wrs r) t) = (match Nat.beq k t with | true => e | false => look r t)
      rw [look_frNorm ht r]

theorem look_poison {t : Nat} : ∀ (l : List Nat) (fr : Fr) (v : Value), (look (poison l fr) t).get = some v → inB l t = false ∧ (look fr t).get = some v
  | [], _, _, h => ⟨rfl, h⟩
  | s :: r, fr, v, h => by
    unfold poison look at h
    unfold inB
    split at h
    · cases h
    · rename_i hb
      simp only [hb]
      exact look_poison r fr v h

theorem look_setVals {t : Nat} : ∀ (slots : List Nat) (vals : List Value) (fr : Fr) (v : Value), (look (setVals slots vals fr) t).get = some v →
    (∃ i : Nat, slots[i]? = some t ∧ vals[i]? = some v) ∨ (look fr t).get = some v
  | [], vals, fr, v, h => by cases vals <;> exact .inr h
  | s :: r, [], fr, v, h => .inr h
  | s :: r, x :: xs, fr, v, h => by
    unfold setVals look at h
    split at h
    · rename_i hb
      have : s = t := Nat.eq_of_beq_eq_true hb
      subst this
      refine .inl ⟨0, rfl, ?_⟩
      simpa [Ent.get] using h
    · rcases look_setVals r xs fr v h with ⟨i, h1, h2⟩ | h
      · exact .inl ⟨i + 1, by simpa using h1, by simpa using h2⟩
      · exact .inr h

theorem vals_spec {fr : Fr} {slots : List Nat} {vals : List Value} (h : vals? fr slots = vals.map some) {i t : Nat} {v : Value} (hs : slots[i]? = some t) (hv : vals[i]? = some v) : (look fr t).get = some v := by
  have := congrArg (fun l : List (Option Value) => l[i]?) h
  simpa [vals?, hs, hv] using this

theorem enter_agree {n : Nat} {L fr : Fr} {wrs slots : List Nat} {vals : List Value} {a : Act} (ha : Agree n fr a) (hv : vals? fr slots = vals.map some) (hn : frNorm wrs fr = frNorm wrs L) : Agree n (enterFr L wrs slots vals) a := by
  refine ⟨ha.1, fun t v h => ?_⟩
  rcases look_setVals slots vals _ v h with ⟨i, h1, h2⟩ | h
  · exact ha.2 t v (vals_spec hv h1 h2)
  · obtain ⟨h1, h2⟩ := look_poison wrs L v h
    rw [← look_frNorm h1, ← hn, look_frNorm h1] at h2
    exact ha.2 t v h2

theorem req_loop (hr : req st = .loop) : st.cur = .idle ∧ st.rops = [] ∧ ∃ body k, st.todo = .code (.loop body) :: k := by
  unfold req at hr
  split at hr
  · split at hr <;> cases hr
  · rcases reqOp_not hr with h | h | h | h | h | h | h | h | h <;> simp at h
  · cases hr
  · cases hr
  · split at hr <;> cases hr
  · rename_i hc
    split at hr
    · rename_i hro
      split at hr <;> cases hr
      rename_i body k ht
      exact ⟨hc, hro, body, k, ht⟩
    · cases hr
  · cases hr

theorem req_again {d : Nat} (hr : req st = .again d) : st.cur = .idle ∧ st.rops = [] ∧ ∃ k, st.todo = .lp d :: k := by
  unfold req at hr
  split at hr
  · split at hr <;> cases hr
  · rcases reqOp_not hr with h | h | h | h | h | h | h | h | h <;> simp at h
  · cases hr
  · cases hr
  · split at hr <;> cases hr
  · rename_i hc
    split at hr
    · rename_i hro
      split at hr <;> cases hr
      rename_i k ht
      exact ⟨hc, hro, k, ht⟩
    · cases hr
  · cases hr

theorem KQ_js {P : Program} {Qf : Exit → Act → World → Prop} {js js' : List J} : ∀ (k : List XI), (∀ d, XI.lp d ∈ k → js.getD d (fun _ _ => False) = js'.getD d (fun _ _ => False)) → KQ P Qf js k = KQ P Qf js' k
  | [], _ => rfl
  | .code c :: k, h => by
    have := KQ_js (P := P) (Qf := Qf) k (fun d hd => h d (List.mem_cons_of_mem _ hd))
    simp only [KQ, this]
  | .blk id :: k, h => by
    have := KQ_js (P := P) (Qf := Qf) k (fun d hd => h d (List.mem_cons_of_mem _ hd))
    simp only [KQ, this]
  | .lp d :: k, h => by
    have := KQ_js (P := P) (Qf := Qf) k (fun d hd => h d (List.mem_cons_of_mem _ hd))
    simp only [KQ, this, h d (by simp)]

/-- The loops' depths in a stack: each below d. -/
def lpsBelow (d : Nat) : List XI → Bool
  | [] => true
  | .lp e :: k => match Nat.blt e d with
    | true => lpsBelow d k
    | false => false
  | _ :: k => lpsBelow d k

theorem lpsBelow_spec {d : Nat} : ∀ {k : List XI}, lpsBelow d k = true → ∀ e, XI.lp e ∈ k → e < d
  | [], _, e, h => by cases h
  | .code c :: k, hb, e, h => lpsBelow_spec (k := k) hb e (by rcases List.mem_cons.1 h with h | h; cases h; exact h)
  | .blk c :: k, hb, e, h => lpsBelow_spec (k := k) hb e (by rcases List.mem_cons.1 h with h | h; cases h; exact h)
  | .lp x :: k, hb, e, h => by
    unfold lpsBelow at hb
    split at hb
    · rename_i hx
      rcases List.mem_cons.1 h with h | h
      · cases h; simpa [Nat.blt_eq] using hx
      · exact lpsBelow_spec hb e h
    · cases hb

def loopOk (st : St) (d : Nat) : Bool :=
  match st.todo with
  | .code (.loop _) :: k => Nat.beq (depth k) d && lpsBelow d k
  | _ => false

/-- A loop: ghost state g, the slots' values, the invariant, the measure. 'd' is the loop's depth. -/
theorem s_loop {γ : Type} (d : Nat) (slots : List Nat) (vals : γ → List Value) (I : γ → World → Prop) (μ : γ → Nat) (g0 : γ) (raw : List Value)
    (hr : req st = .loop) (hok : loopOk st d = true) (hjs : js.length = d) (hv : vals? st.fr slots = raw.map some) (hraw : raw = vals g0) (h0 : I g0 w)
    (k : ∀ g w, I g w → G P fn R (js ++ [loopJ fn.ntmps st.fr (loopWr st) slots vals I μ (μ g)]) (nxl P fn st slots (vals g)) w) : G P fn R js st w := by
  obtain ⟨hc, hro, body, kk, ht⟩ := req_loop hr
  refine ⟨fun a hd ha => ?_⟩
  unfold Gd
  rw [hc, hro]
  refine cont_nil.2 ?_
  rw [ht]
  show (Code.loop body).wp P (Qd P fn R js kk) a w
  simp only [loopOk, ht, Bool.and_eq_true] at hok
  have hdep : depth kk = d := Nat.eq_of_beq_eq_true hok.1
  subst hraw
  have hw : loopWr st = wr body := by simp [loopWr, ht]
  refine wp_loop_ghost (fun n a w => a.defers = [] ∧ ∃ g, Agree fn.ntmps (enterFr st.fr (wr body) slots (vals g)) a ∧ I g w ∧ μ g = n) (μ g0) ⟨hd, g0, enter_agree ha hv rfl, h0, rfl⟩ ?_
  rintro n a1 w1 ⟨hd1, g, hag, hI, rfl⟩
  have k1 : G P fn R _ (enterLoop st slots (vals g)) w1 := G_adv _ (k g w1 hI)
  unfold enterLoop at k1
  rw [ht] at k1
  have k2 := cont_nil.1 (k1.out a1 hd1 hag)
  have k3 : body.wp P (Exit.then ((js ++ [loopJ fn.ntmps st.fr (loopWr st) slots vals I μ (μ g)]).getD (depth kk) (fun _ _ => False)) (KQ P (bodyPost P fn R) (js ++ [loopJ fn.ntmps st.fr (loopWr st) slots vals I μ (μ g)]) kk)) a1 w1 := k2
  have hj : (js ++ [loopJ fn.ntmps st.fr (loopWr st) slots vals I μ (μ g)]).getD (depth kk) (fun _ _ => False) = loopJ fn.ntmps st.fr (loopWr st) slots vals I μ (μ g) := by
    rw [hdep, ← hjs]; simp
  rw [hj, KQ_js (js' := js) kk (fun e he => by
    have := lpsBelow_spec hok.2 e he
    rw [← hjs] at this
    simp [List.getElem?_append_left this])] at k3
  refine wp_mono k3 ?_
  intro e a2 w2 hq
  cases e with
  | normal =>
    obtain ⟨h1, g', h2, h3, h4⟩ := hq
    rw [hw] at h2
    exact ⟨μ g', h4, h1, g', h2, h3, rfl⟩
  | exit id => exact hq
  | goto l => exact hq
  | ret => exact hq
  | panic ch => exact hq
  | outgrown => exact hq

/-- The round's end. -/
theorem s_again {γ : Type} (d : Nat) {L : Fr} {wrs slots : List Nat} {vals : γ → List Value} {I : γ → World → Prop} {μ : γ → Nat} {m : Nat} (g : γ) (raw : List Value)
    (hj : js.getD d (fun _ _ => False) = loopJ fn.ntmps L wrs slots vals I μ m) (hr : req st = .again d) (hv : vals? st.fr slots = raw.map some) (hn : frNorm wrs st.fr = frNorm wrs L)
    (hraw : raw = vals g) (hI : I g w) (hμ : μ g < m) : G P fn R js st w := by
  obtain ⟨hc, hro, kk, ht⟩ := req_again hr
  refine ⟨fun a hd ha => ?_⟩
  unfold Gd
  rw [hc, hro]
  refine cont_nil.2 ?_
  rw [ht]
  show js.getD d (fun _ _ => False) a w
  rw [hj]
  subst hraw
  exact ⟨hd, g, enter_agree ha hv hn, hI, hμ⟩

/-- Behind a loop: its entry is spent. -/
theorem s_out {l : List J} (d : Nat) (hjs : js.length = d) (hlp : lpsBelow d st.todo = true) (k : G P fn R js st w) : G P fn R (js ++ l) st w := by
  have hQ : Qd P fn R (js ++ l) st.todo = Qd P fn R js st.todo := KQ_js st.todo fun e he => by
    have := lpsBelow_spec hlp e he
    rw [← hjs] at this
    simp [List.getElem?_append_left this]
  refine ⟨fun a hd ha => ?_⟩
  have := k.out a hd ha
  unfold Gd at this ⊢
  rw [hQ]
  exact this

end
end Go.XM
