/-
  The X machine's step laws: what a proof over it is typed with.
-/
import Derived.Test.YtfknpeajihecdaaXMsound
import Derived.Laws.Entries
import Derived.Laws.World
namespace Go.XM

def plainV : Value → Bool
  | .agg _ => false
  | .tuple _ => false
  | _ => true

/-- A call that returns, and of what it returns. -/
def Ret (P : Program) (f : FuncId) (args : Array Value) (w : World) (R : Value → World → Prop) : Prop :=
  Calls P f args w fun e w' => ∃ v, e = .returned v ∧ R v w'

def RR (R : Value → World → Prop) : Ending → World → Prop := fun e w' => ∃ v, e = .returned v ∧ R v w'

theorem Ret.mono {P : Program} {f : FuncId} {args : Array Value} {w : World} {R R' : Value → World → Prop} (h : Ret P f args w R) (hr : ∀ v w', R v w' → R' v w') : Ret P f args w R' :=
  Calls.mono h fun _ _ ⟨v, he, hR⟩ => ⟨v, he, hr _ _ hR⟩

def startFr : Nat → List Value → Fr
  | _, [] => []
  | i, v :: r => (i, match v with
    | .bool b => .val (.bool b)
    | .int k x => .val (.int k x)
    | v => .val v) :: startFr (i + 1) r

def st0 (P : Program) (fn : Func) (args : List Value) : St :=
  adv P fn.ntmps fn.results 5000 ⟨[.code (fn.body.getD .skip)], #[], [], startFr 0 args, 0, .idle⟩

def nx (P : Program) (fn : Func) (st : St) (r : Rsp) : St := adv P fn.ntmps fn.results 5000 (ans fn.ntmps st r)

theorem look_startFr : ∀ (l : List Value) (i t : Nat) (v : Value), (look (startFr i l) t).get = some v → i ≤ t ∧ l[t - i]? = some v
  | [], _, _, _, h => by cases h
  | x :: l, i, t, v, h => by
    unfold startFr look at h
    split at h
    · rename_i hb
      have : i = t := Nat.eq_of_beq_eq_true hb
      subst this
      refine ⟨Nat.le_refl _, ?_⟩
      simp
      cases x <;> simpa [Ent.get] using h
    · rename_i hb
      have hne : i ≠ t := Nat.ne_of_beq_eq_false hb
      have ⟨h1, h2⟩ := look_startFr l (i + 1) t v h
      refine ⟨by omega, ?_⟩
      rw [show t - i = (t - (i + 1)) + 1 by omega]
      simpa using h2

section
variable {P : Program} {fn : Func} {f : FuncId} {w : World} {R : Value → World → Prop} {js : List J} {st : St}

theorem ret_of_G {args : List Value} (hf : P.funcs[f]? = some fn) (hb : fn.body.isSome = true) (hn : Nat.ble args.length fn.ntmps = true)
    (h : G P fn (RR R) [] (st0 P fn args) w) : Ret P f args.toArray w R := by
  have hn' : args.length ≤ fn.ntmps := Nat.le_of_ble_eq_true hn
  obtain ⟨c, hc⟩ := Option.isSome_iff_exists.1 hb
  unfold st0 at h
  rw [hc] at h
  refine calls_of_wp hf hc ?_
  have h1 := cont_nil.1 ((G_adv _ h).out { tmps := args.toArray ++ Array.replicate (fn.ntmps - args.toArray.size) undef, defers := [] } rfl ⟨by simp; omega, fun t v ht => by
    have ⟨_, h2⟩ := look_startFr args 0 t v ht
    have hl : t < args.length := (List.getElem?_eq_some_iff.1 h2).1
    simp only [Nat.sub_zero] at h2
    rw [Array.getElem?_append_left (by simpa using hl)]
    simpa using h2⟩)
  exact h1

theorem of_nx {r : Rsp} {R : Ending → World → Prop} (h : G P fn R js (nx P fn st r) w) : G P fn R js (ans fn.ntmps st r) w := G_adv _ h

variable {R : Ending → World → Prop}

theorem req_sem_or {st : St} {r : Req} (hr : req st = r) (h1 : ∀ b, r ≠ .test b) (h2 : r ≠ .loop) (h3 : ∀ d, r ≠ .again d) (h4 : ∀ d, r ≠ .draw d) (h5 : r ≠ .bad) :
    (∃ s o, st.cur = .sem s o) ∨ (∃ s, st.cur = .fin s) ∨ (∃ o, st.cur = .op o ∧ reqOp st.fr o = r) := by
  unfold req at hr
  split at hr
  · rename_i s o hc; exact .inl ⟨s, o, hc⟩
  · rename_i o hc; exact .inr (.inr ⟨o, hc, hr⟩)
  · exact absurd hr.symm (h1 _)
  · exact absurd hr.symm (h1 _)
  · rename_i s hc; exact .inr (.inl ⟨s, hc⟩)
  · repeat' split at hr
    all_goals first | exact absurd hr.symm h2 | exact absurd hr.symm (h3 _) | exact absurd hr.symm (h4 _) | exact absurd hr.symm h5
  · exact absurd hr.symm h5

theorem reqOp_not {fr : Fr} {o : Oper} {r : Req} (h : reqOp fr o = r) : (∃ t x i, r = .idx t x i) ∨ (∃ t x i, r = .index t x i) ∨ (∃ t x a b c, r = .slice t x a b c) ∨ (∃ t a b, r = .makeSlice t a b) ∨
    (∃ op t x y, r = .bin op t x y) ∨ (∃ s d x, r = .conv s d x) ∨ (∃ b at' ty args, r = .bi b at' ty args) ∨ (∃ f args, r = .call f args) ∨ r = .bad := by
  subst h
  unfold reqOp
  split <;> (try split) <;> (try split) <;> simp

theorem s_done {v : Value} {Rv : Value → World → Prop} (hr : req st = .done v) (h : Rv v w) : G P fn (RR Rv) js st w := by
  refine ⟨fun a hd ha => ?_⟩
  rcases req_sem_or hr (by simp) (by simp) (by simp) (by simp) (by simp) with ⟨s, o, hc⟩ | ⟨s, hc⟩ | ⟨o, hc, ho⟩
  · unfold req at hr
    rw [hc] at hr
    simp only at hr
    split at hr <;> cases hr
  · unfold req at hr
    rw [hc] at hr
    simp only at hr
    split at hr <;> cases hr
    unfold Gd
    rw [hc]
    exact ⟨_, rfl, _, rfl, h⟩
  · rcases reqOp_not ho with h | h | h | h | h | h | h | h | h <;> simp at h

theorem s_load {a : Addr} {v : Value} (hr : req st = .load a) (h : w.cell? a = some v) (k : G P fn R js (nx P fn st (.v v)) w) : G P fn R js st w := by
  have k := of_nx k
  rcases req_sem_or hr (by simp) (by simp) (by simp) (by simp) (by simp) with ⟨s, o, hc⟩ | ⟨s, hc⟩ | ⟨o, hc, ho⟩
  · unfold req at hr
    rw [hc] at hr
    simp only at hr
    split at hr <;> cases hr
    refine ⟨fun ac hd ha => ?_⟩
    have k := k.out ac (by exact hd) (by unfold ans; rw [hc]; exact ha)
    unfold Gd
    rw [hc]
    unfold ans at k
    rw [hc] at k
    simp only [Sem.run, h]
    exact k
  · unfold req at hr
    rw [hc] at hr
    simp only at hr
    split at hr <;> cases hr
    refine ⟨fun ac hd ha => ?_⟩
    have k := k.out ac (by exact hd) (by unfold ans; rw [hc]; exact ha)
    unfold Gd
    rw [hc]
    unfold ans at k
    rw [hc] at k
    simp only [Sem.run, h]
    exact k
  · rcases reqOp_not ho with h | h | h | h | h | h | h | h | h <;> simp at h

/-- A request of an operation in the middle: what it is, and how the machine goes on. -/
theorem s_mid {r : Rsp} {w' : World} {s : Sem Next} {o : Oper} {s' : Sem Next} (hc : st.cur = .sem s o) (ha : ans fn.ntmps st r = withCur st (.sem s' o)) (hrun : s.run P w = s'.run P w') (hm : st.m = 0 ∨ w' = w)
    (k : G P fn R js (nx P fn st r) w') : G P fn R js st w := by
  have k := of_nx k
  refine ⟨fun ac hd hag => ?_⟩
  rw [ha] at k
  have k := k.out ac hd hag
  unfold Gd at k ⊢
  rw [hc]
  unfold withCur at k
  simp only at k ⊢
  rw [hrun]
  rcases hm with hm | hm
  · rw [hm] at k ⊢; exact k
  · subst hm; exact k

theorem req_sem {st : St} {r : Req} (hr : req st = r) (h1 : ∀ b, r ≠ .test b) (h2 : r ≠ .loop) (h3 : ∀ d, r ≠ .again d) (h4 : ∀ d, r ≠ .draw d) (h5 : r ≠ .bad)
    (h6 : ∀ o, reqOp st.fr o ≠ r) (h7 : ∀ s, st.cur = .fin s → False) : ∃ s o, st.cur = .sem s o := by
  rcases req_sem_or hr h1 h2 h3 h4 h5 with h | ⟨s, h⟩ | ⟨o, h, ho⟩
  · exact h
  · exact (h7 s h).elim
  · exact (h6 o ho).elim

theorem not_fin {st : St} {r : Req} (hr : req st = r) (h1 : ∀ a, r ≠ .load a) (h2 : ∀ v, r ≠ .done v) (h3 : r ≠ .bad) : ∀ s, st.cur = .fin s → False := by
  intro s hc
  unfold req at hr
  rw [hc] at hr
  simp only at hr
  split at hr
  · exact absurd hr.symm (h1 _)
  · exact absurd hr.symm (h2 _)
  · exact absurd hr.symm h3

theorem not_op {fr : Fr} {r : Req} (h : match r with | .idx .. | .index .. | .slice .. | .makeSlice .. | .bin .. | .conv .. | .bi .. | .call .. | .bad => False | _ => True) : ∀ o, reqOp fr o ≠ r := by
  intro o ho
  rcases reqOp_not ho with ⟨_, _, _, rfl⟩ | ⟨_, _, _, rfl⟩ | ⟨_, _, _, _, _, rfl⟩ | ⟨_, _, _, rfl⟩ | ⟨_, _, _, _, rfl⟩ | ⟨_, _, _, rfl⟩ | ⟨_, _, _, _, rfl⟩ | ⟨_, _, rfl⟩ | rfl <;> exact h

theorem s_new {ob : Obj} (hr : req st = .new ob) (hm : st.m = 0) (k : G P fn R js (nx P fn st (.n w.heap.size)) (w.alloc ob)) : G P fn R js st w := by
  obtain ⟨s, o, hc⟩ := req_sem hr (by simp) (by simp) (by simp) (by simp) (by simp) (not_op trivial) (not_fin hr (by simp) (by simp) (by simp))
  unfold req at hr
  rw [hc] at hr
  simp only at hr
  split at hr <;> cases hr
  rename_i kk
  exact s_mid (s' := kk _) hc (by unfold ans; rw [hc]) rfl (.inl hm) k

theorem s_store {a : Addr} {v v0 : Value} (hr : req st = .store a v) (hm : st.m = 0) (h : w.cell? a = some v0) (hf : w.frozen? a = false) (hv : plainV v = true)
    (k : G P fn R js (nx P fn st .u) (w.setCell a v)) : G P fn R js st w := by
  obtain ⟨s, o, hc⟩ := req_sem hr (by simp) (by simp) (by simp) (by simp) (by simp) (not_op trivial) (not_fin hr (by simp) (by simp) (by simp))
  unfold req at hr
  rw [hc] at hr
  simp only at hr
  split at hr <;> cases hr
  rename_i md kk
  refine s_mid (s' := kk) hc (by unfold ans; rw [hc]) ?_ (.inl hm) k
  cases v <;> first | (simp [Sem.run, h, hf]; done) | exact absurd hv (by simp [plainV])

theorem s_choose {q : Question} (hr : req st = .choose q) (hm : st.m = 0) (hq : q.forced = false) (k : ∀ c, G P fn R js (nx P fn st (.n (q.cut c))) w.drew) : G P fn R js st w := by
  obtain ⟨s, o, hc⟩ := req_sem hr (by simp) (by simp) (by simp) (by simp) (by simp) (not_op trivial) (not_fin hr (by simp) (by simp) (by simp))
  unfold req at hr
  rw [hc] at hr
  simp only at hr
  split at hr <;> cases hr
  rename_i kk
  refine s_mid (s' := kk _) hc (by unfold ans; rw [hc]) ?_ (.inl hm) (k (w.tape w.drawn q))
  show (if q.forced then _ else _) = _
  rw [hq]
  rfl

theorem s_shape {r : Nat} {x : Option (TypeId × Nat)} (hr : req st = .shape r) (hx : w.shape? r = x) (k : G P fn R js (nx P fn st (.sh x)) w) : G P fn R js st w := by
  obtain ⟨s, o, hc⟩ := req_sem hr (by simp) (by simp) (by simp) (by simp) (by simp) (not_op trivial) (not_fin hr (by simp) (by simp) (by simp))
  unfold req at hr
  rw [hc] at hr
  simp only at hr
  split at hr <;> cases hr
  rename_i kk
  exact s_mid (s' := kk _) hc (by unfold ans; rw [hc]) (by simp [Sem.run, hx]) (.inr rfl) k

theorem s_frozen {ad : Addr} {x : Bool} (hr : req st = .frozen ad) (hx : w.frozen? ad = x) (k : G P fn R js (nx P fn st (.b x)) w) : G P fn R js st w := by
  obtain ⟨s, o, hc⟩ := req_sem hr (by simp) (by simp) (by simp) (by simp) (by simp) (not_op trivial) (not_fin hr (by simp) (by simp) (by simp))
  unfold req at hr
  rw [hc] at hr
  simp only at hr
  split at hr <;> cases hr
  rename_i kk
  exact s_mid (s' := kk _) hc (by unfold ans; rw [hc]) (by simp [Sem.run, hx]) (.inr rfl) k

theorem s_freeze {ad : Addr} {n : Nat} (hr : req st = .freeze ad n) (hm : st.m = 0) (k : G P fn R js (nx P fn st .u) (w.freeze ad n)) : G P fn R js st w := by
  obtain ⟨s, o, hc⟩ := req_sem hr (by simp) (by simp) (by simp) (by simp) (by simp) (not_op trivial) (not_fin hr (by simp) (by simp) (by simp))
  unfold req at hr
  rw [hc] at hr
  simp only at hr
  split at hr <;> cases hr
  rename_i kk
  exact s_mid (s' := kk) hc (by unfold ans; rw [hc]) (by simp [Sem.run]) (.inl hm) k

/-- A test: both ways. -/
theorem s_if {b : Bool} (hr : req st = .test b) (kt : b = true → G P fn R js (nx P fn st (.b true)) w) (kf : b = false → G P fn R js (nx P fn st (.b false)) w) : G P fn R js st w := by
  have key : G P fn R js (nx P fn st (.b b)) w := by cases b; exact kf rfl; exact kt rfl
  have k := of_nx key
  refine ⟨fun a hd ha => ?_⟩
  unfold req at hr
  split at hr
  · split at hr <;> cases hr
  · rename_i o hc; rcases reqOp_not hr with h | h | h | h | h | h | h | h | h <;> simp at h
  · rename_i b' s want o hc
    cases hr
    unfold Gd
    rw [hc]
    simp only
    intro hs
    unfold ans at k
    rw [hc] at k
    simp only at k
    split at k
    · rename_i hw
      rw [if_pos hw]
      exact G_runOp k hd (ha.dec' hs)
    · rename_i hw
      rw [if_neg (by simpa using hw)]
      exact G_finish rfl k hd (ha.dec' hs)
  · rename_i b' t e hc
    cases hr
    unfold Gd
    rw [hc]
    simp only
    unfold ans at k
    rw [hc] at k
    cases b
    · exact cont_nil.1 (by exact k.out a hd ha)
    · exact cont_nil.1 (by exact k.out a hd ha)
  · split at hr <;> cases hr
  · repeat' split at hr
    all_goals cases hr
  · cases hr

theorem s_ifT {b : Bool} (hr : req st = .test b) (hb : b = true) (k : G P fn R js (nx P fn st (.b true)) w) : G P fn R js st w := s_if hr (fun _ => k) (fun h => by rw [hb] at h; cases h)
theorem s_ifF {b : Bool} (hr : req st = .test b) (hb : b = false) (k : G P fn R js (nx P fn st (.b false)) w) : G P fn R js st w := s_if hr (fun h => by rw [hb] at h; cases h) (fun _ => k)

end
end Go.XM
