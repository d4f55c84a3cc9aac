/-
  The X machine: structs compared.
-/
import Derived.Test.YtfknpeajihecdaaXOstr
import Derived.Laws.StructEq
namespace Go.XO

def partV (P : Program) (t : TypeId) (cs : Array Value) (off : Nat) : Option Value :=
  match P.underlying t with
  | some (.struct _) => some (.agg (cs.extract off (off + P.cellsOf t)))
  | some (.array ..) => none
  | some _ => cs[off]?
  | none => none

/-- Two values of a plain type compared, and two rows of fields: what comes out. -/
def eqP (P : Program) : Nat → (TypeId → Value → Value → Option Bool) × (List Field → Array Value → Array Value → Option Bool)
  | 0 => (fun _ _ _ => none, fun _ _ _ => none)
  | d + 1 => (fun t x y =>
      match P.underlying t, x, y with
      | some .bool, .bool a, .bool b => some (a == b)
      | some (.int _), .int k a, .int k' b => if k = k' then some (a == b) else none
      | some .string, .string a, .string b => some (a.toList == b.toList)
      | some (.struct fs), .agg xs, .agg ys => if P.stoodInHeld t then none else (eqP P d).2 fs.toList xs ys
      | _, _, _ => none,
    fun fs xs ys =>
      match fs with
      | [] => some true
      | f :: r =>
        if f.name = "_" then (eqP P d).2 r xs ys else
        match partV P f.type xs f.offset, partV P f.type ys f.offset with
        | some a, some b => match (eqP P d).1 f.type a b, (eqP P d).2 r xs ys with
          | some e, some rest => some (e && rest)
          | _, _ => none
        | _, _ => none)

def eqT (P : Program) (d : Nat) : TypeId → Value → Value → Option Bool := (eqP P d).1

theorem run_part {P : Program} {w : World} {t : TypeId} {cs : Array Value} {off : Nat} {v : Value} (h : partV P t cs off = some v) : (part t cs off).run P w = .ok v w := by
  unfold partV at h
  split at h
  · rename_i fs hu
    cases h
    obtain ⟨i, hi⟩ : ∃ i, P.info? t = some i := by
      unfold Program.underlying at hu
      cases hi : P.info? t with
      | none => rw [hi] at hu; cases hu
      | some i => exact ⟨i, rfl⟩
    simp [part, isAgg, run_underlying hu, sizeOf, typeInfo, hi, Program.cellsOf]
  · cases h
  · rename_i d h1 h2 hu
    simp only [part, isAgg, Sem.run_bind, run_underlying hu, Result.andThen_ok]
    cases d <;> first | (exact absurd rfl (h1 _)) | (exact absurd rfl (h2 _ _)) | (simp [h])
  · cases h

theorem eqT_run {P : Program} {w : World} : ∀ (d : Nat), (∀ t x y b, (eqP P d).1 t x y = some b → ∀ D, d ≤ D → (Op.equalIn D t x y).run P w = .ok b w) ∧
    (∀ fs xs ys b, (eqP P d).2 fs xs ys = some b → ∀ D, d ≤ D → (Op.eqFields D xs ys fs).run P w = .ok b w) := by
  intro d
  induction d with
  | zero => exact ⟨fun t x y b h => (by cases h), fun fs xs ys b h => (by cases h)⟩
  | succ d ih =>
    refine ⟨fun t x y b h D hD => ?_, fun fs xs ys b h D hD => ?_⟩
    · obtain ⟨D, rfl⟩ : ∃ k, D = k + 1 := ⟨D - 1, by omega⟩
      simp only [eqP] at h
      split at h
      · rename_i a c hu; cases h; exact run_equalIn_bool' w D t a c hu
      · rename_i k' k a k2 c hu
        split at h
        · rename_i hk; cases h; subst hk; exact run_equalIn_int w D t k k' a c hu
        · cases h
      · rename_i a c hu; cases h; exact run_equalIn_string w D t a c hu
      · rename_i fs xs ys hu
        split at h
        · cases h
        · rename_i hst
          have hf : P.fieldsOf t = fs := by simp [Program.fieldsOf, hu]
          rw [run_equalIn_agg w D t xs ys (by rw [hf]; exact hu) (by simpa using hst), hf]
          exact ih.2 fs.toList xs ys b h D (by omega)
      · cases h
    · cases fs with
      | nil =>
        simp only [eqP] at h; cases h
        simp [Op.eqFields]
      | cons f r =>
        simp only [eqP] at h
        split at h
        · rename_i hn
          simp only [Op.eqFields, hn]
          simpa using ih.2 r xs ys b h D (by omega)
        · rename_i hn
          split at h
          · rename_i a c ha hc
            split at h
            · rename_i e rest he hr
              cases h
              have h1 := ih.1 _ _ _ _ he D (by omega)
              have h2 := ih.2 _ _ _ _ hr D (by omega)
              cases e
              · simp [Op.eqFields, hn, run_part (P := P) ha, run_part (P := P) hc, h1]
              · simp [Op.eqFields, hn, run_part (P := P) ha, run_part (P := P) hc, h1, h2]
            · cases h
          · cases h

section
variable {P : Program} {fn : Func} {f : FuncId} {w : World} {R : Ending → World → Prop} {js : List J} {st : St} {C : World → Prop}

theorem run_eqlV {op : BinOp} (hop : op = .eql ∨ op = .neq) {fr : Fr} {o : Oper} {t : TypeId} {xs ys : Array Value} {b : Bool} (h : reqOp fr o = .bin op t (.agg xs) (.agg ys)) (hg : P.eqGuardType P.depth t = false)
    (he : eqT P 100 t (.agg xs) (.agg ys) = some b) (w : World) : (execOp (evT fr) o).run P w = .ok (.value (.bool (if op = .eql then b else !b))) w := by
  obtain ⟨dst, opx, type, pos, after, guard⟩ := o
  cases opx <;> simp only [reqOp] at h <;> first | cases h | skip
  case call c => split at h <;> (try split at h) <;> cases h
  case binOp op' t' x y yt =>
    simp only [Req.bin.injEq] at h
    obtain ⟨rfl, rfl, hx, hy⟩ := h
    have h1 := (eqT_run (P := P) (w := w) 100).1 _ _ _ _ he 10000 (by omega)
    rcases hop with rfl | rfl
    · simp [execOp, hx, hy, run_eqGuard_agg (P := P) w .eql t' x y xs ys hg, run_eql_struct (P := P), h1]
    · simp [execOp, hx, hy, run_eqGuard_agg (P := P) w .neq t' x y xs ys hg, run_neq_struct (P := P), h1]

theorem op_of_bin {op : BinOp} {t : TypeId} {x y : Value} (hr : req st = .bin op t x y) : ∃ o, st.cur = .op o ∧ reqOp st.fr o = .bin op t x y := by
  rcases req_sem_or hr (by simp) (by simp) (by simp) (by simp) (by simp) with ⟨s', o, hc⟩ | ⟨s', hc⟩ | h
  · unfold req at hr; rw [hc] at hr; simp only at hr; split at hr <;> cases hr
  · unfold req at hr; rw [hc] at hr; simp only at hr; split at hr <;> cases hr
  · exact h

/-- x == y of structs. -/
theorem x_eql {t : TypeId} {xs ys : Array Value} {b : Bool} (hr : req st = .bin .eql t (.agg xs) (.agg ys)) (hg : P.eqGuardType P.depth t = false) (he : eqT P 100 t (.agg xs) (.agg ys) = some b)
    (k : G P fn R js (nx P fn st (.v (.bool b))) w) : G P fn R js st w := by
  obtain ⟨o, hc, ho⟩ := op_of_bin hr
  have k := of_nx k
  refine ⟨fun a hd ha => ?_⟩
  unfold Gd
  rw [hc]
  unfold ans at k
  rw [hc] at k
  simp only
  rw [run_eqlV (.inl rfl) ho hg he w]
  exact opW_value (G_finishV k hd ha)

/-- x != y of structs. -/
theorem x_neq {t : TypeId} {xs ys : Array Value} {b : Bool} (hr : req st = .bin .neq t (.agg xs) (.agg ys)) (hg : P.eqGuardType P.depth t = false) (he : eqT P 100 t (.agg xs) (.agg ys) = some b)
    (k : G P fn R js (nx P fn st (.v (.bool (!b)))) w) : G P fn R js st w := by
  obtain ⟨o, hc, ho⟩ := op_of_bin hr
  have k := of_nx k
  refine ⟨fun a hd ha => ?_⟩
  unfold Gd
  rw [hc]
  unfold ans at k
  rw [hc] at k
  simp only
  rw [run_eqlV (.inr rfl) ho hg he w]
  exact opW_value (G_finishV k hd ha)

end
end Go.XO
