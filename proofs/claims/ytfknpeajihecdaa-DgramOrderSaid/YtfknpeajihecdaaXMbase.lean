/-
  The X machine: a small executor over the model's code that the kernel can run, and its soundness over the model's own rules.
-/
import Derived.StillTail
import Derived.KernelRfl
import Derived.Below
namespace Go.XM

inductive Ent where
  | none
  | val (v : Value)
  | dec (b : Bool)

def Ent.get : Ent → Option Value
  | .none => Option.none
  | .val v => some v
  | .dec b => some (.bool b)

abbrev Fr := List (Nat × Ent)

def look : Fr → Nat → Ent
  | [], _ => .none
  | (k, e) :: r, t => match Nat.beq k t with
    | true => e
    | false => look r t

def entOf (fr : Fr) : Operand → Ent
  | .tmp t => look fr t
  | .const v => match v with
    | .bool b => .dec b
    | v => .val v
  | .global g => .val (.pointer (some ⟨g, 0, Option.none⟩))
  | .func f => .val (.func (.func f) #[] #[])

def evT (fr : Fr) (x : Operand) : Value := ((entOf fr x).get).getD undef

def Agree (n : Nat) (fr : Fr) (a : Act) : Prop := a.tmps.size = n ∧ ∀ t v, (look fr t).get = some v → a.tmps[t]? = some v

theorem Agree.eval {n : Nat} {fr : Fr} {a : Act} (h : Agree n fr a) {x : Operand} {v : Value} (hx : (entOf fr x).get = some v) : a.eval x = v := by
  cases x with
  | tmp t => have := h.2 t v hx; simp [Act.eval, this]
  | const u =>
    unfold entOf at hx
    simp only at hx
    split at hx <;> simpa [Ent.get, Act.eval] using hx
  | global g => simpa [entOf, Ent.get, Act.eval] using hx
  | func f => simpa [entOf, Ent.get, Act.eval] using hx

theorem Agree.evT {n : Nat} {fr : Fr} {a : Act} (h : Agree n fr a) {x : Operand} (hx : ((entOf fr x).get).isSome = true) : a.eval x = XM.evT fr x := by
  obtain ⟨v, hv⟩ := Option.isSome_iff_exists.1 hx
  rw [h.eval hv]
  simp [XM.evT, hv]

def putE (n : Nat) (fr : Fr) (dst : Option Tmp) (e : Ent) : Option Fr :=
  match dst with
  | Option.none => some fr
  | some d => match Nat.blt d n with
    | true => some ((d, e) :: fr)
    | false => Option.none

theorem Agree.put {n : Nat} {fr fr' : Fr} {a : Act} (h : Agree n fr a) {dst : Option Tmp} {e : Ent} {v : Value} (hp : putE n fr dst e = some fr') (hv : e.get = some v) : Agree n fr' (a.put dst v) := by
  cases dst with
  | none => simp [putE] at hp; subst hp; exact h
  | some d =>
    simp only [putE] at hp
    split at hp
    · rename_i hd
      have hd' : d < n := by simpa [Nat.blt_eq] using hd
      simp at hp; subst hp
      refine ⟨by simp [Act.put, h.1], fun t u ht => ?_⟩
      simp only [look] at ht
      split at ht
      · rename_i hb
        have : d = t := Nat.eq_of_beq_eq_true hb
        subst this
        rw [hv] at ht
        cases ht
        simp [Act.put, h.1, hd']
      · rename_i hb
        have : d ≠ t := Nat.ne_of_beq_eq_false hb
        simp [Act.put, Array.getElem?_setIfInBounds_ne this, h.2 t u ht]
    · cases hp

theorem Agree.dec' {n : Nat} {fr : Fr} {a : Act} (h : Agree n fr a) {s : Nat} {b : Bool} (hs : a.tmps[s]? = some (.bool b)) : Agree n ((s, .dec b) :: fr) a := by
  refine ⟨h.1, fun t u ht => ?_⟩
  simp only [look] at ht
  split at ht
  · rename_i hb
    have : s = t := Nat.eq_of_beq_eq_true hb
    subst this
    rw [hs, ← ht]; rfl
  · exact h.2 t u ht

inductive XI where
  | code (c : Code)
  | blk (id : Nat)
  | lp (d : Nat)

inductive Cur where
  | idle
  | op (o : Oper)
  | sem (s : Sem Next) (o : Oper)
  | gtest (b : Bool) (slot : Nat) (want : Bool) (o : Oper)
  | test (b : Bool) (t e : Code)
  | fin (s : Sem Value)
  | bad

structure St where
  todo : List XI
  ops : Array Oper
  rops : List Oper
  fr : Fr
  m : Nat
  cur : Cur

def bad (st : St) : St := ⟨st.todo, st.ops, st.rops, st.fr, st.m, .bad⟩

def finish (n : Nat) (st : St) (o : Oper) (e : Ent) : St :=
  match putE n st.fr o.dst e with
  | some fr' => ⟨st.todo, st.ops, st.rops, fr', st.m - 1, .idle⟩
  | Option.none => bad st

def finishV (n : Nat) (st : St) (o : Oper) (v : Value) : St :=
  match v with
  | .bool b => finish n st o (.val (.bool b))
  | .int k x => finish n st o (.val (.int k x))
  | .string s => finish n st o (.val (.string s))
  | .pointer a => finish n st o (.val (.pointer a))
  | .slice a l c => finish n st o (.val (.slice a l c))
  | .func f x y => finish n st o (.val (.func f x y))
  | .agg cs => finish n st o (.val (.agg cs))
  | .tuple cs => finish n st o (.val (.tuple cs))
  | v => finish n st o (.val v)

theorem finishV_eq (n : Nat) (st : St) (o : Oper) (v : Value) : finishV n st o v = finish n st o (.val v) := by
  cases v <;> rfl

def copyE (n : Nat) (st : St) (o : Oper) (e : Ent) : St :=
  match e with
  | .none => bad st
  | .val v => finish n st o (.val v)
  | .dec b => finish n st o (.dec b)

def constOp : Operand → Bool
  | .const _ => true
  | _ => false

/-- Operations that are met by a law of their own. -/
def special : Op → Bool
  | .indexAddr .. | .index .. | .slice .. | .makeSlice .. => true
  | .binOp .shl _ _ y _ | .binOp .shr _ _ y _ | .binOp .quo _ _ y _ | .binOp .rem _ _ y _ => !constOp y
  | .call { callee := .builtin .len, .. } | .call { callee := .builtin .cap, .. } => false
  | .call _ => true
  | _ => false

def isSelect : Op → Bool
  | .select .. => true
  | _ => false

def present (fr : Fr) (x : Operand) : Bool :=
  match entOf fr x with
  | .none => false
  | _ => true

def allP (fr : Fr) : List Operand → Bool
  | [] => true
  | x :: r => match present fr x with
    | true => allP fr r
    | false => false

def convSpecial (fr : Fr) : Op → Bool
  | .convert _ _ _ => true
  | .binOp .add _ x _ _ | .binOp .sub _ x _ _ | .binOp .mul _ x _ _ => match evT fr x with
    | .string _ => true
    | .int _ _ => true
    | _ => false
  | .binOp .eql _ x _ _ | .binOp .neq _ x _ _ => match evT fr x with
    | .agg _ => true
    | _ => false
  | _ => false

def goOp (st : St) (o : Oper) : St :=
  match isSelect o.op, allP st.fr o.op.operands.toList with
  | false, true => match special o.op || convSpecial st.fr o.op with
    | true => ⟨st.todo, st.ops, st.rops, st.fr, st.m, .op o⟩
    | false => ⟨st.todo, st.ops, st.rops, st.fr, st.m, .sem (execOp (evT st.fr) o) o⟩
  | _, _ => bad st

def runOp (n : Nat) (st : St) (o : Oper) : St :=
  match o.op with
  | .move x | .assign x => copyE n st o (entOf st.fr x)
  | .pick c a b => match entOf st.fr c with
    | .dec true => copyE n st o (entOf st.fr a)
    | .dec false => copyE n st o (entOf st.fr b)
    | _ => goOp st o
  | .unOp .not _ x => match entOf st.fr x with
    | .dec b => finish n st o (.dec (!b))
    | _ => goOp st o
  | _ => goOp st o

def popTo (id : Nat) : List XI → Option (List XI)
  | [] => Option.none
  | .blk i :: k => match Nat.beq i id with
    | true => some k
    | false => popTo id k
  | _ :: k => popTo id k

def resF (rs : Array ResultVar) (fr : Fr) : Sem Value := do
  let vs ← rs.mapM fun
    | .tmp t => pure (evT fr (.tmp t))
    | .cell a t => do loadVar t (← asAddr (evT fr (.tmp a)))
  pure (if h : vs.size = 1 then vs[0] else .tuple vs)

def resPresent (rs : Array ResultVar) (fr : Fr) : Bool :=
  rs.toList.all fun
    | .tmp t => present fr (.tmp t)
    | .cell a _ => present fr (.tmp a)

def startFin (rs : Array ResultVar) (st : St) : St :=
  match resPresent rs st.fr with
  | true => ⟨st.todo, st.ops, st.rops, st.fr, st.m, .fin (resF rs st.fr)⟩
  | false => bad st

def bop (st : St) (o : Oper) (rest : List Oper) (n : Nat) : St :=
  match o.guard with
  | Option.none => runOp n ⟨st.todo, st.ops, rest, st.fr, st.m, .idle⟩ o
  | some (j, want) => match (st.ops[j]?).bind (·.dst) with
    | some s => match look st.fr s with
      | .dec b => match b == want with
        | true => runOp n ⟨st.todo, st.ops, rest, st.fr, st.m, .idle⟩ o
        | false => finish n ⟨st.todo, st.ops, rest, st.fr, st.m, .idle⟩ o (.val undef)
      | .val (.bool b) => ⟨st.todo, st.ops, rest, st.fr, st.m, .gtest b s want o⟩
      | .val (.tuple _) => finish n ⟨st.todo, st.ops, rest, st.fr, st.m, .idle⟩ o (.val undef)
      | _ => bad st
    | Option.none => bad st

def bcode (rs : Array ResultVar) (st : St) (c : Code) (k : List XI) : Option St :=
  match c with
  | .skip => some ⟨k, st.ops, [], st.fr, 0, .idle⟩
  | .seq a b => some ⟨.code a :: .code b :: k, st.ops, [], st.fr, 0, .idle⟩
  | .block id c => some ⟨.code c :: .blk id :: k, st.ops, [], st.fr, 0, .idle⟩
  | .exit id => match popTo id k with
    | some k' => some ⟨k', st.ops, [], st.fr, 0, .idle⟩
    | Option.none => Option.none
  | .cond c t e => match entOf st.fr c with
    | .dec true => some ⟨.code t :: k, st.ops, [], st.fr, 0, .idle⟩
    | .dec false => some ⟨.code e :: k, st.ops, [], st.fr, 0, .idle⟩
    | .val (.bool b) => some ⟨k, st.ops, [], st.fr, 0, .test b t e⟩
    | _ => Option.none
  | .region _ ops false => some ⟨k, ops, ops.toList, st.fr, 0, .idle⟩
  | .ret => some (startFin rs ⟨.code .ret :: k, st.ops, [], st.fr, 0, .idle⟩)
  | _ => Option.none

/-- One step that asks nothing of the world. -/
def adv1 (P : Program) (n : Nat) (rs : Array ResultVar) (st : St) : Option St :=
  match st.cur with
  | .sem s o => match s with
    | .pure nx => match nx with
      | .value v => some (finishV n st o v)
      | .skip => some (finish n st o (.val undef))
      | _ => Option.none
    | .program k => some ⟨st.todo, st.ops, st.rops, st.fr, st.m, .sem (k P) o⟩
    | .mark _ k => some ⟨st.todo, st.ops, st.rops, st.fr, st.m, .sem k o⟩
    | _ => Option.none
  | .fin s => match s with
    | .program k => some ⟨st.todo, st.ops, st.rops, st.fr, st.m, .fin (k P)⟩
    | .mark _ k => some ⟨st.todo, st.ops, st.rops, st.fr, st.m, .fin k⟩
    | _ => Option.none
  | .idle => match st.rops with
    | o :: rest => some (bop st o rest n)
    | [] => match st.todo with
      | [] => some (startFin rs ⟨st.todo, st.ops, [], st.fr, 0, .idle⟩)
      | .blk _ :: k => some ⟨k, st.ops, [], st.fr, 0, .idle⟩
      | .lp _ :: _ => Option.none
      | .code c :: k => bcode rs st c k
  | _ => Option.none

def adv (P : Program) (n : Nat) (rs : Array ResultVar) : Nat → St → St
  | 0, st => st
  | f + 1, st => match adv1 P n rs st with
    | some st' => adv P n rs f st'
    | Option.none => st

inductive Rsp where
  | v (x : Value)
  | u
  | n (k : Nat)
  | b (x : Bool)
  | sh (s : Option (TypeId × Nat))

def withCur (st : St) (c : Cur) : St := ⟨st.todo, st.ops, st.rops, st.fr, st.m, c⟩

def ans (n : Nat) (st : St) (r : Rsp) : St :=
  match st.cur with
  | .sem s o => match s, r with
    | .load _ _ k, .v v => withCur st (.sem (k v) o)
    | .store _ _ _ k, .u => withCur st (.sem k o)
    | .new _ k, .n r => withCur st (.sem (k r) o)
    | .choose _ k, .n r => withCur st (.sem (k r) o)
    | .shape _ k, .sh s => withCur st (.sem (k s) o)
    | .frozen _ k, .b b => withCur st (.sem (k b) o)
    | .freeze _ _ k, .u => withCur st (.sem k o)
    | _, _ => bad st
  | .op o => match r with
    | .v v => finishV n st o v
    | _ => bad st
  | .gtest _ s want o => match r with
    | .b x => match x == want with
      | true => runOp n ⟨st.todo, st.ops, st.rops, (s, .dec x) :: st.fr, st.m, .idle⟩ o
      | false => finish n ⟨st.todo, st.ops, st.rops, (s, .dec x) :: st.fr, st.m, .idle⟩ o (.val undef)
    | _ => bad st
  | .test _ t e => match r with
    | .b true => ⟨.code t :: st.todo, st.ops, [], st.fr, 0, .idle⟩
    | .b false => ⟨.code e :: st.todo, st.ops, [], st.fr, 0, .idle⟩
    | _ => bad st
  | .fin s => match s, r with
    | .load _ _ k, .v v => withCur st (.fin (k v))
    | _, _ => bad st
  | _ => bad st

inductive Req where
  | load (a : Addr)
  | store (a : Addr) (v : Value)
  | new (o : Obj)
  | choose (q : Question)
  | shape (r : Nat)
  | frozen (a : Addr)
  | freeze (a : Addr) (n : Nat)
  | idx (t : TypeId) (x i : Value)
  | index (t : TypeId) (x i : Value)
  | slice (t : TypeId) (x : Value) (lo hi mx : Option Value)
  | makeSlice (t : TypeId) (l c : Value)
  | bin (op : BinOp) (t : TypeId) (x y : Value)
  | conv (s d : TypeId) (x : Value)
  | bi (b : Builtin) (argTypes : Array TypeId) (type : TypeId) (args : Array Value)
  | call (f : FuncId) (args : Array Value)
  | test (b : Bool)
  | done (v : Value)
  | loop
  | again (d : Nat)
  | draw (id : Nat)
  | bad

def argsOf (fr : Fr) (xs : Array Operand) : Array Value := xs.map (evT fr)

def reqOp (fr : Fr) (o : Oper) : Req :=
  match o.op with
  | .indexAddr t x i => .idx t (evT fr x) (evT fr i)
  | .index t x i => .index t (evT fr x) (evT fr i)
  | .slice t x lo hi mx => .slice t (evT fr x) (lo.map (evT fr)) (hi.map (evT fr)) (mx.map (evT fr))
  | .makeSlice t l c => .makeSlice t (evT fr l) (evT fr c)
  | .binOp op t x y _ => .bin op t (evT fr x) (evT fr y)
  | .convert s d x => .conv s d (evT fr x)
  | .call c => match c.callee with
    | .builtin b => .bi b c.argTypes o.type (argsOf fr c.args)
    | .value f => match evT fr f with
      | .func (.func g) first cap => .call g (first ++ argsOf fr c.args ++ cap)
      | _ => .bad
    | _ => .bad
  | _ => .bad

def req (st : St) : Req :=
  match st.cur with
  | .sem s _ => match s with
    | .load _ a _ => .load a
    | .store _ a v _ => .store a v
    | .new o _ => .new o
    | .choose q _ => .choose q
    | .shape r _ => .shape r
    | .frozen a _ => .frozen a
    | .freeze a n _ => .freeze a n
    | _ => .bad
  | .op o => reqOp st.fr o
  | .gtest b _ _ _ => .test b
  | .test b _ _ => .test b
  | .fin s => match s with
    | .load _ a _ => .load a
    | .pure v => .done v
    | _ => .bad
  | .idle => match st.rops with
    | [] => match st.todo with
      | .code (.loop _) :: _ => .loop
      | .lp d :: _ => .again d
      | .code (.region id _ true) :: _ => .draw id
      | _ => .bad
    | _ => .bad
  | .bad => .bad

end Go.XM
