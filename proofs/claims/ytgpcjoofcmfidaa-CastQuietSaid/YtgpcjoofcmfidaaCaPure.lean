/-
  A reliable broadcast stream, in plain data. The bodies' type is free.
-/
import GoSem.Core.Layout
namespace Go.Ca
structure ItemV (β : Type) where
  there : Bool
  body : β
  ask : Int
  rep : Int
  fresh : Bool
structure MemV (β : Type) where
  id : Int
  items : List (ItemV β)
  read : Int
  hello : Int
  now : Int
structure NoteV (β : Type) where
  kind : Int
  src : Int
  no : Int
  body : β
section
variable {β : Type} (nil : β)
def knowsI : Nat → Int → List (ItemV β) → List (ItemV β)
  | 0, _, l => l
  | n + 1, now, l => knowsI n now (l ++ [⟨false, nil, now, -1, false⟩])
/-- knows -/
def knows (m : MemV β) (many now : Int) : MemV β := { m with items := knowsI nil (many - m.items.length).toNat now m.items }
/-- asked, about an item -/
def askI (id now : Int) (x : ItemV β) : ItemV β := if x.there = false then { x with ask := now + 20 } else if x.rep < 0 then { x with rep := now + id } else x
def asked (m : MemV β) (no : Nat) (now : Int) : MemV β := { knows nil m ((no + 1 : Nat) : Int) now with items := (knows nil m ((no + 1 : Nat) : Int) now).items.modify no (askI m.id now) }
theorem knowsI_len : ∀ (n : Nat) (now : Int) (l : List (ItemV β)), (knowsI nil n now l).length = l.length + n
  | 0, _, _ => rfl
  | n + 1, now, l => by unfold knowsI; rw [knowsI_len n now]; simp; omega
theorem knows_len (m : MemV β) (many now : Int) : (knows nil m many now).items.length = m.items.length + (many - m.items.length).toNat := knowsI_len nil _ _ _
/-- a received body, about an item -/
def gotI (body : β) (x : ItemV β) : ItemV β := { x with there := true, body := if x.there then x.body else body, rep := -1 }
def gotM (m : MemV β) (no : Nat) (body : β) (now : Int) : MemV β := { knows nil m ((no + 1 : Nat) : Int) now with items := (knows nil m ((no + 1 : Nat) : Int) now).items.modify no (gotI body) }
/-- In, of a good note -/
def inCore (m : MemV β) (n : NoteV β) (now : Int) : MemV β :=
  if n.src = m.id then { m with now := now }
  else if n.kind = 3 then knows nil { m with now := now } n.no now
  else if n.kind = 1 then gotM nil { m with now := now } n.no.toNat n.body now
  else asked nil { m with now := now } n.no.toNat now
/-- Out, about an item -/
def outI (id now : Int) (no : Nat) (x : ItemV β) : Option (NoteV β) × ItemV β :=
  if x.fresh = true ∨ (x.there = true ∧ 0 ≤ x.rep ∧ x.rep ≤ now) then (some ⟨1, id, no, x.body⟩, { x with fresh := false, rep := -1 })
  else if x.there = false ∧ x.ask ≤ now then (some ⟨2, id, no, nil⟩, { x with ask := now + 20 })
  else (none, x)
def outNotes (id now : Int) : Nat → List (ItemV β) → List (NoteV β)
  | _, [] => []
  | k, x :: l => (outI nil id now k x).1.toList ++ outNotes id now (k + 1) l
def outItem (id now : Int) (x : ItemV β) : ItemV β := (outI nil id now 0 x).2
def tells (m : MemV β) (now : Int) : Bool := decide (m.id = 0) && decide (0 < m.items.length) && decide (m.hello ≤ now)
def outAir (m : MemV β) (now : Int) : List (NoteV β) := outNotes nil m.id now 0 m.items ++ (if tells m now then [⟨3, 0, m.items.length, nil⟩] else [])
def outMem (m : MemV β) (now : Int) : MemV β := { m with now := now, items := m.items.map (outItem nil m.id now), hello := if tells m now then now + 50 else m.hello }
/-- Got -/
def gotN : List (ItemV β) → Nat
  | [] => 0
  | x :: l => if x.there then gotN l + 1 else 0
theorem gotN_le : ∀ l : List (ItemV β), gotN l ≤ l.length
  | [] => Nat.le_refl _
  | x :: l => by unfold gotN; have := gotN_le l; split <;> simp <;> omega
theorem outI_snd (id now : Int) (no : Nat) (x : ItemV β) : (outI nil id now no x).2 = outItem nil id now x := by
  unfold outItem outI; split <;> (try split) <;> rfl
theorem outNotes_append (id now : Int) : ∀ (l l' : List (ItemV β)) (k : Nat), outNotes nil id now k (l ++ l') = outNotes nil id now k l ++ outNotes nil id now (k + l.length) l'
  | [], l', k => by simp [outNotes]
  | x :: l, l', k => by
    simp only [List.cons_append, outNotes, List.append_assoc, List.length_cons]
    rw [outNotes_append id now l l' (k + 1), show k + 1 + l.length = k + (l.length + 1) by omega]
/-! A group: who is dead neither sends nor hears; a fate is spent for each note and member. -/
def lostAt (fs : List Int) (k : Nat) : Bool := match fs[k]? with
  | some f => decide (f % 3 = 0)
  | none => false
def hearM (dead now : Int) (n : NoteV β) (fs : List Int) (m : MemV β) : MemV β :=
  if m.id = dead ∨ lostAt fs m.id.toNat = true ∨ m.id = n.src then m else inCore nil m n now
def deliver (dead now : Int) : List (NoteV β) → List Int → List (MemV β) → List (MemV β) × List Int
  | [], fs, ms => (ms, fs)
  | n :: ns, fs, ms => deliver dead now ns (fs.drop ms.length) (ms.map (hearM nil dead now n fs))
def outD (dead now : Int) (m : MemV β) : MemV β := if m.id = dead then m else outMem nil m now
def airD (dead now : Int) (m : MemV β) : List (NoteV β) := if m.id = dead then [] else outAir nil m now
def tickM (dead now : Int) (fs : List Int) (ms : List (MemV β)) : List (MemV β) × List Int := deliver nil dead (now + 1) (ms.flatMap (airD nil dead now)) fs (ms.map (outD nil dead now))
theorem deliver_nil (dead now : Int) (fs : List Int) (ms : List (MemV β)) : deliver nil dead now [] fs ms = (ms, fs) := rfl
theorem deliver_cons (dead now : Int) (n : NoteV β) (ns : List (NoteV β)) (fs : List Int) (ms : List (MemV β)) : deliver nil dead now (n :: ns) fs ms = deliver nil dead now ns (fs.drop ms.length) (ms.map (hearM nil dead now n fs)) := rfl
theorem inCore_id (m : MemV β) (n : NoteV β) (now : Int) : (inCore nil m n now).id = m.id := by
  unfold inCore; split; rfl; split; rfl; split <;> rfl
theorem hearM_id (dead now : Int) (n : NoteV β) (fs : List Int) (m : MemV β) : (hearM nil dead now n fs m).id = m.id := by
  unfold hearM; split; rfl; exact inCore_id nil m n now
theorem outD_id (dead now : Int) (m : MemV β) : (outD nil dead now m).id = m.id := by
  unfold outD; split <;> rfl
end
/-- The first i elements turned. -/
def upto {α : Type} (f : α → α) (i : Nat) (l : List α) : List α := (l.take i).map f ++ l.drop i
theorem upto_zero {α : Type} (f : α → α) (l : List α) : upto f 0 l = l := by simp [upto]
theorem upto_all {α : Type} (f : α → α) (l : List α) : upto f l.length l = l.map f := by simp [upto]
theorem upto_len {α : Type} (f : α → α) (i : Nat) (l : List α) : (upto f i l).length = l.length := by simp [upto]; omega
theorem upto_get {α : Type} {f : α → α} {i : Nat} {l : List α} {x : α} (h : l[i]? = some x) : (upto f i l)[i]? = some x := by
  have hlt := (List.getElem?_eq_some_iff.1 h).1
  unfold upto
  rw [List.getElem?_append_right (by simp; omega)]
  simp [Nat.min_eq_left (Nat.le_of_lt hlt), h]
theorem upto_set {α : Type} {f : α → α} {i : Nat} {l : List α} {x : α} (h : l[i]? = some x) : (upto f i l).set i (f x) = upto f (i + 1) l := by
  have hlt := (List.getElem?_eq_some_iff.1 h).1
  unfold upto
  rw [List.set_append_right _ _ (by simp; omega)]
  have e : i - ((l.take i).map f).length = 0 := by simp; omega
  rw [e, List.drop_eq_getElem_cons hlt, List.set_cons_zero, List.take_add_one, List.map_append]
  rw [List.getElem?_eq_getElem hlt] at h
  cases h
  simp [List.getElem?_eq_getElem hlt]
/-- The first k elements turned into something else; the others blank. -/
def uptoC {α β : Type} (g : α → β) (z : β) (k : Nat) (l : List α) : List β := (l.take k).map g ++ List.replicate (l.length - k) z
theorem uptoC_zero {α β : Type} (g : α → β) (z : β) (l : List α) : uptoC g z 0 l = List.replicate l.length z := by simp [uptoC]
theorem uptoC_all {α β : Type} (g : α → β) (z : β) (l : List α) : uptoC g z l.length l = l.map g := by simp [uptoC]
theorem uptoC_len {α β : Type} {g : α → β} {z : β} {k : Nat} {l : List α} (h : k ≤ l.length) : (uptoC g z k l).length = l.length := by simp [uptoC]; omega
theorem uptoC_get {α β : Type} {g : α → β} {z : β} {k : Nat} {l : List α} (h : k < l.length) : (uptoC g z k l)[k]? = some z := by
  unfold uptoC
  rw [List.getElem?_append_right (by simp; omega)]
  rw [List.getElem?_replicate, if_pos (by simp; omega)]
theorem uptoC_set {α β : Type} {g : α → β} {z : β} {k : Nat} {l : List α} {x : α} (h : l[k]? = some x) : (uptoC g z k l).set k (g x) = uptoC g z (k + 1) l := by
  have hlt := (List.getElem?_eq_some_iff.1 h).1
  unfold uptoC
  rw [List.set_append_right _ _ (by simp; omega)]
  have e : k - ((l.take k).map g).length = 0 := by simp; omega
  rw [e, show l.length - k = (l.length - (k + 1)) + 1 by omega, List.replicate_succ, List.set_cons_zero, List.take_add_one, List.map_append, h]
  simp
end Go.Ca
