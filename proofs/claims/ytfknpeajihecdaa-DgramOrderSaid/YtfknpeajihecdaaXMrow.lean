/-
  A law's parameter opened: a type made of nested structs of plain cells, read as a list of kinds.
-/
import Derived.Deep.Slices
import Derived.Lib.SmallJoins
import Derived.Test.YtfknpeajihecdaaXMeq
namespace Go.XM
open Go Go.RowKit Go.WideShapes Go.ChangeShapes Go.Joins Go.Deep

inductive Kd where
  | i (k : IntKind)
  | s
  | b

def KdOk : Kd → Value → Prop
  | .i k, v => ∃ n, v = .int k n ∧ (Lit.int k n).wf = true
  | .s, v => ∃ s : ByteArray, v = .string s ∧ s.size ≤ maxLen
  | .b, v => ∃ b, v = .bool b

def KdsOk : List Kd → List Value → Prop
  | [], [] => True
  | k :: ks, v :: vs => KdOk k v ∧ KdsOk ks vs
  | _, _ => False

theorem KdsOk.append : ∀ {a : List Kd} {x : List Value} {b : List Kd} {y : List Value}, KdsOk a x → KdsOk b y → KdsOk (a ++ b) (x ++ y)
  | [], [], _, _, _, h => h
  | _ :: _, _ :: _, _, _, h, h2 => ⟨h.1, h.2.append h2⟩

theorem KdsOk.cons {k : Kd} {ks : List Kd} : ∀ {cs : List Value}, KdsOk (k :: ks) cs → ∃ c cs', cs = c :: cs' ∧ KdOk k c ∧ KdsOk ks cs'
  | [], h => h.elim
  | c :: cs', h => ⟨c, cs', rfl, h.1, h.2⟩
theorem KdsOk.nil : ∀ {cs : List Value}, KdsOk [] cs → cs = []
  | [], _ => rfl
  | _ :: _, h => h.elim

def fieldsK (g : TypeId → Option (List Kd)) (c : TypeId → Nat) : Nat → List Field → Option (List Kd)
  | _, [] => some []
  | o, f :: fs => if f.offset = o then (g f.type).bind fun ks => if ks.length = c f.type then (fieldsK g c (o + ks.length) fs).map (ks ++ ·) else none else none

def kinds (P : Program) : Nat → TypeId → Option (List Kd)
  | 0, _ => none
  | n + 1, t => match P.underlying t with
    | some (.int k) => some [.i k]
    | some .string => some [.s]
    | some .bool => some [.b]
    | some (.struct fs) => (fieldsK (kinds P n) P.cellsOf 0 fs.toList).bind fun ks => if ks.length = P.cellsOf t then some ks else none
    | _ => none

section
variable {H : Type} {enc : TypeId × Value → H} {P : Program} {w : World} {base : Nat} {spare : Nat → Bool} {held : Bool}

theorem fieldsK_ok {g : TypeId → Option (List Kd)} {q : TypeId → List Value → Prop} (hg : ∀ t ks cs, g t = some ks → q t cs → KdsOk ks cs) (cs : List Value) :
    ∀ (fs : List Field) (o : Nat) (ks : List Kd), fieldsK g P.cellsOf o fs = some ks → cs.length = o + ks.length → (∀ f ∈ fs, q f.type ((cs.drop f.offset).take (P.cellsOf f.type))) → KdsOk ks (cs.drop o)
  | [], o, ks, h, hl, _ => by
    simp only [fieldsK, Option.some.injEq] at h
    subst h
    rw [List.drop_eq_nil_of_le (by simp at hl; omega)]
    trivial
  | f :: fs, o, ks, h, hl, hq => by
    simp only [fieldsK] at h
    split at h
    · rename_i ho
      obtain ⟨k1, hk1, h⟩ := Option.bind_eq_some_iff.1 h
      split at h
      · rename_i hc
        obtain ⟨k2, hk2, rfl⟩ := Option.map_eq_some_iff.1 h
        have h1 := hg _ _ _ hk1 (hq f (by simp))
        rw [ho, ← hc] at h1
        have h2 := fieldsK_ok hg cs fs (o + k1.length) k2 hk2 (by simp at hl; omega) (fun f' hf' => hq f' (by simp [hf']))
        have := h1.append h2
        rwa [← List.drop_drop, List.take_append_drop] at this
      · cases h
    · cases h

theorem kinds_ok : ∀ (n : Nat) (t : TypeId) (ks : List Kd) (cs : List Value), kinds P n t = some ks → (∃ fuel x, DataW.trod enc P w base spare held fuel t cs = some x) → KdsOk ks cs
  | 0, _, _, _, h, _ => by simp [kinds] at h
  | n + 1, t, ks, cs, h, ⟨fuel, x, hx⟩ => by
    unfold kinds at h
    split at h
    · rename_i k ht
      cases h
      obtain ⟨a, rfl, _, hw⟩ := DataW.trod_int ht hx
      exact ⟨⟨a, rfl, hw⟩, trivial⟩
    · rename_i ht
      cases h
      obtain ⟨a, rfl, _, hw⟩ := DataW.trod_string ht hx
      exact ⟨⟨a, rfl, hw⟩, trivial⟩
    · rename_i ht
      cases h
      obtain ⟨a, rfl, _⟩ := DataW.trod_bool ht hx
      exact ⟨⟨a, rfl⟩, trivial⟩
    · rename_i fs ht
      obtain ⟨ks', hk, h⟩ := Option.bind_eq_some_iff.1 h
      split at h
      · rename_i hc
        cases h
        obtain ⟨xs, m, _, _, hl, hlen, hf⟩ := DataW.trod_struct ht hx
        have := fieldsK_ok (P := P) (q := fun t cs => ∃ fuel x, DataW.trod enc P w base spare held fuel t cs = some x) (fun t ks cs => kinds_ok n t ks cs) cs fs.toList 0 ks hk (by omega) (fun f hf' => by
          obtain ⟨i, hi⟩ := List.mem_iff_getElem?.1 hf'
          have hi : fs[i]? = some f := by simpa using hi
          have hlt : i < xs.length := by rw [hlen]; exact (Array.getElem?_eq_some_iff.1 hi).1
          exact ⟨m, xs[i], by rw [hf i f hi, List.getElem?_eq_getElem hlt]⟩)
        simpa using this
      · cases h
    · cases h

theorem openAgg {t : TypeId} {fs : Array Field} {n b0 : Nat} {r : Reach} {ks : List Kd} {v : Value} {d : DataW H} {p : List MemPlace} (hs : P.underlying t = some (.struct fs)) (hk : kinds P n t = some ks)
    (hv : Value.okWide P w r b0 t v) (h : DataW.Trod enc P w base spare held t v d p) : ∃ cs : List Value, v = .agg cs.toArray ∧ KdsOk ks cs := by
  obtain ⟨cs, rfl, hsz⟩ := okWide_struct hs hv
  obtain ⟨fuel, hf⟩ := h
  exact ⟨cs.toList, by simp, kinds_ok n t ks _ hk ⟨fuel, _, hf⟩⟩

theorem openSl {t e : TypeId} {n b0 : Nat} {ks : List Kd} {v : Value} {d : DataW H} {p : List MemPlace} (ht : P.underlying t = some (.slice e)) (hk : kinds P n e = some ks)
    (hv : Value.okWide P w .any b0 t v) (h : DataW.Trod enc P w base spare held t v d p) :
    v = .slice none 0 0 ∨ ∃ (b off len cap : Nat) (c : Array Value) (T : TypeId) (fz : Nat × Nat), v = .slice (some ⟨b, off, none⟩) len cap ∧ len ≤ cap ∧ cap ≤ maxLen ∧ w.heap[b]? = some (.cells c T fz) ∧
      ∀ i, i < len → ∃ cs : List Value, cs.length = P.cellsOf e ∧ KdsOk ks cs ∧ ∀ j, j < P.cellsOf e → c[off + i * P.cellsOf e + j]? = cs[j]? := by
  obtain ⟨fuel, hf⟩ := h
  obtain ⟨a0, len0, cap0, rfl⟩ := okWide_slice ht hv
  rcases open_slice ht hf with ⟨h0, _⟩ | ⟨a, len, cap, m, n', D, Pl, hcs, hb, hl, hm, hmm, _, hx⟩
  · left
    simpa [Value.cells] using h0
  · right
    simp [Value.cells] at hcs
    obtain ⟨rfl, rfl, rfl⟩ := hcs
    simp only [Value.okWide, ht, Cell.okWide, Cell.ok] at hv
    obtain ⟨_, _, _, hsp, row, cells, hsh, _⟩ := hv
    unfold World.shape? at hsh
    split at hsh
    · rename_i c T fz hB
      obtain ⟨b, off, sp⟩ := a
      cases hsp
      refine ⟨b, off, _, _, c, T, fz, rfl, hl, hm, hB, fun i hi => ?_⟩
      obtain ⟨cs, hcs, hd⟩ := hx i (by rw [hmm]; split <;> omega)
      obtain ⟨_, hlen, hcell⟩ := World.cells?_some hcs
      refine ⟨cs, hlen, kinds_ok n e ks cs hk ⟨_, _, hd⟩, fun j hj => ?_⟩
      rw [← hcell j hj]
      have e1 : ((⟨b, off, none⟩ : Addr).add (i * P.cellsOf e)).add j = ⟨b, off + i * P.cellsOf e + j, none⟩ := by
        unfold Addr.add; split <;> split <;> simp_all
      rw [e1]
      unfold World.cell?
      simp only [hB]
      rfl
    · cases hsh
end
end Go.XM
