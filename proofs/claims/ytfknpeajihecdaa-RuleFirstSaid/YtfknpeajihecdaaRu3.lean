import Derived.Test.YtfknpeajihecdaaRu2
import Derived.Test.YtfknpeajihecdaaXMeq
namespace Go.Proofs.Ytfknpeajihecdaa
open Go.XM Go.RowKit Go.Dg Go.Ru
set_option maxRecDepth 100000

theorem ports_yes (p : PktV) (h : hasPorts p = true) (w : World) : Ret Try.prog 40 #[.agg (encP p).toArray] w fun v w' => v = .tuple #[.int .i64 (wrd p.body 0), .int .i64 (wrd p.body 2), .bool true] ∧ Keep [] w w' := by
  have := ports_ret p w; rw [if_pos h] at this; exact this
theorem ports_no (p : PktV) (h : ¬ hasPorts p = true) (w : World) : Ret Try.prog 40 #[.agg (encP p).toArray] w fun v w' => v = .tuple #[.int .i64 0, .int .i64 0, .bool false] ∧ Keep [] w w' := by
  have := ports_ret p w; rw [if_neg h] at this; exact this

def W64 (x : Int) : Prop := -9223372036854775808 ≤ x ∧ x ≤ 9223372036854775807

theorem mv1 {r : RuleV} {p : PktV} (h1 : r.proto ≠ 0) (h2 : r.proto ≠ p.proto) : matchV r p = false := by unfold matchV; rw [if_pos (.inl ⟨h1, h2⟩)]
theorem mv2 {r : RuleV} {p : PktV} (h : hasV r.sa r.sb p.src = false) : matchV r p = false := by unfold matchV; rw [if_pos (.inr (.inl h))]
theorem mv3 {r : RuleV} {p : PktV} (h : hasV r.da r.db p.dst = false) : matchV r p = false := by unfold matchV; rw [if_pos (.inr (.inr h))]
theorem c1 {a b : Int} {x y : Bool} (h1 : a = 0 ∨ a = b) (h2 : x = true) (h3 : y = true) : ¬ ((a ≠ 0 ∧ a ≠ b) ∨ x = false ∨ y = false) := by
  rw [h2, h3]; rintro (⟨p, q⟩ | p | p)
  · rcases h1 with h | h
    · exact p h
    · exact q h
  · cases p
  · cases p
theorem mvY {r : RuleV} {p : PktV} (h1 : r.proto = 0 ∨ r.proto = p.proto) (h2 : hasV r.sa r.sb p.src = true) (h3 : hasV r.da r.db p.dst = true) (hp : hasPorts p = true) : matchV r p = (inV (wrd p.body 0) r.fs r.ls && inV (wrd p.body 2) r.fd r.ld) := by
  unfold matchV; rw [if_neg (c1 h1 h2 h3), if_pos hp]
theorem mvN {r : RuleV} {p : PktV} (h1 : r.proto = 0 ∨ r.proto = p.proto) (h2 : hasV r.sa r.sb p.src = true) (h3 : hasV r.da r.db p.dst = true) (hp : ¬ hasPorts p = true) : matchV r p = decide (r.fs = 0 ∧ r.ls = 65535 ∧ r.fd = 0 ∧ r.ld = 65535) := by
  unfold matchV; rw [if_neg (c1 h1 h2 h3), if_neg hp]

attribute [local irreducible] hasV inV hasPorts matchV wrd Ret
set_option maxHeartbeats 0 in
theorem match_ret (r : RuleV) (p : PktV) (hsb : W64 r.sb) (hdb : W64 r.db) (w : World) : Ret Try.prog 20 #[.agg (encR r).toArray, .agg (encP p).toArray] w fun v w' => v = .bool (matchV r p) ∧ Keep [] w w' := by
  obtain ⟨permit, sa, sb, da, db, rproto, fs, ls, fd, ld⟩ := r
  obtain ⟨src, dst, proto, ttl, id, off, more, whole, body⟩ := p
  have hK := Keep.refl [] w
  have M1 : rproto ≠ 0 → rproto ≠ proto → matchV ⟨permit, sa, sb, da, db, rproto, fs, ls, fd, ld⟩ ⟨src, dst, proto, ttl, id, off, more, whole, body⟩ = false := fun h1 h2 => mv1 (by exact h1) (by exact h2)
  have M2 : hasV sa sb src = false → matchV ⟨permit, sa, sb, da, db, rproto, fs, ls, fd, ld⟩ ⟨src, dst, proto, ttl, id, off, more, whole, body⟩ = false := fun h => mv2 (by exact h)
  have M3 : hasV da db dst = false → matchV ⟨permit, sa, sb, da, db, rproto, fs, ls, fd, ld⟩ ⟨src, dst, proto, ttl, id, off, more, whole, body⟩ = false := fun h => mv3 (by exact h)
  have hsb : W64 sb := hsb
  have hdb : W64 db := hdb
  by_cases hp : hasPorts ⟨src, dst, proto, ttl, id, off, more, whole, body⟩ = true
  · have MY : rproto = 0 ∨ rproto = proto → hasV sa sb src = true → hasV da db dst = true → matchV ⟨permit, sa, sb, da, db, rproto, fs, ls, fd, ld⟩ ⟨src, dst, proto, ttl, id, off, more, whole, body⟩ = (inV (wrd body 0) fs ls && inV (wrd body 2) fd ld) := fun h1 h2 h3 => mvY (by exact h1) (by exact h2) (by exact h3) hp
    refine ret_of_G Try.func20 rfl rfl ?_
    refine x_new (ob := Obj.cells (#[Value.bool permit, Value.int IntKind.u32 sa, Value.int IntKind.i64 sb, Value.int IntKind.u32 da, Value.int IntKind.i64 db, Value.int IntKind.i64 rproto, Value.int IntKind.i64 fs, Value.int IntKind.i64 ls, Value.int IntKind.i64 fd, Value.int IntKind.i64 ld]) 45) (by kernel_rfl) (by kernel_rfl) (fun w1 b1 hb1 hB1 hk1 hlt1 => ?_)
    have hK := Keep.trans' hK hk1
    refine x_new (ob := Obj.cells (#[Value.int IntKind.u32 src, Value.int IntKind.u32 dst, Value.int IntKind.i64 proto, Value.int IntKind.i64 ttl, Value.int IntKind.i64 id, Value.int IntKind.i64 off, Value.bool more, Value.bool whole, Value.string body]) 37) (by kernel_rfl) (by kernel_rfl) (fun w2 b2 hb2 hB2 hk2 hlt2 => ?_)
    have hne2_hB1 : b1 ≠ b2 := Nat.ne_of_lt (by have := lt_of_blk hB1; omega)
    have hB1 := Keep.get hk2 hB1 (by simp)
    have hk1 := Keep.trans' hk1 hk2
    have hK := Keep.trans' hK hk2
    refine x_load (o := 5) hB1 rfl (by kernel_rfl) ?_
    refine s_if (b := rproto != (0 : Int)) (by kernel_rfl) (fun ht1 => ?_) (fun hf1 => ?_)
    · have p1 := bne_iff_ne.1 ht1
      refine x_load (o := 5) hB1 rfl (by kernel_rfl) ?_
      refine x_load (o := 2) hB2 rfl (by kernel_rfl) ?_
      refine s_if (b := rproto != proto) (by kernel_rfl) (fun ht2 => ?_) (fun hf2 => ?_)
      · have p2 := bne_iff_ne.1 ht2
        refine s_done (v := Value.bool false) (by kernel_rfl) ?_
        exact ⟨by first | (rw [M1 ‹_› ‹_›]; done) | (rw [M2 ‹_›]; done) | (rw [M3 ‹_›]; done) | (rw [MY (by first | exact .inl ‹_› | exact .inr ‹_›) ‹_› ‹_›, ‹inV (wrd body 0) fs ls = true›]; rfl) | (rw [MY (by first | exact .inl ‹_› | exact .inr ‹_›) ‹_› ‹_›, ‹inV (wrd body 0) fs ls = false›]; rfl), hK⟩
      · have p2 := bne_eq_false_iff_eq.1 hf2
        refine x_load (o := 1) hB1 rfl (by kernel_rfl) ?_
        refine x_load (o := 2) hB1 rfl (by kernel_rfl) ?_
        refine x_load (o := 0) hB2 rfl (by kernel_rfl) ?_
        refine s_call (f := 39) (args := #[Value.agg (#[Value.int IntKind.u32 sa, Value.int IntKind.i64 sb]), Value.int IntKind.u32 src]) (by kernel_rfl) (by kernel_rfl) (by kernel_rfl) (has_ret _ _ _ hsb _) ?_
        rintro v w3 ⟨rfl, hk3⟩
        have hB2 := Keep.get hk3 hB2 (by simp)
        have hB1 := Keep.get hk3 hB1 (by simp)
        have hk2 := Keep.trans' hk2 hk3
        have hk1 := Keep.trans' hk1 hk3
        have hK := Keep.trans' hK hk3
        refine s_if (b := !hasV sa sb src) (by kernel_rfl) (fun ht3 => ?_) (fun hf3 => ?_)
        · have p3 : (hasV sa sb src) = false := by simpa using ht3
          refine s_done (v := Value.bool false) (by kernel_rfl) ?_
          exact ⟨by first | (rw [M1 ‹_› ‹_›]; done) | (rw [M2 ‹_›]; done) | (rw [M3 ‹_›]; done) | (rw [MY (by first | exact .inl ‹_› | exact .inr ‹_›) ‹_› ‹_›, ‹inV (wrd body 0) fs ls = true›]; rfl) | (rw [MY (by first | exact .inl ‹_› | exact .inr ‹_›) ‹_› ‹_›, ‹inV (wrd body 0) fs ls = false›]; rfl), hK⟩
        · have p3 : (hasV sa sb src) = true := by simpa using hf3
          refine x_load (o := 3) hB1 rfl (by kernel_rfl) ?_
          refine x_load (o := 4) hB1 rfl (by kernel_rfl) ?_
          refine x_load (o := 1) hB2 rfl (by kernel_rfl) ?_
          refine s_call (f := 39) (args := #[Value.agg (#[Value.int IntKind.u32 da, Value.int IntKind.i64 db]), Value.int IntKind.u32 dst]) (by kernel_rfl) (by kernel_rfl) (by kernel_rfl) (has_ret _ _ _ hdb _) ?_
          rintro v w4 ⟨rfl, hk4⟩
          have hB2 := Keep.get hk4 hB2 (by simp)
          have hB1 := Keep.get hk4 hB1 (by simp)
          have hk3 := Keep.trans' hk3 hk4
          have hk2 := Keep.trans' hk2 hk4
          have hk1 := Keep.trans' hk1 hk4
          have hK := Keep.trans' hK hk4
          refine s_if (b := !hasV da db dst) (by kernel_rfl) (fun ht4 => ?_) (fun hf4 => ?_)
          · have p4 : (hasV da db dst) = false := by simpa using ht4
            refine s_done (v := Value.bool false) (by kernel_rfl) ?_
            exact ⟨by first | (rw [M1 ‹_› ‹_›]; done) | (rw [M2 ‹_›]; done) | (rw [M3 ‹_›]; done) | (rw [MY (by first | exact .inl ‹_› | exact .inr ‹_›) ‹_› ‹_›, ‹inV (wrd body 0) fs ls = true›]; rfl) | (rw [MY (by first | exact .inl ‹_› | exact .inr ‹_›) ‹_› ‹_›, ‹inV (wrd body 0) fs ls = false›]; rfl), hK⟩
          · have p4 : (hasV da db dst) = true := by simpa using hf4
            refine x_load (o := 0) hB2 rfl (by kernel_rfl) ?_
            refine x_load (o := 1) hB2 rfl (by kernel_rfl) ?_
            refine x_load (o := 2) hB2 rfl (by kernel_rfl) ?_
            refine x_load (o := 3) hB2 rfl (by kernel_rfl) ?_
            refine x_load (o := 4) hB2 rfl (by kernel_rfl) ?_
            refine x_load (o := 5) hB2 rfl (by kernel_rfl) ?_
            refine x_load (o := 6) hB2 rfl (by kernel_rfl) ?_
            refine x_load (o := 7) hB2 rfl (by kernel_rfl) ?_
            refine x_load (o := 8) hB2 rfl (by kernel_rfl) ?_
            refine s_call (f := 40) (args := #[Value.agg (#[Value.int IntKind.u32 src, Value.int IntKind.u32 dst, Value.int IntKind.i64 proto, Value.int IntKind.i64 ttl, Value.int IntKind.i64 id, Value.int IntKind.i64 off, Value.bool more, Value.bool whole, #[Value.int IntKind.u32 src, Value.int IntKind.u32 dst, Value.int IntKind.i64 proto, Value.int IntKind.i64 ttl, Value.int IntKind.i64 id, Value.int IntKind.i64 off, Value.bool more, Value.bool whole, Value.string body][(8 : Nat)]])]) (by kernel_rfl) (by kernel_rfl) (by kernel_rfl) (ports_yes ⟨src, dst, proto, ttl, id, off, more, whole, body⟩ hp _) ?_
            rintro v w5 ⟨rfl, hk5⟩
            have hB2 := Keep.get hk5 hB2 (by simp)
            have hB1 := Keep.get hk5 hB1 (by simp)
            have hk4 := Keep.trans' hk4 hk5
            have hk3 := Keep.trans' hk3 hk5
            have hk2 := Keep.trans' hk2 hk5
            have hk1 := Keep.trans' hk1 hk5
            have hK := Keep.trans' hK hk5
            refine s_ifF (b := false) (by kernel_rfl) rfl ?_
            refine x_load (o := 6) hB1 rfl (by kernel_rfl) ?_
            refine x_load (o := 7) hB1 rfl (by kernel_rfl) ?_
            refine s_callS (f := 37) (args := #[Value.int IntKind.i64 (↑(wrd body (0 : Nat)) : Int), Value.int IntKind.i64 fs, Value.int IntKind.i64 ls]) (by kernel_rfl) (by kernel_rfl) (in_ret _ _ _ _) ?_
            refine s_if (b := inV (↑(wrd body (0 : Nat)) : Int) fs ls) (by kernel_rfl) (fun ht5 => ?_) (fun hf5 => ?_)
            · refine x_load (o := 8) hB1 rfl (by kernel_rfl) ?_
              refine x_load (o := 9) hB1 rfl (by kernel_rfl) ?_
              refine s_callS (f := 37) (args := #[Value.int IntKind.i64 (↑(wrd body (2 : Nat)) : Int), Value.int IntKind.i64 fd, Value.int IntKind.i64 ld]) (by kernel_rfl) (by kernel_rfl) (in_ret _ _ _ _) ?_
              refine s_done (v := Value.bool (inV (↑(wrd body (2 : Nat)) : Int) fd ld)) (by kernel_rfl) ?_
              exact ⟨by first | (rw [M1 ‹_› ‹_›]; done) | (rw [M2 ‹_›]; done) | (rw [M3 ‹_›]; done) | (rw [MY (by first | exact .inl ‹_› | exact .inr ‹_›) ‹_› ‹_›, ‹inV (wrd body 0) fs ls = true›]; rfl) | (rw [MY (by first | exact .inl ‹_› | exact .inr ‹_›) ‹_› ‹_›, ‹inV (wrd body 0) fs ls = false›]; rfl), hK⟩
            · refine s_done (v := Value.bool false) (by kernel_rfl) ?_
              exact ⟨by first | (rw [M1 ‹_› ‹_›]; done) | (rw [M2 ‹_›]; done) | (rw [M3 ‹_›]; done) | (rw [MY (by first | exact .inl ‹_› | exact .inr ‹_›) ‹_› ‹_›, ‹inV (wrd body 0) fs ls = true›]; rfl) | (rw [MY (by first | exact .inl ‹_› | exact .inr ‹_›) ‹_› ‹_›, ‹inV (wrd body 0) fs ls = false›]; rfl), hK⟩
    · have p1 := bne_eq_false_iff_eq.1 hf1
      refine x_load (o := 1) hB1 rfl (by kernel_rfl) ?_
      refine x_load (o := 2) hB1 rfl (by kernel_rfl) ?_
      refine x_load (o := 0) hB2 rfl (by kernel_rfl) ?_
      refine s_call (f := 39) (args := #[Value.agg (#[Value.int IntKind.u32 sa, Value.int IntKind.i64 sb]), Value.int IntKind.u32 src]) (by kernel_rfl) (by kernel_rfl) (by kernel_rfl) (has_ret _ _ _ hsb _) ?_
      rintro v w3 ⟨rfl, hk3⟩
      have hB2 := Keep.get hk3 hB2 (by simp)
      have hB1 := Keep.get hk3 hB1 (by simp)
      have hk2 := Keep.trans' hk2 hk3
      have hk1 := Keep.trans' hk1 hk3
      have hK := Keep.trans' hK hk3
      refine s_if (b := !hasV sa sb src) (by kernel_rfl) (fun ht2 => ?_) (fun hf2 => ?_)
      · have p2 : (hasV sa sb src) = false := by simpa using ht2
        refine s_done (v := Value.bool false) (by kernel_rfl) ?_
        exact ⟨by first | (rw [M1 ‹_› ‹_›]; done) | (rw [M2 ‹_›]; done) | (rw [M3 ‹_›]; done) | (rw [MY (by first | exact .inl ‹_› | exact .inr ‹_›) ‹_› ‹_›, ‹inV (wrd body 0) fs ls = true›]; rfl) | (rw [MY (by first | exact .inl ‹_› | exact .inr ‹_›) ‹_› ‹_›, ‹inV (wrd body 0) fs ls = false›]; rfl), hK⟩
      · have p2 : (hasV sa sb src) = true := by simpa using hf2
        refine x_load (o := 3) hB1 rfl (by kernel_rfl) ?_
        refine x_load (o := 4) hB1 rfl (by kernel_rfl) ?_
        refine x_load (o := 1) hB2 rfl (by kernel_rfl) ?_
        refine s_call (f := 39) (args := #[Value.agg (#[Value.int IntKind.u32 da, Value.int IntKind.i64 db]), Value.int IntKind.u32 dst]) (by kernel_rfl) (by kernel_rfl) (by kernel_rfl) (has_ret _ _ _ hdb _) ?_
        rintro v w4 ⟨rfl, hk4⟩
        have hB2 := Keep.get hk4 hB2 (by simp)
        have hB1 := Keep.get hk4 hB1 (by simp)
        have hk3 := Keep.trans' hk3 hk4
        have hk2 := Keep.trans' hk2 hk4
        have hk1 := Keep.trans' hk1 hk4
        have hK := Keep.trans' hK hk4
        refine s_if (b := !hasV da db dst) (by kernel_rfl) (fun ht3 => ?_) (fun hf3 => ?_)
        · have p3 : (hasV da db dst) = false := by simpa using ht3
          refine s_done (v := Value.bool false) (by kernel_rfl) ?_
          exact ⟨by first | (rw [M1 ‹_› ‹_›]; done) | (rw [M2 ‹_›]; done) | (rw [M3 ‹_›]; done) | (rw [MY (by first | exact .inl ‹_› | exact .inr ‹_›) ‹_› ‹_›, ‹inV (wrd body 0) fs ls = true›]; rfl) | (rw [MY (by first | exact .inl ‹_› | exact .inr ‹_›) ‹_› ‹_›, ‹inV (wrd body 0) fs ls = false›]; rfl), hK⟩
        · have p3 : (hasV da db dst) = true := by simpa using hf3
          refine x_load (o := 0) hB2 rfl (by kernel_rfl) ?_
          refine x_load (o := 1) hB2 rfl (by kernel_rfl) ?_
          refine x_load (o := 2) hB2 rfl (by kernel_rfl) ?_
          refine x_load (o := 3) hB2 rfl (by kernel_rfl) ?_
          refine x_load (o := 4) hB2 rfl (by kernel_rfl) ?_
          refine x_load (o := 5) hB2 rfl (by kernel_rfl) ?_
          refine x_load (o := 6) hB2 rfl (by kernel_rfl) ?_
          refine x_load (o := 7) hB2 rfl (by kernel_rfl) ?_
          refine x_load (o := 8) hB2 rfl (by kernel_rfl) ?_
          refine s_call (f := 40) (args := #[Value.agg (#[Value.int IntKind.u32 src, Value.int IntKind.u32 dst, Value.int IntKind.i64 proto, Value.int IntKind.i64 ttl, Value.int IntKind.i64 id, Value.int IntKind.i64 off, Value.bool more, Value.bool whole, #[Value.int IntKind.u32 src, Value.int IntKind.u32 dst, Value.int IntKind.i64 proto, Value.int IntKind.i64 ttl, Value.int IntKind.i64 id, Value.int IntKind.i64 off, Value.bool more, Value.bool whole, Value.string body][(8 : Nat)]])]) (by kernel_rfl) (by kernel_rfl) (by kernel_rfl) (ports_yes ⟨src, dst, proto, ttl, id, off, more, whole, body⟩ hp _) ?_
          rintro v w5 ⟨rfl, hk5⟩
          have hB2 := Keep.get hk5 hB2 (by simp)
          have hB1 := Keep.get hk5 hB1 (by simp)
          have hk4 := Keep.trans' hk4 hk5
          have hk3 := Keep.trans' hk3 hk5
          have hk2 := Keep.trans' hk2 hk5
          have hk1 := Keep.trans' hk1 hk5
          have hK := Keep.trans' hK hk5
          refine s_ifF (b := false) (by kernel_rfl) rfl ?_
          refine x_load (o := 6) hB1 rfl (by kernel_rfl) ?_
          refine x_load (o := 7) hB1 rfl (by kernel_rfl) ?_
          refine s_callS (f := 37) (args := #[Value.int IntKind.i64 (↑(wrd body (0 : Nat)) : Int), Value.int IntKind.i64 fs, Value.int IntKind.i64 ls]) (by kernel_rfl) (by kernel_rfl) (in_ret _ _ _ _) ?_
          refine s_if (b := inV (↑(wrd body (0 : Nat)) : Int) fs ls) (by kernel_rfl) (fun ht4 => ?_) (fun hf4 => ?_)
          · refine x_load (o := 8) hB1 rfl (by kernel_rfl) ?_
            refine x_load (o := 9) hB1 rfl (by kernel_rfl) ?_
            refine s_callS (f := 37) (args := #[Value.int IntKind.i64 (↑(wrd body (2 : Nat)) : Int), Value.int IntKind.i64 fd, Value.int IntKind.i64 ld]) (by kernel_rfl) (by kernel_rfl) (in_ret _ _ _ _) ?_
            refine s_done (v := Value.bool (inV (↑(wrd body (2 : Nat)) : Int) fd ld)) (by kernel_rfl) ?_
            exact ⟨by first | (rw [M1 ‹_› ‹_›]; done) | (rw [M2 ‹_›]; done) | (rw [M3 ‹_›]; done) | (rw [MY (by first | exact .inl ‹_› | exact .inr ‹_›) ‹_› ‹_›, ‹inV (wrd body 0) fs ls = true›]; rfl) | (rw [MY (by first | exact .inl ‹_› | exact .inr ‹_›) ‹_› ‹_›, ‹inV (wrd body 0) fs ls = false›]; rfl), hK⟩
          · refine s_done (v := Value.bool false) (by kernel_rfl) ?_
            exact ⟨by first | (rw [M1 ‹_› ‹_›]; done) | (rw [M2 ‹_›]; done) | (rw [M3 ‹_›]; done) | (rw [MY (by first | exact .inl ‹_› | exact .inr ‹_›) ‹_› ‹_›, ‹inV (wrd body 0) fs ls = true›]; rfl) | (rw [MY (by first | exact .inl ‹_› | exact .inr ‹_›) ‹_› ‹_›, ‹inV (wrd body 0) fs ls = false›]; rfl), hK⟩
  · have MN : rproto = 0 ∨ rproto = proto → hasV sa sb src = true → hasV da db dst = true → matchV ⟨permit, sa, sb, da, db, rproto, fs, ls, fd, ld⟩ ⟨src, dst, proto, ttl, id, off, more, whole, body⟩ = decide (fs = 0 ∧ ls = 65535 ∧ fd = 0 ∧ ld = 65535) := fun h1 h2 h3 => mvN (by exact h1) (by exact h2) (by exact h3) hp
    refine ret_of_G Try.func20 rfl rfl ?_
    refine x_new (ob := Obj.cells (#[Value.bool permit, Value.int IntKind.u32 sa, Value.int IntKind.i64 sb, Value.int IntKind.u32 da, Value.int IntKind.i64 db, Value.int IntKind.i64 rproto, Value.int IntKind.i64 fs, Value.int IntKind.i64 ls, Value.int IntKind.i64 fd, Value.int IntKind.i64 ld]) 45) (by kernel_rfl) (by kernel_rfl) (fun w1 b1 hb1 hB1 hk1 hlt1 => ?_)
    have hK := Keep.trans' hK hk1
    refine x_new (ob := Obj.cells (#[Value.int IntKind.u32 src, Value.int IntKind.u32 dst, Value.int IntKind.i64 proto, Value.int IntKind.i64 ttl, Value.int IntKind.i64 id, Value.int IntKind.i64 off, Value.bool more, Value.bool whole, Value.string body]) 37) (by kernel_rfl) (by kernel_rfl) (fun w2 b2 hb2 hB2 hk2 hlt2 => ?_)
    have hne2_hB1 : b1 ≠ b2 := Nat.ne_of_lt (by have := lt_of_blk hB1; omega)
    have hB1 := Keep.get hk2 hB1 (by simp)
    have hk1 := Keep.trans' hk1 hk2
    have hK := Keep.trans' hK hk2
    refine x_load (o := 5) hB1 rfl (by kernel_rfl) ?_
    refine s_if (b := rproto != (0 : Int)) (by kernel_rfl) (fun ht1 => ?_) (fun hf1 => ?_)
    · have p1 := bne_iff_ne.1 ht1
      refine x_load (o := 5) hB1 rfl (by kernel_rfl) ?_
      refine x_load (o := 2) hB2 rfl (by kernel_rfl) ?_
      refine s_if (b := rproto != proto) (by kernel_rfl) (fun ht2 => ?_) (fun hf2 => ?_)
      · have p2 := bne_iff_ne.1 ht2
        refine s_done (v := Value.bool false) (by kernel_rfl) ?_
        exact ⟨by first | (rw [M1 ‹_› ‹_›]; done) | (rw [M2 ‹_›]; done) | (rw [M3 ‹_›]; done) | (rw [MN (by first | exact .inl ‹_› | exact .inr ‹_›) ‹_› ‹_›]; congr 1; rw [Bool.eq_iff_iff]; simp; omega), hK⟩
      · have p2 := bne_eq_false_iff_eq.1 hf2
        refine x_load (o := 1) hB1 rfl (by kernel_rfl) ?_
        refine x_load (o := 2) hB1 rfl (by kernel_rfl) ?_
        refine x_load (o := 0) hB2 rfl (by kernel_rfl) ?_
        refine s_call (f := 39) (args := #[Value.agg (#[Value.int IntKind.u32 sa, Value.int IntKind.i64 sb]), Value.int IntKind.u32 src]) (by kernel_rfl) (by kernel_rfl) (by kernel_rfl) (has_ret _ _ _ hsb _) ?_
        rintro v w3 ⟨rfl, hk3⟩
        have hB2 := Keep.get hk3 hB2 (by simp)
        have hB1 := Keep.get hk3 hB1 (by simp)
        have hk2 := Keep.trans' hk2 hk3
        have hk1 := Keep.trans' hk1 hk3
        have hK := Keep.trans' hK hk3
        refine s_if (b := !hasV sa sb src) (by kernel_rfl) (fun ht3 => ?_) (fun hf3 => ?_)
        · have p3 : (hasV sa sb src) = false := by simpa using ht3
          refine s_done (v := Value.bool false) (by kernel_rfl) ?_
          exact ⟨by first | (rw [M1 ‹_› ‹_›]; done) | (rw [M2 ‹_›]; done) | (rw [M3 ‹_›]; done) | (rw [MN (by first | exact .inl ‹_› | exact .inr ‹_›) ‹_› ‹_›]; congr 1; rw [Bool.eq_iff_iff]; simp; omega), hK⟩
        · have p3 : (hasV sa sb src) = true := by simpa using hf3
          refine x_load (o := 3) hB1 rfl (by kernel_rfl) ?_
          refine x_load (o := 4) hB1 rfl (by kernel_rfl) ?_
          refine x_load (o := 1) hB2 rfl (by kernel_rfl) ?_
          refine s_call (f := 39) (args := #[Value.agg (#[Value.int IntKind.u32 da, Value.int IntKind.i64 db]), Value.int IntKind.u32 dst]) (by kernel_rfl) (by kernel_rfl) (by kernel_rfl) (has_ret _ _ _ hdb _) ?_
          rintro v w4 ⟨rfl, hk4⟩
          have hB2 := Keep.get hk4 hB2 (by simp)
          have hB1 := Keep.get hk4 hB1 (by simp)
          have hk3 := Keep.trans' hk3 hk4
          have hk2 := Keep.trans' hk2 hk4
          have hk1 := Keep.trans' hk1 hk4
          have hK := Keep.trans' hK hk4
          refine s_if (b := !hasV da db dst) (by kernel_rfl) (fun ht4 => ?_) (fun hf4 => ?_)
          · have p4 : (hasV da db dst) = false := by simpa using ht4
            refine s_done (v := Value.bool false) (by kernel_rfl) ?_
            exact ⟨by first | (rw [M1 ‹_› ‹_›]; done) | (rw [M2 ‹_›]; done) | (rw [M3 ‹_›]; done) | (rw [MN (by first | exact .inl ‹_› | exact .inr ‹_›) ‹_› ‹_›]; congr 1; rw [Bool.eq_iff_iff]; simp; omega), hK⟩
          · have p4 : (hasV da db dst) = true := by simpa using hf4
            refine x_load (o := 0) hB2 rfl (by kernel_rfl) ?_
            refine x_load (o := 1) hB2 rfl (by kernel_rfl) ?_
            refine x_load (o := 2) hB2 rfl (by kernel_rfl) ?_
            refine x_load (o := 3) hB2 rfl (by kernel_rfl) ?_
            refine x_load (o := 4) hB2 rfl (by kernel_rfl) ?_
            refine x_load (o := 5) hB2 rfl (by kernel_rfl) ?_
            refine x_load (o := 6) hB2 rfl (by kernel_rfl) ?_
            refine x_load (o := 7) hB2 rfl (by kernel_rfl) ?_
            refine x_load (o := 8) hB2 rfl (by kernel_rfl) ?_
            refine s_call (f := 40) (args := #[Value.agg (#[Value.int IntKind.u32 src, Value.int IntKind.u32 dst, Value.int IntKind.i64 proto, Value.int IntKind.i64 ttl, Value.int IntKind.i64 id, Value.int IntKind.i64 off, Value.bool more, Value.bool whole, #[Value.int IntKind.u32 src, Value.int IntKind.u32 dst, Value.int IntKind.i64 proto, Value.int IntKind.i64 ttl, Value.int IntKind.i64 id, Value.int IntKind.i64 off, Value.bool more, Value.bool whole, Value.string body][(8 : Nat)]])]) (by kernel_rfl) (by kernel_rfl) (by kernel_rfl) (ports_no ⟨src, dst, proto, ttl, id, off, more, whole, body⟩ hp _) ?_
            rintro v w5 ⟨rfl, hk5⟩
            have hB2 := Keep.get hk5 hB2 (by simp)
            have hB1 := Keep.get hk5 hB1 (by simp)
            have hk4 := Keep.trans' hk4 hk5
            have hk3 := Keep.trans' hk3 hk5
            have hk2 := Keep.trans' hk2 hk5
            have hk1 := Keep.trans' hk1 hk5
            have hK := Keep.trans' hK hk5
            refine s_ifT (b := true) (by kernel_rfl) rfl ?_
            refine x_load (o := 6) hB1 rfl (by kernel_rfl) ?_
            refine s_if (b := fs == (0 : Int)) (by kernel_rfl) (fun ht5 => ?_) (fun hf5 => ?_)
            · have p5 := eq_of_beq ht5
              refine x_load (o := 7) hB1 rfl (by kernel_rfl) ?_
              refine s_if (b := ls == (65535 : Int)) (by kernel_rfl) (fun ht6 => ?_) (fun hf6 => ?_)
              · have p6 := eq_of_beq ht6
                refine x_load (o := 8) hB1 rfl (by kernel_rfl) ?_
                refine s_if (b := fd == (0 : Int)) (by kernel_rfl) (fun ht7 => ?_) (fun hf7 => ?_)
                · have p7 := eq_of_beq ht7
                  refine x_load (o := 9) hB1 rfl (by kernel_rfl) ?_
                  refine s_done (v := Value.bool (ld == (65535 : Int))) (by kernel_rfl) ?_
                  exact ⟨by first | (rw [M1 ‹_› ‹_›]; done) | (rw [M2 ‹_›]; done) | (rw [M3 ‹_›]; done) | (rw [MN (by first | exact .inl ‹_› | exact .inr ‹_›) ‹_› ‹_›]; congr 1; rw [Bool.eq_iff_iff]; simp; omega), hK⟩
                · have p7 := ne_of_beq_false hf7
                  refine s_done (v := Value.bool false) (by kernel_rfl) ?_
                  exact ⟨by first | (rw [M1 ‹_› ‹_›]; done) | (rw [M2 ‹_›]; done) | (rw [M3 ‹_›]; done) | (rw [MN (by first | exact .inl ‹_› | exact .inr ‹_›) ‹_› ‹_›]; congr 1; rw [Bool.eq_iff_iff]; simp; omega), hK⟩
              · have p6 := ne_of_beq_false hf6
                refine s_done (v := Value.bool false) (by kernel_rfl) ?_
                exact ⟨by first | (rw [M1 ‹_› ‹_›]; done) | (rw [M2 ‹_›]; done) | (rw [M3 ‹_›]; done) | (rw [MN (by first | exact .inl ‹_› | exact .inr ‹_›) ‹_› ‹_›]; congr 1; rw [Bool.eq_iff_iff]; simp; omega), hK⟩
            · have p5 := ne_of_beq_false hf5
              refine s_done (v := Value.bool false) (by kernel_rfl) ?_
              exact ⟨by first | (rw [M1 ‹_› ‹_›]; done) | (rw [M2 ‹_›]; done) | (rw [M3 ‹_›]; done) | (rw [MN (by first | exact .inl ‹_› | exact .inr ‹_›) ‹_› ‹_›]; congr 1; rw [Bool.eq_iff_iff]; simp; omega), hK⟩
    · have p1 := bne_eq_false_iff_eq.1 hf1
      refine x_load (o := 1) hB1 rfl (by kernel_rfl) ?_
      refine x_load (o := 2) hB1 rfl (by kernel_rfl) ?_
      refine x_load (o := 0) hB2 rfl (by kernel_rfl) ?_
      refine s_call (f := 39) (args := #[Value.agg (#[Value.int IntKind.u32 sa, Value.int IntKind.i64 sb]), Value.int IntKind.u32 src]) (by kernel_rfl) (by kernel_rfl) (by kernel_rfl) (has_ret _ _ _ hsb _) ?_
      rintro v w3 ⟨rfl, hk3⟩
      have hB2 := Keep.get hk3 hB2 (by simp)
      have hB1 := Keep.get hk3 hB1 (by simp)
      have hk2 := Keep.trans' hk2 hk3
      have hk1 := Keep.trans' hk1 hk3
      have hK := Keep.trans' hK hk3
      refine s_if (b := !hasV sa sb src) (by kernel_rfl) (fun ht2 => ?_) (fun hf2 => ?_)
      · have p2 : (hasV sa sb src) = false := by simpa using ht2
        refine s_done (v := Value.bool false) (by kernel_rfl) ?_
        exact ⟨by first | (rw [M1 ‹_› ‹_›]; done) | (rw [M2 ‹_›]; done) | (rw [M3 ‹_›]; done) | (rw [MN (by first | exact .inl ‹_› | exact .inr ‹_›) ‹_› ‹_›]; congr 1; rw [Bool.eq_iff_iff]; simp; omega), hK⟩
      · have p2 : (hasV sa sb src) = true := by simpa using hf2
        refine x_load (o := 3) hB1 rfl (by kernel_rfl) ?_
        refine x_load (o := 4) hB1 rfl (by kernel_rfl) ?_
        refine x_load (o := 1) hB2 rfl (by kernel_rfl) ?_
        refine s_call (f := 39) (args := #[Value.agg (#[Value.int IntKind.u32 da, Value.int IntKind.i64 db]), Value.int IntKind.u32 dst]) (by kernel_rfl) (by kernel_rfl) (by kernel_rfl) (has_ret _ _ _ hdb _) ?_
        rintro v w4 ⟨rfl, hk4⟩
        have hB2 := Keep.get hk4 hB2 (by simp)
        have hB1 := Keep.get hk4 hB1 (by simp)
        have hk3 := Keep.trans' hk3 hk4
        have hk2 := Keep.trans' hk2 hk4
        have hk1 := Keep.trans' hk1 hk4
        have hK := Keep.trans' hK hk4
        refine s_if (b := !hasV da db dst) (by kernel_rfl) (fun ht3 => ?_) (fun hf3 => ?_)
        · have p3 : (hasV da db dst) = false := by simpa using ht3
          refine s_done (v := Value.bool false) (by kernel_rfl) ?_
          exact ⟨by first | (rw [M1 ‹_› ‹_›]; done) | (rw [M2 ‹_›]; done) | (rw [M3 ‹_›]; done) | (rw [MN (by first | exact .inl ‹_› | exact .inr ‹_›) ‹_› ‹_›]; congr 1; rw [Bool.eq_iff_iff]; simp; omega), hK⟩
        · have p3 : (hasV da db dst) = true := by simpa using hf3
          refine x_load (o := 0) hB2 rfl (by kernel_rfl) ?_
          refine x_load (o := 1) hB2 rfl (by kernel_rfl) ?_
          refine x_load (o := 2) hB2 rfl (by kernel_rfl) ?_
          refine x_load (o := 3) hB2 rfl (by kernel_rfl) ?_
          refine x_load (o := 4) hB2 rfl (by kernel_rfl) ?_
          refine x_load (o := 5) hB2 rfl (by kernel_rfl) ?_
          refine x_load (o := 6) hB2 rfl (by kernel_rfl) ?_
          refine x_load (o := 7) hB2 rfl (by kernel_rfl) ?_
          refine x_load (o := 8) hB2 rfl (by kernel_rfl) ?_
          refine s_call (f := 40) (args := #[Value.agg (#[Value.int IntKind.u32 src, Value.int IntKind.u32 dst, Value.int IntKind.i64 proto, Value.int IntKind.i64 ttl, Value.int IntKind.i64 id, Value.int IntKind.i64 off, Value.bool more, Value.bool whole, #[Value.int IntKind.u32 src, Value.int IntKind.u32 dst, Value.int IntKind.i64 proto, Value.int IntKind.i64 ttl, Value.int IntKind.i64 id, Value.int IntKind.i64 off, Value.bool more, Value.bool whole, Value.string body][(8 : Nat)]])]) (by kernel_rfl) (by kernel_rfl) (by kernel_rfl) (ports_no ⟨src, dst, proto, ttl, id, off, more, whole, body⟩ hp _) ?_
          rintro v w5 ⟨rfl, hk5⟩
          have hB2 := Keep.get hk5 hB2 (by simp)
          have hB1 := Keep.get hk5 hB1 (by simp)
          have hk4 := Keep.trans' hk4 hk5
          have hk3 := Keep.trans' hk3 hk5
          have hk2 := Keep.trans' hk2 hk5
          have hk1 := Keep.trans' hk1 hk5
          have hK := Keep.trans' hK hk5
          refine s_ifT (b := true) (by kernel_rfl) rfl ?_
          refine x_load (o := 6) hB1 rfl (by kernel_rfl) ?_
          refine s_if (b := fs == (0 : Int)) (by kernel_rfl) (fun ht4 => ?_) (fun hf4 => ?_)
          · have p4 := eq_of_beq ht4
            refine x_load (o := 7) hB1 rfl (by kernel_rfl) ?_
            refine s_if (b := ls == (65535 : Int)) (by kernel_rfl) (fun ht5 => ?_) (fun hf5 => ?_)
            · have p5 := eq_of_beq ht5
              refine x_load (o := 8) hB1 rfl (by kernel_rfl) ?_
              refine s_if (b := fd == (0 : Int)) (by kernel_rfl) (fun ht6 => ?_) (fun hf6 => ?_)
              · have p6 := eq_of_beq ht6
                refine x_load (o := 9) hB1 rfl (by kernel_rfl) ?_
                refine s_done (v := Value.bool (ld == (65535 : Int))) (by kernel_rfl) ?_
                exact ⟨by first | (rw [M1 ‹_› ‹_›]; done) | (rw [M2 ‹_›]; done) | (rw [M3 ‹_›]; done) | (rw [MN (by first | exact .inl ‹_› | exact .inr ‹_›) ‹_› ‹_›]; congr 1; rw [Bool.eq_iff_iff]; simp; omega), hK⟩
              · have p6 := ne_of_beq_false hf6
                refine s_done (v := Value.bool false) (by kernel_rfl) ?_
                exact ⟨by first | (rw [M1 ‹_› ‹_›]; done) | (rw [M2 ‹_›]; done) | (rw [M3 ‹_›]; done) | (rw [MN (by first | exact .inl ‹_› | exact .inr ‹_›) ‹_› ‹_›]; congr 1; rw [Bool.eq_iff_iff]; simp; omega), hK⟩
            · have p5 := ne_of_beq_false hf5
              refine s_done (v := Value.bool false) (by kernel_rfl) ?_
              exact ⟨by first | (rw [M1 ‹_› ‹_›]; done) | (rw [M2 ‹_›]; done) | (rw [M3 ‹_›]; done) | (rw [MN (by first | exact .inl ‹_› | exact .inr ‹_›) ‹_› ‹_›]; congr 1; rw [Bool.eq_iff_iff]; simp; omega), hK⟩
          · have p4 := ne_of_beq_false hf4
            refine s_done (v := Value.bool false) (by kernel_rfl) ?_
            exact ⟨by first | (rw [M1 ‹_› ‹_›]; done) | (rw [M2 ‹_›]; done) | (rw [M3 ‹_›]; done) | (rw [MN (by first | exact .inl ‹_› | exact .inr ‹_›) ‹_› ‹_›]; congr 1; rw [Bool.eq_iff_iff]; simp; omega), hK⟩
end Go.Proofs.Ytfknpeajihecdaa
