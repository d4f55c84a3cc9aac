import Derived.Test.YtfknpeajihecdaaRu3
import Derived.Test.YtfknpeajihecdaaXMeq
namespace Go.Proofs.Ytfknpeajihecdaa
open Go.XM Go.RowKit Go.Dg Go.Ru
set_option maxRecDepth 100000

def RulesB (c : Array Value) (off : Nat) (L : List RuleV) : Prop := ∀ (k : Nat) (r : RuleV), L[k]? = some r → ∀ (j : Nat) (v : Value), (encR r)[j]? = some v → c[off + (k : Int).toNat * 10 + j]? = some v

theorem ce1 {r : RuleV} (h : acE r.sa r.sb ≠ 0) : ruleE r = acE r.sa r.sb := by unfold ruleE; rw [if_pos h]
theorem ce2 {r : RuleV} (h1 : acE r.sa r.sb = 0) (h : acE r.da r.db ≠ 0) : ruleE r = acE r.da r.db := by unfold ruleE; rw [if_neg (by rw [h1]; simp), if_pos h]
theorem ce3 {r : RuleV} (h1 : acE r.sa r.sb = 0) (h2 : acE r.da r.db = 0) (h : inV r.proto 0 255 = false ∨ badR r.fs r.ls = true ∨ badR r.fd r.ld = true) : ruleE r = 1 := by unfold ruleE; rw [if_neg (by rw [h1]; simp), if_neg (by rw [h2]; simp), if_pos h]
theorem ce4 {r : RuleV} (h1 : acE r.sa r.sb = 0) (h2 : acE r.da r.db = 0) (h3 : inV r.proto 0 255 = true) (h4 : badR r.fs r.ls = false) (h5 : badR r.fd r.ld = false) : ruleE r = 0 := by
  unfold ruleE; rw [if_neg (by rw [h1]; simp), if_neg (by rw [h2]; simp), if_neg (by rw [h3, h4, h5]; simp)]

theorem firstE_drop {L : List RuleV} {k : Nat} {r : RuleV} (h : L[k]? = some r) : firstE (L.drop k) = if ruleE r ≠ 0 then ruleE r else firstE (L.drop (k + 1)) := by
  obtain ⟨hk, e⟩ := List.getElem?_eq_some_iff.1 h
  rw [List.drop_eq_getElem_cons hk, e]; rfl

theorem firstE_nil : firstE [] = 0 := rfl
attribute [local irreducible] acE inV badR ruleE firstE Ret
set_option maxHeartbeats 0 in
theorem check_some (L : List RuleV) (b off cap : Nat) (c : Array Value) (T : TypeId) (fz : Nat × Nat) (w : World) (hB : w.heap[b]? = some (.cells c T fz)) (hR : RulesB c off L) (hw : ∀ r ∈ L, W64 r.sb ∧ W64 r.db) :
    Ret Try.prog 18 #[.slice (some ⟨b, off, none⟩) L.length cap] w fun v w' => v = .int .i64 (checkL L) ∧ Keep [] w w' := by
  refine ret_of_G Try.func18 rfl rfl ?_
  refine s_if (b := decide ((L.length : Int) > 16)) (by kernel_rfl) (fun h => ?_) (fun h => ?_)
  · refine s_done (v := .int .i64 2) (by kernel_rfl) ⟨?_, Keep.refl _ _⟩
    have h := of_decide_eq_true h
    unfold checkL
    rw [if_pos (by omega)]
  have h := of_decide_eq_false h
  refine s_loop (γ := Nat) 0 [12] (fun k => [.int .i64 k]) (fun k w' => k ≤ L.length ∧ Keep [] w w' ∧ firstE L = firstE (L.drop k)) (fun k => L.length - k) 0 [.int .i64 0] (by kernel_rfl) (by kernel_rfl) rfl (by kernel_rfl) rfl ⟨Nat.zero_le _, Keep.refl _ _, rfl⟩ ?_
  rintro k w1 ⟨hk, hK, hF⟩
  refine s_if (b := decide ((k : Int) < L.length)) (by kernel_rfl) (fun hl => ?_) (fun hl => ?_)
  · have hl : k < L.length := by have := of_decide_eq_true hl; omega
    obtain ⟨r, hr⟩ : ∃ r, L[k]? = some r := ⟨L[k], List.getElem?_eq_getElem hl⟩
    have hRk := hR k r hr
    obtain ⟨hsb, hdb⟩ := hw r (List.mem_of_getElem? hr)
    have hfd := firstE_drop hr
    obtain ⟨permit, sa, sb, da, db, rproto, fs, ls, fd, ld⟩ := r
    have hsb : W64 sb := hsb
    have hdb : W64 db := hdb
    have E1 : acE sa sb ≠ 0 → ruleE ⟨permit, sa, sb, da, db, rproto, fs, ls, fd, ld⟩ = acE sa sb := fun h => ce1 (by exact h)
    have E2 : acE sa sb = 0 → acE da db ≠ 0 → ruleE ⟨permit, sa, sb, da, db, rproto, fs, ls, fd, ld⟩ = acE da db := fun h h2 => ce2 (by exact h) (by exact h2)
    have E3 : acE sa sb = 0 → acE da db = 0 → (inV rproto 0 255 = false ∨ badR fs ls = true ∨ badR fd ld = true) → ruleE ⟨permit, sa, sb, da, db, rproto, fs, ls, fd, ld⟩ = 1 := fun h h2 h3 => ce3 (by exact h) (by exact h2) (by exact h3)
    have E4 : acE sa sb = 0 → acE da db = 0 → inV rproto 0 255 = true → badR fs ls = false → badR fd ld = false → ruleE ⟨permit, sa, sb, da, db, rproto, fs, ls, fd, ld⟩ = 0 := fun h h2 h3 h4 h5 => ce4 (by exact h) (by exact h2) (by exact h3) (by exact h4) (by exact h5)
    have hcl : checkL L = firstE L := by unfold checkL; rw [if_neg (by omega)]
    have e0 : c[off + (k : Int).toNat * 10]? = _ := hRk 0 _ rfl
    have e1 := hRk 1 _ rfl
    have e2 := hRk 2 _ rfl
    have e3 := hRk 3 _ rfl
    have e4 := hRk 4 _ rfl
    have e5 := hRk 5 _ rfl
    have e6 := hRk 6 _ rfl
    have e7 := hRk 7 _ rfl
    have e8 := hRk 8 _ rfl
    have e9 := hRk 9 _ rfl
    have hb0 := lt_of_blk hB
    have hB := Keep.get hK hB (by simp)
    clear hRk
    have ek : [Value.int .i64 (IntKind.i64.wrap ((k : Int) + 1))] = [.int .i64 ((k + 1 : Nat) : Int)] := by rw [w64 (by omega) (by omega)]; rfl
    refine x_idx (e := 45) (size := 10) (b := b) (o := off) (n := L.length) (c := cap) (i := k) (kd := .i64) (t := 35) (by kernel_rfl) (by kernel_rfl) (by omega) (by omega) (by kernel_rfl) ?_
    refine x_load (o := off + (k : Int).toNat * 10) hB e0 (by kernel_rfl) ?_
    refine x_load (o := off + (k : Int).toNat * 10 + 1) hB e1 (by kernel_rfl) ?_
    refine x_load (o := off + (k : Int).toNat * 10 + 2) hB e2 (by kernel_rfl) ?_
    refine x_load (o := off + (k : Int).toNat * 10 + 3) hB e3 (by kernel_rfl) ?_
    refine x_load (o := off + (k : Int).toNat * 10 + 4) hB e4 (by kernel_rfl) ?_
    refine x_load (o := off + (k : Int).toNat * 10 + 5) hB e5 (by kernel_rfl) ?_
    refine x_load (o := off + (k : Int).toNat * 10 + 6) hB e6 (by kernel_rfl) ?_
    refine x_load (o := off + (k : Int).toNat * 10 + 7) hB e7 (by kernel_rfl) ?_
    refine x_load (o := off + (k : Int).toNat * 10 + 8) hB e8 (by kernel_rfl) ?_
    refine x_load (o := off + (k : Int).toNat * 10 + 9) hB e9 (by kernel_rfl) ?_
    refine x_new (ob := Obj.cells (#[Value.bool false, Value.int IntKind.u32 (0 : Int), Value.int IntKind.i64 (0 : Int), Value.int IntKind.u32 (0 : Int), Value.int IntKind.i64 (0 : Int), Value.int IntKind.i64 (0 : Int), Value.int IntKind.i64 (0 : Int), Value.int IntKind.i64 (0 : Int), Value.int IntKind.i64 (0 : Int), Value.int IntKind.i64 (0 : Int)]) 45) (by kernel_rfl) (by kernel_rfl) (fun w2 b2 hb2 hB2 hk2 hlt2 => ?_)
    have hne2_hB : b ≠ b2 := Nat.ne_of_lt (by have := lt_of_blk hB; omega)
    have hB := Keep.get hk2 hB (by simp)
    have hge2_hK := Nat.le_trans (Keep.size hK) (Nat.le_of_eq hb2.symm)
    have hK := Keep.trans' hK hk2
    clear hk2
    refine x_store (o := 0) (v := Value.bool permit) hB2 (by simp) (by kernel_rfl) (by kernel_rfl) rfl (fun w3 hB2' hk3 => ?_)
    have hB := Keep.get hk3 hB (by simp only [List.mem_singleton]; first | assumption | (apply Ne.symm; assumption) | omega)
    have hB2 : _ = some (Obj.cells #[Value.bool permit, Value.int IntKind.u32 (0 : Int), Value.int IntKind.i64 (0 : Int), Value.int IntKind.u32 (0 : Int), Value.int IntKind.i64 (0 : Int), Value.int IntKind.i64 (0 : Int), Value.int IntKind.i64 (0 : Int), Value.int IntKind.i64 (0 : Int), Value.int IntKind.i64 (0 : Int), Value.int IntKind.i64 (0 : Int)] 45 (0, 0)) := hB2'.trans (by kernel_rfl)
    clear hB2'
    have hK := Keep.trans hK hk3 (U := []) (fun _ h => nomatch h) (fun x hx => by simp only [List.mem_singleton] at hx; subst hx; right; omega)
    clear hk3
    refine x_store (o := 1) (v := Value.int IntKind.u32 sa) hB2 (by simp) (by kernel_rfl) (by kernel_rfl) rfl (fun w4 hB2' hk4 => ?_)
    have hB := Keep.get hk4 hB (by simp only [List.mem_singleton]; first | assumption | (apply Ne.symm; assumption) | omega)
    have hB2 : _ = some (Obj.cells #[Value.bool permit, Value.int IntKind.u32 sa, Value.int IntKind.i64 (0 : Int), Value.int IntKind.u32 (0 : Int), Value.int IntKind.i64 (0 : Int), Value.int IntKind.i64 (0 : Int), Value.int IntKind.i64 (0 : Int), Value.int IntKind.i64 (0 : Int), Value.int IntKind.i64 (0 : Int), Value.int IntKind.i64 (0 : Int)] 45 (0, 0)) := hB2'.trans (by kernel_rfl)
    clear hB2'
    have hK := Keep.trans hK hk4 (U := []) (fun _ h => nomatch h) (fun x hx => by simp only [List.mem_singleton] at hx; subst hx; right; omega)
    clear hk4
    refine x_store (o := 2) (v := Value.int IntKind.i64 sb) hB2 (by simp) (by kernel_rfl) (by kernel_rfl) rfl (fun w5 hB2' hk5 => ?_)
    have hB := Keep.get hk5 hB (by simp only [List.mem_singleton]; first | assumption | (apply Ne.symm; assumption) | omega)
    have hB2 : _ = some (Obj.cells #[Value.bool permit, Value.int IntKind.u32 sa, Value.int IntKind.i64 sb, Value.int IntKind.u32 (0 : Int), Value.int IntKind.i64 (0 : Int), Value.int IntKind.i64 (0 : Int), Value.int IntKind.i64 (0 : Int), Value.int IntKind.i64 (0 : Int), Value.int IntKind.i64 (0 : Int), Value.int IntKind.i64 (0 : Int)] 45 (0, 0)) := hB2'.trans (by kernel_rfl)
    clear hB2'
    have hK := Keep.trans hK hk5 (U := []) (fun _ h => nomatch h) (fun x hx => by simp only [List.mem_singleton] at hx; subst hx; right; omega)
    clear hk5
    refine x_store (o := 3) (v := Value.int IntKind.u32 da) hB2 (by simp) (by kernel_rfl) (by kernel_rfl) rfl (fun w6 hB2' hk6 => ?_)
    have hB := Keep.get hk6 hB (by simp only [List.mem_singleton]; first | assumption | (apply Ne.symm; assumption) | omega)
    have hB2 : _ = some (Obj.cells #[Value.bool permit, Value.int IntKind.u32 sa, Value.int IntKind.i64 sb, Value.int IntKind.u32 da, Value.int IntKind.i64 (0 : Int), Value.int IntKind.i64 (0 : Int), Value.int IntKind.i64 (0 : Int), Value.int IntKind.i64 (0 : Int), Value.int IntKind.i64 (0 : Int), Value.int IntKind.i64 (0 : Int)] 45 (0, 0)) := hB2'.trans (by kernel_rfl)
    clear hB2'
    have hK := Keep.trans hK hk6 (U := []) (fun _ h => nomatch h) (fun x hx => by simp only [List.mem_singleton] at hx; subst hx; right; omega)
    clear hk6
    refine x_store (o := 4) (v := Value.int IntKind.i64 db) hB2 (by simp) (by kernel_rfl) (by kernel_rfl) rfl (fun w7 hB2' hk7 => ?_)
    have hB := Keep.get hk7 hB (by simp only [List.mem_singleton]; first | assumption | (apply Ne.symm; assumption) | omega)
    have hB2 : _ = some (Obj.cells #[Value.bool permit, Value.int IntKind.u32 sa, Value.int IntKind.i64 sb, Value.int IntKind.u32 da, Value.int IntKind.i64 db, Value.int IntKind.i64 (0 : Int), Value.int IntKind.i64 (0 : Int), Value.int IntKind.i64 (0 : Int), Value.int IntKind.i64 (0 : Int), Value.int IntKind.i64 (0 : Int)] 45 (0, 0)) := hB2'.trans (by kernel_rfl)
    clear hB2'
    have hK := Keep.trans hK hk7 (U := []) (fun _ h => nomatch h) (fun x hx => by simp only [List.mem_singleton] at hx; subst hx; right; omega)
    clear hk7
    refine x_store (o := 5) (v := Value.int IntKind.i64 rproto) hB2 (by simp) (by kernel_rfl) (by kernel_rfl) rfl (fun w8 hB2' hk8 => ?_)
    have hB := Keep.get hk8 hB (by simp only [List.mem_singleton]; first | assumption | (apply Ne.symm; assumption) | omega)
    have hB2 : _ = some (Obj.cells #[Value.bool permit, Value.int IntKind.u32 sa, Value.int IntKind.i64 sb, Value.int IntKind.u32 da, Value.int IntKind.i64 db, Value.int IntKind.i64 rproto, Value.int IntKind.i64 (0 : Int), Value.int IntKind.i64 (0 : Int), Value.int IntKind.i64 (0 : Int), Value.int IntKind.i64 (0 : Int)] 45 (0, 0)) := hB2'.trans (by kernel_rfl)
    clear hB2'
    have hK := Keep.trans hK hk8 (U := []) (fun _ h => nomatch h) (fun x hx => by simp only [List.mem_singleton] at hx; subst hx; right; omega)
    clear hk8
    refine x_store (o := 6) (v := Value.int IntKind.i64 fs) hB2 (by simp) (by kernel_rfl) (by kernel_rfl) rfl (fun w9 hB2' hk9 => ?_)
    have hB := Keep.get hk9 hB (by simp only [List.mem_singleton]; first | assumption | (apply Ne.symm; assumption) | omega)
    have hB2 : _ = some (Obj.cells #[Value.bool permit, Value.int IntKind.u32 sa, Value.int IntKind.i64 sb, Value.int IntKind.u32 da, Value.int IntKind.i64 db, Value.int IntKind.i64 rproto, Value.int IntKind.i64 fs, Value.int IntKind.i64 (0 : Int), Value.int IntKind.i64 (0 : Int), Value.int IntKind.i64 (0 : Int)] 45 (0, 0)) := hB2'.trans (by kernel_rfl)
    clear hB2'
    have hK := Keep.trans hK hk9 (U := []) (fun _ h => nomatch h) (fun x hx => by simp only [List.mem_singleton] at hx; subst hx; right; omega)
    clear hk9
    refine x_store (o := 7) (v := Value.int IntKind.i64 ls) hB2 (by simp) (by kernel_rfl) (by kernel_rfl) rfl (fun w10 hB2' hk10 => ?_)
    have hB := Keep.get hk10 hB (by simp only [List.mem_singleton]; first | assumption | (apply Ne.symm; assumption) | omega)
    have hB2 : _ = some (Obj.cells #[Value.bool permit, Value.int IntKind.u32 sa, Value.int IntKind.i64 sb, Value.int IntKind.u32 da, Value.int IntKind.i64 db, Value.int IntKind.i64 rproto, Value.int IntKind.i64 fs, Value.int IntKind.i64 ls, Value.int IntKind.i64 (0 : Int), Value.int IntKind.i64 (0 : Int)] 45 (0, 0)) := hB2'.trans (by kernel_rfl)
    clear hB2'
    have hK := Keep.trans hK hk10 (U := []) (fun _ h => nomatch h) (fun x hx => by simp only [List.mem_singleton] at hx; subst hx; right; omega)
    clear hk10
    refine x_store (o := 8) (v := Value.int IntKind.i64 fd) hB2 (by simp) (by kernel_rfl) (by kernel_rfl) rfl (fun w11 hB2' hk11 => ?_)
    have hB := Keep.get hk11 hB (by simp only [List.mem_singleton]; first | assumption | (apply Ne.symm; assumption) | omega)
    have hB2 : _ = some (Obj.cells #[Value.bool permit, Value.int IntKind.u32 sa, Value.int IntKind.i64 sb, Value.int IntKind.u32 da, Value.int IntKind.i64 db, Value.int IntKind.i64 rproto, Value.int IntKind.i64 fs, Value.int IntKind.i64 ls, Value.int IntKind.i64 fd, Value.int IntKind.i64 (0 : Int)] 45 (0, 0)) := hB2'.trans (by kernel_rfl)
    clear hB2'
    have hK := Keep.trans hK hk11 (U := []) (fun _ h => nomatch h) (fun x hx => by simp only [List.mem_singleton] at hx; subst hx; right; omega)
    clear hk11
    refine x_store (o := 9) (v := Value.int IntKind.i64 ld) hB2 (by simp) (by kernel_rfl) (by kernel_rfl) rfl (fun w12 hB2' hk12 => ?_)
    have hB := Keep.get hk12 hB (by simp only [List.mem_singleton]; first | assumption | (apply Ne.symm; assumption) | omega)
    have hB2 : _ = some (Obj.cells #[Value.bool permit, Value.int IntKind.u32 sa, Value.int IntKind.i64 sb, Value.int IntKind.u32 da, Value.int IntKind.i64 db, Value.int IntKind.i64 rproto, Value.int IntKind.i64 fs, Value.int IntKind.i64 ls, Value.int IntKind.i64 fd, Value.int IntKind.i64 ld] 45 (0, 0)) := hB2'.trans (by kernel_rfl)
    clear hB2'
    have hK := Keep.trans hK hk12 (U := []) (fun _ h => nomatch h) (fun x hx => by simp only [List.mem_singleton] at hx; subst hx; right; omega)
    clear hk12
    refine x_load (o := 1) hB2 rfl (by kernel_rfl) ?_
    refine x_load (o := 2) hB2 rfl (by kernel_rfl) ?_
    refine s_call (f := 36) (args := #[Value.agg (#[Value.int IntKind.u32 sa, Value.int IntKind.i64 sb])]) (by kernel_rfl) (by kernel_rfl) (by kernel_rfl) (addrCheck_ret _ _ hsb _) ?_
    rintro v w13 ⟨rfl, hk13⟩
    have hB := Keep.get hk13 hB (by simp)
    have hB2 := Keep.get hk13 hB2 (by simp)
    have hK := Keep.trans' hK hk13
    clear hk13
    refine s_if (b := acE sa sb != (0 : Int)) (by kernel_rfl) (fun ht1 => ?_) (fun hf1 => ?_)
    · have p1 := bne_iff_ne.1 ht1
      refine s_done (v := Value.int IntKind.i64 (acE sa sb)) (by kernel_rfl) ?_
      first | exact ⟨by rw [hcl, hF, hfd, E1 ‹_›, if_pos ‹_›], hK⟩ | exact ⟨by rw [hcl, hF, hfd, E2 ‹_› ‹_›, if_pos ‹_›], hK⟩ | exact ⟨by rw [hcl, hF, hfd, E3 ‹_› ‹_› (by first | exact .inl ‹_› | exact .inr (.inl ‹_›) | exact .inr (.inr ‹_›)), if_pos (by decide)], hK⟩ | exact s_again 0 (k + 1) [.int .i64 (IntKind.i64.wrap ((k : Int) + 1))] rfl (by kernel_rfl) (by kernel_rfl) (by kernel_rfl) ek ⟨by omega, hK, by rw [hF, hfd, E4 ‹_› ‹_› ‹_› ‹_› ‹_›, if_neg (by decide)]⟩ (by show L.length - (k + 1) < L.length - k; omega)
    · have p1 := bne_eq_false_iff_eq.1 hf1
      refine x_load (o := 3) hB2 rfl (by kernel_rfl) ?_
      refine x_load (o := 4) hB2 rfl (by kernel_rfl) ?_
      refine s_call (f := 36) (args := #[Value.agg (#[Value.int IntKind.u32 da, Value.int IntKind.i64 db])]) (by kernel_rfl) (by kernel_rfl) (by kernel_rfl) (addrCheck_ret _ _ hdb _) ?_
      rintro v w14 ⟨rfl, hk14⟩
      have hB := Keep.get hk14 hB (by simp)
      have hB2 := Keep.get hk14 hB2 (by simp)
      have hK := Keep.trans' hK hk14
      clear hk14
      refine s_if (b := acE da db != (0 : Int)) (by kernel_rfl) (fun ht2 => ?_) (fun hf2 => ?_)
      · have p2 := bne_iff_ne.1 ht2
        refine s_done (v := Value.int IntKind.i64 (acE da db)) (by kernel_rfl) ?_
        first | exact ⟨by rw [hcl, hF, hfd, E1 ‹_›, if_pos ‹_›], hK⟩ | exact ⟨by rw [hcl, hF, hfd, E2 ‹_› ‹_›, if_pos ‹_›], hK⟩ | exact ⟨by rw [hcl, hF, hfd, E3 ‹_› ‹_› (by first | exact .inl ‹_› | exact .inr (.inl ‹_›) | exact .inr (.inr ‹_›)), if_pos (by decide)], hK⟩ | exact s_again 0 (k + 1) [.int .i64 (IntKind.i64.wrap ((k : Int) + 1))] rfl (by kernel_rfl) (by kernel_rfl) (by kernel_rfl) ek ⟨by omega, hK, by rw [hF, hfd, E4 ‹_› ‹_› ‹_› ‹_› ‹_›, if_neg (by decide)]⟩ (by show L.length - (k + 1) < L.length - k; omega)
      · have p2 := bne_eq_false_iff_eq.1 hf2
        refine x_load (o := 5) hB2 rfl (by kernel_rfl) ?_
        refine s_callS (f := 37) (args := #[Value.int IntKind.i64 rproto, Value.int IntKind.i64 (0 : Int), Value.int IntKind.i64 (255 : Int)]) (by kernel_rfl) (by kernel_rfl) (in_ret _ _ _ _) ?_
        refine s_if (b := !inV rproto (0 : Int) (255 : Int)) (by kernel_rfl) (fun ht3 => ?_) (fun hf3 => ?_)
        · have p3 : (inV rproto (0 : Int) (255 : Int)) = false := by simpa using ht3
          refine s_done (v := Value.int IntKind.i64 (1 : Int)) (by kernel_rfl) ?_
          first | exact ⟨by rw [hcl, hF, hfd, E1 ‹_›, if_pos ‹_›], hK⟩ | exact ⟨by rw [hcl, hF, hfd, E2 ‹_› ‹_›, if_pos ‹_›], hK⟩ | exact ⟨by rw [hcl, hF, hfd, E3 ‹_› ‹_› (by first | exact .inl ‹_› | exact .inr (.inl ‹_›) | exact .inr (.inr ‹_›)), if_pos (by decide)], hK⟩ | exact s_again 0 (k + 1) [.int .i64 (IntKind.i64.wrap ((k : Int) + 1))] rfl (by kernel_rfl) (by kernel_rfl) (by kernel_rfl) ek ⟨by omega, hK, by rw [hF, hfd, E4 ‹_› ‹_› ‹_› ‹_› ‹_›, if_neg (by decide)]⟩ (by show L.length - (k + 1) < L.length - k; omega)
        · have p3 : (inV rproto (0 : Int) (255 : Int)) = true := by simpa using hf3
          refine x_load (o := 6) hB2 rfl (by kernel_rfl) ?_
          refine x_load (o := 7) hB2 rfl (by kernel_rfl) ?_
          refine s_callS (f := 38) (args := #[Value.int IntKind.i64 fs, Value.int IntKind.i64 ls]) (by kernel_rfl) (by kernel_rfl) (badRange_ret _ _ _) ?_
          refine s_if (b := badR fs ls) (by kernel_rfl) (fun ht4 => ?_) (fun hf4 => ?_)
          · refine s_done (v := Value.int IntKind.i64 (1 : Int)) (by kernel_rfl) ?_
            first | exact ⟨by rw [hcl, hF, hfd, E1 ‹_›, if_pos ‹_›], hK⟩ | exact ⟨by rw [hcl, hF, hfd, E2 ‹_› ‹_›, if_pos ‹_›], hK⟩ | exact ⟨by rw [hcl, hF, hfd, E3 ‹_› ‹_› (by first | exact .inl ‹_› | exact .inr (.inl ‹_›) | exact .inr (.inr ‹_›)), if_pos (by decide)], hK⟩ | exact s_again 0 (k + 1) [.int .i64 (IntKind.i64.wrap ((k : Int) + 1))] rfl (by kernel_rfl) (by kernel_rfl) (by kernel_rfl) ek ⟨by omega, hK, by rw [hF, hfd, E4 ‹_› ‹_› ‹_› ‹_› ‹_›, if_neg (by decide)]⟩ (by show L.length - (k + 1) < L.length - k; omega)
          · refine x_load (o := 8) hB2 rfl (by kernel_rfl) ?_
            refine x_load (o := 9) hB2 rfl (by kernel_rfl) ?_
            refine s_callS (f := 38) (args := #[Value.int IntKind.i64 fd, Value.int IntKind.i64 ld]) (by kernel_rfl) (by kernel_rfl) (badRange_ret _ _ _) ?_
            refine s_if (b := badR fd ld) (by kernel_rfl) (fun ht5 => ?_) (fun hf5 => ?_)
            · refine s_done (v := Value.int IntKind.i64 (1 : Int)) (by kernel_rfl) ?_
              first | exact ⟨by rw [hcl, hF, hfd, E1 ‹_›, if_pos ‹_›], hK⟩ | exact ⟨by rw [hcl, hF, hfd, E2 ‹_› ‹_›, if_pos ‹_›], hK⟩ | exact ⟨by rw [hcl, hF, hfd, E3 ‹_› ‹_› (by first | exact .inl ‹_› | exact .inr (.inl ‹_›) | exact .inr (.inr ‹_›)), if_pos (by decide)], hK⟩ | exact s_again 0 (k + 1) [.int .i64 (IntKind.i64.wrap ((k : Int) + 1))] rfl (by kernel_rfl) (by kernel_rfl) (by kernel_rfl) ek ⟨by omega, hK, by rw [hF, hfd, E4 ‹_› ‹_› ‹_› ‹_› ‹_›, if_neg (by decide)]⟩ (by show L.length - (k + 1) < L.length - k; omega)
            · first | exact ⟨by rw [hcl, hF, hfd, E1 ‹_›, if_pos ‹_›], hK⟩ | exact ⟨by rw [hcl, hF, hfd, E2 ‹_› ‹_›, if_pos ‹_›], hK⟩ | exact ⟨by rw [hcl, hF, hfd, E3 ‹_› ‹_› (by first | exact .inl ‹_› | exact .inr (.inl ‹_›) | exact .inr (.inr ‹_›)), if_pos (by decide)], hK⟩ | exact s_again 0 (k + 1) [.int .i64 (IntKind.i64.wrap ((k : Int) + 1))] rfl (by kernel_rfl) (by kernel_rfl) (by kernel_rfl) ek ⟨by omega, hK, by rw [hF, hfd, E4 ‹_› ‹_› ‹_› ‹_› ‹_›, if_neg (by decide)]⟩ (by show L.length - (k + 1) < L.length - k; omega)
  · have hl : k = L.length := by have := of_decide_eq_false hl; omega
    subst hl
    refine s_done (v := .int .i64 0) (by kernel_rfl) ⟨?_, hK⟩
    unfold checkL
    rw [if_neg (by omega), hF, List.drop_length, firstE_nil]
end Go.Proofs.Ytfknpeajihecdaa
