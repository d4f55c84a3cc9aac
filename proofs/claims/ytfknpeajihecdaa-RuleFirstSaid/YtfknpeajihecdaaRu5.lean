import Derived.Test.YtfknpeajihecdaaRu4
import Derived.Test.YtfknpeajihecdaaXMeq
namespace Go.Proofs.Ytfknpeajihecdaa
open Go.XM Go.RowKit Go.Dg Go.Ru
set_option maxRecDepth 100000

def RSl (w : World) (v : Value) (L : List RuleV) : Prop :=
  (v = .slice none 0 0 ∧ L = []) ∨ ∃ b off cap c T fz, v = .slice (some ⟨b, off, none⟩) L.length cap ∧ w.heap[b]? = some (.cells c T fz) ∧ RulesB c off L

theorem RSl.keep {w w' : World} {v : Value} {L : List RuleV} (h : RSl w v L) (k : Keep [] w w') : RSl w' v L := by
  rcases h with h | ⟨b, off, cap, c, T, fz, h1, h2, h3⟩
  · exact .inl h
  · exact .inr ⟨b, off, cap, c, T, fz, h1, Keep.get k h2 (by simp), h3⟩

attribute [local irreducible] acE inV badR ruleE firstE Ret pktE matchV in
theorem check_nil (w : World) : Ret Try.prog 18 #[.slice none 0 0] w fun v w' => v = .int .i64 (checkL []) ∧ Keep [] w w' := by
  refine ret_of_G Try.func18 rfl rfl ?_
  have hK := Keep.refl [] w
  refine s_ifF (b := false) (by kernel_rfl) rfl ?_
  -- stop: Req.loop
  refine s_loop (γ := Unit) 0 [12] (fun _ => [.int .i64 0]) (fun _ w' => w' = w) (fun _ => 0) () [.int .i64 0] (by kernel_rfl) (by kernel_rfl) rfl (by kernel_rfl) rfl rfl ?_
  rintro _ w1 rfl
  refine s_ifF (b := false) (by kernel_rfl) rfl ?_
  -- stop: Req.done (Value.int IntKind.i64 (0 : Int))
  refine s_done (v := .int .i64 0) (by kernel_rfl) ⟨?_, hK⟩
  unfold checkL
  rw [if_neg (by simp), firstE_nil]

theorem rcheck_ret {L : List RuleV} {v : Value} {w : World} (h : RSl w v L) (hw : ∀ r ∈ L, W64 r.sb ∧ W64 r.db) : Ret Try.prog 18 #[v] w fun v w' => v = .int .i64 (checkL L) ∧ Keep [] w w' := by
  rcases h with ⟨rfl, rfl⟩ | ⟨b, off, cap, c, T, fz, rfl, h2, h3⟩
  · exact check_nil w
  · exact check_some L b off cap c T fz w h2 h3 hw

def judgeV (L : List RuleV) (p : PktV) : Int × Int := if checkL L ≠ 0 then (0, checkL L) else if pktE p ≠ 0 then (0, pktE p) else (firstM p 0 L, 0)
theorem jv1 {L p} (h : checkL L ≠ 0) : judgeV L p = (0, checkL L) := by unfold judgeV; rw [if_pos h]
theorem jv2 {L p} (h1 : checkL L = 0) (h : pktE p ≠ 0) : judgeV L p = (0, pktE p) := by unfold judgeV; rw [if_neg (by rw [h1]; simp), if_pos h]
theorem jv3 {L p} (h1 : checkL L = 0) (h : pktE p = 0) : judgeV L p = (firstM p 0 L, 0) := by unfold judgeV; rw [if_neg (by rw [h1]; simp), if_neg (by rw [h]; simp)]
theorem firstM_drop {L : List RuleV} {p : PktV} {k : Nat} {r : RuleV} (h : L[k]? = some r) : firstM p k (L.drop k) = if matchV r p = true then (k : Int) else firstM p (k + 1) (L.drop (k + 1)) := by
  obtain ⟨hk, e⟩ := List.getElem?_eq_some_iff.1 h
  rw [List.drop_eq_getElem_cons hk, e]; rfl
theorem firstM_end {L : List RuleV} {p : PktV} {k : Nat} : firstM p k (L.drop L.length) = -1 := by rw [List.drop_length]; rfl
theorem checkL_len {L : List RuleV} (h : checkL L = 0) : L.length ≤ 16 := by
  unfold checkL at h
  by_cases h1 : L.length > 16
  · rw [if_pos h1] at h; cases h
  · omega

attribute [local irreducible] acE inV badR ruleE firstE firstM Ret pktE matchV checkL judgeV
set_option maxHeartbeats 0 in
theorem judge_some (L : List RuleV) (p : PktV) (b off cap : Nat) (c : Array Value) (T : TypeId) (fz : Nat × Nat) (w : World) (hB : w.heap[b]? = some (.cells c T fz)) (hR : RulesB c off L) (hw : ∀ r ∈ L, W64 r.sb ∧ W64 r.db)
    (hs : p.body.size ≤ Go.maxLen) (hpo : W64 p.off) :
    Ret Try.prog 17 #[.slice (some ⟨b, off, none⟩) L.length cap, .agg (encP p).toArray] w fun v w' => v = .tuple #[.int .i64 (judgeV L p).1, .int .i64 (judgeV L p).2] ∧ Keep [] w w' := by
  refine ret_of_G Try.func17 rfl rfl ?_
  have hK := Keep.refl [] w
  have hBw0 : ∀ v, Keep [] w v → v.heap[b]? = some (.cells c T fz) := fun v k => Keep.get k hB (by simp)
  have J1 := @jv1 L p
  have J2 := @jv2 L p
  have J3 := @jv3 L p
  have PC := pktCheck_ret p hs hpo
  have M := fun r (hr : r ∈ L) => match_ret r p (hw r hr).1 (hw r hr).2
  have hF := @firstM_drop L p
  obtain ⟨src, dst, proto, ttl, id, ff, more, whole, body⟩ := p
  refine x_new (ob := Obj.cells (#[Value.int IntKind.u32 src, Value.int IntKind.u32 dst, Value.int IntKind.i64 proto, Value.int IntKind.i64 ttl, Value.int IntKind.i64 id, Value.int IntKind.i64 ff, Value.bool more, Value.bool whole, Value.string body]) 37) (by kernel_rfl) (by kernel_rfl) (fun w1 b1 hb1 hB1 hk1 hlt1 => ?_)
  have hne1_hB : b ≠ b1 := Nat.ne_of_lt (by have := lt_of_blk hB; omega)
  have hB := Keep.get hk1 hB (by simp)
  have hge1_hK := Nat.le_trans (Keep.size hK) (Nat.le_of_eq hb1.symm)
  have hK := Keep.trans' hK hk1
  clear hk1
  refine s_call (f := 18) (args := #[Value.slice (some (Addr.mk b off none)) L.length cap]) (by kernel_rfl) (by kernel_rfl) (by kernel_rfl) (check_some L b off cap c T fz _ ‹_› hR hw) ?_
  rintro v w2 ⟨rfl, hk2⟩
  have hB1 := Keep.get hk2 hB1 (by simp)
  have hB := Keep.get hk2 hB (by simp)
  have hK := Keep.trans' hK hk2
  clear hk2
  -- test checkL L != (0 : Int)
  refine s_if (b := checkL L != 0) (by kernel_rfl) (fun ht => ?_) (fun hf => ?_)
  · have q := bne_iff_ne.1 ht
    
    -- stop: Req.done (Value.tuple (#[Value.int IntKind.i64 (0 : Int), Value.int IntKind.i64 (checkL L)]))
    refine s_done (by kernel_rfl) ⟨by rw [J1 q], hK⟩
  have q := bne_eq_false_iff_eq.1 hf
  have hlen := checkL_len q
  refine x_load (o := 0) hB1 rfl (by kernel_rfl) ?_
  refine x_load (o := 1) hB1 rfl (by kernel_rfl) ?_
  refine x_load (o := 2) hB1 rfl (by kernel_rfl) ?_
  refine x_load (o := 3) hB1 rfl (by kernel_rfl) ?_
  refine x_load (o := 4) hB1 rfl (by kernel_rfl) ?_
  refine x_load (o := 5) hB1 rfl (by kernel_rfl) ?_
  refine x_load (o := 6) hB1 rfl (by kernel_rfl) ?_
  refine x_load (o := 7) hB1 rfl (by kernel_rfl) ?_
  refine x_load (o := 8) hB1 rfl (by kernel_rfl) ?_
  refine s_call (f := 19) (args := #[Value.agg (#[Value.int IntKind.u32 src, Value.int IntKind.u32 dst, Value.int IntKind.i64 proto, Value.int IntKind.i64 ttl, Value.int IntKind.i64 id, Value.int IntKind.i64 ff, Value.bool more, Value.bool whole, Value.string body])]) (by kernel_rfl) (by kernel_rfl) (by kernel_rfl) (PC _) ?_
  rintro v w3 ⟨rfl, hk3⟩
  have hB1 := Keep.get hk3 hB1 (by simp)
  have hB := Keep.get hk3 hB (by simp)
  have hK := Keep.trans' hK hk3
  clear hk3
  -- test pktE (PktV.mk src dst proto ttl id ff more whole body) != (0 : Int)
  refine s_if (b := pktE ⟨src, dst, proto, ttl, id, ff, more, whole, body⟩ != 0) (by kernel_rfl) (fun ht => ?_) (fun hf => ?_)
  · have q2 := bne_iff_ne.1 ht
    
    -- stop: Req.done (Value.tuple (#[Value.int IntKind.i64 (0 : Int), Value.int IntKind.i64 (pktE (PktV.mk src dst proto ttl id ff more whole body))]))
    refine s_done (by kernel_rfl) ⟨by rw [J2 q q2], hK⟩
  have q2 := bne_eq_false_iff_eq.1 hf
  
  -- stop: Req.loop
  refine s_loop (γ := Nat) 0 [22] (fun k => [.int .i64 k]) (fun k w' => k ≤ L.length ∧ Keep [] w w' ∧ w'.heap[b1]? = some (.cells (encP ⟨src, dst, proto, ttl, id, ff, more, whole, body⟩).toArray 37 (0, 0)) ∧ firstM ⟨src, dst, proto, ttl, id, ff, more, whole, body⟩ 0 L = firstM ⟨src, dst, proto, ttl, id, ff, more, whole, body⟩ k (L.drop k)) (fun k => L.length - k) 0 [.int .i64 0] (by kernel_rfl) (by kernel_rfl) rfl (by kernel_rfl) rfl ⟨Nat.zero_le _, hK, hB1, rfl⟩ ?_
  clear hK hB1 hB
  rintro k v1 ⟨hk, hK, hB1, hI⟩
  refine s_if (b := decide ((k : Int) < L.length)) (by kernel_rfl) (fun hl => ?_) (fun hl => ?_)
  · have hl : k < L.length := by have := of_decide_eq_true hl; omega
    obtain ⟨r, hr⟩ : ∃ r, L[k]? = some r := ⟨L[k], List.getElem?_eq_getElem hl⟩
    have hRk := hR k r hr
    have M := M r (List.mem_of_getElem? hr)
    have hfd := hF hr
    obtain ⟨permit, sa, sb, da, db, rproto, fs, ls, fd, ld⟩ := r
    have e0 : c[off + (k : Int).toNat * 10]? = _ := hRk 0 _ rfl
    have e1 : c[off + (k : Int).toNat * 10 + 1]? = _ := hRk 1 _ rfl
    have e2 : c[off + (k : Int).toNat * 10 + 2]? = _ := hRk 2 _ rfl
    have e3 : c[off + (k : Int).toNat * 10 + 3]? = _ := hRk 3 _ rfl
    have e4 : c[off + (k : Int).toNat * 10 + 4]? = _ := hRk 4 _ rfl
    have e5 : c[off + (k : Int).toNat * 10 + 5]? = _ := hRk 5 _ rfl
    have e6 : c[off + (k : Int).toNat * 10 + 6]? = _ := hRk 6 _ rfl
    have e7 : c[off + (k : Int).toNat * 10 + 7]? = _ := hRk 7 _ rfl
    have e8 : c[off + (k : Int).toNat * 10 + 8]? = _ := hRk 8 _ rfl
    have e9 : c[off + (k : Int).toNat * 10 + 9]? = _ := hRk 9 _ rfl
    have hB := hBw0 _ hK
    clear hRk
    have ek : [Value.int .i64 (IntKind.i64.wrap ((k : Int) + 1))] = [.int .i64 ((k + 1 : Nat) : Int)] := by rw [w64 (by omega) (by omega)]; rfl
    refine x_idx (e := 45) (size := 10) (b := b) (o := off) (n := L.length) (c := cap) (i := k) (kd := .i64) (t := 35) (by kernel_rfl) (by kernel_rfl) (by omega) (by omega) (by kernel_rfl) ?_
    refine x_load (o := off + (k : Int).toNat * 10) hB e0 (by kernel_rfl) ?_
    refine x_load (o := off + (k : Int).toNat * 10 + 1) hB e1 (by kernel_rfl) ?_
    refine x_load (o := off + (k : Int).toNat * 10 + 2) hB e2 (by kernel_rfl) ?_
    refine x_load (o := off + (k : Int).toNat * 10 + 3) hB e3 (by kernel_rfl) ?_
    refine x_load (o := off + (k : Int).toNat * 10 + 4) hB e4 (by kernel_rfl) ?_
    refine x_load (o := off + (k : Int).toNat * 10 + 5) hB e5 (by kernel_rfl) ?_
    refine x_load (o := off + (k : Int).toNat * 10 + 6) hB e6 (by kernel_rfl) ?_
    refine x_load (o := off + (k : Int).toNat * 10 + 7) hB e7 (by kernel_rfl) ?_
    refine x_load (o := off + (k : Int).toNat * 10 + 8) hB e8 (by kernel_rfl) ?_
    refine x_load (o := off + (k : Int).toNat * 10 + 9) hB e9 (by kernel_rfl) ?_
    refine x_new (ob := Obj.cells (#[Value.bool false, Value.int IntKind.u32 (0 : Int), Value.int IntKind.i64 (0 : Int), Value.int IntKind.u32 (0 : Int), Value.int IntKind.i64 (0 : Int), Value.int IntKind.i64 (0 : Int), Value.int IntKind.i64 (0 : Int), Value.int IntKind.i64 (0 : Int), Value.int IntKind.i64 (0 : Int), Value.int IntKind.i64 (0 : Int)]) 45) (by kernel_rfl) (by kernel_rfl) (fun w4 b4 hb4 hB4 hk4 hlt4 => ?_)
    have hne4_hB1 : b1 ≠ b4 := Nat.ne_of_lt (by have := lt_of_blk hB1; omega)
    have hB1 := Keep.get hk4 hB1 (by simp)
    have hne4_hB : b ≠ b4 := Nat.ne_of_lt (by have := lt_of_blk hB; omega)
    have hB := Keep.get hk4 hB (by simp)
    have hge4_hK := Nat.le_trans (Keep.size hK) (Nat.le_of_eq hb4.symm)
    have hK := Keep.trans' hK hk4
    clear hk4
    refine x_store (o := 0) (v := Value.bool permit) hB4 (by simp) (by kernel_rfl) (by kernel_rfl) rfl (fun w5 hB4' hk5 => ?_)
    have hB1 := Keep.get hk5 hB1 (by simp only [List.mem_singleton]; first | assumption | (apply Ne.symm; assumption) | omega)
    have hB := Keep.get hk5 hB (by simp only [List.mem_singleton]; first | assumption | (apply Ne.symm; assumption) | omega)
    have hB4 : _ = some (Obj.cells #[Value.bool permit, Value.int IntKind.u32 (0 : Int), Value.int IntKind.i64 (0 : Int), Value.int IntKind.u32 (0 : Int), Value.int IntKind.i64 (0 : Int), Value.int IntKind.i64 (0 : Int), Value.int IntKind.i64 (0 : Int), Value.int IntKind.i64 (0 : Int), Value.int IntKind.i64 (0 : Int), Value.int IntKind.i64 (0 : Int)] 45 (0, 0)) := hB4'.trans (by kernel_rfl)
    clear hB4'
    have hK := Keep.trans hK hk5 (U := []) (fun _ h => nomatch h) (fun x hx => by simp only [List.mem_singleton] at hx; subst hx; right; omega)
    clear hk5
    refine x_store (o := 1) (v := Value.int IntKind.u32 sa) hB4 (by simp) (by kernel_rfl) (by kernel_rfl) rfl (fun w6 hB4' hk6 => ?_)
    have hB1 := Keep.get hk6 hB1 (by simp only [List.mem_singleton]; first | assumption | (apply Ne.symm; assumption) | omega)
    have hB := Keep.get hk6 hB (by simp only [List.mem_singleton]; first | assumption | (apply Ne.symm; assumption) | omega)
    have hB4 : _ = some (Obj.cells #[Value.bool permit, Value.int IntKind.u32 sa, Value.int IntKind.i64 (0 : Int), Value.int IntKind.u32 (0 : Int), Value.int IntKind.i64 (0 : Int), Value.int IntKind.i64 (0 : Int), Value.int IntKind.i64 (0 : Int), Value.int IntKind.i64 (0 : Int), Value.int IntKind.i64 (0 : Int), Value.int IntKind.i64 (0 : Int)] 45 (0, 0)) := hB4'.trans (by kernel_rfl)
    clear hB4'
    have hK := Keep.trans hK hk6 (U := []) (fun _ h => nomatch h) (fun x hx => by simp only [List.mem_singleton] at hx; subst hx; right; omega)
    clear hk6
    refine x_store (o := 2) (v := Value.int IntKind.i64 sb) hB4 (by simp) (by kernel_rfl) (by kernel_rfl) rfl (fun w7 hB4' hk7 => ?_)
    have hB1 := Keep.get hk7 hB1 (by simp only [List.mem_singleton]; first | assumption | (apply Ne.symm; assumption) | omega)
    have hB := Keep.get hk7 hB (by simp only [List.mem_singleton]; first | assumption | (apply Ne.symm; assumption) | omega)
    have hB4 : _ = some (Obj.cells #[Value.bool permit, Value.int IntKind.u32 sa, Value.int IntKind.i64 sb, Value.int IntKind.u32 (0 : Int), Value.int IntKind.i64 (0 : Int), Value.int IntKind.i64 (0 : Int), Value.int IntKind.i64 (0 : Int), Value.int IntKind.i64 (0 : Int), Value.int IntKind.i64 (0 : Int), Value.int IntKind.i64 (0 : Int)] 45 (0, 0)) := hB4'.trans (by kernel_rfl)
    clear hB4'
    have hK := Keep.trans hK hk7 (U := []) (fun _ h => nomatch h) (fun x hx => by simp only [List.mem_singleton] at hx; subst hx; right; omega)
    clear hk7
    refine x_store (o := 3) (v := Value.int IntKind.u32 da) hB4 (by simp) (by kernel_rfl) (by kernel_rfl) rfl (fun w8 hB4' hk8 => ?_)
    have hB1 := Keep.get hk8 hB1 (by simp only [List.mem_singleton]; first | assumption | (apply Ne.symm; assumption) | omega)
    have hB := Keep.get hk8 hB (by simp only [List.mem_singleton]; first | assumption | (apply Ne.symm; assumption) | omega)
    have hB4 : _ = some (Obj.cells #[Value.bool permit, Value.int IntKind.u32 sa, Value.int IntKind.i64 sb, Value.int IntKind.u32 da, Value.int IntKind.i64 (0 : Int), Value.int IntKind.i64 (0 : Int), Value.int IntKind.i64 (0 : Int), Value.int IntKind.i64 (0 : Int), Value.int IntKind.i64 (0 : Int), Value.int IntKind.i64 (0 : Int)] 45 (0, 0)) := hB4'.trans (by kernel_rfl)
    clear hB4'
    have hK := Keep.trans hK hk8 (U := []) (fun _ h => nomatch h) (fun x hx => by simp only [List.mem_singleton] at hx; subst hx; right; omega)
    clear hk8
    refine x_store (o := 4) (v := Value.int IntKind.i64 db) hB4 (by simp) (by kernel_rfl) (by kernel_rfl) rfl (fun w9 hB4' hk9 => ?_)
    have hB1 := Keep.get hk9 hB1 (by simp only [List.mem_singleton]; first | assumption | (apply Ne.symm; assumption) | omega)
    have hB := Keep.get hk9 hB (by simp only [List.mem_singleton]; first | assumption | (apply Ne.symm; assumption) | omega)
    have hB4 : _ = some (Obj.cells #[Value.bool permit, Value.int IntKind.u32 sa, Value.int IntKind.i64 sb, Value.int IntKind.u32 da, Value.int IntKind.i64 db, Value.int IntKind.i64 (0 : Int), Value.int IntKind.i64 (0 : Int), Value.int IntKind.i64 (0 : Int), Value.int IntKind.i64 (0 : Int), Value.int IntKind.i64 (0 : Int)] 45 (0, 0)) := hB4'.trans (by kernel_rfl)
    clear hB4'
    have hK := Keep.trans hK hk9 (U := []) (fun _ h => nomatch h) (fun x hx => by simp only [List.mem_singleton] at hx; subst hx; right; omega)
    clear hk9
    refine x_store (o := 5) (v := Value.int IntKind.i64 rproto) hB4 (by simp) (by kernel_rfl) (by kernel_rfl) rfl (fun w10 hB4' hk10 => ?_)
    have hB1 := Keep.get hk10 hB1 (by simp only [List.mem_singleton]; first | assumption | (apply Ne.symm; assumption) | omega)
    have hB := Keep.get hk10 hB (by simp only [List.mem_singleton]; first | assumption | (apply Ne.symm; assumption) | omega)
    have hB4 : _ = some (Obj.cells #[Value.bool permit, Value.int IntKind.u32 sa, Value.int IntKind.i64 sb, Value.int IntKind.u32 da, Value.int IntKind.i64 db, Value.int IntKind.i64 rproto, Value.int IntKind.i64 (0 : Int), Value.int IntKind.i64 (0 : Int), Value.int IntKind.i64 (0 : Int), Value.int IntKind.i64 (0 : Int)] 45 (0, 0)) := hB4'.trans (by kernel_rfl)
    clear hB4'
    have hK := Keep.trans hK hk10 (U := []) (fun _ h => nomatch h) (fun x hx => by simp only [List.mem_singleton] at hx; subst hx; right; omega)
    clear hk10
    refine x_store (o := 6) (v := Value.int IntKind.i64 fs) hB4 (by simp) (by kernel_rfl) (by kernel_rfl) rfl (fun w11 hB4' hk11 => ?_)
    have hB1 := Keep.get hk11 hB1 (by simp only [List.mem_singleton]; first | assumption | (apply Ne.symm; assumption) | omega)
    have hB := Keep.get hk11 hB (by simp only [List.mem_singleton]; first | assumption | (apply Ne.symm; assumption) | omega)
    have hB4 : _ = some (Obj.cells #[Value.bool permit, Value.int IntKind.u32 sa, Value.int IntKind.i64 sb, Value.int IntKind.u32 da, Value.int IntKind.i64 db, Value.int IntKind.i64 rproto, Value.int IntKind.i64 fs, Value.int IntKind.i64 (0 : Int), Value.int IntKind.i64 (0 : Int), Value.int IntKind.i64 (0 : Int)] 45 (0, 0)) := hB4'.trans (by kernel_rfl)
    clear hB4'
    have hK := Keep.trans hK hk11 (U := []) (fun _ h => nomatch h) (fun x hx => by simp only [List.mem_singleton] at hx; subst hx; right; omega)
    clear hk11
    refine x_store (o := 7) (v := Value.int IntKind.i64 ls) hB4 (by simp) (by kernel_rfl) (by kernel_rfl) rfl (fun w12 hB4' hk12 => ?_)
    have hB1 := Keep.get hk12 hB1 (by simp only [List.mem_singleton]; first | assumption | (apply Ne.symm; assumption) | omega)
    have hB := Keep.get hk12 hB (by simp only [List.mem_singleton]; first | assumption | (apply Ne.symm; assumption) | omega)
    have hB4 : _ = some (Obj.cells #[Value.bool permit, Value.int IntKind.u32 sa, Value.int IntKind.i64 sb, Value.int IntKind.u32 da, Value.int IntKind.i64 db, Value.int IntKind.i64 rproto, Value.int IntKind.i64 fs, Value.int IntKind.i64 ls, Value.int IntKind.i64 (0 : Int), Value.int IntKind.i64 (0 : Int)] 45 (0, 0)) := hB4'.trans (by kernel_rfl)
    clear hB4'
    have hK := Keep.trans hK hk12 (U := []) (fun _ h => nomatch h) (fun x hx => by simp only [List.mem_singleton] at hx; subst hx; right; omega)
    clear hk12
    refine x_store (o := 8) (v := Value.int IntKind.i64 fd) hB4 (by simp) (by kernel_rfl) (by kernel_rfl) rfl (fun w13 hB4' hk13 => ?_)
    have hB1 := Keep.get hk13 hB1 (by simp only [List.mem_singleton]; first | assumption | (apply Ne.symm; assumption) | omega)
    have hB := Keep.get hk13 hB (by simp only [List.mem_singleton]; first | assumption | (apply Ne.symm; assumption) | omega)
    have hB4 : _ = some (Obj.cells #[Value.bool permit, Value.int IntKind.u32 sa, Value.int IntKind.i64 sb, Value.int IntKind.u32 da, Value.int IntKind.i64 db, Value.int IntKind.i64 rproto, Value.int IntKind.i64 fs, Value.int IntKind.i64 ls, Value.int IntKind.i64 fd, Value.int IntKind.i64 (0 : Int)] 45 (0, 0)) := hB4'.trans (by kernel_rfl)
    clear hB4'
    have hK := Keep.trans hK hk13 (U := []) (fun _ h => nomatch h) (fun x hx => by simp only [List.mem_singleton] at hx; subst hx; right; omega)
    clear hk13
    refine x_store (o := 9) (v := Value.int IntKind.i64 ld) hB4 (by simp) (by kernel_rfl) (by kernel_rfl) rfl (fun w14 hB4' hk14 => ?_)
    have hB1 := Keep.get hk14 hB1 (by simp only [List.mem_singleton]; first | assumption | (apply Ne.symm; assumption) | omega)
    have hB := Keep.get hk14 hB (by simp only [List.mem_singleton]; first | assumption | (apply Ne.symm; assumption) | omega)
    have hB4 : _ = some (Obj.cells #[Value.bool permit, Value.int IntKind.u32 sa, Value.int IntKind.i64 sb, Value.int IntKind.u32 da, Value.int IntKind.i64 db, Value.int IntKind.i64 rproto, Value.int IntKind.i64 fs, Value.int IntKind.i64 ls, Value.int IntKind.i64 fd, Value.int IntKind.i64 ld] 45 (0, 0)) := hB4'.trans (by kernel_rfl)
    clear hB4'
    have hK := Keep.trans hK hk14 (U := []) (fun _ h => nomatch h) (fun x hx => by simp only [List.mem_singleton] at hx; subst hx; right; omega)
    clear hk14
    refine x_load (o := 0) hB4 rfl (by kernel_rfl) ?_
    refine x_load (o := 1) hB4 rfl (by kernel_rfl) ?_
    refine x_load (o := 2) hB4 rfl (by kernel_rfl) ?_
    refine x_load (o := 3) hB4 rfl (by kernel_rfl) ?_
    refine x_load (o := 4) hB4 rfl (by kernel_rfl) ?_
    refine x_load (o := 5) hB4 rfl (by kernel_rfl) ?_
    refine x_load (o := 6) hB4 rfl (by kernel_rfl) ?_
    refine x_load (o := 7) hB4 rfl (by kernel_rfl) ?_
    refine x_load (o := 8) hB4 rfl (by kernel_rfl) ?_
    refine x_load (o := 9) hB4 rfl (by kernel_rfl) ?_
    refine x_load (o := 0) hB1 rfl (by kernel_rfl) ?_
    refine x_load (o := 1) hB1 rfl (by kernel_rfl) ?_
    refine x_load (o := 2) hB1 rfl (by kernel_rfl) ?_
    refine x_load (o := 3) hB1 rfl (by kernel_rfl) ?_
    refine x_load (o := 4) hB1 rfl (by kernel_rfl) ?_
    refine x_load (o := 5) hB1 rfl (by kernel_rfl) ?_
    refine x_load (o := 6) hB1 rfl (by kernel_rfl) ?_
    refine x_load (o := 7) hB1 rfl (by kernel_rfl) ?_
    refine x_load (o := 8) hB1 rfl (by kernel_rfl) ?_
    refine s_call (f := 20) (args := #[Value.agg (#[Value.bool permit, Value.int IntKind.u32 sa, Value.int IntKind.i64 sb, Value.int IntKind.u32 da, Value.int IntKind.i64 db, Value.int IntKind.i64 rproto, Value.int IntKind.i64 fs, Value.int IntKind.i64 ls, Value.int IntKind.i64 fd, Value.int IntKind.i64 ld]), Value.agg (#[Value.int IntKind.u32 src, Value.int IntKind.u32 dst, Value.int IntKind.i64 proto, Value.int IntKind.i64 ttl, Value.int IntKind.i64 id, Value.int IntKind.i64 ff, Value.bool more, Value.bool whole, Value.string body])]) (by kernel_rfl) (by kernel_rfl) (by kernel_rfl) (M _) ?_
    rintro v w15 ⟨rfl, hk15⟩
    have hB1 := Keep.get hk15 hB1 (by simp)
    have hB := Keep.get hk15 hB (by simp)
    have hB4 := Keep.get hk15 hB4 (by simp)
    have hK := Keep.trans' hK hk15
    clear hk15
    refine s_if (b := matchV (RuleV.mk permit sa sb da db rproto fs ls fd ld) (PktV.mk src dst proto ttl id ff more whole body)) (by kernel_rfl) (fun ht1 => ?_) (fun hf1 => ?_)
    · refine s_done (v := Value.tuple (#[Value.int IntKind.i64 (↑k : Int), Value.int IntKind.i64 (0 : Int)])) (by kernel_rfl) ?_
      have hm : matchV ⟨permit, sa, sb, da, db, rproto, fs, ls, fd, ld⟩ ⟨src, dst, proto, ttl, id, ff, more, whole, body⟩ = true := by assumption
      exact ⟨by rw [J3 q q2, hI, hfd, if_pos hm], hK⟩
    · have hm : matchV ⟨permit, sa, sb, da, db, rproto, fs, ls, fd, ld⟩ ⟨src, dst, proto, ttl, id, ff, more, whole, body⟩ = false := by assumption
      exact s_again 0 (k + 1) [.int .i64 (IntKind.i64.wrap ((k : Int) + 1))] rfl (by kernel_rfl) (by kernel_rfl) (by kernel_rfl) ek ⟨by omega, hK, hB1, by rw [hI, hfd, if_neg (Bool.eq_false_iff.1 hm)]⟩ (by show L.length - (k + 1) < L.length - k; omega)
  · have hl : k = L.length := by have := of_decide_eq_false hl; omega
    subst hl
    refine s_done (by kernel_rfl) ⟨by rw [J3 q q2, hI, firstM_end], hK⟩
end Go.Proofs.Ytfknpeajihecdaa
