import Derived.Test.YtfknpeajihecdaaRu6
import Derived.Test.YtfknpeajihecdaaXMeq
namespace Go.Proofs.Ytfknpeajihecdaa
open Go.XM Go.RowKit Go.Dg Go.Ru
set_option maxRecDepth 100000

attribute [local irreducible] acE inV badR ruleE firstE firstM Ret pktE matchV checkL judgeV
set_option maxHeartbeats 0 in
theorem first_some (L : List RuleV) (b off cap : Nat) (c : Array Value) (T : TypeId) (fz : Nat × Nat) (p : PktV) (w : World) (hB : w.heap[b]? = some (.cells c T fz)) (hR : RulesB c off L) (hw : ∀ r ∈ L, W64 r.sb ∧ W64 r.db) (hs : p.body.size ≤ Go.maxLen) (hpo : W64 p.off) :
    Ret Try.prog 5 #[.slice (some ⟨b, off, none⟩) L.length cap, .agg (encP p).toArray] w fun v w' => v = .bool true ∧ Keep [] w w' := by
  refine ret_of_G Try.func5 rfl rfl ?_
  have hK := Keep.refl [] w
  have hV : RSl w (.slice (some ⟨b, off, none⟩) L.length cap) L := .inr ⟨b, off, cap, c, T, fz, rfl, hB, hR⟩
  have hBw0 : ∀ v, Keep [] w v → v.heap[b]? = some (.cells c T fz) := fun v k => Keep.get k hB (by simp)
  have CA : ∀ w', Keep [] w w' → Ret Try.prog 18 #[.slice (some ⟨b, off, none⟩) L.length cap] w' fun v w'' => v = .int .i64 (checkL L) ∧ Keep [] w' w'' := fun w' k => rcheck_ret (hV.keep k) hw
  have PC := pktCheck_ret p hs hpo
  have hF := @firstM_drop L p
  have M := fun r (hr : r ∈ L) => match_ret r p (hw r hr).1 (hw r hr).2
  obtain ⟨src, dst, proto, ttl, id, ff, more, whole, body⟩ := p
  by_cases q : checkL L ≠ 0
  · have JA : ∀ w', Keep [] w w' → Ret Try.prog 17 #[.slice (some ⟨b, off, none⟩) L.length cap, .agg (encP ⟨src, dst, proto, ttl, id, ff, more, whole, body⟩).toArray] w' fun v w'' => v = .tuple #[.int .i64 0, .int .i64 (checkL L)] ∧ Keep [] w' w'' := fun w' k => (judge_ret (hV.keep k) hw hs hpo).mono fun _ _ ⟨h, k⟩ => ⟨by rw [h, jv1 q], k⟩
    have hq : (checkL L != 0) = true := bne_iff_ne.2 q
    have hr : (checkL L == checkL L) = true := beq_iff_eq.2 rfl
    refine x_new (ob := Obj.cells (#[Value.int IntKind.u32 src, Value.int IntKind.u32 dst, Value.int IntKind.i64 proto, Value.int IntKind.i64 ttl, Value.int IntKind.i64 id, Value.int IntKind.i64 ff, Value.bool more, Value.bool whole, Value.string body]) 37) (by kernel_rfl) (by kernel_rfl) (fun w1 b1 hb1 hB1 hk1 hlt1 => ?_)
    have hne1_hB : b ≠ b1 := Nat.ne_of_lt (by have := lt_of_blk hB; omega)
    have hB := Keep.get hk1 hB (by simp)
    have hge1_hK := Nat.le_trans (Keep.size hK) (Nat.le_of_eq hb1.symm)
    have hK := Keep.trans' hK hk1
    clear hk1
    refine s_call (f := 16) (args := #[]) (by kernel_rfl) (by kernel_rfl) (by kernel_rfl) (ruleFact_ret _) ?_
    rintro v w2 ⟨rfl, hk2⟩
    have hB1 := Keep.get hk2 hB1 (by simp)
    have hB := Keep.get hk2 hB (by simp)
    have hK := Keep.trans' hK hk2
    clear hk2
    refine s_ifF (b := false) (by kernel_rfl) rfl ?_
    refine x_load (o := 0) hB1 rfl (by kernel_rfl) ?_
    refine x_load (o := 1) hB1 rfl (by kernel_rfl) ?_
    refine x_load (o := 2) hB1 rfl (by kernel_rfl) ?_
    refine x_load (o := 3) hB1 rfl (by kernel_rfl) ?_
    refine x_load (o := 4) hB1 rfl (by kernel_rfl) ?_
    refine x_load (o := 5) hB1 rfl (by kernel_rfl) ?_
    refine x_load (o := 6) hB1 rfl (by kernel_rfl) ?_
    refine x_load (o := 7) hB1 rfl (by kernel_rfl) ?_
    refine x_load (o := 8) hB1 rfl (by kernel_rfl) ?_
    refine s_call (f := 17) (args := #[Value.slice (some (Addr.mk b off none)) L.length cap, Value.agg (#[Value.int IntKind.u32 src, Value.int IntKind.u32 dst, Value.int IntKind.i64 proto, Value.int IntKind.i64 ttl, Value.int IntKind.i64 id, Value.int IntKind.i64 ff, Value.bool more, Value.bool whole, Value.string body])]) (by kernel_rfl) (by kernel_rfl) (by kernel_rfl) (JA _ hK) ?_
    rintro v w3 ⟨rfl, hk3⟩
    have hB1 := Keep.get hk3 hB1 (by simp)
    have hB := Keep.get hk3 hB (by simp)
    have hK := Keep.trans' hK hk3
    clear hk3
    refine s_ifT (by kernel_rfl) hq ?_
    refine s_ifT (b := true) (by kernel_rfl) rfl ?_
    refine s_call (f := 18) (args := #[Value.slice (some (Addr.mk b off none)) L.length cap]) (by kernel_rfl) (by kernel_rfl) (by kernel_rfl) (CA _ hK) ?_
    rintro v w4 ⟨rfl, hk4⟩
    have hB1 := Keep.get hk4 hB1 (by simp)
    have hB := Keep.get hk4 hB (by simp)
    have hK := Keep.trans' hK hk4
    clear hk4
    refine s_ifT (by kernel_rfl) hr ?_
    -- stop: Req.done (Value.bool true)
    refine s_done (by kernel_rfl) ⟨rfl, hK⟩
  have q : checkL L = 0 := Decidable.not_not.1 q
  by_cases q2 : pktE ⟨src, dst, proto, ttl, id, ff, more, whole, body⟩ ≠ 0
  · have JA : ∀ w', Keep [] w w' → Ret Try.prog 17 #[.slice (some ⟨b, off, none⟩) L.length cap, .agg (encP ⟨src, dst, proto, ttl, id, ff, more, whole, body⟩).toArray] w' fun v w'' => v = .tuple #[.int .i64 0, .int .i64 (pktE ⟨src, dst, proto, ttl, id, ff, more, whole, body⟩)] ∧ Keep [] w' w'' := fun w' k => (judge_ret (hV.keep k) hw hs hpo).mono fun _ _ ⟨h, k⟩ => ⟨by rw [h, jv2 q q2], k⟩
    have CA : ∀ w', Keep [] w w' → Ret Try.prog 18 #[.slice (some ⟨b, off, none⟩) L.length cap] w' fun v w'' => v = .int .i64 0 ∧ Keep [] w' w'' := fun w' k => (CA w' k).mono fun _ _ ⟨h, k⟩ => ⟨by rw [h, q], k⟩
    have hq : (pktE ⟨src, dst, proto, ttl, id, ff, more, whole, body⟩ != 0) = true := bne_iff_ne.2 q2
    have hr : (pktE ⟨src, dst, proto, ttl, id, ff, more, whole, body⟩ == pktE ⟨src, dst, proto, ttl, id, ff, more, whole, body⟩) = true := beq_iff_eq.2 rfl
    have hz : ((0 : Int) == pktE ⟨src, dst, proto, ttl, id, ff, more, whole, body⟩) = false := beq_eq_false_iff_ne.2 (Ne.symm q2)
    refine x_new (ob := Obj.cells (#[Value.int IntKind.u32 src, Value.int IntKind.u32 dst, Value.int IntKind.i64 proto, Value.int IntKind.i64 ttl, Value.int IntKind.i64 id, Value.int IntKind.i64 ff, Value.bool more, Value.bool whole, Value.string body]) 37) (by kernel_rfl) (by kernel_rfl) (fun w1 b1 hb1 hB1 hk1 hlt1 => ?_)
    have hne1_hB : b ≠ b1 := Nat.ne_of_lt (by have := lt_of_blk hB; omega)
    have hB := Keep.get hk1 hB (by simp)
    have hge1_hK := Nat.le_trans (Keep.size hK) (Nat.le_of_eq hb1.symm)
    have hK := Keep.trans' hK hk1
    clear hk1
    refine s_call (f := 16) (args := #[]) (by kernel_rfl) (by kernel_rfl) (by kernel_rfl) (ruleFact_ret _) ?_
    rintro v w2 ⟨rfl, hk2⟩
    have hB1 := Keep.get hk2 hB1 (by simp)
    have hB := Keep.get hk2 hB (by simp)
    have hK := Keep.trans' hK hk2
    clear hk2
    refine s_ifF (b := false) (by kernel_rfl) rfl ?_
    refine x_load (o := 0) hB1 rfl (by kernel_rfl) ?_
    refine x_load (o := 1) hB1 rfl (by kernel_rfl) ?_
    refine x_load (o := 2) hB1 rfl (by kernel_rfl) ?_
    refine x_load (o := 3) hB1 rfl (by kernel_rfl) ?_
    refine x_load (o := 4) hB1 rfl (by kernel_rfl) ?_
    refine x_load (o := 5) hB1 rfl (by kernel_rfl) ?_
    refine x_load (o := 6) hB1 rfl (by kernel_rfl) ?_
    refine x_load (o := 7) hB1 rfl (by kernel_rfl) ?_
    refine x_load (o := 8) hB1 rfl (by kernel_rfl) ?_
    refine s_call (f := 17) (args := #[Value.slice (some (Addr.mk b off none)) L.length cap, Value.agg (#[Value.int IntKind.u32 src, Value.int IntKind.u32 dst, Value.int IntKind.i64 proto, Value.int IntKind.i64 ttl, Value.int IntKind.i64 id, Value.int IntKind.i64 ff, Value.bool more, Value.bool whole, Value.string body])]) (by kernel_rfl) (by kernel_rfl) (by kernel_rfl) (JA _ hK) ?_
    rintro v w3 ⟨rfl, hk3⟩
    have hB1 := Keep.get hk3 hB1 (by simp)
    have hB := Keep.get hk3 hB (by simp)
    have hK := Keep.trans' hK hk3
    clear hk3
    refine s_ifT (by kernel_rfl) hq ?_
    refine s_ifT (b := true) (by kernel_rfl) rfl ?_
    refine s_call (f := 18) (args := #[Value.slice (some (Addr.mk b off none)) L.length cap]) (by kernel_rfl) (by kernel_rfl) (by kernel_rfl) (CA _ hK) ?_
    rintro v w4 ⟨rfl, hk4⟩
    have hB1 := Keep.get hk4 hB1 (by simp)
    have hB := Keep.get hk4 hB (by simp)
    have hK := Keep.trans' hK hk4
    clear hk4
    refine s_ifF (by kernel_rfl) hz ?_
    refine s_call (f := 18) (args := #[Value.slice (some (Addr.mk b off none)) L.length cap]) (by kernel_rfl) (by kernel_rfl) (by kernel_rfl) (CA _ hK) ?_
    rintro v w5 ⟨rfl, hk5⟩
    have hB1 := Keep.get hk5 hB1 (by simp)
    have hB := Keep.get hk5 hB (by simp)
    have hK := Keep.trans' hK hk5
    clear hk5
    refine s_ifT (b := true) (by kernel_rfl) rfl ?_
    refine x_load (o := 0) hB1 rfl (by kernel_rfl) ?_
    refine x_load (o := 1) hB1 rfl (by kernel_rfl) ?_
    refine x_load (o := 2) hB1 rfl (by kernel_rfl) ?_
    refine x_load (o := 3) hB1 rfl (by kernel_rfl) ?_
    refine x_load (o := 4) hB1 rfl (by kernel_rfl) ?_
    refine x_load (o := 5) hB1 rfl (by kernel_rfl) ?_
    refine x_load (o := 6) hB1 rfl (by kernel_rfl) ?_
    refine x_load (o := 7) hB1 rfl (by kernel_rfl) ?_
    refine x_load (o := 8) hB1 rfl (by kernel_rfl) ?_
    refine s_call (f := 19) (args := #[Value.agg (#[Value.int IntKind.u32 src, Value.int IntKind.u32 dst, Value.int IntKind.i64 proto, Value.int IntKind.i64 ttl, Value.int IntKind.i64 id, Value.int IntKind.i64 ff, Value.bool more, Value.bool whole, Value.string body])]) (by kernel_rfl) (by kernel_rfl) (by kernel_rfl) (PC _) ?_
    rintro v w6 ⟨rfl, hk6⟩
    have hB1 := Keep.get hk6 hB1 (by simp)
    have hB := Keep.get hk6 hB (by simp)
    have hK := Keep.trans' hK hk6
    clear hk6
    -- stop: Req.done (Value.bool (pktE (PktV.mk src dst proto ttl id ff more whole body) == pktE (PktV.mk src dst proto ttl id ff more whole body)))
    refine s_done (v := .bool (pktE ⟨src, dst, proto, ttl, id, ff, more, whole, body⟩ == pktE ⟨src, dst, proto, ttl, id, ff, more, whole, body⟩)) (by kernel_rfl) ⟨by rw [hr], hK⟩
  have q2 : pktE ⟨src, dst, proto, ttl, id, ff, more, whole, body⟩ = 0 := Decidable.not_not.1 q2
  have hlen := checkL_len q
  have JA : ∀ w', Keep [] w w' → Ret Try.prog 17 #[.slice (some ⟨b, off, none⟩) L.length cap, .agg (encP ⟨src, dst, proto, ttl, id, ff, more, whole, body⟩).toArray] w' fun v w'' => v = .tuple #[.int .i64 (firstM ⟨src, dst, proto, ttl, id, ff, more, whole, body⟩ 0 L), .int .i64 0] ∧ Keep [] w' w'' := fun w' k => (judge_ret (hV.keep k) hw hs hpo).mono fun _ _ ⟨h, k⟩ => ⟨by rw [h, jv3 q q2], k⟩
  refine x_new (ob := Obj.cells (#[Value.int IntKind.u32 src, Value.int IntKind.u32 dst, Value.int IntKind.i64 proto, Value.int IntKind.i64 ttl, Value.int IntKind.i64 id, Value.int IntKind.i64 ff, Value.bool more, Value.bool whole, Value.string body]) 37) (by kernel_rfl) (by kernel_rfl) (fun w1 b1 hb1 hB1 hk1 hlt1 => ?_)
  have hne1_hB : b ≠ b1 := Nat.ne_of_lt (by have := lt_of_blk hB; omega)
  have hB := Keep.get hk1 hB (by simp)
  have hge1_hK := Nat.le_trans (Keep.size hK) (Nat.le_of_eq hb1.symm)
  have hK := Keep.trans' hK hk1
  clear hk1
  refine s_call (f := 16) (args := #[]) (by kernel_rfl) (by kernel_rfl) (by kernel_rfl) (ruleFact_ret _) ?_
  rintro v w2 ⟨rfl, hk2⟩
  have hB1 := Keep.get hk2 hB1 (by simp)
  have hB := Keep.get hk2 hB (by simp)
  have hK := Keep.trans' hK hk2
  clear hk2
  refine s_ifF (b := false) (by kernel_rfl) rfl ?_
  refine x_load (o := 0) hB1 rfl (by kernel_rfl) ?_
  refine x_load (o := 1) hB1 rfl (by kernel_rfl) ?_
  refine x_load (o := 2) hB1 rfl (by kernel_rfl) ?_
  refine x_load (o := 3) hB1 rfl (by kernel_rfl) ?_
  refine x_load (o := 4) hB1 rfl (by kernel_rfl) ?_
  refine x_load (o := 5) hB1 rfl (by kernel_rfl) ?_
  refine x_load (o := 6) hB1 rfl (by kernel_rfl) ?_
  refine x_load (o := 7) hB1 rfl (by kernel_rfl) ?_
  refine x_load (o := 8) hB1 rfl (by kernel_rfl) ?_
  refine s_call (f := 17) (args := #[Value.slice (some (Addr.mk b off none)) L.length cap, Value.agg (#[Value.int IntKind.u32 src, Value.int IntKind.u32 dst, Value.int IntKind.i64 proto, Value.int IntKind.i64 ttl, Value.int IntKind.i64 id, Value.int IntKind.i64 ff, Value.bool more, Value.bool whole, Value.string body])]) (by kernel_rfl) (by kernel_rfl) (by kernel_rfl) (JA _ hK) ?_
  rintro v w3 ⟨rfl, hk3⟩
  have hB1 := Keep.get hk3 hB1 (by simp)
  have hB := Keep.get hk3 hB (by simp)
  have hK := Keep.trans' hK hk3
  clear hk3
  refine s_ifF (b := false) (by kernel_rfl) rfl ?_
  -- stop: Req.loop
  refine s_loop (γ := Nat) 0 [40] (fun k => [.int .i64 k]) (fun k w' => k ≤ L.length ∧ Keep [] w w' ∧ w'.heap[b1]? = some (.cells (encP ⟨src, dst, proto, ttl, id, ff, more, whole, body⟩).toArray 37 (0, 0)) ∧ firstM ⟨src, dst, proto, ttl, id, ff, more, whole, body⟩ 0 L = firstM ⟨src, dst, proto, ttl, id, ff, more, whole, body⟩ k (L.drop k)) (fun k => L.length - k) 0 [.int .i64 0] (by kernel_rfl) (by kernel_rfl) rfl (by kernel_rfl) rfl ⟨Nat.zero_le _, hK, hB1, rfl⟩ ?_
  clear hK hB1 hB
  rintro k v1 ⟨hk, hK, hB1, hI⟩
  refine s_if (b := decide ((k : Int) < L.length)) (by kernel_rfl) (fun hl => ?_) (fun hl => ?_)
  · have hl : k < L.length := by have := of_decide_eq_true hl; omega
    obtain ⟨r, hr⟩ : ∃ r, L[k]? = some r := ⟨L[k], List.getElem?_eq_getElem hl⟩
    have hRk := hR k r hr
    have M := M r (List.mem_of_getElem? hr)
    have hfd := hF hr
    obtain ⟨permit, sa, sb, da, db, rproto, fs, ls, fd, ld⟩ := r
    have e0 : c[off + (k : Int).toNat * 10]? = _ := hRk 0 _ rfl
    have e1 : c[off + (k : Int).toNat * 10 + 1]? = _ := hRk 1 _ rfl
    have e2 : c[off + (k : Int).toNat * 10 + 2]? = _ := hRk 2 _ rfl
    have e3 : c[off + (k : Int).toNat * 10 + 3]? = _ := hRk 3 _ rfl
    have e4 : c[off + (k : Int).toNat * 10 + 4]? = _ := hRk 4 _ rfl
    have e5 : c[off + (k : Int).toNat * 10 + 5]? = _ := hRk 5 _ rfl
    have e6 : c[off + (k : Int).toNat * 10 + 6]? = _ := hRk 6 _ rfl
    have e7 : c[off + (k : Int).toNat * 10 + 7]? = _ := hRk 7 _ rfl
    have e8 : c[off + (k : Int).toNat * 10 + 8]? = _ := hRk 8 _ rfl
    have e9 : c[off + (k : Int).toNat * 10 + 9]? = _ := hRk 9 _ rfl
    have hB := hBw0 _ hK
    clear hRk
    have ek : [Value.int .i64 (IntKind.i64.wrap ((k : Int) + 1))] = [.int .i64 ((k + 1 : Nat) : Int)] := by rw [w64 (by omega) (by omega)]; rfl
    refine x_idx (e := 45) (size := 10) (b := b) (o := off) (n := L.length) (c := cap) (i := k) (kd := .i64) (t := 35) (by kernel_rfl) (by kernel_rfl) (by omega) (by omega) (by kernel_rfl) ?_
    refine x_load (o := off + (k : Int).toNat * 10) hB e0 (by kernel_rfl) ?_
    refine x_load (o := off + (k : Int).toNat * 10 + 1) hB e1 (by kernel_rfl) ?_
    refine x_load (o := off + (k : Int).toNat * 10 + 2) hB e2 (by kernel_rfl) ?_
    refine x_load (o := off + (k : Int).toNat * 10 + 3) hB e3 (by kernel_rfl) ?_
    refine x_load (o := off + (k : Int).toNat * 10 + 4) hB e4 (by kernel_rfl) ?_
    refine x_load (o := off + (k : Int).toNat * 10 + 5) hB e5 (by kernel_rfl) ?_
    refine x_load (o := off + (k : Int).toNat * 10 + 6) hB e6 (by kernel_rfl) ?_
    refine x_load (o := off + (k : Int).toNat * 10 + 7) hB e7 (by kernel_rfl) ?_
    refine x_load (o := off + (k : Int).toNat * 10 + 8) hB e8 (by kernel_rfl) ?_
    refine x_load (o := off + (k : Int).toNat * 10 + 9) hB e9 (by kernel_rfl) ?_
    refine x_new (ob := Obj.cells (#[Value.bool false, Value.int IntKind.u32 (0 : Int), Value.int IntKind.i64 (0 : Int), Value.int IntKind.u32 (0 : Int), Value.int IntKind.i64 (0 : Int), Value.int IntKind.i64 (0 : Int), Value.int IntKind.i64 (0 : Int), Value.int IntKind.i64 (0 : Int), Value.int IntKind.i64 (0 : Int), Value.int IntKind.i64 (0 : Int)]) 45) (by kernel_rfl) (by kernel_rfl) (fun w4 b4 hb4 hB4 hk4 hlt4 => ?_)
    have hne4_hB1 : b1 ≠ b4 := Nat.ne_of_lt (by have := lt_of_blk hB1; omega)
    have hB1 := Keep.get hk4 hB1 (by simp)
    have hne4_hB : b ≠ b4 := Nat.ne_of_lt (by have := lt_of_blk hB; omega)
    have hB := Keep.get hk4 hB (by simp)
    have hge4_hK := Nat.le_trans (Keep.size hK) (Nat.le_of_eq hb4.symm)
    have hK := Keep.trans' hK hk4
    clear hk4
    refine x_store (o := 0) (v := Value.bool permit) hB4 (by simp) (by kernel_rfl) (by kernel_rfl) rfl (fun w5 hB4' hk5 => ?_)
    have hB1 := Keep.get hk5 hB1 (by simp only [List.mem_singleton]; first | assumption | (apply Ne.symm; assumption) | omega)
    have hB := Keep.get hk5 hB (by simp only [List.mem_singleton]; first | assumption | (apply Ne.symm; assumption) | omega)
    have hB4 : _ = some (Obj.cells #[Value.bool permit, Value.int IntKind.u32 (0 : Int), Value.int IntKind.i64 (0 : Int), Value.int IntKind.u32 (0 : Int), Value.int IntKind.i64 (0 : Int), Value.int IntKind.i64 (0 : Int), Value.int IntKind.i64 (0 : Int), Value.int IntKind.i64 (0 : Int), Value.int IntKind.i64 (0 : Int), Value.int IntKind.i64 (0 : Int)] 45 (0, 0)) := hB4'.trans (by kernel_rfl)
    clear hB4'
    have hK := Keep.trans hK hk5 (U := []) (fun _ h => nomatch h) (fun x hx => by simp only [List.mem_singleton] at hx; subst hx; right; omega)
    clear hk5
    refine x_store (o := 1) (v := Value.int IntKind.u32 sa) hB4 (by simp) (by kernel_rfl) (by kernel_rfl) rfl (fun w6 hB4' hk6 => ?_)
    have hB1 := Keep.get hk6 hB1 (by simp only [List.mem_singleton]; first | assumption | (apply Ne.symm; assumption) | omega)
    have hB := Keep.get hk6 hB (by simp only [List.mem_singleton]; first | assumption | (apply Ne.symm; assumption) | omega)
    have hB4 : _ = some (Obj.cells #[Value.bool permit, Value.int IntKind.u32 sa, Value.int IntKind.i64 (0 : Int), Value.int IntKind.u32 (0 : Int), Value.int IntKind.i64 (0 : Int), Value.int IntKind.i64 (0 : Int), Value.int IntKind.i64 (0 : Int), Value.int IntKind.i64 (0 : Int), Value.int IntKind.i64 (0 : Int), Value.int IntKind.i64 (0 : Int)] 45 (0, 0)) := hB4'.trans (by kernel_rfl)
    clear hB4'
    have hK := Keep.trans hK hk6 (U := []) (fun _ h => nomatch h) (fun x hx => by simp only [List.mem_singleton] at hx; subst hx; right; omega)
    clear hk6
    refine x_store (o := 2) (v := Value.int IntKind.i64 sb) hB4 (by simp) (by kernel_rfl) (by kernel_rfl) rfl (fun w7 hB4' hk7 => ?_)
    have hB1 := Keep.get hk7 hB1 (by simp only [List.mem_singleton]; first | assumption | (apply Ne.symm; assumption) | omega)
    have hB := Keep.get hk7 hB (by simp only [List.mem_singleton]; first | assumption | (apply Ne.symm; assumption) | omega)
    have hB4 : _ = some (Obj.cells #[Value.bool permit, Value.int IntKind.u32 sa, Value.int IntKind.i64 sb, Value.int IntKind.u32 (0 : Int), Value.int IntKind.i64 (0 : Int), Value.int IntKind.i64 (0 : Int), Value.int IntKind.i64 (0 : Int), Value.int IntKind.i64 (0 : Int), Value.int IntKind.i64 (0 : Int), Value.int IntKind.i64 (0 : Int)] 45 (0, 0)) := hB4'.trans (by kernel_rfl)
    clear hB4'
    have hK := Keep.trans hK hk7 (U := []) (fun _ h => nomatch h) (fun x hx => by simp only [List.mem_singleton] at hx; subst hx; right; omega)
    clear hk7
    refine x_store (o := 3) (v := Value.int IntKind.u32 da) hB4 (by simp) (by kernel_rfl) (by kernel_rfl) rfl (fun w8 hB4' hk8 => ?_)
    have hB1 := Keep.get hk8 hB1 (by simp only [List.mem_singleton]; first | assumption | (apply Ne.symm; assumption) | omega)
    have hB := Keep.get hk8 hB (by simp only [List.mem_singleton]; first | assumption | (apply Ne.symm; assumption) | omega)
    have hB4 : _ = some (Obj.cells #[Value.bool permit, Value.int IntKind.u32 sa, Value.int IntKind.i64 sb, Value.int IntKind.u32 da, Value.int IntKind.i64 (0 : Int), Value.int IntKind.i64 (0 : Int), Value.int IntKind.i64 (0 : Int), Value.int IntKind.i64 (0 : Int), Value.int IntKind.i64 (0 : Int), Value.int IntKind.i64 (0 : Int)] 45 (0, 0)) := hB4'.trans (by kernel_rfl)
    clear hB4'
    have hK := Keep.trans hK hk8 (U := []) (fun _ h => nomatch h) (fun x hx => by simp only [List.mem_singleton] at hx; subst hx; right; omega)
    clear hk8
    refine x_store (o := 4) (v := Value.int IntKind.i64 db) hB4 (by simp) (by kernel_rfl) (by kernel_rfl) rfl (fun w9 hB4' hk9 => ?_)
    have hB1 := Keep.get hk9 hB1 (by simp only [List.mem_singleton]; first | assumption | (apply Ne.symm; assumption) | omega)
    have hB := Keep.get hk9 hB (by simp only [List.mem_singleton]; first | assumption | (apply Ne.symm; assumption) | omega)
    have hB4 : _ = some (Obj.cells #[Value.bool permit, Value.int IntKind.u32 sa, Value.int IntKind.i64 sb, Value.int IntKind.u32 da, Value.int IntKind.i64 db, Value.int IntKind.i64 (0 : Int), Value.int IntKind.i64 (0 : Int), Value.int IntKind.i64 (0 : Int), Value.int IntKind.i64 (0 : Int), Value.int IntKind.i64 (0 : Int)] 45 (0, 0)) := hB4'.trans (by kernel_rfl)
    clear hB4'
    have hK := Keep.trans hK hk9 (U := []) (fun _ h => nomatch h) (fun x hx => by simp only [List.mem_singleton] at hx; subst hx; right; omega)
    clear hk9
    refine x_store (o := 5) (v := Value.int IntKind.i64 rproto) hB4 (by simp) (by kernel_rfl) (by kernel_rfl) rfl (fun w10 hB4' hk10 => ?_)
    have hB1 := Keep.get hk10 hB1 (by simp only [List.mem_singleton]; first | assumption | (apply Ne.symm; assumption) | omega)
    have hB := Keep.get hk10 hB (by simp only [List.mem_singleton]; first | assumption | (apply Ne.symm; assumption) | omega)
    have hB4 : _ = some (Obj.cells #[Value.bool permit, Value.int IntKind.u32 sa, Value.int IntKind.i64 sb, Value.int IntKind.u32 da, Value.int IntKind.i64 db, Value.int IntKind.i64 rproto, Value.int IntKind.i64 (0 : Int), Value.int IntKind.i64 (0 : Int), Value.int IntKind.i64 (0 : Int), Value.int IntKind.i64 (0 : Int)] 45 (0, 0)) := hB4'.trans (by kernel_rfl)
    clear hB4'
    have hK := Keep.trans hK hk10 (U := []) (fun _ h => nomatch h) (fun x hx => by simp only [List.mem_singleton] at hx; subst hx; right; omega)
    clear hk10
    refine x_store (o := 6) (v := Value.int IntKind.i64 fs) hB4 (by simp) (by kernel_rfl) (by kernel_rfl) rfl (fun w11 hB4' hk11 => ?_)
    have hB1 := Keep.get hk11 hB1 (by simp only [List.mem_singleton]; first | assumption | (apply Ne.symm; assumption) | omega)
    have hB := Keep.get hk11 hB (by simp only [List.mem_singleton]; first | assumption | (apply Ne.symm; assumption) | omega)
    have hB4 : _ = some (Obj.cells #[Value.bool permit, Value.int IntKind.u32 sa, Value.int IntKind.i64 sb, Value.int IntKind.u32 da, Value.int IntKind.i64 db, Value.int IntKind.i64 rproto, Value.int IntKind.i64 fs, Value.int IntKind.i64 (0 : Int), Value.int IntKind.i64 (0 : Int), Value.int IntKind.i64 (0 : Int)] 45 (0, 0)) := hB4'.trans (by kernel_rfl)
    clear hB4'
    have hK := Keep.trans hK hk11 (U := []) (fun _ h => nomatch h) (fun x hx => by simp only [List.mem_singleton] at hx; subst hx; right; omega)
    clear hk11
    refine x_store (o := 7) (v := Value.int IntKind.i64 ls) hB4 (by simp) (by kernel_rfl) (by kernel_rfl) rfl (fun w12 hB4' hk12 => ?_)
    have hB1 := Keep.get hk12 hB1 (by simp only [List.mem_singleton]; first | assumption | (apply Ne.symm; assumption) | omega)
    have hB := Keep.get hk12 hB (by simp only [List.mem_singleton]; first | assumption | (apply Ne.symm; assumption) | omega)
    have hB4 : _ = some (Obj.cells #[Value.bool permit, Value.int IntKind.u32 sa, Value.int IntKind.i64 sb, Value.int IntKind.u32 da, Value.int IntKind.i64 db, Value.int IntKind.i64 rproto, Value.int IntKind.i64 fs, Value.int IntKind.i64 ls, Value.int IntKind.i64 (0 : Int), Value.int IntKind.i64 (0 : Int)] 45 (0, 0)) := hB4'.trans (by kernel_rfl)
    clear hB4'
    have hK := Keep.trans hK hk12 (U := []) (fun _ h => nomatch h) (fun x hx => by simp only [List.mem_singleton] at hx; subst hx; right; omega)
    clear hk12
    refine x_store (o := 8) (v := Value.int IntKind.i64 fd) hB4 (by simp) (by kernel_rfl) (by kernel_rfl) rfl (fun w13 hB4' hk13 => ?_)
    have hB1 := Keep.get hk13 hB1 (by simp only [List.mem_singleton]; first | assumption | (apply Ne.symm; assumption) | omega)
    have hB := Keep.get hk13 hB (by simp only [List.mem_singleton]; first | assumption | (apply Ne.symm; assumption) | omega)
    have hB4 : _ = some (Obj.cells #[Value.bool permit, Value.int IntKind.u32 sa, Value.int IntKind.i64 sb, Value.int IntKind.u32 da, Value.int IntKind.i64 db, Value.int IntKind.i64 rproto, Value.int IntKind.i64 fs, Value.int IntKind.i64 ls, Value.int IntKind.i64 fd, Value.int IntKind.i64 (0 : Int)] 45 (0, 0)) := hB4'.trans (by kernel_rfl)
    clear hB4'
    have hK := Keep.trans hK hk13 (U := []) (fun _ h => nomatch h) (fun x hx => by simp only [List.mem_singleton] at hx; subst hx; right; omega)
    clear hk13
    refine x_store (o := 9) (v := Value.int IntKind.i64 ld) hB4 (by simp) (by kernel_rfl) (by kernel_rfl) rfl (fun w14 hB4' hk14 => ?_)
    have hB1 := Keep.get hk14 hB1 (by simp only [List.mem_singleton]; first | assumption | (apply Ne.symm; assumption) | omega)
    have hB := Keep.get hk14 hB (by simp only [List.mem_singleton]; first | assumption | (apply Ne.symm; assumption) | omega)
    have hB4 : _ = some (Obj.cells #[Value.bool permit, Value.int IntKind.u32 sa, Value.int IntKind.i64 sb, Value.int IntKind.u32 da, Value.int IntKind.i64 db, Value.int IntKind.i64 rproto, Value.int IntKind.i64 fs, Value.int IntKind.i64 ls, Value.int IntKind.i64 fd, Value.int IntKind.i64 ld] 45 (0, 0)) := hB4'.trans (by kernel_rfl)
    clear hB4'
    have hK := Keep.trans hK hk14 (U := []) (fun _ h => nomatch h) (fun x hx => by simp only [List.mem_singleton] at hx; subst hx; right; omega)
    clear hk14
    refine x_load (o := 0) hB4 rfl (by kernel_rfl) ?_
    refine x_load (o := 1) hB4 rfl (by kernel_rfl) ?_
    refine x_load (o := 2) hB4 rfl (by kernel_rfl) ?_
    refine x_load (o := 3) hB4 rfl (by kernel_rfl) ?_
    refine x_load (o := 4) hB4 rfl (by kernel_rfl) ?_
    refine x_load (o := 5) hB4 rfl (by kernel_rfl) ?_
    refine x_load (o := 6) hB4 rfl (by kernel_rfl) ?_
    refine x_load (o := 7) hB4 rfl (by kernel_rfl) ?_
    refine x_load (o := 8) hB4 rfl (by kernel_rfl) ?_
    refine x_load (o := 9) hB4 rfl (by kernel_rfl) ?_
    refine x_load (o := 0) hB1 rfl (by kernel_rfl) ?_
    refine x_load (o := 1) hB1 rfl (by kernel_rfl) ?_
    refine x_load (o := 2) hB1 rfl (by kernel_rfl) ?_
    refine x_load (o := 3) hB1 rfl (by kernel_rfl) ?_
    refine x_load (o := 4) hB1 rfl (by kernel_rfl) ?_
    refine x_load (o := 5) hB1 rfl (by kernel_rfl) ?_
    refine x_load (o := 6) hB1 rfl (by kernel_rfl) ?_
    refine x_load (o := 7) hB1 rfl (by kernel_rfl) ?_
    refine x_load (o := 8) hB1 rfl (by kernel_rfl) ?_
    refine s_call (f := 20) (args := #[Value.agg (#[Value.bool permit, Value.int IntKind.u32 sa, Value.int IntKind.i64 sb, Value.int IntKind.u32 da, Value.int IntKind.i64 db, Value.int IntKind.i64 rproto, Value.int IntKind.i64 fs, Value.int IntKind.i64 ls, Value.int IntKind.i64 fd, Value.int IntKind.i64 ld]), Value.agg (#[Value.int IntKind.u32 src, Value.int IntKind.u32 dst, Value.int IntKind.i64 proto, Value.int IntKind.i64 ttl, Value.int IntKind.i64 id, Value.int IntKind.i64 ff, Value.bool more, Value.bool whole, Value.string body])]) (by kernel_rfl) (by kernel_rfl) (by kernel_rfl) (M _) ?_
    rintro v w15 ⟨rfl, hk15⟩
    have hB1 := Keep.get hk15 hB1 (by simp)
    have hB := Keep.get hk15 hB (by simp)
    have hB4 := Keep.get hk15 hB4 (by simp)
    have hK := Keep.trans' hK hk15
    clear hk15
    -- test matchV (RuleV.mk permit sa sb da db rproto fs ls fd ld) (PktV.mk src dst proto ttl id ff more whole body)
    refine s_if (b := matchV ⟨permit, sa, sb, da, db, rproto, fs, ls, fd, ld⟩ ⟨src, dst, proto, ttl, id, ff, more, whole, body⟩) (by kernel_rfl) (fun hm => ?_) (fun hm => ?_)
    · refine s_done (v := .bool (firstM ⟨src, dst, proto, ttl, id, ff, more, whole, body⟩ 0 L == k)) (by kernel_rfl) ⟨by rw [hI, hfd, if_pos hm, beq_self_eq_true], hK⟩
    · exact s_again 0 (k + 1) [.int .i64 (IntKind.i64.wrap ((k : Int) + 1))] rfl (by kernel_rfl) (by kernel_rfl) (by kernel_rfl) ek ⟨by omega, hK, hB1, by rw [hI, hfd, if_neg (Bool.eq_false_iff.1 hm)]⟩ (by show L.length - (k + 1) < L.length - k; omega)
  · have hl : k = L.length := by have := of_decide_eq_false hl; omega
    subst hl
    refine s_done (v := .bool (firstM ⟨src, dst, proto, ttl, id, ff, more, whole, body⟩ 0 L == -1)) (by kernel_rfl) ⟨by rw [hI, firstM_end, beq_self_eq_true], hK⟩

set_option maxHeartbeats 0 in
theorem first_nil  (p : PktV) (w : World) (hs : p.body.size ≤ Go.maxLen) (hpo : W64 p.off) :
    Ret Try.prog 5 #[.slice none 0 0, .agg (encP p).toArray] w fun v w' => v = .bool true ∧ Keep [] w w' := by
  refine ret_of_G Try.func5 rfl rfl ?_
  have hK := Keep.refl [] w
  have hV : RSl w (.slice none 0 0) [] := .inl ⟨rfl, rfl⟩
  have hw : ∀ r ∈ ([] : List RuleV), W64 r.sb ∧ W64 r.db := fun _ h => nomatch h
  have CA : ∀ w', Keep [] w w' → Ret Try.prog 18 #[.slice none 0 0] w' fun v w'' => v = .int .i64 (checkL ([])) ∧ Keep [] w' w'' := fun w' k => rcheck_ret (hV.keep k) hw
  have PC := pktCheck_ret p hs hpo
  obtain ⟨src, dst, proto, ttl, id, ff, more, whole, body⟩ := p
  have q := checkL_nil
  by_cases q2 : pktE ⟨src, dst, proto, ttl, id, ff, more, whole, body⟩ ≠ 0
  · have JA : ∀ w', Keep [] w w' → Ret Try.prog 17 #[.slice none 0 0, .agg (encP ⟨src, dst, proto, ttl, id, ff, more, whole, body⟩).toArray] w' fun v w'' => v = .tuple #[.int .i64 0, .int .i64 (pktE ⟨src, dst, proto, ttl, id, ff, more, whole, body⟩)] ∧ Keep [] w' w'' := fun w' k => (judge_ret (hV.keep k) hw hs hpo).mono fun _ _ ⟨h, k⟩ => ⟨by rw [h, jv2 q q2], k⟩
    have CA : ∀ w', Keep [] w w' → Ret Try.prog 18 #[.slice none 0 0] w' fun v w'' => v = .int .i64 0 ∧ Keep [] w' w'' := fun w' k => (CA w' k).mono fun _ _ ⟨h, k⟩ => ⟨by rw [h, q], k⟩
    have hq : (pktE ⟨src, dst, proto, ttl, id, ff, more, whole, body⟩ != 0) = true := bne_iff_ne.2 q2
    have hr : (pktE ⟨src, dst, proto, ttl, id, ff, more, whole, body⟩ == pktE ⟨src, dst, proto, ttl, id, ff, more, whole, body⟩) = true := beq_iff_eq.2 rfl
    have hz : ((0 : Int) == pktE ⟨src, dst, proto, ttl, id, ff, more, whole, body⟩) = false := beq_eq_false_iff_ne.2 (Ne.symm q2)
    refine x_new (ob := Obj.cells (#[Value.int IntKind.u32 src, Value.int IntKind.u32 dst, Value.int IntKind.i64 proto, Value.int IntKind.i64 ttl, Value.int IntKind.i64 id, Value.int IntKind.i64 ff, Value.bool more, Value.bool whole, Value.string body]) 37) (by kernel_rfl) (by kernel_rfl) (fun w1 b1 hb1 hB1 hk1 hlt1 => ?_)
    have hge1_hK := Nat.le_trans (Keep.size hK) (Nat.le_of_eq hb1.symm)
    have hK := Keep.trans' hK hk1
    clear hk1
    refine s_call (f := 16) (args := #[]) (by kernel_rfl) (by kernel_rfl) (by kernel_rfl) (ruleFact_ret _) ?_
    rintro v w2 ⟨rfl, hk2⟩
    have hB1 := Keep.get hk2 hB1 (by simp)
    have hK := Keep.trans' hK hk2
    clear hk2
    refine s_ifF (b := false) (by kernel_rfl) rfl ?_
    refine x_load (o := 0) hB1 rfl (by kernel_rfl) ?_
    refine x_load (o := 1) hB1 rfl (by kernel_rfl) ?_
    refine x_load (o := 2) hB1 rfl (by kernel_rfl) ?_
    refine x_load (o := 3) hB1 rfl (by kernel_rfl) ?_
    refine x_load (o := 4) hB1 rfl (by kernel_rfl) ?_
    refine x_load (o := 5) hB1 rfl (by kernel_rfl) ?_
    refine x_load (o := 6) hB1 rfl (by kernel_rfl) ?_
    refine x_load (o := 7) hB1 rfl (by kernel_rfl) ?_
    refine x_load (o := 8) hB1 rfl (by kernel_rfl) ?_
    refine s_call (f := 17) (args := #[Value.slice none (0 : Nat) (0 : Nat), Value.agg (#[Value.int IntKind.u32 src, Value.int IntKind.u32 dst, Value.int IntKind.i64 proto, Value.int IntKind.i64 ttl, Value.int IntKind.i64 id, Value.int IntKind.i64 ff, Value.bool more, Value.bool whole, Value.string body])]) (by kernel_rfl) (by kernel_rfl) (by kernel_rfl) (JA _ hK) ?_
    rintro v w3 ⟨rfl, hk3⟩
    have hB1 := Keep.get hk3 hB1 (by simp)
    have hK := Keep.trans' hK hk3
    clear hk3
    refine s_ifT (by kernel_rfl) hq ?_
    refine s_ifT (b := true) (by kernel_rfl) rfl ?_
    refine s_call (f := 18) (args := #[Value.slice none (0 : Nat) (0 : Nat)]) (by kernel_rfl) (by kernel_rfl) (by kernel_rfl) (CA _ hK) ?_
    rintro v w4 ⟨rfl, hk4⟩
    have hB1 := Keep.get hk4 hB1 (by simp)
    have hK := Keep.trans' hK hk4
    clear hk4
    refine s_ifF (by kernel_rfl) hz ?_
    refine s_call (f := 18) (args := #[Value.slice none (0 : Nat) (0 : Nat)]) (by kernel_rfl) (by kernel_rfl) (by kernel_rfl) (CA _ hK) ?_
    rintro v w5 ⟨rfl, hk5⟩
    have hB1 := Keep.get hk5 hB1 (by simp)
    have hK := Keep.trans' hK hk5
    clear hk5
    refine s_ifT (b := true) (by kernel_rfl) rfl ?_
    refine x_load (o := 0) hB1 rfl (by kernel_rfl) ?_
    refine x_load (o := 1) hB1 rfl (by kernel_rfl) ?_
    refine x_load (o := 2) hB1 rfl (by kernel_rfl) ?_
    refine x_load (o := 3) hB1 rfl (by kernel_rfl) ?_
    refine x_load (o := 4) hB1 rfl (by kernel_rfl) ?_
    refine x_load (o := 5) hB1 rfl (by kernel_rfl) ?_
    refine x_load (o := 6) hB1 rfl (by kernel_rfl) ?_
    refine x_load (o := 7) hB1 rfl (by kernel_rfl) ?_
    refine x_load (o := 8) hB1 rfl (by kernel_rfl) ?_
    refine s_call (f := 19) (args := #[Value.agg (#[Value.int IntKind.u32 src, Value.int IntKind.u32 dst, Value.int IntKind.i64 proto, Value.int IntKind.i64 ttl, Value.int IntKind.i64 id, Value.int IntKind.i64 ff, Value.bool more, Value.bool whole, Value.string body])]) (by kernel_rfl) (by kernel_rfl) (by kernel_rfl) (PC _) ?_
    rintro v w6 ⟨rfl, hk6⟩
    have hB1 := Keep.get hk6 hB1 (by simp)
    have hK := Keep.trans' hK hk6
    clear hk6
    -- stop: Req.done (Value.bool (pktE (PktV.mk src dst proto ttl id ff more whole body) == pktE (PktV.mk src dst proto ttl id ff more whole body)))
    refine s_done (v := .bool (pktE ⟨src, dst, proto, ttl, id, ff, more, whole, body⟩ == pktE ⟨src, dst, proto, ttl, id, ff, more, whole, body⟩)) (by kernel_rfl) ⟨by rw [hr], hK⟩
  have q2 : pktE ⟨src, dst, proto, ttl, id, ff, more, whole, body⟩ = 0 := Decidable.not_not.1 q2
  have JA : ∀ w', Keep [] w w' → Ret Try.prog 17 #[.slice none 0 0, .agg (encP ⟨src, dst, proto, ttl, id, ff, more, whole, body⟩).toArray] w' fun v w'' => v = .tuple #[.int .i64 (-1), .int .i64 0] ∧ Keep [] w' w'' := fun w' k => (judge_ret (hV.keep k) hw hs hpo).mono fun _ _ ⟨h, k⟩ => ⟨by rw [h, jv3 q q2, firstM_nil], k⟩
  refine x_new (ob := Obj.cells (#[Value.int IntKind.u32 src, Value.int IntKind.u32 dst, Value.int IntKind.i64 proto, Value.int IntKind.i64 ttl, Value.int IntKind.i64 id, Value.int IntKind.i64 ff, Value.bool more, Value.bool whole, Value.string body]) 37) (by kernel_rfl) (by kernel_rfl) (fun w1 b1 hb1 hB1 hk1 hlt1 => ?_)
  have hge1_hK := Nat.le_trans (Keep.size hK) (Nat.le_of_eq hb1.symm)
  have hK := Keep.trans' hK hk1
  clear hk1
  refine s_call (f := 16) (args := #[]) (by kernel_rfl) (by kernel_rfl) (by kernel_rfl) (ruleFact_ret _) ?_
  rintro v w2 ⟨rfl, hk2⟩
  have hB1 := Keep.get hk2 hB1 (by simp)
  have hK := Keep.trans' hK hk2
  clear hk2
  refine s_ifF (b := false) (by kernel_rfl) rfl ?_
  refine x_load (o := 0) hB1 rfl (by kernel_rfl) ?_
  refine x_load (o := 1) hB1 rfl (by kernel_rfl) ?_
  refine x_load (o := 2) hB1 rfl (by kernel_rfl) ?_
  refine x_load (o := 3) hB1 rfl (by kernel_rfl) ?_
  refine x_load (o := 4) hB1 rfl (by kernel_rfl) ?_
  refine x_load (o := 5) hB1 rfl (by kernel_rfl) ?_
  refine x_load (o := 6) hB1 rfl (by kernel_rfl) ?_
  refine x_load (o := 7) hB1 rfl (by kernel_rfl) ?_
  refine x_load (o := 8) hB1 rfl (by kernel_rfl) ?_
  refine s_call (f := 17) (args := #[Value.slice none (0 : Nat) (0 : Nat), Value.agg (#[Value.int IntKind.u32 src, Value.int IntKind.u32 dst, Value.int IntKind.i64 proto, Value.int IntKind.i64 ttl, Value.int IntKind.i64 id, Value.int IntKind.i64 ff, Value.bool more, Value.bool whole, Value.string body])]) (by kernel_rfl) (by kernel_rfl) (by kernel_rfl) (JA _ hK) ?_
  rintro v w3 ⟨rfl, hk3⟩
  have hB1 := Keep.get hk3 hB1 (by simp)
  have hK := Keep.trans' hK hk3
  clear hk3
  refine s_ifF (b := false) (by kernel_rfl) rfl ?_
  -- stop: Req.loop
  refine s_loop (γ := Unit) 0 [40] (fun _ => [.int .i64 0]) (fun _ w' => Keep [] w w') (fun _ => 0) () [.int .i64 0] (by kernel_rfl) (by kernel_rfl) rfl (by kernel_rfl) rfl hK ?_
  clear hK
  rintro _ v1 hK
  refine s_ifF (b := false) (by kernel_rfl) rfl ?_
  -- stop: Req.done (Value.bool true)
  refine s_done (by kernel_rfl) ⟨rfl, hK⟩

theorem ruleFirst_ret {L : List RuleV} {v : Value} {p : PktV} {w : World} (h : RSl w v L) (hw : ∀ r ∈ L, W64 r.sb ∧ W64 r.db) (hs : p.body.size ≤ Go.maxLen) (hpo : W64 p.off) :
    Ret Try.prog 5 #[v, .agg (encP p).toArray] w fun v w' => v = .bool true ∧ Keep [] w w' := by
  rcases h with ⟨rfl, rfl⟩ | ⟨b, off, cap, c, T, fz, rfl, h2, h3⟩
  · exact first_nil p w hs hpo
  · exact first_some L b off cap c T fz p w h2 h3 hw hs hpo
end Go.Proofs.Ytfknpeajihecdaa
