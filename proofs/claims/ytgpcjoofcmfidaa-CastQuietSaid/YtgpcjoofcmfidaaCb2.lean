import Derived.Test.YtgpcjoofcmfidaaCb1
namespace Go.Proofs.Ytgpcjoofcmfidaa
open Go.XM Go.RowKit Go.Ca
set_option maxRecDepth 100000

theorem knows_ret (m : MemV ByteArray) (many now : Int) (b : Nat) (F : Fm) (w : World) (H : Own w F [MemA b m]) (hn : many ≤ 64) (hl : m.items.length ≤ 64) :
    Ret Try.prog 20 #[.pointer (some ⟨b, 0, none⟩), .int .i64 many, .int .i64 now] w (Post F fun v L' => v = .tuple #[] ∧ L' = [MemA b (knows ⟨#[]⟩ m many now)]) := by
  refine ret_of_G Try.func20 rfl rfl ?_
  refine s_loop (γ := List (ItemV ByteArray)) 0 [] (fun _ => []) (fun q w' => Own w' F [MemA b { m with items := q }] ∧ q.length ≤ 64 ∧ knowsI ⟨#[]⟩ (many - q.length).toNat now q = knowsI ⟨#[]⟩ (many - m.items.length).toNat now m.items) (fun q => (many - q.length).toNat) m.items [] (by kernel_rfl) (by kernel_rfl) rfl (by kernel_rfl) rfl ⟨H, hl, rfl⟩ ?_
  rintro items w1 ⟨H, hl1, hI⟩
  obtain ⟨a, cap, hcap, H⟩ := openMem H
  have hcap : items.length ≤ cap := hcap
  have hL : (items.map encI).length = items.length := List.length_map ..
  simp only [memC] at H
  refine y_load 0 (o := 1) H rfl rfl (by kernel_rfl) ?_
  -- test decide ((↑items.length : Int) < many)
  refine s_if (b := decide ((items.length : Int) < many)) (by kernel_rfl) (fun ht => ?_) (fun hf => ?_)
  · have p := of_decide_eq_true ht
    refine y_load 0 (o := 1) H rfl rfl (by kernel_rfl) ?_
    refine y_new (c := #[Value.bool false, Value.string (ByteArray.mk #[]), Value.int IntKind.i64 now, Value.int IntKind.i64 (-1 : Int), Value.bool false]) (T := 55) H (by kernel_rfl) (by kernel_rfl) (fun w2 b1 H => ?_)
    -- stop: Req.bi Builtin.append (#[(51 : Nat), (51 : Nat)]) (51 : Nat) (#[Value.slice a items.length cap, Value.slice (some (Addr.mk b1 (0 : Nat) none)) (1 : Nat) (1 : Nat)])
    refine y_push (t := 51) (ty := 51) (c0 := 1) 2 0 48 (.agg #[.bool false, .string ⟨#[]⟩, .int .i64 0, .int .i64 0, .bool false]) [.bool false, .string ⟨#[]⟩, .int .i64 now, .int .i64 (-1), .bool false] H rfl rfl rfl (by simp [Value.oneCell']) (by rw [hL]; simp only [Go.maxLen]; omega) (by rw [hL]; omega) (by kernel_rfl) (by kernel_rfl) (by kernel_rfl) (by decide) (by kernel_rfl) (by kernel_rfl) (fun a' cap' w2 hcap' H => ?_)
    rw [hL] at H
    simp only [List.set_cons_zero, List.set_cons_succ] at H
    rw [hL]
    refine y_store 1 (o := 1) (v := Value.slice (some (Addr.mk a' (0 : Nat) none)) (items.length + (1 : Nat)) cap') (c' := #[Value.int IntKind.i64 m.id, Value.slice (some (Addr.mk a' (0 : Nat) none)) (items.length + (1 : Nat)) cap', Value.int IntKind.i64 m.read, Value.int IntKind.i64 m.hello, Value.int IntKind.i64 m.now]) H rfl (by kernel_rfl) (by kernel_rfl) (by kernel_rfl) rfl (by kernel_rfl) (fun w3 H => ?_)
    simp only [List.set_cons_zero, List.set_cons_succ] at H
    -- stop: Req.again (0 : Nat)
    refine s_again 0 (items ++ [⟨false, ⟨#[]⟩, now, -1, false⟩]) [] rfl (by kernel_rfl) (by kernel_rfl) (by kernel_rfl) rfl ⟨shutMem H.drop1 (by simp [memC]) (by simp [encI]), ?_, ?_⟩ ?_
    · show (items ++ [_]).length ≤ 64
      rw [List.length_append, List.length_singleton]; omega
    · rw [← hI, List.length_append, List.length_singleton, show (many - (items.length : Nat)).toNat = (many - ((items.length + 1 : Nat) : Int)).toNat + 1 by omega]
      rfl
    · show (many - ((items ++ [_]).length : Nat)).toNat < (many - (items.length : Nat)).toNat
      rw [List.length_append, List.length_singleton]; omega
  · have p := of_decide_eq_false hf
    refine y_done (by kernel_rfl) _ ⟨rfl, rfl⟩ (shutMem H rfl ?_)
    unfold knows
    rw [← hI, show (many - (items.length : Nat)).toNat = 0 by omega]
    rfl

def badN (n : NoteV ByteArray) : Bool :=
  decide (n.kind < 1 ∨ n.kind > 3 ∨ n.src < 0 ∨ n.src ≥ 16 ∨ n.no < 0 ∨ n.no > (if n.kind = 3 then 64 else 63)) || ((!decide (n.kind = 1)) && !(n.body.toList == (⟨#[]⟩ : ByteArray).toList)) || decide ((n.body.size : Int) > 1024)

set_option maxHeartbeats 0 in
theorem badNote_ret (n : NoteV ByteArray) (F : Fm) (w : World) (H : Own w F []) : Ret Try.prog 18 #[.agg (encN n).toArray] w (Post F fun v L' => v = .bool (badN n) ∧ L' = []) := by
  refine ret_of_G Try.func18 rfl rfl ?_
  obtain ⟨kind, src, no, body⟩ := n
  by_cases hk : kind = 3
  · subst hk
    refine y_new (c := #[Value.int IntKind.i64 (3 : Int), Value.int IntKind.i64 src, Value.int IntKind.i64 no, Value.string body]) (T := 44) H (by kernel_rfl) (by kernel_rfl) (fun w1 b1 H => ?_)
    refine y_load 0 (o := 0) H rfl rfl (by kernel_rfl) ?_
    refine s_ifT (b := true) (by kernel_rfl) rfl ?_
    refine y_load 0 (o := 0) H rfl rfl (by kernel_rfl) ?_
    refine s_ifF (b := false) (by kernel_rfl) rfl ?_
    refine y_load 0 (o := 0) H rfl rfl (by kernel_rfl) ?_
    refine s_ifF (b := false) (by kernel_rfl) rfl ?_
    refine y_load 0 (o := 1) H rfl rfl (by kernel_rfl) ?_
    refine s_if (b := decide (src < (0 : Int))) (by kernel_rfl) (fun ht1 => ?_) (fun hf1 => ?_)
    · have p1 := of_decide_eq_true ht1
      refine s_done (v := Value.bool true) (by kernel_rfl) ?_
      exact ⟨[], ⟨by unfold badN; simp_all <;> (intro hz; omega), rfl⟩, H.drop1⟩
    · have p1 := of_decide_eq_false hf1
      refine y_load 0 (o := 1) H rfl rfl (by kernel_rfl) ?_
      refine s_if (b := decide (src ≥ (16 : Int))) (by kernel_rfl) (fun ht2 => ?_) (fun hf2 => ?_)
      · have p2 := of_decide_eq_true ht2
        refine s_done (v := Value.bool true) (by kernel_rfl) ?_
        exact ⟨[], ⟨by unfold badN; simp_all <;> (intro hz; omega), rfl⟩, H.drop1⟩
      · have p2 := of_decide_eq_false hf2
        refine y_load 0 (o := 2) H rfl rfl (by kernel_rfl) ?_
        refine s_if (b := decide (no < (0 : Int))) (by kernel_rfl) (fun ht3 => ?_) (fun hf3 => ?_)
        · have p3 := of_decide_eq_true ht3
          refine s_done (v := Value.bool true) (by kernel_rfl) ?_
          exact ⟨[], ⟨by unfold badN; simp_all <;> (intro hz; omega), rfl⟩, H.drop1⟩
        · have p3 := of_decide_eq_false hf3
          refine y_load 0 (o := 2) H rfl rfl (by kernel_rfl) ?_
          refine s_if (b := decide (no > (64 : Int))) (by kernel_rfl) (fun ht4 => ?_) (fun hf4 => ?_)
          · have p4 := of_decide_eq_true ht4
            refine s_done (v := Value.bool true) (by kernel_rfl) ?_
            exact ⟨[], ⟨by unfold badN; simp_all <;> (intro hz; omega), rfl⟩, H.drop1⟩
          · have p4 := of_decide_eq_false hf4
            refine y_load 0 (o := 0) H rfl rfl (by kernel_rfl) ?_
            refine s_ifT (b := true) (by kernel_rfl) rfl ?_
            refine y_load 0 (o := 3) H rfl rfl (by kernel_rfl) ?_
            refine s_if (b := !body.toList == (ByteArray.mk #[]).toList) (by kernel_rfl) (fun ht5 => ?_) (fun hf5 => ?_)
            · have p5 : (body.toList == (ByteArray.mk #[]).toList) = false := by simpa using ht5
              refine s_done (v := Value.bool true) (by kernel_rfl) ?_
              exact ⟨[], ⟨by unfold badN; simp_all <;> (intro hz; omega), rfl⟩, H.drop1⟩
            · have p5 : (body.toList == (ByteArray.mk #[]).toList) = true := by simpa using hf5
              refine y_load 0 (o := 3) H rfl rfl (by kernel_rfl) ?_
              refine s_done (v := Value.bool (decide ((↑body.size : Int) > (1024 : Int)))) (by kernel_rfl) ?_
              exact ⟨[], ⟨by unfold badN; simp_all <;> (intro hz; omega), rfl⟩, H.drop1⟩
  · refine y_new (c := #[Value.int IntKind.i64 kind, Value.int IntKind.i64 src, Value.int IntKind.i64 no, Value.string body]) (T := 44) H (by kernel_rfl) (by kernel_rfl) (fun w1 b1 H => ?_)
    refine y_load 0 (o := 0) H rfl rfl (by kernel_rfl) ?_
    refine s_if (b := kind == (3 : Int)) (by kernel_rfl) (fun ht1 => ?_) (fun hf1 => ?_)
    · have p1 := eq_of_beq ht1
      (exfalso; omega)
    · have p1 := ne_of_beq_false hf1
      refine y_load 0 (o := 0) H rfl rfl (by kernel_rfl) ?_
      refine s_if (b := decide (kind < (1 : Int))) (by kernel_rfl) (fun ht2 => ?_) (fun hf2 => ?_)
      · have p2 := of_decide_eq_true ht2
        refine s_done (v := Value.bool true) (by kernel_rfl) ?_
        exact ⟨[], ⟨by unfold badN; simp_all <;> (intro hz; omega), rfl⟩, H.drop1⟩
      · have p2 := of_decide_eq_false hf2
        refine y_load 0 (o := 0) H rfl rfl (by kernel_rfl) ?_
        refine s_if (b := decide (kind > (3 : Int))) (by kernel_rfl) (fun ht3 => ?_) (fun hf3 => ?_)
        · have p3 := of_decide_eq_true ht3
          refine s_done (v := Value.bool true) (by kernel_rfl) ?_
          exact ⟨[], ⟨by unfold badN; simp_all <;> (intro hz; omega), rfl⟩, H.drop1⟩
        · have p3 := of_decide_eq_false hf3
          refine y_load 0 (o := 1) H rfl rfl (by kernel_rfl) ?_
          refine s_if (b := decide (src < (0 : Int))) (by kernel_rfl) (fun ht4 => ?_) (fun hf4 => ?_)
          · have p4 := of_decide_eq_true ht4
            refine s_done (v := Value.bool true) (by kernel_rfl) ?_
            exact ⟨[], ⟨by unfold badN; simp_all <;> (intro hz; omega), rfl⟩, H.drop1⟩
          · have p4 := of_decide_eq_false hf4
            refine y_load 0 (o := 1) H rfl rfl (by kernel_rfl) ?_
            refine s_if (b := decide (src ≥ (16 : Int))) (by kernel_rfl) (fun ht5 => ?_) (fun hf5 => ?_)
            · have p5 := of_decide_eq_true ht5
              refine s_done (v := Value.bool true) (by kernel_rfl) ?_
              exact ⟨[], ⟨by unfold badN; simp_all <;> (intro hz; omega), rfl⟩, H.drop1⟩
            · have p5 := of_decide_eq_false hf5
              refine y_load 0 (o := 2) H rfl rfl (by kernel_rfl) ?_
              refine s_if (b := decide (no < (0 : Int))) (by kernel_rfl) (fun ht6 => ?_) (fun hf6 => ?_)
              · have p6 := of_decide_eq_true ht6
                refine s_done (v := Value.bool true) (by kernel_rfl) ?_
                exact ⟨[], ⟨by unfold badN; simp_all <;> (intro hz; omega), rfl⟩, H.drop1⟩
              · have p6 := of_decide_eq_false hf6
                refine y_load 0 (o := 2) H rfl rfl (by kernel_rfl) ?_
                refine s_if (b := decide (no > (63 : Int))) (by kernel_rfl) (fun ht7 => ?_) (fun hf7 => ?_)
                · have p7 := of_decide_eq_true ht7
                  refine s_done (v := Value.bool true) (by kernel_rfl) ?_
                  exact ⟨[], ⟨by unfold badN; simp_all <;> (intro hz; omega), rfl⟩, H.drop1⟩
                · have p7 := of_decide_eq_false hf7
                  refine y_load 0 (o := 0) H rfl rfl (by kernel_rfl) ?_
                  refine s_if (b := kind != (1 : Int)) (by kernel_rfl) (fun ht8 => ?_) (fun hf8 => ?_)
                  · have p8 := bne_iff_ne.1 ht8
                    refine y_load 0 (o := 3) H rfl rfl (by kernel_rfl) ?_
                    refine s_if (b := !body.toList == (ByteArray.mk #[]).toList) (by kernel_rfl) (fun ht9 => ?_) (fun hf9 => ?_)
                    · have p9 : (body.toList == (ByteArray.mk #[]).toList) = false := by simpa using ht9
                      refine s_done (v := Value.bool true) (by kernel_rfl) ?_
                      exact ⟨[], ⟨by unfold badN; simp_all <;> (intro hz; omega), rfl⟩, H.drop1⟩
                    · have p9 : (body.toList == (ByteArray.mk #[]).toList) = true := by simpa using hf9
                      refine y_load 0 (o := 3) H rfl rfl (by kernel_rfl) ?_
                      refine s_done (v := Value.bool (decide ((↑body.size : Int) > (1024 : Int)))) (by kernel_rfl) ?_
                      exact ⟨[], ⟨by unfold badN; simp_all <;> (intro hz; omega), rfl⟩, H.drop1⟩
                  · have p8 := bne_eq_false_iff_eq.1 hf8
                    refine y_load 0 (o := 3) H rfl rfl (by kernel_rfl) ?_
                    refine s_done (v := Value.bool (decide ((↑body.size : Int) > (1024 : Int)))) (by kernel_rfl) ?_
                    exact ⟨[], ⟨by unfold badN; simp_all <;> (intro hz; omega), rfl⟩, H.drop1⟩

def beyondV (m : MemV ByteArray) (n : NoteV ByteArray) : Bool := if n.kind = 3 then decide (n.no > m.items.length) else decide (n.no ≥ m.items.length)

theorem beyond_ret (m : MemV ByteArray) (n : NoteV ByteArray) (b : Nat) (F : Fm) (w : World) (H : Own w F [MemA b m]) :
    Ret Try.prog 19 #[.pointer (some ⟨b, 0, none⟩), .agg (encN n).toArray] w (Post F fun v L' => v = .bool (beyondV m n) ∧ L' = [MemA b m]) := by
  refine ret_of_G Try.func19 rfl rfl ?_
  obtain ⟨kind, src, no, body⟩ := n
  obtain ⟨a, cap, hcap, H⟩ := openMem H
  simp only [memC] at H
  refine y_new (c := #[Value.int IntKind.i64 kind, Value.int IntKind.i64 src, Value.int IntKind.i64 no, Value.string body]) (T := 44) H (by kernel_rfl) (by kernel_rfl) (fun w1 b1 H => ?_)
  refine y_load 0 (o := 0) H rfl rfl (by kernel_rfl) ?_
  refine s_if (b := kind == (3 : Int)) (by kernel_rfl) (fun ht1 => ?_) (fun hf1 => ?_)
  · have p1 := eq_of_beq ht1
    refine s_draw (2 : Nat) 9 (by kernel_rfl) (by kernel_rfl) (by kernel_rfl) ?_
    replace H := Own.drew H
    refine y_load 0 (o := 2) H rfl rfl (by kernel_rfl) ?_
    refine y_load 1 (o := 1) H rfl rfl (by kernel_rfl) ?_
    refine s_done (v := Value.bool (decide (no > (↑m.items.length : Int)))) (by kernel_rfl) ?_
    exact ⟨_, ⟨by unfold beyondV; simp_all, rfl⟩, shutMem H.drop1 rfl rfl⟩
  · have p1 := ne_of_beq_false hf1
    refine s_draw (3 : Nat) 9 (by kernel_rfl) (by kernel_rfl) (by kernel_rfl) ?_
    replace H := Own.drew H
    refine y_load 0 (o := 2) H rfl rfl (by kernel_rfl) ?_
    refine y_load 1 (o := 1) H rfl rfl (by kernel_rfl) ?_
    refine s_done (v := Value.bool (decide (no ≥ (↑m.items.length : Int)))) (by kernel_rfl) ?_
    exact ⟨_, ⟨by unfold beyondV; simp_all, rfl⟩, shutMem H.drop1 rfl rfl⟩
end Go.Proofs.Ytgpcjoofcmfidaa
