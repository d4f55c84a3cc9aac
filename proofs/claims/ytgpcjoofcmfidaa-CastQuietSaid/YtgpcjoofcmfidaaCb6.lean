import Derived.Test.YtgpcjoofcmfidaaCb5
import Derived.Test.YtgpcjoofcmfidaaYMore
namespace Go.Proofs.Ytgpcjoofcmfidaa
open Go.XM Go.RowKit Go.Ca
set_option maxRecDepth 100000

def ptrV (b : Nat) : Value := .pointer (some ⟨b, 0, none⟩)
def memP (p : Nat × MemV ByteArray) : Assn := MemA p.1 p.2
/-- The group at block b: its members at the blocks bs. -/
def GrpA (b : Nat) (fv : Value) (now : Int) (rv : Value) (bs : List Nat) (ms : List (MemV ByteArray)) : Assn :=
  ex fun av => all [pt b #[av, fv, .int .i64 now, rv] 33, rows av 28 1 (bs.map fun k => [ptrV k]), Each memP (bs.zip ms)]

theorem openGrp {w : World} {F : Fm} {b : Nat} {fv rv : Value} {now : Int} {bs : List Nat} {ms : List (MemV ByteArray)} {M : List Assn} (H : Own w F (GrpA b fv now rv bs ms :: M)) :
    ∃ a cap, bs.length ≤ cap ∧ Own w F (pt b #[.slice a bs.length cap, fv, .int .i64 now, rv] 33 :: rows (.slice a bs.length cap) 28 1 (bs.map fun k => [ptrV k]) :: Each memP (bs.zip ms) :: M) := by
  obtain ⟨sv, H⟩ := H.ex1
  have H := H.all1
  obtain ⟨a, cap, rfl, h, _⟩ := H.shape 1 rfl
  rw [List.length_map] at h H
  exact ⟨a, cap, h, H⟩

theorem openGrpN {w : World} {F : Fm} {b : Nat} {fv rv : Value} {now : Int} {bs : List Nat} {ms : List (MemV ByteArray)} {M : List Assn} (H : Own w F (GrpA b fv now rv bs ms :: M)) (h0 : 0 < bs.length) :
    ∃ a cap, bs.length ≤ cap ∧ Own w F (pt b #[.slice (some ⟨a, 0, none⟩) bs.length cap, fv, .int .i64 now, rv] 33 :: rows (.slice (some ⟨a, 0, none⟩) bs.length cap) 28 1 (bs.map fun k => [ptrV k]) :: Each memP (bs.zip ms) :: M) := by
  obtain ⟨sv, H⟩ := H.ex1
  have H := H.all1
  obtain ⟨a, cap, rfl, h, _⟩ := H.shapeN 1 rfl (by rw [List.length_map]; exact h0)
  rw [List.length_map] at h H
  exact ⟨a, cap, h, H⟩

theorem shutGrp {w : World} {F : Fm} {b : Nat} {fv rv av : Value} {now : Int} {bs : List Nat} {ms : List (MemV ByteArray)} {L : List (List Value)} {l : List (Nat × MemV ByteArray)} {M : List Assn}
    (H : Own w F (pt b #[av, fv, .int .i64 now, rv] 33 :: rows av 28 1 L :: Each memP l :: M)) (hL : L = bs.map fun k => [ptrV k]) (hl : l = bs.zip ms) : Own w F (GrpA b fv now rv bs ms :: M) := by
  subst hL hl
  exact H.fold [_, _, _] fun _ h => ⟨av, h⟩

def initM (k : Nat) : MemV ByteArray := ⟨k, [], 0, 0, 0⟩

theorem initM_zip {bs : List Nat} {k b : Nat} (h : bs.length = k) : (bs ++ [b]).zip ((List.range (k + 1)).map initM) = bs.zip ((List.range k).map initM) ++ [(b, initM k)] := by
  rw [List.range_succ, List.map_append, List.zip_append (by simp [h])]
  rfl

theorem newGroup_ret (n : Nat) (fa : Option Addr) (fl fc : Nat) (F : Fm) (w : World) (H : Own w F []) (hn : n ≤ 16) : Ret Try.prog 7 #[.int .i64 n, .slice fa fl fc] w
    (Post F fun v L' => ∃ b rb bs, v = ptrV b ∧ bs.length = n ∧ L' = [GrpA b (.slice fa fl fc) 0 (.slice (some ⟨rb, 0, none⟩) n n) bs ((List.range n).map initM), rows (.slice (some ⟨rb, 0, none⟩) n n) 22 1 (List.replicate n [.slice none 0 0])]) := by
  refine ret_of_G Try.func7 rfl rfl ?_
  
  -- stop: Req.makeSlice (31 : Nat) (Value.int IntKind.i64 (↑n : Int)) (Value.int IntKind.i64 (↑n : Int))
  refine y_make1 (t := 31) (kl := .i64) (kc := .i64) (n := n) (e := 22) 24 (.slice none 0 0) H (by omega) (by omega) (by kernel_rfl) (by kernel_rfl) (by kernel_rfl) (by kernel_rfl) (by kernel_rfl) (fun rb w1 H => ?_)
  refine y_new (c := #[Value.slice none (0 : Nat) (0 : Nat), Value.slice fa fl fc, Value.int IntKind.i64 (0 : Int), Value.slice (some (Addr.mk rb (0 : Nat) none)) n n]) (T := 33) H (by kernel_rfl) (by kernel_rfl) (fun w2 b1 H => ?_)
  -- stop: Req.loop
  replace H := shutGrp (fv := .slice fa fl fc) (bs := []) (ms := (List.range 0).map initM) ((((H.nilRows 28 1).eachNil memP).pick [2, 1, 0, 3] rfl)) rfl rfl
  refine s_loop (γ := Nat × List Nat) 0 [6] (fun q => [.int .i64 q.1]) (fun q w' => Own w' F [GrpA b1 (.slice fa fl fc) 0 (.slice (some ⟨rb, 0, none⟩) n n) q.2 ((List.range q.1).map initM), rows (.slice (some ⟨rb, 0, none⟩) n n) 22 1 (List.replicate n [.slice none 0 0])] ∧ q.2.length = q.1 ∧ q.1 ≤ n) (fun q => n - q.1) (0, []) [.int .i64 0] (by kernel_rfl) (by kernel_rfl) rfl (by kernel_rfl) rfl ⟨H, rfl, Nat.zero_le _⟩ ?_
  rintro ⟨k, bs⟩ w3 ⟨H, hb, hk⟩
  have hb : bs.length = k := hb
  have hk : k ≤ n := hk
  simp only at H
  refine s_if (b := decide ((k : Int) < n)) (by kernel_rfl) (fun ht => ?_) (fun hf => ?_)
  · have p := of_decide_eq_true ht
    refine y_call (f := 16) (args := #[Value.int IntKind.i64 (↑k : Int)]) [] (M := [GrpA b1 (Value.slice fa fl fc) (0 : Int) (Value.slice (some (Addr.mk rb (0 : Nat) none)) n n) bs (List.map initM (List.range k)), rows (Value.slice (some (Addr.mk rb (0 : Nat) none)) n n) 22 (1 : Nat) (List.replicate n [Value.slice none (0 : Nat) (0 : Nat)])]) H rfl rfl rfl (by kernel_rfl) (by kernel_rfl) (by kernel_rfl) (fun F' hF H' => new_ret (k : Nat) (by omega) (by omega) F' _ H') ?_
    rintro v w4 L' ⟨b2, rfl, rfl⟩ H
    simp only [List.cons_append, List.nil_append] at H
    refine s_ifF (b := false) (by kernel_rfl) rfl ?_
    refine s_ifF (b := false) (by kernel_rfl) rfl ?_
    -- load b1 (0 : Nat): no piece
    obtain ⟨a, cap, hcap, H⟩ := openGrp (H.pick [1, 0, 2] rfl)
    have hbl : (bs.map fun k => [ptrV k]).length = bs.length := List.length_map ..
    refine y_load 0 (o := 0) H rfl rfl (by kernel_rfl) ?_
    refine y_new (c := #[Value.pointer (some (Addr.mk b2 (0 : Nat) none))]) (T := 28) H (by kernel_rfl) (by kernel_rfl) (fun w5 b3 H => ?_)
    refine y_push (t := 29) (ty := 29) (c0 := (1 : Nat)) 2 0 (8 : Nat) (Value.pointer none) [Value.pointer (some (Addr.mk b2 (0 : Nat) none))] H rfl rfl rfl (by simp [Value.oneCell']) (by first | omega | (simp only [List.length_map, List.length_append, List.length_cons, List.length_nil, List.length_set, Go.maxLen] at *; omega)) (by first | omega | (simp only [List.length_map, List.length_append, List.length_cons, List.length_nil, List.length_set, Go.maxLen] at *; omega)) (by kernel_rfl) (by kernel_rfl) (by kernel_rfl) (by decide) (by kernel_rfl) (by kernel_rfl) (fun a1 cap1 w6 hcap1 H => ?_)
    simp only [List.set_cons_zero, List.set_cons_succ] at H
    refine y_store 1 (o := 0) (v := Value.slice (some (Addr.mk a1 (0 : Nat) none)) ((List.map (fun k => [ptrV k]) bs).length + (1 : Nat)) cap1) (c' := #[Value.slice (some (Addr.mk a1 (0 : Nat) none)) ((List.map (fun k => [ptrV k]) bs).length + (1 : Nat)) cap1, Value.slice fa fl fc, Value.int IntKind.i64 (0 : Int), Value.slice (some (Addr.mk rb (0 : Nat) none)) n n]) H rfl (by kernel_rfl) (by kernel_rfl) (by kernel_rfl) rfl (by kernel_rfl) (fun w7 H => ?_)
    simp only [List.set_cons_zero, List.set_cons_succ] at H
    refine x_add (t := 3) (a := (↑k : Int)) (b := (1 : Int)) (((k) + ((1 : Nat)) : Nat) : Int) (w64' (by omega) (by omega) (by omega)) (by kernel_rfl) ?_
    -- stop: Req.again (0 : Nat)
    replace H := Own.eachPush (f := memP) (x := (b2, initM k)) (H.drop1.pick [3, 2, 0, 1, 4] rfl)
    replace H := shutGrp (bs := bs ++ [b2]) (ms := (List.range (k + 1)).map initM) (H.pick [1, 2, 0, 3] rfl) (by simp [ptrV]) (initM_zip hb).symm
    refine s_again 0 (k + 1, bs ++ [b2]) [.int .i64 ((k + 1 : Nat) : Int)] rfl (by kernel_rfl) (by kernel_rfl) (by kernel_rfl) rfl ⟨H, by simp [hb], by show k + 1 ≤ n; omega⟩ (by show n - (k + 1) < n - k; omega)
  · have p := of_decide_eq_false hf
    obtain rfl : k = n := by omega
    
    -- stop: Req.done (Value.pointer (some (Addr.mk b1 (0 : Nat) none)))
    refine s_done (v := ptrV b1) (by kernel_rfl) ⟨_, ⟨b1, rb, bs, rfl, hb, rfl⟩, H⟩
end Go.Proofs.Ytgpcjoofcmfidaa
