import Derived.Test.YtgpcjoofcmfidaaCb3
namespace Go.Proofs.Ytgpcjoofcmfidaa
open Go.XM Go.RowKit Go.Ca
set_option maxRecDepth 100000

theorem gotN_drop {l : List (ItemV ByteArray)} {n : Nat} {x : ItemV ByteArray} (h : l[n]? = some x) : gotN (l.drop n) = if x.there then gotN (l.drop (n + 1)) + 1 else 0 := by
  have hlt := (List.getElem?_eq_some_iff.1 h).1
  rw [List.drop_eq_getElem_cons hlt]
  rw [List.getElem?_eq_getElem hlt] at h
  cases h
  rfl

theorem got_ret (m : MemV ByteArray) (b : Nat) (F : Fm) (w : World) (H : Own w F [MemA b m]) (hl : m.items.length ≤ 64) :
    Ret Try.prog 22 #[.pointer (some ⟨b, 0, none⟩)] w (Post F fun v L' => v = .int .i64 (gotN m.items) ∧ L' = [MemA b m]) := by
  refine ret_of_G Try.func22 rfl rfl ?_
  refine s_loop (γ := Nat) 0 [3] (fun n => [.int .i64 n]) (fun n w' => Own w' F [MemA b m] ∧ n ≤ m.items.length ∧ gotN m.items = n + gotN (m.items.drop n)) (fun n => m.items.length - n) 0 [.int .i64 0] (by kernel_rfl) (by kernel_rfl) rfl (by kernel_rfl) rfl ⟨H, Nat.zero_le _, by simp⟩ ?_
  rintro n w1 ⟨H, hn, hI⟩
  obtain ⟨id, items, read, hello, now⟩ := m
  have hn : n ≤ items.length := hn
  have hl : items.length ≤ 64 := hl
  have hI : gotN items = n + gotN (items.drop n) := hI
  by_cases hlt : n < items.length
  · obtain ⟨a, cap, hcap, H⟩ := openMemN H (by show 0 < items.length; omega)
    simp only [memC] at H
    have hel := List.getElem?_eq_getElem hlt
    generalize items[n] = x at hel
    have hg := gotN_drop hel
    obtain ⟨there, body, ask, rep, fresh⟩ := x
    have hel2 : (items.map encI)[n]? = some [.bool there, .string body, .int .i64 ask, .int .i64 rep, .bool fresh] := enc_at hel
    have t1 : decide ((n : Int) < items.length) = true := decide_eq_true (by omega)
    refine y_load 0 (o := 1) H rfl rfl (by kernel_rfl) ?_
    refine s_ifT (by kernel_rfl) t1 ?_
    refine y_load 0 (o := 1) H rfl rfl (by kernel_rfl) ?_
    refine y_idx (t := 51) (b := a) (o := (0 : Nat)) (n := items.length) (c := cap) (kd := IntKind.i64) (i := (↑n : Int)) 5 (by kernel_rfl) (by omega) (by omega) (by kernel_rfl) ?_
    refine y_elLoad 1 (i := n) (j := 0) (o := (0 : Nat) + (↑n : Int).toNat * (5 : Nat)) H rfl hel2 rfl (by first | rfl | omega) (by kernel_rfl) ?_
    -- test there
    refine s_if (b := there) (by kernel_rfl) (fun ht => ?_) (fun hf => ?_)
    · subst ht
      refine x_add (t := 3) (a := (↑n : Int)) (b := (1 : Int)) (((n) + ((1 : Nat)) : Nat) : Int) (w64' (by omega) (by omega) (by omega)) (by kernel_rfl) ?_
      -- stop: Req.again (0 : Nat)
      refine s_again 0 (n + 1) [.int .i64 ((n + 1 : Nat) : Int)] rfl (by kernel_rfl) (by kernel_rfl) (by kernel_rfl) rfl ⟨shutMem H rfl rfl, hlt, ?_⟩ ?_
      · show gotN items = n + 1 + gotN (items.drop (n + 1))
        rw [hI, hg]; simp; omega
      · show items.length - (n + 1) < items.length - n
        omega
    · subst hf
      refine s_done (v := .int .i64 n) (by kernel_rfl) ⟨_, ⟨?_, rfl⟩, shutMem H rfl rfl⟩
      show _ = Value.int .i64 (gotN items)
      rw [hI, hg]; simp
  · obtain ⟨a, cap, hcap, H⟩ := openMem H
    simp only [memC] at H
    have t1 : decide ((n : Int) < items.length) = false := decide_eq_false (by omega)
    refine y_load 0 (o := 1) H rfl rfl (by kernel_rfl) ?_
    refine s_ifF (by kernel_rfl) t1 ?_
    -- stop: Req.done (Value.int IntKind.i64 (↑n : Int))
    refine s_done (v := .int .i64 n) (by kernel_rfl) ⟨_, ⟨?_, rfl⟩, shutMem H rfl rfl⟩
    show _ = Value.int .i64 (gotN items)
    rw [hI, List.drop_eq_nil_of_le (by omega)]; simp [gotN]

/-- Read: what it answers, and the member behind it. -/
def readV (m : MemV ByteArray) : Option ByteArray × MemV ByteArray :=
  if m.read < gotN m.items then ((m.items[m.read.toNat]?).map (·.body), { m with read := m.read + 1 }) else (none, m)

theorem read_ret (m : MemV ByteArray) (b : Nat) (F : Fm) (w : World) (H : Own w F [MemA b m]) (hl : m.items.length ≤ 64) (h0 : 0 ≤ m.read) :
    Ret Try.prog 17 #[.pointer (some ⟨b, 0, none⟩)] w (Post F fun v L' => v = .tuple #[.string ((readV m).1.getD ⟨#[]⟩), .bool (readV m).1.isSome] ∧ L' = [MemA b (readV m).2]) := by
  refine ret_of_G Try.func17 rfl rfl ?_
  refine y_drawQ 1 7 H (by kernel_rfl) (by kernel_rfl) (by kernel_rfl) ?_
  refine q_load (a := ⟨b, 2, none⟩) (v := .int .i64 m.read) (by kernel_rfl) (by kernel_rfl) (fun w' H => by obtain ⟨a, cap, _, H⟩ := openMem H; exact H.cell 0 rfl rfl) ?_
  refine y_qcall (f := 22) (args := #[.pointer (some ⟨b, 0, none⟩)]) (.int .i64 (gotN m.items)) [0] rfl rfl (by kernel_rfl) (by kernel_rfl) (by kernel_rfl) (fun F' w _ H' => got_ret m b F' w H' hl) ?_
  refine q_end (by kernel_rfl) (fun w1 H => ?_)
  obtain ⟨id, items, read, hello, now⟩ := m
  have h0 : 0 ≤ read := h0
  have hl : items.length ≤ 64 := hl
  have hgl := gotN_le items
  refine s_if (b := decide (read ≥ (gotN items : Int))) (by kernel_rfl) (fun ht => ?_) (fun hf => ?_)
  · have p := of_decide_eq_true ht
    refine s_done (v := .tuple #[.string ⟨#[]⟩, .bool false]) (by kernel_rfl) ⟨_, ⟨?_, ?_⟩, H⟩
    · unfold readV; rw [if_neg (by show ¬ (read < (gotN items : Int)); omega)]; rfl
    · unfold readV; rw [if_neg (by show ¬ (read < (gotN items : Int)); omega)]
  · have p := of_decide_eq_false hf
    have e : readV ⟨id, items, read, hello, now⟩ = ((items[read.toNat]?).map (·.body), ⟨id, items, read + 1, hello, now⟩) := by unfold readV; rw [if_pos (by show read < (gotN items : Int); omega)]
    have hlt : read.toNat < items.length := by omega
    have hel := List.getElem?_eq_getElem hlt
    generalize items[read.toNat] = x at hel
    obtain ⟨there, body, ask, rep, fresh⟩ := x
    rw [e, hel]
    have hel2 : (items.map encI)[read.toNat]? = some [.bool there, .string body, .int .i64 ask, .int .i64 rep, .bool fresh] := enc_at hel
    obtain ⟨a, cap, hcap, H⟩ := openMemN H (by show 0 < items.length; omega)
    have hcap : items.length ≤ cap := hcap
    simp only [memC] at H
    refine y_load 0 (o := 2) H rfl rfl (by kernel_rfl) ?_
    refine x_add (t := 3) (a := read) (b := (1 : Int)) ((read) + ((1 : Int))) (w64' (by omega) (by omega) rfl) (by kernel_rfl) ?_
    refine y_store 0 (o := 2) (v := Value.int IntKind.i64 (read + (1 : Int))) (c' := #[Value.int IntKind.i64 id, Value.slice (some (Addr.mk a (0 : Nat) none)) items.length cap, Value.int IntKind.i64 (read + (1 : Int)), Value.int IntKind.i64 hello, Value.int IntKind.i64 now]) H rfl (by kernel_rfl) (by kernel_rfl) (by kernel_rfl) rfl (by kernel_rfl) (fun w2 H => ?_)
    simp only [List.set_cons_zero, List.set_cons_succ] at H
    refine s_draw (4 : Nat) 14 (by kernel_rfl) (by kernel_rfl) (by kernel_rfl) ?_
    replace H := Own.drew H
    refine y_load 0 (o := 1) H rfl rfl (by kernel_rfl) ?_
    refine y_load 0 (o := 2) H rfl rfl (by kernel_rfl) ?_
    refine x_sub (t := 3) (a := read + (1 : Int)) (b := (1 : Int)) ((read + (1 : Int)) - ((1 : Int))) (w64' (by omega) (by omega) rfl) (by kernel_rfl) ?_
    refine y_idx (t := 51) (b := a) (o := (0 : Nat)) (n := items.length) (c := cap) (kd := IntKind.i64) (i := read + (1 : Int) - (1 : Int)) 5 (by kernel_rfl) (by omega) (by omega) (by kernel_rfl) ?_
    refine y_elLoad 1 (i := read.toNat) (j := 1) (o := (0 : Nat) + (read + (1 : Int) - (1 : Int)).toNat * (5 : Nat) + (1 : Nat)) H rfl hel2 rfl (by first | rfl | omega) (by kernel_rfl) ?_
    -- stop: Req.done (Value.tuple (#[Value.string body, Value.bool true]))
    refine s_done (v := .tuple #[.string body, .bool true]) (by kernel_rfl) ⟨_, ⟨rfl, rfl⟩, shutMem H rfl rfl⟩
end Go.Proofs.Ytgpcjoofcmfidaa
