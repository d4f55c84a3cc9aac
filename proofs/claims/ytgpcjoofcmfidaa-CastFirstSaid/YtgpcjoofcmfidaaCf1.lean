import Derived.Test.YtgpcjoofcmfidaaCb8
import Derived.Test.YtgpcjoofcmfidaaCfPure
namespace Go.Proofs.Ytgpcjoofcmfidaa
open Go.XM Go.RowKit Go.Ca
set_option maxRecDepth 100000

theorem castFirst_ret (no : Int) (body : ByteArray) (L : List (NoteV ByteArray)) (nv : Value) (F : Fm) (w : World) (H : Own w F []) (hV : View F.hl nv 4 (L.map encN)) (h0 : -9223372036854775808 ≤ no) (h1 : no ≤ 9223372036854775807) (hb : body.size ≤ 140737488351232) :
    Ret Try.prog 6 #[.int .i64 no, .string body, nv] w (Post F fun v _ => v = .bool true) := by
  obtain ⟨na, nc, rfl, hnc⟩ := hV.shape
  refine ret_of_G Try.func6 rfl rfl ?_
  refine y_call (f := 16) (args := #[Value.int IntKind.i64 (3 : Int)]) [] (M := []) H rfl rfl rfl (by kernel_rfl) (by kernel_rfl) (by kernel_rfl) (fun F' hF H' => new_ret 3 (by omega) (by omega) F' _ H') ?_
  rintro v w1 L' ⟨b1, rfl, rfl⟩ H
  simp only [List.cons_append, List.nil_append] at H
  refine y_call (f := 9) (args := #[]) [] (M := [MemA b1 (MemV.mk (3 : Int) [] (0 : Int) (0 : Int) (0 : Int))]) H rfl rfl rfl (by kernel_rfl) (by kernel_rfl) (by kernel_rfl) (fun F' hF H' => castFact_ret F' _ H') ?_
  rintro v w2 L' ⟨rfl, rfl⟩ H
  simp only [List.cons_append, List.nil_append] at H
  refine s_ifF (b := false) (by kernel_rfl) rfl ?_
  refine s_ifF (b := false) (by kernel_rfl) rfl ?_
  refine s_ifF (b := false) (by kernel_rfl) rfl ?_
  refine y_drawQ (4 : Nat) 9 H (by kernel_rfl) (by kernel_rfl) (by kernel_rfl) ?_
  refine y_qcall (f := 8) (args := #[Value.int IntKind.i64 no, Value.int IntKind.i64 (5 : Int)]) (.int .i64 (no % 5)) [] rfl rfl (by kernel_rfl) (by kernel_rfl) (by kernel_rfl) (fun F' w _ H' => rest_ret no 5 h0 h1 (by omega) (by omega) F' w H') ?_
  refine h_min (ts := #[(3 : Nat), (3 : Nat)]) (t := 3) (k := IntKind.i64) (k' := IntKind.i64) (x := (↑body.size : Int)) (y := (100 : Int)) ((min (body.size) ((100 : Nat)) : Nat) : Int) (by split <;> omega) (by kernel_rfl) (by kernel_rfl) ?_
  refine q_sliceStr (t := 9) (s := body) (lo := none) (hi := some (Value.int IntKind.i64 (↑(min body.size (100 : Nat)) : Int))) (l := 0) (h := (min body.size (100 : Nat))) (by kernel_rfl) (.none _) (.int IntKind.i64 ((↑(min body.size (100 : Nat)) : Int)) _ (by omega)) (by omega) (by omega) (by kernel_rfl) (by kernel_rfl) ?_
  refine y_qend (by kernel_rfl) (fun w3 H => ?_)
  -- stop: Req.call (15 : Nat) (#[Value.pointer (some (Addr.mk b1 (0 : Nat) none)), Value.agg (#[Value.int IntKind.i64 (1 : Int), Value.int IntKind.i64 (0 : Int), Value.int IntKind.i64 (no % (5 : Int)), Value.string (body.extract (0 : Nat) (min body.size (100 : Nat)))]), Value.int IntKind.i64 (0 : Int)])
  -- [[] | new_ret 3 (by omega) (by omega) F' _ H' | ⟨b1, rfl, rfl] at [refine y_call (f := 15) (args := #[Value.pointer (some (Addr.mk b1 (0 : ]: Type mismatch   Go.Proofs.Ytgpcjoofcmfidaa.new_ret 3 ?m.527 ?m.528 F' w3 H' has type   Go.XM.Ret Go.Proofs.Try.prog 16 #[Go.Value.int Go.IntKind.i64 3] w3     (Go.XM.Post F' fun v L' =>       ∃ b,         v = Go.Value.tuple #[Go.Value.pointer (some { block := b, off := 0 }), Go.Value.int Go.IntKind.i64 0] ∧           L' = [Go.Proofs.Ytgpcjoofcmfidaa.MemA b { id := 3, items := [], read := 0, hello := 0, now := 0 }]) but is expected to have type   Go.XM.Ret Go.Proofs.Try.prog 15     #[Go.Value.poi
  -- [[] | castFact_ret F' _ H' | ⟨rfl, rfl⟩] at [refine y_call (f := 15) (args := #[Value.pointer (some (Addr.mk b1 (0 : ]: Type mismatch   Go.Proofs.Ytgpcjoofcmfidaa.castFact_ret F' w3 H' has type   Go.XM.Ret Go.Proofs.Try.prog 9 #[] w3 (Go.XM.Post F' fun v L' => v = Go.Value.bool true ∧ L' = []) but is expected to have type   Go.XM.Ret Go.Proofs.Try.prog 15     #[Go.Value.pointer (some { block := b1, off := 0 }),       Go.Value.agg         #[Go.Value.int Go.IntKind.i64 1, Go.Value.int Go.IntKind.i64 0, Go.Value.int Go.IntKind.i64 (no % 5),           Go.Value.string (body.extract 0 (min body.size 100))],       Go.Va
  have e1 : 0 ≤ no % 5 := Int.emod_nonneg _ (by omega)
  have e2 : no % 5 < 5 := Int.emod_lt_of_pos _ (by omega)
  obtain ⟨q, hq⟩ : ∃ q : Nat, no % 5 = q := ⟨(no % 5).toNat, by omega⟩
  rw [hq]
  have hq5 : q < 5 := by omega
  generalize hB : body.extract 0 (min body.size 100) = B
  have hBs : B.size ≤ 100 := by rw [← hB, ByteArray.size_extract]; omega
  clear hq e1 e2 hB
  have p0 : PF ⟨3, [], 0, 0, 0⟩ := ⟨rfl, rfl, rfl, by decide⟩
  have d0 := data_ok p0 hq5 hBs
  have p1 := (pf_in ⟨1, 0, q, B⟩ p0).1
  have hTB := d0.2.2 rfl
  refine y_call (f := 15) (args := #[.pointer (some ⟨b1, 0, none⟩), .agg #[.int .i64 1, .int .i64 0, .int .i64 q, .string B], .int .i64 0]) [0] (M := []) H rfl rfl rfl (by kernel_rfl) (by kernel_rfl) (by kernel_rfl) (fun F' hF H' => in_ret ⟨3, [], 0, 0, 0⟩ ⟨1, 0, q, B⟩ 0 b1 F' _ H' (by decide) (by omega) (by omega) (by decide) (by decide)) ?_
  rintro v w4 L' ⟨rfl, rfl⟩ H
  simp only [List.cons_append, List.nil_append] at H
  rw [d0.1]
  generalize (inV ⟨3, [], 0, 0, 0⟩ ⟨1, 0, q, B⟩ 0).2 = m1 at H p1 hTB
  clear d0 p0
  refine s_ifF (b := false) (by kernel_rfl) rfl ?_
  -- stop: Req.loop
  refine s_cut (γ := MemV ByteArray) 0 2 [0, 1, 7] [] (fun _ => []) (fun m w' => Own w' F [MemA b1 m] ∧ PF m ∧ ThB q B m) (by kernel_rfl) rfl ?_ ?_
  · refine s_loop (γ := Nat × MemV ByteArray) 1 [9] (fun g => [.int .i64 g.1]) (fun g w' => Own w' F [MemA b1 g.2] ∧ PF g.2 ∧ ThB q B g.2 ∧ g.1 ≤ 20) (fun g => 20 - g.1) (0, m1) [.int .i64 0] (by kernel_rfl) (by kernel_rfl) rfl (by kernel_rfl) rfl ⟨H, p1, hTB, by omega⟩ ?_
    clear H p1 hTB m1
    rintro ⟨i, m⟩ w5 ⟨H, hp, hTB, hi⟩
    simp only at H hp hTB hi
    have hml : (L.map encN).length = L.length := List.length_map ..
    refine s_if (b := decide ((i : Int) < (L.map encN).length)) (by kernel_rfl) (fun ht => ?_) (fun hf => ?_)
    rotate_left
    · exact s_meet 0 m [] [0, 1, 7] rfl (by kernel_rfl) (by kernel_rfl) (by kernel_rfl) rfl ⟨H, hp, hTB⟩
    · have p := of_decide_eq_true ht
      refine s_if (b := decide ((i : Int) < 20)) (by kernel_rfl) (fun ht2 => ?_) (fun hf2 => ?_)
      · have p2 := of_decide_eq_true ht2
        have hlt : i < L.length := by omega
        have hel := List.getElem?_eq_getElem hlt
        generalize L[i] = n at hel
        have hel2 : (L.map encN)[i]? = some [.int .i64 n.kind, .int .i64 n.src, .int .i64 n.no, .string n.body] := by rw [List.getElem?_map, hel]; rfl
        obtain ⟨nb, no2, cz, hva, _, _⟩ := hV.open (by omega)
        simp only [Value.slice.injEq] at hva
        obtain ⟨rfl, _, rfl⟩ := hva
        have pi := pf_in n hp
        refine y_idx (t := 36) (b := nb) (o := no2) (n := (List.map encN L).length) (c := nc) (kd := IntKind.i64) (i := (↑i : Int)) 4 (by kernel_rfl) (by omega) (by omega) (by kernel_rfl) ?_
        refine y_vload (k := i) (j := 0) (o := no2 + (↑i : Int).toNat * (4 : Nat)) (x := [Value.int IntKind.i64 n.kind, Value.int IntKind.i64 n.src, Value.int IntKind.i64 n.no, Value.string n.body]) H hV hel2 rfl (by first | rfl | omega) (by kernel_rfl) ?_
        refine y_vload (k := i) (j := 1) (o := no2 + (↑i : Int).toNat * (4 : Nat) + (1 : Nat)) (x := [Value.int IntKind.i64 n.kind, Value.int IntKind.i64 n.src, Value.int IntKind.i64 n.no, Value.string n.body]) H hV hel2 rfl (by first | rfl | omega) (by kernel_rfl) ?_
        refine y_vload (k := i) (j := 2) (o := no2 + (↑i : Int).toNat * (4 : Nat) + (2 : Nat)) (x := [Value.int IntKind.i64 n.kind, Value.int IntKind.i64 n.src, Value.int IntKind.i64 n.no, Value.string n.body]) H hV hel2 rfl (by first | rfl | omega) (by kernel_rfl) ?_
        refine y_vload (k := i) (j := 3) (o := no2 + (↑i : Int).toNat * (4 : Nat) + (3 : Nat)) (x := [Value.int IntKind.i64 n.kind, Value.int IntKind.i64 n.src, Value.int IntKind.i64 n.no, Value.string n.body]) H hV hel2 rfl (by first | rfl | omega) (by kernel_rfl) ?_
        refine y_call (f := 15) (args := #[Value.pointer (some (Addr.mk b1 (0 : Nat) none)), Value.agg (#[Value.int IntKind.i64 n.kind, Value.int IntKind.i64 n.src, Value.int IntKind.i64 n.no, Value.string n.body]), Value.int IntKind.i64 (0 : Int)]) [0] (M := []) H rfl rfl rfl (by kernel_rfl) (by kernel_rfl) (by kernel_rfl) (fun F' hF H' => in_ret m n 0 b1 F' _ H' hp.len (by omega) (by omega) (by rw [hp.id]; omega) (by rw [hp.id]; omega)) ?_
        rintro v w6 L' ⟨rfl, rfl⟩ H
        simp only [List.cons_append, List.nil_append] at H
        refine x_add (t := 3) (a := (↑i : Int)) (b := (1 : Int)) (((i) + ((1 : Nat)) : Nat) : Int) (w64' (by omega) (by omega) (by omega)) (by kernel_rfl) ?_
        -- stop: Req.again (1 : Nat)
        exact s_again 1 (i + 1, (inV m n 0).2) [.int .i64 ((i + 1 : Nat) : Int)] rfl (by kernel_rfl) (by kernel_rfl) (by kernel_rfl) rfl ⟨H, pi.1, pi.2.2 _ _ hTB, by show i + 1 ≤ 20; omega⟩ (by show 20 - (i + 1) < 20 - i; omega)
      · exact s_meet 0 m [] [0, 1, 7] rfl (by kernel_rfl) (by kernel_rfl) (by kernel_rfl) rfl ⟨H, hp, hTB⟩
  clear H p1 hTB m1
  rintro m w6 ⟨H, hp, hTB⟩
  refine s_loop (γ := Nat × MemV ByteArray) 0 [10] (fun g => [.int .i64 g.1]) (fun g w' => Own w' F [MemA b1 g.2] ∧ PF g.2 ∧ ThB q B g.2 ∧ g.1 ≤ q ∧ ∀ j, j < g.1 → Th j g.2) (fun g => q - g.1) (0, m) [.int .i64 0] (by kernel_rfl) (by kernel_rfl) rfl (by kernel_rfl) rfl ⟨H, hp, hTB, Nat.zero_le _, fun j hj => absurd hj (Nat.not_lt_zero j)⟩ ?_
  clear H hp hTB m
  rintro ⟨i, m⟩ w7 ⟨H, hp, hTB, hi, hT⟩
  simp only at H hp hTB hi hT
  refine s_if (b := decide ((i : Int) < q)) (by kernel_rfl) (fun ht => ?_) (fun hf => ?_)
  · have p := of_decide_eq_true ht
    have pi := pf_in ⟨1, 0, i, ⟨#[]⟩⟩ hp
    have di := data_ok (i := i) (B := ⟨#[]⟩) hp (by omega) (by decide)
    refine y_call (f := 15) (args := #[Value.pointer (some (Addr.mk b1 (0 : Nat) none)), Value.agg (#[Value.int IntKind.i64 (1 : Int), Value.int IntKind.i64 (0 : Int), Value.int IntKind.i64 (↑i : Int), Value.string (ByteArray.mk #[])]), Value.int IntKind.i64 (0 : Int)]) [0] (M := []) H rfl rfl rfl (by kernel_rfl) (by kernel_rfl) (by kernel_rfl) (fun F' hF H' => in_ret m ⟨1, 0, i, ⟨#[]⟩⟩ 0 b1 F' _ H' hp.len (by omega) (by omega) (by rw [hp.id]; omega) (by rw [hp.id]; omega)) ?_
    rintro v w8 L' ⟨rfl, rfl⟩ H
    simp only [List.cons_append, List.nil_append] at H
    refine x_add (t := 3) (a := (↑i : Int)) (b := (1 : Int)) (((i) + ((1 : Nat)) : Nat) : Int) (w64' (by omega) (by omega) (by omega)) (by kernel_rfl) ?_
    -- stop: Req.again (0 : Nat)
    refine s_again 0 (i + 1, (inV m ⟨1, 0, i, ⟨#[]⟩⟩ 0).2) [.int .i64 ((i + 1 : Nat) : Int)] rfl (by kernel_rfl) (by kernel_rfl) (by kernel_rfl) rfl ⟨H, pi.1, pi.2.2 _ _ hTB, by show i + 1 ≤ q; omega, fun j hj => ?_⟩ (by show q - (i + 1) < q - i; omega)
    by_cases hji : j = i
    · subst hji; exact di.2.1
    · exact pi.2.1 j (hT j (by have : j < i + 1 := hj; omega))
  · have p := of_decide_eq_false hf
    obtain rfl : i = q := by omega
    have hg : i + 1 ≤ gotN m.items := gotN_ge _ _ fun j hj => by
      by_cases hji : j = i
      · subst hji; obtain ⟨x, hx, h, _⟩ := hTB; exact ⟨x, hx, h⟩
      · exact hT j (by omega)
    
    -- stop: Req.loop
    refine s_out 0 rfl (by kernel_rfl) ?_
    refine s_loop (γ := Nat × ByteArray) 0 [12, 11] (fun g => [.int .i64 g.1, .string g.2]) (fun g w' => Own w' F [MemA b1 { m with read := g.1 }] ∧ g.1 ≤ i + 1 ∧ (g.1 = i + 1 → g.2 = B)) (fun g => i + 1 - g.1) (0, ⟨#[]⟩) [.int .i64 0, .string ⟨#[]⟩] (by kernel_rfl) (by kernel_rfl) rfl (by kernel_rfl) rfl ⟨by rw [show ({ m with read := ((0 : Nat) : Int) } : MemV ByteArray) = m by have := hp.read; cases m; simp_all]; exact H, Nat.zero_le _, fun h => by simp at h⟩ ?_
    rintro ⟨r, s⟩ w8 ⟨H, hr, hs⟩
    simp only at H hr hs
    refine s_if (b := decide ((r : Int) ≤ i)) (by kernel_rfl) (fun ht => ?_) (fun hf => ?_)
    · have p2 := of_decide_eq_true ht
      have hlt : r < m.items.length := by have := gotN_le m.items; omega
      have hel := List.getElem?_eq_getElem hlt
      generalize m.items[r] = x at hel
      have hrd : readV { m with read := (r : Int) } = (some x.body, { m with read := ((r + 1 : Nat) : Int) }) := by
        unfold readV
        rw [if_pos (by show (r : Int) < (gotN m.items : Int); omega)]
        simp only [Int.toNat_natCast]
        rw [hel]
        rfl
      refine y_call (f := 17) (args := #[Value.pointer (some (Addr.mk b1 (0 : Nat) none))]) [0] (M := []) H rfl rfl rfl (by kernel_rfl) (by kernel_rfl) (by kernel_rfl) (fun F' hF H' => read_ret { m with read := (r : Int) } b1 F' _ H' hp.len (by show (0 : Int) ≤ (r : Int); omega)) ?_
      rintro v w9 L' ⟨rfl, rfl⟩ H
      simp only [List.cons_append, List.nil_append] at H
      rw [hrd] at H
      rw [hrd]
      refine s_ifF (b := false) (by kernel_rfl) rfl ?_
      refine x_add (t := 3) (a := (↑r : Int)) (b := (1 : Int)) (((r) + ((1 : Nat)) : Nat) : Int) (w64' (by omega) (by omega) (by omega)) (by kernel_rfl) ?_
      -- stop: Req.again (0 : Nat)
      refine s_again 0 (r + 1, x.body) [.int .i64 ((r + 1 : Nat) : Int), .string x.body] rfl (by kernel_rfl) (by kernel_rfl) (by kernel_rfl) rfl ⟨H, by show r + 1 ≤ i + 1; omega, fun h => ?_⟩ (by show i + 1 - (r + 1) < i + 1 - r; omega)
      have hri : r = i := by have : r + 1 = i + 1 := h; omega
      subst hri
      obtain ⟨y, hy, _, hB⟩ := hTB
      rw [hel] at hy; cases hy; exact hB
    · have p2 := of_decide_eq_false hf
      have : s = B := hs (by omega)
      subst this
      
      -- stop: Req.done (Value.bool (s.toList == s.toList))
      exact s_done (v := .bool (s.toList == s.toList)) (by kernel_rfl) ⟨_, by simp, H⟩
end Go.Proofs.Ytgpcjoofcmfidaa
