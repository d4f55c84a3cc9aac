import Derived.Test.YtgpcjoofcmfidaaProg
import Derived.Test.YtgpcjoofcmfidaaCaPure
import Derived.Test.YtgpcjoofcmfidaaYOwn
namespace Go.Proofs.Ytgpcjoofcmfidaa
open Go.XM Go.RowKit Go.Ca
set_option maxRecDepth 100000

def encI (x : ItemV ByteArray) : List Value := [.bool x.there, .string x.body, .int .i64 x.ask, .int .i64 x.rep, .bool x.fresh]
def encN (x : NoteV ByteArray) : List Value := [.int .i64 x.kind, .int .i64 x.src, .int .i64 x.no, .string x.body]
def memC (m : MemV ByteArray) (sv : Value) : Array Value := #[.int .i64 m.id, sv, .int .i64 m.read, .int .i64 m.hello, .int .i64 m.now]

/-- Member at block b. -/
def MemA (b : Nat) (m : MemV ByteArray) : Assn := ex fun sv => all [pt b (memC m sv) 53, rows sv 55 5 (m.items.map encI)]

theorem openMem {w : World} {F : Fm} {b : Nat} {m : MemV ByteArray} {M : List Assn} (H : Own w F (MemA b m :: M)) :
    ∃ a cap, m.items.length ≤ cap ∧ Own w F (pt b (memC m (.slice a m.items.length cap)) 53 :: rows (.slice a m.items.length cap) 55 5 (m.items.map encI) :: M) := by
  obtain ⟨sv, H⟩ := H.ex1
  have H := H.all1
  obtain ⟨a, cap, rfl, h, _⟩ := H.shape 1 rfl
  rw [List.length_map] at h H
  exact ⟨a, cap, h, H⟩

theorem openMemN {w : World} {F : Fm} {b : Nat} {m : MemV ByteArray} {M : List Assn} (H : Own w F (MemA b m :: M)) (h0 : 0 < m.items.length) :
    ∃ g cap, m.items.length ≤ cap ∧ Own w F (pt b (memC m (.slice (some ⟨g, 0, none⟩) m.items.length cap)) 53 :: rows (.slice (some ⟨g, 0, none⟩) m.items.length cap) 55 5 (m.items.map encI) :: M) := by
  obtain ⟨sv, H⟩ := H.ex1
  have H := H.all1
  obtain ⟨a, cap, rfl, h, _⟩ := H.shapeN 1 rfl (by rw [List.length_map]; exact h0)
  rw [List.length_map] at h H
  exact ⟨a, cap, h, H⟩

theorem shutMem {w : World} {F : Fm} {b : Nat} {m : MemV ByteArray} {sv : Value} {c : Array Value} {L : List (List Value)} {M : List Assn} (H : Own w F (pt b c 53 :: rows sv 55 5 L :: M))
    (hc : c = memC m sv) (hL : L = m.items.map encI) : Own w F (MemA b m :: M) := by
  subst hc hL
  exact H.fold [_, _] fun _ h => ⟨sv, h⟩

theorem new_ret (id : Int) (h0 : 0 ≤ id) (h1 : id < 16) (F : Fm) (w : World) (H : Own w F []) : Ret Try.prog 16 #[.int .i64 id] w (Post F fun v L' => ∃ b, v = .tuple #[.pointer (some ⟨b, 0, none⟩), .int .i64 0] ∧ L' = [MemA b ⟨id, [], 0, 0, 0⟩]) := by
  refine ret_of_G Try.func16 rfl rfl ?_
  have t1 : decide (id < 0) = false := decide_eq_false (by omega)
  have t2 : decide (id ≥ 16) = false := decide_eq_false (by omega)
  refine s_ifF (by kernel_rfl) t1 ?_
  refine s_ifF (by kernel_rfl) t2 ?_
  refine y_new (c := #[Value.int IntKind.i64 id, Value.slice none (0 : Nat) (0 : Nat), Value.int IntKind.i64 (0 : Int), Value.int IntKind.i64 (0 : Int), Value.int IntKind.i64 (0 : Int)]) (T := 53) H (by kernel_rfl) (by kernel_rfl) (fun w1 b1 H => ?_)
  -- stop: Req.done (Value.tuple (#[Value.pointer (some (Addr.mk b1 (0 : Nat) none)), Value.int IntKind.i64 (0 : Int)]))
  refine y_done (by kernel_rfl) _ ⟨b1, rfl, rfl⟩ (shutMem (Own.pick [1, 0] (Own.nilRows H 55 5) rfl) rfl rfl)

def sayV (m : MemV ByteArray) (s : ByteArray) : MemV ByteArray := { m with items := m.items ++ [⟨true, s, 0, -1, true⟩] }

theorem say_ret (m : MemV ByteArray) (s : ByteArray) (b : Nat) (F : Fm) (w : World) (H : Own w F [MemA b m]) (h0 : m.id = 0) (hs : s.size ≤ 1024) (hn : m.items.length < 64) :
    Ret Try.prog 10 #[.pointer (some ⟨b, 0, none⟩), .string s] w (Post F fun v L' => v = .int .i64 0 ∧ L' = [MemA b (sayV m s)]) := by
  refine ret_of_G Try.func10 rfl rfl ?_
  obtain ⟨id, items, read, hello, now⟩ := m
  obtain ⟨a, cap, hcap, H⟩ := openMem H
  have h0 : id = 0 := h0
  subst h0
  have hn : items.length < 64 := hn
  have hL : (items.map encI).length = items.length := List.length_map ..
  have t2 : decide ((s.size : Int) > 1024) = false := decide_eq_false (by omega)
  have t3 : decide ((items.length : Int) ≥ 64) = false := decide_eq_false (by omega)
  refine y_load 0 (o := 0) H rfl rfl (by kernel_rfl) ?_
  refine s_ifF (b := false) (by kernel_rfl) rfl ?_
  refine s_ifF (by kernel_rfl) t2 ?_
  refine y_load 0 (o := 1) H rfl rfl (by kernel_rfl) ?_
  refine s_ifF (by kernel_rfl) t3 ?_
  refine y_load 0 (o := 1) H rfl rfl (by kernel_rfl) ?_
  refine y_new (c := #[Value.bool true, Value.string s, Value.int IntKind.i64 (0 : Int), Value.int IntKind.i64 (-1 : Int), Value.bool true]) (T := 55) H (by kernel_rfl) (by kernel_rfl) (fun w1 b1 H => ?_)
  -- stop: Req.bi Builtin.append (#[(51 : Nat), (51 : Nat)]) (51 : Nat) (#[Value.slice a items.length cap, Value.slice (some (Addr.mk b1 (0 : Nat) none)) (1 : Nat) (1 : Nat)])
  refine y_push (t := 51) (ty := 51) (c0 := 1) 2 0 48 (.agg #[.bool false, .string ⟨#[]⟩, .int .i64 0, .int .i64 0, .bool false]) [.bool true, .string s, .int .i64 0, .int .i64 (-1), .bool true] H rfl rfl rfl (by simp [Value.oneCell']) (by rw [hL]; simp only [Go.maxLen]; omega) (by rw [hL]; omega) (by kernel_rfl) (by kernel_rfl) (by kernel_rfl) (by decide) (by kernel_rfl) (by kernel_rfl) (fun a' cap' w2 hcap' H => ?_)
  rw [hL] at H
  simp only [List.set_cons_zero, List.set_cons_succ] at H
  rw [hL]
  refine y_store 1 (o := 1) (v := Value.slice (some (Addr.mk a' (0 : Nat) none)) (items.length + (1 : Nat)) cap') (c' := #[Value.int IntKind.i64 (MemV.mk (0 : Int) items read hello now).id, Value.slice (some (Addr.mk a' (0 : Nat) none)) (items.length + (1 : Nat)) cap', Value.int IntKind.i64 (MemV.mk (0 : Int) items read hello now).read, Value.int IntKind.i64 (MemV.mk (0 : Int) items read hello now).hello, Value.int IntKind.i64 (MemV.mk (0 : Int) items read hello now).now]) H rfl (by kernel_rfl) (by kernel_rfl) (by kernel_rfl) rfl (by kernel_rfl) (fun w3 H => ?_)
  simp only [List.set_cons_zero, List.set_cons_succ] at H
  -- stop: Req.done (Value.int IntKind.i64 (0 : Int))
  refine y_done (by kernel_rfl) _ ⟨rfl, rfl⟩ (shutMem H.drop1 rfl ?_)
  unfold sayV
  rw [List.map_append]
  rfl
end Go.Proofs.Ytgpcjoofcmfidaa
