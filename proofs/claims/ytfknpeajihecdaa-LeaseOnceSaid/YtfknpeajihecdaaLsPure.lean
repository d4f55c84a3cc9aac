/-
  A pool of leases, in plain data.
-/
import GoSem.Core.Layout
namespace Go.Ls
structure EntV where
  addr : Int
  client : Int
  off : Bool
  til : Int
deriving DecidableEq
structure PoolV where
  first : Int
  many : Int
  time : Int
  all : List EntV
  now : Int

/-- The index of the first one, or -1. -/
def idxV {α : Type} (p : α → Bool) (l : List α) : Int := if l.findIdx p < l.length then (l.findIdx p : Int) else -1

/-- begin -/
def beginV (p : PoolV) (client now : Int) : Int :=
  if client < 0 ∨ client > 281474976710655 ∨ now < 0 ∨ now > 1000000000 then 1 else if now < p.now then 13 else 0
def isOf (client now : Int) (x : EntV) : Bool := (x.client == client) && decide (x.til > now)
def overB (now : Int) (x : EntV) : Bool := decide (x.til ≤ now)
def liveL (now : Int) (l : List EntV) : List EntV := l.filter fun x => !overB now x
def passV (p : PoolV) (now : Int) : PoolV := { p with all := liveL now p.all, now := now }
def findV (p : PoolV) (client now : Int) : Int := idxV (isOf client now) p.all
/-- The first gap from i on. -/
def gapFrom (first : Int) : Nat → List EntV → Nat
  | i, [] => i
  | i, x :: l => if x.addr = (first + i) % 4294967296 then gapFrom first (i + 1) l else i
def insertAt {α : Type} (l : List α) (i : Nat) (x : α) : List α := l.take i ++ x :: l.drop i
def askV (p : PoolV) (client now : Int) : (Int × Int) × PoolV :=
  if beginV p client now ≠ 0 then ((0, beginV p client now), p)
  else match p.all[p.all.findIdx (isOf client now)]? with
    | some x => ((x.addr, 0), passV { p with all := p.all.modify (p.all.findIdx (isOf client now)) fun x => if x.off then { x with til := now + 60 } else x } now)
    | none => if ((gapFrom p.first 0 (liveL now p.all) : Nat) : Int) ≥ p.many then ((0, 5), p)
      else (((p.first + gapFrom p.first 0 (liveL now p.all)) % 4294967296, 0), { p with all := insertAt (liveL now p.all) (gapFrom p.first 0 (liveL now p.all)) ⟨(p.first + gapFrom p.first 0 (liveL now p.all)) % 4294967296, client, true, now + 60⟩, now := now })
/-- own -/
def ownV (p : PoolV) (client a now : Int) : Int × Int :=
  if beginV p client now ≠ 0 then (0, beginV p client now)
  else if (a - p.first) % 4294967296 ≥ p.many then (0, 10)
  else match p.all[p.all.findIdx (isOf client now)]? with
    | some x => if x.addr = a then ((p.all.findIdx (isOf client now) : Int), 0) else (0, 14)
    | none => (0, 14)
def takeV (p : PoolV) (client a now : Int) : (Int × Int) × PoolV :=
  if (ownV p client a now).2 ≠ 0 then ((0, (ownV p client a now).2), p)
  else ((now + p.time, 0), passV { p with all := p.all.modify (p.all.findIdx (isOf client now)) fun x => { x with off := false, til := now + p.time } } now)
def giveV (p : PoolV) (client a now : Int) : Int × PoolV :=
  if (ownV p client a now).2 ≠ 0 then ((ownV p client a now).2, p)
  else (0, passV { p with all := p.all.eraseIdx (p.all.findIdx (isOf client now)) } now)
def listV (p : PoolV) (now : Int) : Int × PoolV :=
  if beginV p 0 now ≠ 0 then (beginV p 0 now, p) else (0, passV p now)
end Go.Ls
