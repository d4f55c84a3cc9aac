/-
  Rules for packets, in plain numbers.
-/
import Derived.Test.YtfknpeajihecdaaDgPure
import GoSem.Core.Layout
namespace Go.Ru
open Go Go.Dg
structure RuleV where
  permit : Bool
  sa : Int
  sb : Int
  da : Int
  db : Int
  proto : Int
  fs : Int
  ls : Int
  fd : Int
  ld : Int
structure PktV where
  src : Int
  dst : Int
  proto : Int
  ttl : Int
  id : Int
  off : Int
  more : Bool
  whole : Bool
  body : ByteArray
def encR (r : RuleV) : List Value := [.bool r.permit, .int .u32 r.sa, .int .i64 r.sb, .int .u32 r.da, .int .i64 r.db, .int .i64 r.proto, .int .i64 r.fs, .int .i64 r.ls, .int .i64 r.fd, .int .i64 r.ld]
def encP (p : PktV) : List Value := [.int .u32 p.src, .int .u32 p.dst, .int .i64 p.proto, .int .i64 p.ttl, .int .i64 p.id, .int .i64 p.off, .bool p.more, .bool p.whole, .string p.body]
def maskV (b : Int) : Int := if b < 0 ∨ b > 32 then 0 else IntKind.u32.wrap (4294967295 * 2 ^ (min (IntKind.i64.wrap (32 - b)).toNat IntKind.u32.bits))
def maskE (b : Int) : Int := if b < 0 ∨ b > 32 then 10 else 0
def acE (a b : Int) : Int := if maskE b ≠ 0 then maskE b else if IntKind.u32.wrap ((BitVec.ofInt IntKind.u32.bits a &&& ~~~ BitVec.ofInt IntKind.u32.bits (maskV b)).toNat : Int) ≠ 0 then 3 else 0
def hasV (a b x : Int) : Bool := if acE a b ≠ 0 then false else (IntKind.u32.wrap ((BitVec.ofInt IntKind.u32.bits x &&& BitVec.ofInt IntKind.u32.bits (maskV b)).toNat : Int) == a)
def inV (n a b : Int) : Bool := decide (a ≤ n ∧ n ≤ b)
def badR (a b : Int) : Bool := decide (a < 0 ∨ a > b ∨ b > 65535)
def hasPorts (p : PktV) : Bool := decide ((p.proto = 6 ∨ p.proto = 17) ∧ p.off = 0 ∧ 4 ≤ p.body.size)
def matchV (r : RuleV) (p : PktV) : Bool :=
  if (r.proto ≠ 0 ∧ r.proto ≠ p.proto) ∨ hasV r.sa r.sb p.src = false ∨ hasV r.da r.db p.dst = false then false
  else if hasPorts p = true then inV (wrd p.body 0) r.fs r.ls && inV (wrd p.body 2) r.fd r.ld
  else decide (r.fs = 0 ∧ r.ls = 65535 ∧ r.fd = 0 ∧ r.ld = 65535)
def pktE (p : PktV) : Int :=
  if p.proto < 0 ∨ p.proto > 255 ∨ p.ttl < 1 ∨ p.ttl > 255 ∨ p.id < 0 ∨ p.id > 65535 ∨ p.off < 0 ∨ p.off > 65528 then 10
  else if p.body.size > 1500 ∨ IntKind.i64.wrap (p.off + p.body.size) > 65535 then 2
  else if p.off.tmod 8 ≠ 0 ∨ (p.more = true ∧ (p.body.size : Int).tmod 8 ≠ 0) ∨ ((p.more = true ∨ p.off > 0) ∧ ((p.body.toList == (⟨#[]⟩ : ByteArray).toList) = true ∨ p.whole = true)) then 3
  else 0
def ruleE (r : RuleV) : Int :=
  if acE r.sa r.sb ≠ 0 then acE r.sa r.sb else if acE r.da r.db ≠ 0 then acE r.da r.db
  else if inV r.proto 0 255 = false ∨ badR r.fs r.ls = true ∨ badR r.fd r.ld = true then 1 else 0
def firstE : List RuleV → Int
  | [] => 0
  | r :: l => if ruleE r ≠ 0 then ruleE r else firstE l
def checkL (l : List RuleV) : Int := if l.length > 16 then 2 else firstE l
def firstM (p : PktV) : Nat → List RuleV → Int
  | _, [] => -1
  | k, r :: l => if matchV r p = true then k else firstM p (k + 1) l
end Go.Ru
