/- Plain functions: text.ParseInt on a list of bytes. No Go in sight. -/
import Derived.Below
namespace Go.Proofs.Qxb6500890aDoor

def isDig (c : UInt8) : Bool := decide (48 ≤ c.toNat) && decide (c.toNat ≤ 57)

/-- The second loop of ParseInt: the rest of the digits, what was gathered so far. -/
def accum (limit : Nat) : List UInt8 → Nat → Option Nat
  | [], u => some u
  | c :: r, u => if (limit - (c.toNat - 48)) / 10 < u then none else accum limit r (u * 10 + (c.toNat - 48))

def parseRest (neg : Bool) (ds : List UInt8) : Int × Int :=
  if ds = [] then (0, 1) else if ds.all isDig = false then (0, 1) else
  match accum (if neg then 9223372036854775808 else 9223372036854775807) ds 0 with
  | none => (0, 2)
  | some u => (if neg then -(u : Int) else (u : Int), 0)

def isNeg (l : List UInt8) : Bool := l.head? == some 45

def parseOut (l : List UInt8) : Int × Int := parseRest (isNeg l) (if isNeg l then l.tail else l)

theorem accum_le (limit : Nat) : ∀ (l : List UInt8) (u v : Nat), (∀ c ∈ l, isDig c = true) → 57 ≤ limit → u ≤ limit → accum limit l u = some v → v ≤ limit
  | [], u, v, _, _, hu, h => by simp [accum] at h; omega
  | c :: r, u, v, hd, hl, hu, h => by
    have hc := hd c (by simp)
    simp [isDig] at hc
    simp only [accum] at h
    split at h
    · cases h
    · exact accum_le limit r _ v (fun x hx => hd x (by simp [hx])) hl (by omega) h

end Go.Proofs.Qxb6500890aDoor
