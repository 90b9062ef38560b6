/- What the functions of layer 7 compute, as plain functions of the runes that are left. No program in sight. -/
import Derived.Test.YtmcmicgdkdbgjaaDoorClassP
namespace Go.Proofs.YtmcmicgdkdbgjaaDoor

/-- How many runes at the beginning are such. -/
def runF (p : Int → Bool) (s : List Int) : Nat := (s.takeWhile p).length
/-- How many runes at the beginning are a name. -/
def leadF (s : List Int) : Nat := if (s.take 1).any nameStart then runF nameChar s else 0
/-- Does a row begin so? -/
def startsF (p s : List Int) : Bool := p.isPrefixOf s
/-- The first place where it does. -/
def findF (p : List Int) : List Int → Option Nat
  | [] => if startsF p [] then some 0 else none
  | x :: s => if startsF p (x :: s) then some 0 else (findF p s).map (· + 1)
def closeF (q : Int) (s : List Int) : Option Nat := s.findIdx? (fun x => x == q)

structure Tok where
  kind : Int
  to : Nat
  whole : Bool

def upToF (kind : Int) (skip : Nat) (e : List Int) (s : List Int) : Tok :=
  match findF e (s.drop skip) with
  | some k => ⟨kind, min skip s.length + k + e.length, true⟩
  | none => ⟨kind, s.length, false⟩

def isQuote (x : Int) : Bool := x == 34 || x == 39
/-- The place of the first > in no quotes; or of a <, if that stops it (false). q: the quote that it stands in (0: none). -/
def angleF (stops : Bool) : Int → List Int → Nat × Bool
  | _, [] => (0, false)
  | q, x :: s =>
    if q == 0 then
      if isQuote x then (fun r => (r.1 + 1, r.2)) (angleF stops x s)
      else if x == 62 then (0, true)
      else if x == 60 && stops then (0, false)
      else (fun r => (r.1 + 1, r.2)) (angleF stops 0 s)
    else (fun r => (r.1 + 1, r.2)) (angleF stops (if x == q then 0 else q) s)
end Go.Proofs.YtmcmicgdkdbgjaaDoor
