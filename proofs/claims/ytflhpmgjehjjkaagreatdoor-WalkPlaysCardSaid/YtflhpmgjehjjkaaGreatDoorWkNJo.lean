/- The graph in plain words: hops, and ways, as the program finds them. -/
import Derived.Test.YtflhpmgjehjjkaaGreatDoorPastRJo
namespace Go.Proofs.YtflhpmgjehjjkaaGreatDoor

def wordIs (word : ByteArray) (k : KeyP) : Bool := decide (word.size = 0) || decide (k.word = word)
/-- Where edges of that word lead to. -/
def nextP (E : List KeyP) (x : Int) (word : ByteArray) : List Int := E.filterMap fun k => if k.a = x ∧ wordIs word k = true then some k.b else none
def hopIn (c : List Int × List Int) (y : Int) : List Int × List Int := if y ∈ c.1 then c else (c.1 ++ [y], c.2 ++ [y])
def hopTo (E : List KeyP) (word : ByteArray) (c : List Int × List Int) (x : Int) : List Int × List Int := (nextP E x word).foldl hopIn c
/-- One round: all that one hop more leads to. -/
def hopLine (E : List KeyP) (word : ByteArray) (had line : List Int) : List Int × List Int := line.foldl (hopTo E word) (had, [])
/-- So many rounds. -/
def hopS (E : List KeyP) (word : ByteArray) (x : Int) : Nat → List Int × List Int
  | 0 => ([x], [x])
  | n + 1 => if (hopS E word x n).2 = [] then hopS E word x n else hopLine E word (hopS E word x n).1 (hopS E word x n).2
theorem hopS_stay {E : List KeyP} {word : ByteArray} {x : Int} {n : Nat} (h : (hopS E word x n).2 = []) : ∀ m, hopS E word x (n + m) = hopS E word x n
  | 0 => rfl
  | m + 1 => by
    have ih := hopS_stay h m
    show (if (hopS E word x (n + m)).2 = [] then hopS E word x (n + m) else _) = _
    rw [ih, if_pos h]
def hopP (E : List KeyP) (word : ByteArray) (x : Int) (n : Nat) : List Int := (hopS E word x n).1
/-- How far each one is. -/
def farIn (word : ByteArray) (x : Int) (c : List (Int × Int) × List Int) (k : KeyP) : List (Int × Int) × List Int :=
  if k.b = x ∧ (c.1.lookup k.a).isNone = true ∧ wordIs word k = true then (c.1 ++ [(k.a, (c.1.lookup x).getD 0 + 1)], c.2 ++ [k.a]) else c
def farTo (E : List KeyP) (word : ByteArray) (c : List (Int × Int) × List Int) (x : Int) : List (Int × Int) × List Int := E.foldl (farIn word x) c
def farLine (E : List KeyP) (word : ByteArray) (far : List (Int × Int)) (line : List Int) : List (Int × Int) × List Int := line.foldl (farTo E word) (far, [])
/-- So many rounds. -/
def farS (E : List KeyP) (word : ByteArray) (tz : Int) : Nat → List (Int × Int) × List Int
  | 0 => ([(tz, 0)], [tz])
  | n + 1 => if (farS E word tz n).2 = [] then farS E word tz n else farLine E word (farS E word tz n).1 (farS E word tz n).2
theorem farS_stay {E : List KeyP} {word : ByteArray} {tz : Int} {n : Nat} (h : (farS E word tz n).2 = []) : ∀ m, farS E word tz (n + m) = farS E word tz n
  | 0 => rfl
  | m + 1 => by
    have ih := farS_stay h m
    show (if (farS E word tz (n + m)).2 = [] then farS E word tz (n + m) else _) = _
    rw [ih, if_pos h]
/-- The least one of those that are one nearer. -/
def bestIn (far : List (Int × Int)) (d : Int) (best y : Int) : Int := match far.lookup y with
  | some e => if e = d - 1 ∧ (best < 0 ∨ y < best) then y else best
  | none => best
def bestP (E : List KeyP) (word : ByteArray) (far : List (Int × Int)) (x : Int) : Int := (nextP E x word).foldl (bestIn far ((far.lookup x).getD 0)) (-1)
def wayL (E : List KeyP) (word : ByteArray) (far : List (Int × Int)) (tz : Int) : Nat → Int → List Int
  | 0, x => [x]
  | n + 1, x => if x = tz then [x] else x :: wayL E word far tz n (bestP E word far x)
/-- The way, if there is one. -/
def wayP (E : List KeyP) (word : ByteArray) (far : List (Int × Int)) (x tz : Int) : Option (List Int) := match far.lookup x with
  | some d => some (wayL E word far tz d.toNat x)
  | none => none
/-! ### What the law says of one graph -/
def nodesP (L : List KeyP) : List Int := (L.filter fun k => decide (k.kind = 1)).map (·.a)
def edgesP (L : List KeyP) : List KeyP := L.filter fun k => decide (k.kind = 2) && (decide (k.a ∈ nodesP L) && decide (k.b ∈ nodesP L))
end Go.Proofs.YtflhpmgjehjjkaaGreatDoor
