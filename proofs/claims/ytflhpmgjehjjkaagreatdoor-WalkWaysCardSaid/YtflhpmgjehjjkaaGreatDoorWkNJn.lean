/- The graph in plain words: hops, and ways, as the program finds them. -/
import Derived.Test.YtflhpmgjehjjkaaGreatDoorPastRJn
namespace Go.Proofs.YtflhpmgjehjjkaaGreatDoor

def wordIs (word : ByteArray) (k : KeyP) : Bool := decide (word.size = 0) || decide (k.word = word)
/-- Where edges of that word lead to. -/
def nextP (E : List KeyP) (x : Int) (word : ByteArray) : List Int := E.filterMap fun k => if k.a = x ∧ wordIs word k = true then some k.b else none
def hopIn (c : List Int × List Int) (y : Int) : List Int × List Int := if y ∈ c.1 then c else (c.1 ++ [y], c.2 ++ [y])
def hopTo (E : List KeyP) (word : ByteArray) (c : List Int × List Int) (x : Int) : List Int × List Int := (nextP E x word).foldl hopIn c
/-- One round: all that one hop more leads to. -/
def hopLine (E : List KeyP) (word : ByteArray) (had line : List Int) : List Int × List Int := line.foldl (hopTo E word) (had, [])
/-- So many rounds. -/
def hopS (E : List KeyP) (word : ByteArray) (x : Int) : Nat → List Int × List Int
  | 0 => ([x], [x])
  | n + 1 => if (hopS E word x n).2 = [] then hopS E word x n else hopLine E word (hopS E word x n).1 (hopS E word x n).2
theorem hopS_stay {E : List KeyP} {word : ByteArray} {x : Int} {n : Nat} (h : (hopS E word x n).2 = []) : ∀ m, hopS E word x (n + m) = hopS E word x n
  | 0 => rfl
  | m + 1 => by
    have ih := hopS_stay h m
    show (if (hopS E word x (n + m)).2 = [] then hopS E word x (n + m) else _) = _
    rw [ih, if_pos h]
def hopP (E : List KeyP) (word : ByteArray) (x : Int) (n : Nat) : List Int := (hopS E word x n).1
/-- How far each one is. -/
def farIn (word : ByteArray) (x : Int) (c : List (Int × Int) × List Int) (k : KeyP) : List (Int × Int) × List Int :=
  if k.b = x ∧ (c.1.lookup k.a).isNone = true ∧ wordIs word k = true then (c.1 ++ [(k.a, (c.1.lookup x).getD 0 + 1)], c.2 ++ [k.a]) else c
def farTo (E : List KeyP) (word : ByteArray) (c : List (Int × Int) × List Int) (x : Int) : List (Int × Int) × List Int := E.foldl (farIn word x) c
def farLine (E : List KeyP) (word : ByteArray) (far : List (Int × Int)) (line : List Int) : List (Int × Int) × List Int := line.foldl (farTo E word) (far, [])
/-- So many rounds. -/
def farS (E : List KeyP) (word : ByteArray) (tz : Int) : Nat → List (Int × Int) × List Int
  | 0 => ([(tz, 0)], [tz])
  | n + 1 => if (farS E word tz n).2 = [] then farS E word tz n else farLine E word (farS E word tz n).1 (farS E word tz n).2
theorem farS_stay {E : List KeyP} {word : ByteArray} {tz : Int} {n : Nat} (h : (farS E word tz n).2 = []) : ∀ m, farS E word tz (n + m) = farS E word tz n
  | 0 => rfl
  | m + 1 => by
    have ih := farS_stay h m
    show (if (farS E word tz (n + m)).2 = [] then farS E word tz (n + m) else _) = _
    rw [ih, if_pos h]
theorem farS_one {E : List KeyP} {word : ByteArray} {tz : Int} {n m : Nat} (h : (farS E word tz n).2 = []) (k : (farS E word tz m).2 = []) : farS E word tz n = farS E word tz m := by
  rcases Nat.le_total n m with e | e
  · obtain ⟨d, rfl⟩ := Nat.exists_eq_add_of_le e
    exact (farS_stay h d).symm
  · obtain ⟨d, rfl⟩ := Nat.exists_eq_add_of_le e
    exact farS_stay k d
/-- The least one of those that are one nearer. -/
def bestIn (far : List (Int × Int)) (d : Int) (best y : Int) : Int := match far.lookup y with
  | some e => if e = d - 1 ∧ (best < 0 ∨ y < best) then y else best
  | none => best
def bestP (E : List KeyP) (word : ByteArray) (far : List (Int × Int)) (x : Int) : Int := (nextP E x word).foldl (bestIn far ((far.lookup x).getD 0)) (-1)
def wayL (E : List KeyP) (word : ByteArray) (far : List (Int × Int)) (tz : Int) : Nat → Int → List Int
  | 0, x => [x]
  | n + 1, x => if x = tz then [x] else x :: wayL E word far tz n (bestP E word far x)
/-- The way, if there is one. -/
def wayP (E : List KeyP) (word : ByteArray) (far : List (Int × Int)) (x tz : Int) : Option (List Int) := match far.lookup x with
  | some d => some (wayL E word far tz d.toNat x)
  | none => none
/-! ### What the law says of one graph -/
def stepsOk (E : List KeyP) : List Int → Bool
  | x :: y :: l => E.any (fun k => decide (k.a = x) && decide (k.b = y)) && stepsOk E (y :: l)
  | _ => true
def pairOk (E : List KeyP) (word : ByteArray) (x y : Int) : Bool :=
  decide ((hopS E word x 5).2 = []) && decide ((farS E word y 6).2 = []) && decide (x ∈ hopP E word x 5) && match wayP E word (farS E word y 6).1 x y with
    | none => !decide (y ∈ hopP E word x 5)
    | some w => decide (y ∈ hopP E word x 5) && decide (w.head? = some x) && decide (w.getLast? = some y) && stepsOk E w && decide (w.length ≤ 5) && decide (y ∈ hopP E word x (w.length - 1)) &&
      (decide (w.length ≤ 1) || (!decide (y ∈ hopP E word x (w.length - 2)) && decide ((hopP E word x (w.length - 2)).length ≤ (hopP E word x (w.length - 1)).length)))
def nodesP (L : List KeyP) : List Int := (L.filter fun k => decide (k.kind = 1)).map (·.a)
def edgesP (L : List KeyP) : List KeyP := L.filter fun k => decide (k.kind = 2) && (decide (k.a ∈ nodesP L) && decide (k.b ∈ nodesP L))
def graphOk (L : List KeyP) : Bool := (nodesP L).all fun x => (nodesP L).all fun y => pairOk (edgesP L) ⟨#[]⟩ x y && pairOk (edgesP L) ⟨#[116, 111]⟩ x y
def some9 (b : Bool) (k : KeyP) : List KeyP := if b then [k] else []
def nine (n0 n1 n2 n3 e0 e1 e2 : Bool) : List KeyP := some9 n0 ⟨1, 0, ⟨#[]⟩, 0⟩ ++ some9 n1 ⟨1, 1, ⟨#[]⟩, 0⟩ ++ some9 n2 ⟨1, 2, ⟨#[]⟩, 0⟩ ++ some9 n3 ⟨1, 3, ⟨#[]⟩, 0⟩ ++ some9 e0 ⟨2, 0, ⟨#[116, 111]⟩, 1⟩ ++ some9 e1 ⟨2, 1, ⟨#[116, 111]⟩, 2⟩ ++ some9 e2 ⟨2, 2, ⟨#[116, 111]⟩, 3⟩
theorem nine_ok : ∀ n0 n1 n2 n3 e0 e1 e2 : Bool, graphOk (nine n0 n1 n2 n3 e0 e1 e2) = true := by decide +kernel
end Go.Proofs.YtflhpmgjehjjkaaGreatDoor
