/- Turns: tasks, rotas and courses as plain data; what the document says of them. No program in sight. -/
import Derived.Test.YtomkjfhepfinhaaAbs17
set_option linter.unusedSimpArgs false
set_option linter.unusedVariables false
namespace Go.Proofs.Ytomkjfhepfinhaa

structure Hand where
  sl : Int
  sh : Int
  tl : Int
  th : Int
  el : Int
  eh : Int
  slip : Int
  deriving Inhabited, DecidableEq
structure Task where
  hands : List Hand
  parts : List Int
  limit : Int
  rest : Int
  swap : Int
def hd0 : Hand := ⟨0, 0, 0, 0, 0, 0, 0⟩
def spanOk (l h most : Int) : Bool := decide (0 ≤ l ∧ l ≤ h ∧ h ≤ most)
def Hand.ok (x : Hand) : Bool := spanOk x.sl x.sh 100 && spanOk x.tl x.th 20 && spanOk x.el x.eh 20 && decide (0 ≤ x.slip ∧ x.slip ≤ 100)
def Task.ok (t : Task) : Bool := decide (1 ≤ t.hands.length ∧ t.hands.length ≤ 3) && decide (1 ≤ t.parts.length ∧ t.parts.length ≤ 10) && decide (1 ≤ t.limit ∧ t.limit ≤ 10) && decide (1 ≤ t.rest ∧ t.rest ≤ 10) && decide (0 ≤ t.swap ∧ t.swap ≤ 100) && t.hands.all Hand.ok && t.parts.all (fun p => decide (0 ≤ p ∧ p ≤ 10))
def Task.check (t : Task) : Int := if t.ok then 0 else 40
def isRota (t : Task) (r : List Int) : Bool := r.all (fun h => decide (0 ≤ h ∧ h ≤ (t.hands.length : Int) - 1)) && decide (r.length = t.parts.length)
def checkRota (t : Task) (r : List Int) : Int := if t.ok then (if isRota t r then 0 else 41) else 40
/-- One hand's parts in a row and rest since, over a rota. -/
def rightH (t : Task) (h : Int) : List Int → Int → Int → Bool
  | [], _, _ => true
  | x :: xs, row, rest => if x = h then (if (row = 0 ∧ rest < t.rest) ∨ row = t.limit then false else rightH t h xs (row + 1) 0) else rightH t h xs 0 (rest + 1)
def isRight (t : Task) (r : List Int) : Bool := (List.range t.hands.length).all fun h => rightH t h r 0 t.rest
def endOf (l h : Int) (high : Bool) : Int := if high then h else l
/-- A course: the weariness at the beginning, and for each part and each hand by how much it is greater or less after it. -/
structure Course where
  start : List Int
  steps : List (List Int)
def stepAt (t : Task) (x : Int) (high : Bool) (h : Nat) : Int := if x = (h : Int) then endOf (t.hands.getD h hd0).tl (t.hands.getD h hd0).th high else endOf (t.hands.getD h hd0).el (t.hands.getD h hd0).eh (!high)
def stepsOf (t : Task) (x : Int) (high : Bool) : List Int := (List.range t.hands.length).map (stepAt t x high)
def extreme (t : Task) (r : List Int) (high : Bool) : Course := ⟨t.hands.map fun x => endOf x.sl x.sh high, r.map fun x => stepsOf t x high⟩
/-- The weariness after a part in which x signs. -/
def nextW (now step : List Int) (x : Int) : List Int := (List.range now.length).map fun (h : Nat) => if x = (h : Int) then now.getD h 0 + step.getD h 0 else max 0 (now.getD h 0 - step.getD h 0)
structure RunS where
  now : List Int
  bad : Int
  all : List (List Int)
/-- One part of a course. -/
def runStep (t : Task) (r : List Int) (c : Course) (i : Nat) (s : RunS) : RunS :=
  let x := r.getD i 0
  let now := nextW s.now (c.steps.getD i []) x
  ⟨now, s.bad + t.parts.getD i 0 * ((t.hands.getD x.toNat hd0).slip + s.now.getD x.toNat 0) + (if 0 < i ∧ x ≠ r.getD (i - 1) 0 then t.swap else 0), s.all ++ [now]⟩
def runTo (t : Task) (r : List Int) (c : Course) : Nat → RunS
  | 0 => ⟨c.start, 0, [c.start]⟩
  | i + 1 => runStep t r c i (runTo t r c i)
def runC (t : Task) (r : List Int) (c : Course) : RunS := runTo t r c r.length
def worst (t : Task) (r : List Int) : Int := (runC t r (extreme t r true)).bad
end Go.Proofs.Ytomkjfhepfinhaa
