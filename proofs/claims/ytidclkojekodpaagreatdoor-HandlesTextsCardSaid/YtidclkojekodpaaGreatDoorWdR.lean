
/-
  Plain facts of words: texts of lists of numbers.
-/
import Derived.Test.YtidclkojekodpaaGreatDoorLib
import Derived.Lib.ItoaNum
import Derived.Lib.ItoaLen
namespace Go.Proofs.YtidclkojekodpaaGreatDoor
set_option linter.unusedSimpArgs false
set_option linter.unusedVariables false

def runsF : Int → Int → List Int → List (Int × Int)
  | a, b, [] => [(a, b)]
  | a, b, c :: r => if c = b + 1 then runsF a c r else (a, b) :: runsF c c r
def runsL : List Int → List (Int × Int)
  | [] => []
  | c :: r => runsF c c r
def runT (r : Int × Int) : List UInt8 := Lib.itoa r.1 ++ if r.1 < r.2 then 45 :: Lib.itoa r.2 else []
def txtG : Bool → List (Int × Int) → List UInt8
  | _, [] => []
  | b, r :: rs => (if b then [44] else []) ++ runT r ++ txtG true rs
def ascK (l : List Int) (k : Nat) : Bool := (List.range k).all (fun i => i == 0 || decide (l.getD (i - 1) 0 < l.getD i 0))
def numB (n : Int) : Bool := decide (0 ≤ n) && decide (n ≤ 1000000000)
def wlist (l : List Int) : List UInt8 × Int := if 500 < l.length then ([], 3) else if l.all numB = false then ([], 7) else if ascK l l.length = false then ([], 6) else if l = [] then ([45], 0) else (txtG false (runsL l), 0)
theorem ascK_step (l : List Int) (k : Nat) : ascK l (k + 1) = (ascK l k && (k == 0 || decide (l.getD (k - 1) 0 < l.getD k 0))) := by
  unfold ascK
  rw [List.range_succ, List.all_append]; simp
theorem runsF_go (a b : Int) (r : List Int) : runsF a b ((b + 1) :: r) = runsF a (b + 1) r := by simp [runsF]
theorem runsF_stop (a b c : Int) (r : List Int) (h : c ≠ b + 1) : runsF a b (c :: r) = (a, b) :: runsL (c :: r) := by simp [runsF, runsL, h]
theorem runsF_end (a b : Int) : runsF a b [] = (a, b) :: runsL [] := rfl
theorem runT_len {a b : Int} (ha : 0 ≤ a) (ha2 : a ≤ 1000000000) (hb : 0 ≤ b) (hb2 : b ≤ 1000000000) : (runT (a, b)).length ≤ 60 := by
  have h1 := Lib.itoa_length_le a (by omega) (by omega)
  have h2 := Lib.itoa_length_le b (by omega) (by omega)
  unfold runT
  split <;> simp <;> omega
end Go.Proofs.YtidclkojekodpaaGreatDoor
