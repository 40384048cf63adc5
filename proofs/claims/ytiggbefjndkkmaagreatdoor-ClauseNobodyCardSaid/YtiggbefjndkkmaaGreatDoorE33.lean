/- The engine, part 33 of 35: pieces of the interpreter and of its soundness. No condition. -/
import Derived.Test.YtiggbefjndkkmaaGreatDoorE32
namespace Go.Abs

/-! ### One start that fits: each listed variable as the row lists it -/

def litV : Lit → Value
  | .bool b => .bool b
  | .int k n => .int k n
  | .float k b => .float k b
  | .string bs => .string ⟨bs.toArray⟩
  | .nil => .pointer none

def cellsD : Nat → DataW Unit → List Value
  | _, .lit l => [litV l]
  | n + 1, .agg ps => ps.flatMap (cellsD n)
  | _, _ => []

noncomputable def laidW (P : Program) (laid : List (String × DataW Unit)) (os : Os) : World :=
  let w0 := World.holding P os ⟨#[], #[], []⟩
  { w0 with heap := laid.foldl (fun h x => match P.globalNamed x.1 with
      | some g => h.modify g fun
        | .cells _ t frozen => .cells (cellsD 8 x.2).toArray t frozen
        | o => o
      | none => h) w0.heap }

end Go.Abs
