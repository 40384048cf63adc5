/-
  NARROWER THAN 'FOR EVERY INPUT', by the rows' own cells (each row's printed sentence says how): EgraphWhys: laid · EgraphCloses: laid · EgraphOrder: laid · EgraphRuns: laid · EgraphOwn: laid · EgraphNobody: laid.
  DERIVED. THE GIVEN ROWS OF THIS SEAT. 6 by the template 'for every input the law returns true; each argument reads behind the call as it read before'; 0 by the template 'total and deterministic' (their statements: YtgkhbmoidenjaaaDoorTotals.lean).
  GIVEN WITH THE SEED: the statements are not yours to turn. If you find one false, say at which input.
  Laid BY PROGRAM, IN A SANDBOX (cutbox-rows.mjs): the forced cells as the released guide's own fill.sh prints them over the translation cb3fea25eea512af… (all of the seat's roots in one cut). By AI agents, Wed Nov 11 2026. No macro, syntax, notation, axiom, sorry.
-/
import Derived.Test.YtgkhbmoidenjaaaDoorChecked
import GoSem.Claim
import GoSem.ClaimJoined
import GoSem.ClaimMapViews
import Derived.JoinedTies
import Derived.KernelRfl
namespace Go.Proofs.YtgkhbmoidenjaaaDoor
/- THE CELL 'sum', in the pinned program and in every row, IS THE sha256 OF THE DUMP (.gsa) THAT YtgkhbmoidenjaaaDoorProg.lean LOADS. Nothing in Lean hashes anything: it is a label: what it is worth is what the hold of that sum in a sandbox is worth. -/
noncomputable def Tryd.pinned : Pinned := { name := "ytgkhbmoidenjaaadoor", sum := "cb3fea25eea512af6e399f7620b463db915865ce0de9f3d44fa053f33b82193e", checked := Tryd.checked }
namespace Rows
def none {H : Type} : Left H := { results := [], args := [] }

/- WHAT THE LISTED PACKAGE-LEVEL VARIABLES READ AS WHEN THE CALL BEGINS. Each datum BY PROGRAM (the guide's laid-datum.mjs) off the statement by which the dump's own 'gosem.cut.vars' lays the variable. In a bare row this is a premise. The card (YtgkhbmoidenjaaaDoorCards.lean) ties it to the program's text. -/
def laid_math_bits_deBruijn32tab {H : Type} : DataW H := .agg [.lit (.int .u8 0), .lit (.int .u8 1), .lit (.int .u8 28), .lit (.int .u8 2), .lit (.int .u8 29), .lit (.int .u8 14), .lit (.int .u8 24), .lit (.int .u8 3), .lit (.int .u8 30), .lit (.int .u8 22), .lit (.int .u8 20), .lit (.int .u8 15), .lit (.int .u8 25), .lit (.int .u8 17), .lit (.int .u8 4), .lit (.int .u8 8), .lit (.int .u8 31), .lit (.int .u8 27), .lit (.int .u8 13), .lit (.int .u8 23), .lit (.int .u8 21), .lit (.int .u8 19), .lit (.int .u8 16), .lit (.int .u8 7), .lit (.int .u8 26), .lit (.int .u8 12), .lit (.int .u8 18), .lit (.int .u8 6), .lit (.int .u8 11), .lit (.int .u8 5), .lit (.int .u8 10), .lit (.int .u8 9)]
def laid_math_bits_deBruijn64tab {H : Type} : DataW H := .agg [.lit (.int .u8 0), .lit (.int .u8 1), .lit (.int .u8 56), .lit (.int .u8 2), .lit (.int .u8 57), .lit (.int .u8 49), .lit (.int .u8 28), .lit (.int .u8 3), .lit (.int .u8 61), .lit (.int .u8 58), .lit (.int .u8 42), .lit (.int .u8 50), .lit (.int .u8 38), .lit (.int .u8 29), .lit (.int .u8 17), .lit (.int .u8 4), .lit (.int .u8 62), .lit (.int .u8 47), .lit (.int .u8 59), .lit (.int .u8 36), .lit (.int .u8 45), .lit (.int .u8 43), .lit (.int .u8 51), .lit (.int .u8 22), .lit (.int .u8 53), .lit (.int .u8 39), .lit (.int .u8 33), .lit (.int .u8 30), .lit (.int .u8 24), .lit (.int .u8 18), .lit (.int .u8 12), .lit (.int .u8 5), .lit (.int .u8 63), .lit (.int .u8 55), .lit (.int .u8 48), .lit (.int .u8 27), .lit (.int .u8 60), .lit (.int .u8 41), .lit (.int .u8 37), .lit (.int .u8 16), .lit (.int .u8 46), .lit (.int .u8 35), .lit (.int .u8 44), .lit (.int .u8 21), .lit (.int .u8 52), .lit (.int .u8 32), .lit (.int .u8 23), .lit (.int .u8 11), .lit (.int .u8 54), .lit (.int .u8 26), .lit (.int .u8 40), .lit (.int .u8 15), .lit (.int .u8 34), .lit (.int .u8 20), .lit (.int .u8 31), .lit (.int .u8 10), .lit (.int .u8 25), .lit (.int .u8 14), .lit (.int .u8 19), .lit (.int .u8 9), .lit (.int .u8 13), .lit (.int .u8 8), .lit (.int .u8 7), .lit (.int .u8 6)]
def laid_internal_strconv_uint64pow10 {H : Type} : DataW H := .agg [.lit (.int .u64 1), .lit (.int .u64 10), .lit (.int .u64 100), .lit (.int .u64 1000), .lit (.int .u64 10000), .lit (.int .u64 100000), .lit (.int .u64 1000000), .lit (.int .u64 10000000), .lit (.int .u64 100000000), .lit (.int .u64 1000000000), .lit (.int .u64 10000000000), .lit (.int .u64 100000000000), .lit (.int .u64 1000000000000), .lit (.int .u64 10000000000000), .lit (.int .u64 100000000000000), .lit (.int .u64 1000000000000000), .lit (.int .u64 10000000000000000), .lit (.int .u64 100000000000000000), .lit (.int .u64 1000000000000000000), .lit (.int .u64 10000000000000000000)]

/-- 'tribunallaw15.EgraphWhys': WHATEVER THE INPUT: true; the input reads as it did. -/
def egraphWhysSpec : ChangeSpec := { name := "egraphWhys", fn := fun _ => fun
  | [d] => { results := [.lit (.bool true)], args := [d] }
  | _ => none }
def egraphWhysRow : OpenClaim := { program := "ytgkhbmoidenjaaadoor", sum := "cb3fea25eea512af6e399f7620b463db915865ce0de9f3d44fa053f33b82193e", func := "tribunal/tribunallaw15.EgraphWhys", spec := "egraphWhys", unfollowed := true, recurses := true, named := ["internal/strconv.uint64pow10", "math/bits.deBruijn32tab", "math/bits.deBruijn64tab"], apart := false, laid := [("math/bits.deBruijn32tab", laid_math_bits_deBruijn32tab), ("math/bits.deBruijn64tab", laid_math_bits_deBruijn64tab), ("internal/strconv.uint64pow10", laid_internal_strconv_uint64pow10)] }
def EgraphWhysSaid : Prop := egraphWhysRow.holds Tryd.pinned (OpenSpec.ofChange egraphWhysSpec)

/-- ITS FALSE NEIGHBOUR: 'it returns false'. Refute it at one input. -/
def egraphWhysWrong : ChangeSpec := { name := "egraphWhys", fn := fun _ => fun
  | [d] => { results := [.lit (.bool false)], args := [d] }
  | _ => none }
def EgraphWhysWrongFalsely : Prop := egraphWhysRow.holds Tryd.pinned (OpenSpec.ofChange egraphWhysWrong)

/-- 'tribunallaw15.EgraphCloses': WHATEVER THE INPUT: true; the input reads as it did. -/
def egraphClosesSpec : ChangeSpec := { name := "egraphCloses", fn := fun _ => fun
  | [d] => { results := [.lit (.bool true)], args := [d] }
  | _ => none }
def egraphClosesRow : OpenClaim := { program := "ytgkhbmoidenjaaadoor", sum := "cb3fea25eea512af6e399f7620b463db915865ce0de9f3d44fa053f33b82193e", func := "tribunal/tribunallaw15.EgraphCloses", spec := "egraphCloses", unfollowed := true, recurses := true, named := ["internal/strconv.uint64pow10", "math/bits.deBruijn32tab", "math/bits.deBruijn64tab"], apart := false, laid := [("math/bits.deBruijn32tab", laid_math_bits_deBruijn32tab), ("math/bits.deBruijn64tab", laid_math_bits_deBruijn64tab), ("internal/strconv.uint64pow10", laid_internal_strconv_uint64pow10)] }
def EgraphClosesSaid : Prop := egraphClosesRow.holds Tryd.pinned (OpenSpec.ofChange egraphClosesSpec)

/-- ITS FALSE NEIGHBOUR: 'it returns false'. Refute it at one input. -/
def egraphClosesWrong : ChangeSpec := { name := "egraphCloses", fn := fun _ => fun
  | [d] => { results := [.lit (.bool false)], args := [d] }
  | _ => none }
def EgraphClosesWrongFalsely : Prop := egraphClosesRow.holds Tryd.pinned (OpenSpec.ofChange egraphClosesWrong)

/-- 'tribunallaw15.EgraphOrder': WHATEVER THE INPUT: true; the input reads as it did. -/
def egraphOrderSpec : ChangeSpec := { name := "egraphOrder", fn := fun _ => fun
  | [d] => { results := [.lit (.bool true)], args := [d] }
  | _ => none }
def egraphOrderRow : OpenClaim := { program := "ytgkhbmoidenjaaadoor", sum := "cb3fea25eea512af6e399f7620b463db915865ce0de9f3d44fa053f33b82193e", func := "tribunal/tribunallaw15.EgraphOrder", spec := "egraphOrder", unfollowed := true, recurses := true, named := ["internal/strconv.uint64pow10", "math/bits.deBruijn32tab", "math/bits.deBruijn64tab"], apart := false, laid := [("math/bits.deBruijn32tab", laid_math_bits_deBruijn32tab), ("math/bits.deBruijn64tab", laid_math_bits_deBruijn64tab), ("internal/strconv.uint64pow10", laid_internal_strconv_uint64pow10)] }
def EgraphOrderSaid : Prop := egraphOrderRow.holds Tryd.pinned (OpenSpec.ofChange egraphOrderSpec)

/-- ITS FALSE NEIGHBOUR: 'it returns false'. Refute it at one input. -/
def egraphOrderWrong : ChangeSpec := { name := "egraphOrder", fn := fun _ => fun
  | [d] => { results := [.lit (.bool false)], args := [d] }
  | _ => none }
def EgraphOrderWrongFalsely : Prop := egraphOrderRow.holds Tryd.pinned (OpenSpec.ofChange egraphOrderWrong)

/-- 'tribunallaw15.EgraphRuns': WHATEVER THE INPUT: true; the input reads as it did. -/
def egraphRunsSpec : ChangeSpec := { name := "egraphRuns", fn := fun _ => fun
  | [d] => { results := [.lit (.bool true)], args := [d] }
  | _ => none }
def egraphRunsRow : OpenClaim := { program := "ytgkhbmoidenjaaadoor", sum := "cb3fea25eea512af6e399f7620b463db915865ce0de9f3d44fa053f33b82193e", func := "tribunal/tribunallaw15.EgraphRuns", spec := "egraphRuns", unfollowed := true, recurses := true, named := ["internal/strconv.uint64pow10", "math/bits.deBruijn32tab", "math/bits.deBruijn64tab"], apart := false, laid := [("math/bits.deBruijn32tab", laid_math_bits_deBruijn32tab), ("math/bits.deBruijn64tab", laid_math_bits_deBruijn64tab), ("internal/strconv.uint64pow10", laid_internal_strconv_uint64pow10)] }
def EgraphRunsSaid : Prop := egraphRunsRow.holds Tryd.pinned (OpenSpec.ofChange egraphRunsSpec)

/-- ITS FALSE NEIGHBOUR: 'it returns false'. Refute it at one input. -/
def egraphRunsWrong : ChangeSpec := { name := "egraphRuns", fn := fun _ => fun
  | [d] => { results := [.lit (.bool false)], args := [d] }
  | _ => none }
def EgraphRunsWrongFalsely : Prop := egraphRunsRow.holds Tryd.pinned (OpenSpec.ofChange egraphRunsWrong)

/-- 'tribunallaw15.EgraphOwn': WHATEVER THE INPUT: true; the input reads as it did. -/
def egraphOwnSpec : ChangeSpec := { name := "egraphOwn", fn := fun _ => fun
  | [d] => { results := [.lit (.bool true)], args := [d] }
  | _ => none }
def egraphOwnRow : OpenClaim := { program := "ytgkhbmoidenjaaadoor", sum := "cb3fea25eea512af6e399f7620b463db915865ce0de9f3d44fa053f33b82193e", func := "tribunal/tribunallaw15.EgraphOwn", spec := "egraphOwn", unfollowed := true, recurses := true, named := ["internal/strconv.uint64pow10", "math/bits.deBruijn32tab", "math/bits.deBruijn64tab"], apart := false, laid := [("math/bits.deBruijn32tab", laid_math_bits_deBruijn32tab), ("math/bits.deBruijn64tab", laid_math_bits_deBruijn64tab), ("internal/strconv.uint64pow10", laid_internal_strconv_uint64pow10)] }
def EgraphOwnSaid : Prop := egraphOwnRow.holds Tryd.pinned (OpenSpec.ofChange egraphOwnSpec)

/-- ITS FALSE NEIGHBOUR: 'it returns false'. Refute it at one input. -/
def egraphOwnWrong : ChangeSpec := { name := "egraphOwn", fn := fun _ => fun
  | [d] => { results := [.lit (.bool false)], args := [d] }
  | _ => none }
def EgraphOwnWrongFalsely : Prop := egraphOwnRow.holds Tryd.pinned (OpenSpec.ofChange egraphOwnWrong)

/-- 'tribunallaw15.EgraphNobody': WHATEVER THE INPUT: true; the input reads as it did. -/
def egraphNobodySpec : ChangeSpec := { name := "egraphNobody", fn := fun _ => fun
  | [d] => { results := [.lit (.bool true)], args := [d] }
  | _ => none }
def egraphNobodyRow : OpenClaim := { program := "ytgkhbmoidenjaaadoor", sum := "cb3fea25eea512af6e399f7620b463db915865ce0de9f3d44fa053f33b82193e", func := "tribunal/tribunallaw15.EgraphNobody", spec := "egraphNobody", unfollowed := true, recurses := true, named := ["internal/strconv.uint64pow10", "math/bits.deBruijn32tab", "math/bits.deBruijn64tab"], apart := false, laid := [("math/bits.deBruijn32tab", laid_math_bits_deBruijn32tab), ("math/bits.deBruijn64tab", laid_math_bits_deBruijn64tab), ("internal/strconv.uint64pow10", laid_internal_strconv_uint64pow10)] }
def EgraphNobodySaid : Prop := egraphNobodyRow.holds Tryd.pinned (OpenSpec.ofChange egraphNobodySpec)

/-- ITS FALSE NEIGHBOUR: 'it returns false'. Refute it at one input. -/
def egraphNobodyWrong : ChangeSpec := { name := "egraphNobody", fn := fun _ => fun
  | [d] => { results := [.lit (.bool false)], args := [d] }
  | _ => none }
def EgraphNobodyWrongFalsely : Prop := egraphNobodyRow.holds Tryd.pinned (OpenSpec.ofChange egraphNobodyWrong)

/- THE SECOND FORM. 'bulk': how many values and letters a reading holds, each counted each time it is reached (what is shared counts as often as it is met; a slice's spare places count too). A statement '..UptoSaid' is the law's where the arguments, and the package variables that the reading takes, are together of bulk at most 1048576: NARROWER than '..Said'. Prove '..Said' where nothing that the law and all that it calls make is longer than what came in: it says more and counts as full. Else prove '..UptoSaid'. A law counts once. -/
mutual
def uptoBulk {H : Type} : DataW H → Nat
  | .lit (.string bytes) => bytes.length + 1
  | .lit _ => 1
  | .nil => 1
  | .ptr d => uptoBulk d + 1
  | .slice elems spare => uptoBulkAll elems + uptoBulkAll spare + 1
  | .agg parts => uptoBulkAll parts + 1
  | .iface _ d => uptoBulk d + 1
  | .map entries => uptoBulkEntries entries + 1
  | .held _ => 1
def uptoBulkAll {H : Type} : List (DataW H) → Nat
  | [] => 0
  | d :: r => uptoBulk d + uptoBulkAll r
def uptoBulkEntries {H : Type} : List (Lit × DataW H) → Nat
  | [] => 0
  | x :: r => uptoBulkEntry x + uptoBulkEntries r
def uptoBulkEntry {H : Type} : Lit × DataW H → Nat
  | (.string bytes, d) => bytes.length + uptoBulk d + 1
  | (_, d) => uptoBulk d + 1
 end
def uptoSmall : (H : Type) → List (DataW H) → Bool := fun _ ds => decide (uptoBulkAll ds ≤ 1048576)
def OpenSpec.upto (s : _root_.Go.ChangeSpec) : _root_.Go.OpenSpec := { _root_.Go.OpenSpec.ofChange s with cond := some uptoSmall }

/-- 'tribunallaw15.EgraphWhys', WHERE WHAT IT READS IS OF BULK AT MOST 1048576: true; the input reads as it did. -/
def egraphWhysUptoRow : OpenClaim := { program := "ytgkhbmoidenjaaadoor", sum := "cb3fea25eea512af6e399f7620b463db915865ce0de9f3d44fa053f33b82193e", func := "tribunal/tribunallaw15.EgraphWhys", spec := "egraphWhys", unfollowed := true, recurses := true, named := ["internal/strconv.uint64pow10", "math/bits.deBruijn32tab", "math/bits.deBruijn64tab"], apart := false, laid := [("math/bits.deBruijn32tab", laid_math_bits_deBruijn32tab), ("math/bits.deBruijn64tab", laid_math_bits_deBruijn64tab), ("internal/strconv.uint64pow10", laid_internal_strconv_uint64pow10)], narrowed := true }
def EgraphWhysUptoSaid : Prop := egraphWhysUptoRow.holds Tryd.pinned (OpenSpec.upto egraphWhysSpec)

/-- 'tribunallaw15.EgraphCloses', WHERE WHAT IT READS IS OF BULK AT MOST 1048576: true; the input reads as it did. -/
def egraphClosesUptoRow : OpenClaim := { program := "ytgkhbmoidenjaaadoor", sum := "cb3fea25eea512af6e399f7620b463db915865ce0de9f3d44fa053f33b82193e", func := "tribunal/tribunallaw15.EgraphCloses", spec := "egraphCloses", unfollowed := true, recurses := true, named := ["internal/strconv.uint64pow10", "math/bits.deBruijn32tab", "math/bits.deBruijn64tab"], apart := false, laid := [("math/bits.deBruijn32tab", laid_math_bits_deBruijn32tab), ("math/bits.deBruijn64tab", laid_math_bits_deBruijn64tab), ("internal/strconv.uint64pow10", laid_internal_strconv_uint64pow10)], narrowed := true }
def EgraphClosesUptoSaid : Prop := egraphClosesUptoRow.holds Tryd.pinned (OpenSpec.upto egraphClosesSpec)

/-- 'tribunallaw15.EgraphOrder', WHERE WHAT IT READS IS OF BULK AT MOST 1048576: true; the input reads as it did. -/
def egraphOrderUptoRow : OpenClaim := { program := "ytgkhbmoidenjaaadoor", sum := "cb3fea25eea512af6e399f7620b463db915865ce0de9f3d44fa053f33b82193e", func := "tribunal/tribunallaw15.EgraphOrder", spec := "egraphOrder", unfollowed := true, recurses := true, named := ["internal/strconv.uint64pow10", "math/bits.deBruijn32tab", "math/bits.deBruijn64tab"], apart := false, laid := [("math/bits.deBruijn32tab", laid_math_bits_deBruijn32tab), ("math/bits.deBruijn64tab", laid_math_bits_deBruijn64tab), ("internal/strconv.uint64pow10", laid_internal_strconv_uint64pow10)], narrowed := true }
def EgraphOrderUptoSaid : Prop := egraphOrderUptoRow.holds Tryd.pinned (OpenSpec.upto egraphOrderSpec)

/-- 'tribunallaw15.EgraphRuns', WHERE WHAT IT READS IS OF BULK AT MOST 1048576: true; the input reads as it did. -/
def egraphRunsUptoRow : OpenClaim := { program := "ytgkhbmoidenjaaadoor", sum := "cb3fea25eea512af6e399f7620b463db915865ce0de9f3d44fa053f33b82193e", func := "tribunal/tribunallaw15.EgraphRuns", spec := "egraphRuns", unfollowed := true, recurses := true, named := ["internal/strconv.uint64pow10", "math/bits.deBruijn32tab", "math/bits.deBruijn64tab"], apart := false, laid := [("math/bits.deBruijn32tab", laid_math_bits_deBruijn32tab), ("math/bits.deBruijn64tab", laid_math_bits_deBruijn64tab), ("internal/strconv.uint64pow10", laid_internal_strconv_uint64pow10)], narrowed := true }
def EgraphRunsUptoSaid : Prop := egraphRunsUptoRow.holds Tryd.pinned (OpenSpec.upto egraphRunsSpec)

/-- 'tribunallaw15.EgraphOwn', WHERE WHAT IT READS IS OF BULK AT MOST 1048576: true; the input reads as it did. -/
def egraphOwnUptoRow : OpenClaim := { program := "ytgkhbmoidenjaaadoor", sum := "cb3fea25eea512af6e399f7620b463db915865ce0de9f3d44fa053f33b82193e", func := "tribunal/tribunallaw15.EgraphOwn", spec := "egraphOwn", unfollowed := true, recurses := true, named := ["internal/strconv.uint64pow10", "math/bits.deBruijn32tab", "math/bits.deBruijn64tab"], apart := false, laid := [("math/bits.deBruijn32tab", laid_math_bits_deBruijn32tab), ("math/bits.deBruijn64tab", laid_math_bits_deBruijn64tab), ("internal/strconv.uint64pow10", laid_internal_strconv_uint64pow10)], narrowed := true }
def EgraphOwnUptoSaid : Prop := egraphOwnUptoRow.holds Tryd.pinned (OpenSpec.upto egraphOwnSpec)

/-- 'tribunallaw15.EgraphNobody', WHERE WHAT IT READS IS OF BULK AT MOST 1048576: true; the input reads as it did. -/
def egraphNobodyUptoRow : OpenClaim := { program := "ytgkhbmoidenjaaadoor", sum := "cb3fea25eea512af6e399f7620b463db915865ce0de9f3d44fa053f33b82193e", func := "tribunal/tribunallaw15.EgraphNobody", spec := "egraphNobody", unfollowed := true, recurses := true, named := ["internal/strconv.uint64pow10", "math/bits.deBruijn32tab", "math/bits.deBruijn64tab"], apart := false, laid := [("math/bits.deBruijn32tab", laid_math_bits_deBruijn32tab), ("math/bits.deBruijn64tab", laid_math_bits_deBruijn64tab), ("internal/strconv.uint64pow10", laid_internal_strconv_uint64pow10)], narrowed := true }
def EgraphNobodyUptoSaid : Prop := egraphNobodyUptoRow.holds Tryd.pinned (OpenSpec.upto egraphNobodySpec)

end Rows
end Go.Proofs.YtgkhbmoidenjaaaDoor
