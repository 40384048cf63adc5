/- The engine, part 35 of 35: pieces of the interpreter and of its soundness. No condition. -/
import Derived.Test.YtiggbefjndkkmaaGreatDoorE34
namespace Go.Abs

/-! ### One start that fits: listed variables that point on: new blocks behind all others -/

def layAll {α β : Type} (f : α → Array Obj → List Value × Array Obj) (g : β → α) : List β → Array Obj → List Value × Array Obj
  | [], h => ([], h)
  | d :: ds, h => let r := f (g d) h; let s := layAll f g ds r.2; (r.1 ++ s.1, s.2)

def layD (P : Program) : Nat → TypeId × DataW Unit → Array Obj → List Value × Array Obj
  | 0, _, h => ([], h)
  | _ + 1, (_, .lit l), h => ([litV l], h)
  | _ + 1, (t, .nil), h => ([match P.underlying t with
      | some (.slice _) => .slice none 0 0
      | some (.map ..) => .map none
      | some (.interface _) => .nilIface
      | some (.func ..) => .nilFunc
      | _ => .pointer none], h)
  | n + 1, (t, .agg ps), h =>
    let ts := match P.underlying t with
      | some (.struct fs) => fs.toList.map fun (f : Field) => f.type
      | some (.array k e) => List.replicate k e
      | _ => []
    layAll (layD P n) id (ts.zip ps) h
  | n + 1, (t, .ptr d), h => match P.underlying t with
    | some (.pointer e) => let r := layD P n (e, d) h; ([.pointer (some ⟨r.2.size, 0, none⟩)], r.2.push (.cells r.1.toArray e (0, 0)))
    | _ => ([], h)
  | n + 1, (t, .slice es sp), h => match P.underlying t with
    | some (.slice e) =>
      let r := layAll (layD P n) (fun d => (e, d)) (es ++ sp) h
      ([.slice (some ⟨r.2.size, 0, none⟩) es.length (es.length + sp.length)], r.2.push (.cells r.1.toArray e (0, 0)))
    | _ => ([], h)
  | _ + 1, _, h => ([], h)

noncomputable def laidW2 (P : Program) (laid : List (String × DataW Unit)) (os : Os) : World :=
  let w0 := World.holding P os ⟨#[], #[], []⟩
  { w0 with heap := laid.foldl (fun h x => match P.globalNamed x.1 with
      | some g => match h[g]? with
        | some (.cells _ t frozen) => let r := layD P 8 (t, x.2) h; r.2.setIfInBounds g (.cells r.1.toArray t frozen)
        | _ => h
      | none => h) w0.heap }

/-- An input that fits, at a start whose listed variables point on. -/
theorem witness_ref {H : Type} {enc : TypeId × Value → H} {C : Checked} {os : Os} {f : FuncId} {fn : Func} {s : ChangeSpec} {conds : List PathCond} {apart : Bool} {X : World → Array Value → Prop} (w0 : World) (args : Array Value) (fuel : Nat) (hos : w0.os = os)
    (hv : (w0.forCall (fun _ _ => 0) ⟨#[], args, []⟩).variablesRefB C.prog = true)
    (hr : ((w0.forCall (fun _ _ => 0) ⟨#[], args, []⟩).heap.toList.drop C.prog.globals.size).take ((begin C.prog (fun _ _ => 0) default).world.heap.size - C.prog.globals.size) =
      (begin C.prog (fun _ _ => 0) default).world.heap.toList.drop C.prog.globals.size)
    (hok : Input.okWideB C.prog (w0.forCall (fun _ _ => 0) ⟨#[], args, []⟩) f ⟨#[], args, []⟩ = true)
    (hpre : s.preB enc C.prog fn conds apart (w0.forCall (fun _ _ => 0) ⟨#[], args, []⟩).memory args fuel = true)
    (hsz : s.sizedB enc C.prog fn apart (w0.forCall (fun _ _ => 0) ⟨#[], args, []⟩).memory args fuel = true)
    (hx : X (w0.forCall (fun _ _ => 0) ⟨#[], args, []⟩).memory args) :
    ∃ (w : World) (tape : Tape) (i : Input), w.os = os ∧ (w.forCall tape i).Shaped C.prog ∧ i.vars = [] ∧ Input.okWide C.prog (w.forCall tape i) .any w.heap.size f i ∧
      ((s.pre enc C.prog fn conds apart (w.forCall tape i).memory i.args ∧ X (w.forCall tape i).memory i.args) ∧ sizedMet enc C.prog fn (OpenSpec.ofChange s) apart (w.forCall tape i).memory i.args) ∧ ({} : Assume).holds C.prog (lone (Frame.enter C.prog f i.args .normal) [] (w.forCall tape i)) :=
  ⟨w0, fun _ _ => 0, ⟨#[], args, []⟩, hos, World.shaped_of_RefB hv hr, (Input.okWide_of_okWideB (base := 0) hok).1, (Input.okWide_of_okWideB hok).2, ⟨⟨ChangeSpec.pre_of_preB hpre, hx⟩, sizedMet_of_sizedB hsz⟩, by
    simp only [Assume.holds]
    exact ⟨by simp, by simp, fun _ => Modest.zero, by simp, by simp⟩⟩

end Go.Abs
