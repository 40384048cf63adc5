/- The engine, part 32 of 35: pieces of the interpreter and of its soundness. No condition. -/
import Derived.Test.YtiggbefjndkkmaaGreatDoorE31
namespace Go.Abs

variable {P : Program} {m : Nat}

theorem sane_of {ne : Nat} (hm : P.follows .mixedOrders = true) (hn : (P.funcs.toList.all fun fn => !(fn.body.isSome && (fn.name == "runtime.NumGoroutine"))) = true) (he : (P.funcs[ne]?).isSome = false) : Sane P ne := by
  refine ⟨hm, fun f fn hf hb => ?_, fun h => by rw [he] at h; cases h⟩
  rw [List.all_eq_true] at hn
  have := hn fn (by
    have : P.funcs.toList[f]? = some fn := by rw [Array.getElem?_toList]; exact hf
    exact List.mem_of_getElem? this)
  rw [hb] at this
  simpa using this

/-- Where an operation is of the program's own abi.NoEscape. -/
theorem sane_esc {ne : Nat} (hm : P.follows .mixedOrders = true) (hn : (P.funcs.toList.all fun fn => !(fn.body.isSome && (fn.name == "runtime.NumGoroutine"))) = true) (he : ∀ x w, (callFunc ne #[x]).run P w = .ok (.value x) w) : Sane P ne := by
  refine ⟨hm, fun f fn hf hb => ?_, fun _ => he⟩
  rw [List.all_eq_true] at hn
  have := hn fn (by
    have : P.funcs.toList[f]? = some fn := by rw [Array.getElem?_toList]; exact hf
    exact List.mem_of_getElem? this)
  rw [hb] at this
  simpa using this

theorem ar_anyArgs {W : World} {base : Nat} {ts : Array TypeId} {args : Array Value} (hs : args.size = ts.size) (h : ∀ (j : Nat) t v, ts[j]? = some t → args[j]? = some v → Value.okWide P W .any base t v) {φ : Inj} :
    AR φ (ts.map (anyArg P)) args := by
  refine ⟨by simp [hs], fun i x y hx hy => ?_⟩
  rw [Array.getElem?_map] at hx
  cases ht : ts[i]? with
  | none => rw [ht] at hx; cases hx
  | some t =>
    rw [ht] at hx
    simp only [Option.map_some, Option.some.injEq] at hx
    subst hx
    exact vr_anyArg (h i t y ht hy)

/-- It hands back one bool. -/
def boolRes (P : Program) (fn : Func) : Bool :=
  match fn.resultTypes.toList with
  | [t] => (match P.underlying t with | some .bool => true | _ => false)
  | _ => false

theorem boolRes_of {P : Program} {fn : Func} (h : boolRes P fn = true) : ∃ t, fn.resultTypes = #[t] ∧ P.underlying t = some .bool := by
  unfold boolRes at h
  split at h
  · rename_i t ht
    refine ⟨t, ?_, ?_⟩
    · apply Array.ext'; exact ht
    · split at h
      · rename_i e; exact e
      · cases h
  · cases h

def readB (P : Program) (fn : Func) : Bool := fn.params.toList.all fun t => P.readableRec t && decide (t < P.types.size)

theorem readB_of {P : Program} {fn : Func} (h : readB P fn = true) : ∀ t ∈ fn.params.toList, P.readableRec t = true ∧ t < P.types.size := by
  intro t ht
  have := List.all_eq_true.1 h t ht
  simp only [Bool.and_eq_true, decide_eq_true_eq] at this
  exact this

theorem lifted_true {H : Type} {enc : TypeId × Value → H} {a : Assume} {C : Checked} {os : Os} {f : FuncId} {fn : Func} {s : ChangeSpec} {conds : List PathCond} {apart fresh handsOn : Bool} {X : World → Array Value → Prop} {ne n : Nat}
    (own : ownKnob C.prog.godebug = none) (started : os.Started) (noInit : C.prog.inits.idxOf? f = none) (hfn : C.prog.funcs[f]? = some fn) (hbody : fn.body.isSome = true)
    (hS : Sane C.prog ne) (hgb : globalsB C.prog = true) (hl : laidOutB C.prog = true) (hts : readB C.prog fn = true) (hv : s.vars = []) (hres : boolRes C.prog fn = true)
    (hspec : ∀ ds : List (DataW H), ds.length = fn.params.size → (s.fn H ds).results = [.lit (.bool true)] ∧ (s.fn H ds).args = ds ∧ (s.fn H ds).vars = [])
    (hrun : (acall C.prog ne n C.prog.globals.size f (fn.params.map (anyArg C.prog)) ⟨C.prog.globals.size, .nil⟩).map (·.1) = some (.bool true))
    (witness : ∃ (w : World) (tape : Tape) (i : Input), w.os = os ∧ (w.forCall tape i).Shaped C.prog ∧ i.vars = [] ∧ Input.okWide C.prog (w.forCall tape i) .any w.heap.size f i ∧
      ((s.pre enc C.prog fn conds apart (w.forCall tape i).memory i.args ∧ X (w.forCall tape i).memory i.args) ∧ sizedMet enc C.prog fn (OpenSpec.ofChange s) apart (w.forCall tape i).memory i.args) ∧ a.holds C.prog (lone (Frame.enter C.prog f i.args .normal) [] (w.forCall tape i))) :
    ReturnsInHanded a C os f .any (fun w args => (s.pre enc C.prog fn conds apart w args ∧ X w args) ∧ sizedMet enc C.prog fn (OpenSpec.ofChange s) apart w args) (s.post enc C.prog fn apart fresh handsOn false) := by
  obtain ⟨c, hbody⟩ := Option.isSome_iff_exists.1 hbody
  obtain ⟨tb, hres, hbool⟩ := boolRes_of hres
  have hts := readB_of hts
  refine returnsInHanded_of_calls own started noInit witness ?_
  intro w tape i _ hsh _ hok hpre hholds
  obtain ⟨_, _, _, fn', hfn', _, _, _, hsz, hval⟩ := hok
  have e : fn' = fn := Option.some.inj (hfn'.symm.trans hfn)
  subst e
  obtain ⟨⟨⟨ds, gs, before, hw, hc⟩, _⟩, _⟩ := hpre
  have hw' := DataW.Whole.of_heap (w' := w.forCall tape i) (by rfl) hw
  have hlen : ds.length = fn'.params.size := by
    obtain ⟨p, q, hA, _⟩ := hw'
    have key : ∀ (ts : List TypeId) (vs : List Value) (ds : List (DataW H)) (ps : List MemPlace), DataW.TrodAll enc C.prog (w.forCall tape i) 0 (fun _ => true) true ts vs ds ps → ds.length = ts.length := by
      intro ts
      induction ts with
      | nil => intro vs ds ps h; obtain ⟨_, rfl, _⟩ := ChangeShapes.trodAll_nil h; rfl
      | cons t ts ih => intro vs ds ps h; obtain ⟨v, vs', d, ds', p, q, _, rfl, _, _, h2⟩ := ChangeShapes.trodAll_cons h; simp [ih _ _ _ h2]
    simpa using key _ _ _ _ hA
  refine (true_of_run hS hfn hbody hrun (ar_anyArgs hsz hval) (globals_there hgb hsh)).mono fun e W' ⟨he, hb⟩ => ?_
  subst he
  exact ChangeSpec.post_blind (law_post hl hts hv hres hbool hw' (hspec ds hlen) hb)

end Go.Abs
