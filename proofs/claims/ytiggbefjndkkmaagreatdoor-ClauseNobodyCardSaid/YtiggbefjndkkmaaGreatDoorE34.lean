/- The engine, part 34 of 35: pieces of the interpreter and of its soundness. No condition. -/
import Derived.Test.YtiggbefjndkkmaaGreatDoorE33
import Derived.Lib.LaidTab
namespace Go.Abs

variable {P : Program} {m : Nat}

/-! ### A start with tables: package-level variables whose cells are known, never written -/

abbrev Tab := Nat × TypeId × Array Value

def tabBlk (x : Tab) : Blk := ⟨.cells x.2.2 x.2.1 (0, 0), false, 1, true⟩

def startH (P : Program) (tabs : List Tab) : AH := tabs.foldl (fun H x => H.put x.1 (tabBlk x)) ⟨P.globals.size, .nil⟩

def tabsB (P : Program) (tabs : List Tab) : Bool := tabs.all fun x => Nat.blt x.1 P.globals.size && x.2.2.all (flat depth)

theorem startH_fold : ∀ (tabs : List Tab) (H : AH), (tabs.foldl (fun H x => H.put x.1 (tabBlk x)) H).next = H.next ∧
    ∀ id b, (tabs.foldl (fun H x => H.put x.1 (tabBlk x)) H).get id = some b → H.get id = some b ∨ ∃ x ∈ tabs, x.1 = id ∧ b = tabBlk x := by
  intro tabs
  induction tabs with
  | nil => intro H; exact ⟨rfl, fun id b h => .inl h⟩
  | cons x tabs ih =>
    intro H
    obtain ⟨h1, h2⟩ := ih (H.put x.1 (tabBlk x))
    refine ⟨h1, fun id b hb => ?_⟩
    rcases h2 id b hb with h | ⟨y, hy, h⟩
    · by_cases e : id = x.1
      · subst e
        rw [AH.get_put_same] at h
        cases h
        exact .inr ⟨x, by simp, rfl, rfl⟩
      · rw [AH.get_put_other _ _ e] at h
        exact .inl h
    · exact .inr ⟨y, by simp [hy], h⟩

theorem startH_get {tabs : List Tab} {id : Nat} {b : Blk} (h : (startH P tabs).get id = some b) : ∃ x ∈ tabs, x.1 = id ∧ b = tabBlk x := by
  rcases (startH_fold tabs ⟨P.globals.size, .nil⟩).2 id b h with h | h
  · cases h
  · exact h

theorem startH_next (tabs : List Tab) : (startH P tabs).next = P.globals.size := (startH_fold tabs ⟨P.globals.size, .nil⟩).1

theorem inv_tabs {tabs : List Tab} {W : World} (h : P.globals.size ≤ W.heap.size) (hB : tabsB P tabs = true) (ht : ∀ x ∈ tabs, ∃ fr, W.heap[x.1]? = some (.cells x.2.2 x.2.1 fr)) : Inv (φg P) (startH P tabs) W := by
  unfold tabsB at hB
  rw [List.all_eq_true] at hB
  refine ⟨fun id l hl => ?_, fun id b hb => ?_, fun id id' b b' l l' hb _ _ hr => ?_⟩
  · rw [startH_next]; exact (inv_start h).dom id l hl
  · obtain ⟨x, hx, rfl, rfl⟩ := startH_get hb
    have := hB x hx
    simp only [Bool.and_eq_true] at this
    obtain ⟨h1, h2⟩ := this
    have h1 := blt_lt h1
    obtain ⟨fr, hfr⟩ := ht x hx
    refine ⟨⟨x.1, 0, 0, 0⟩, by simp [φg, h1], x.2.2, x.2.1, fr, hfr, ⟨fun i v hv => ⟨v, by simpa using hv, ?_⟩, Nat.zero_le _, fun h => (by cases h), fun _ => ⟨rfl, rfl⟩, fun h => (by cases h), rfl⟩⟩
    rw [Array.all_eq_true_iff_forall_mem] at h2
    exact flat_refl depth (h2 v (Array.mem_of_getElem? hv))
  · obtain ⟨x, hx, rfl, rfl⟩ := startH_get hb
    cases hr

open Go.RowKit in
theorem true_of_run_tabs {ne : Nat} (hS : Sane P ne) {n : Nat} {f : Nat} {fn : Func} {c : Code} (hf : P.funcs[f]? = some fn) (hb : fn.body = some c) {args args' : Array Value} {tabs : List Tab}
    (h : (acall P ne n P.globals.size f args (startH P tabs)).map (·.1) = some (.bool true)) (ha : AR (φg P) args args') {W : World} (hW : P.globals.size ≤ W.heap.size) (hB : tabsB P tabs = true)
    (ht : ∀ x ∈ tabs, ∃ fr, W.heap[x.1]? = some (.cells x.2.2 x.2.1 fr)) : Calls P f args' W fun e W' => e = .returned (.bool true) ∧ Below W.heap.size W W' := by
  cases hr : acall P ne n P.globals.size f args (startH P tabs) with
  | none => rw [hr] at h; cases h
  | some r =>
    obtain ⟨v, H'⟩ := r
    rw [hr] at h
    simp only [Option.map_some, Option.some.injEq] at h
    subst h
    refine (acall_ok hS hf hb hr glob_φg ha (inv_tabs hW hB ht)).mono fun e W' hpost => ?_
    obtain ⟨φ', v', rfl, hv, _, hst⟩ := hpost
    cases hv
    refine ⟨rfl, hst.os, hst.tape, hst.output, hst.size, fun k hk => hst.keep k hk fun id l hm hs _ => ?_⟩
    obtain ⟨b, hb⟩ := Option.isSome_iff_exists.1 hs
    obtain ⟨x, hx, rfl, _⟩ := startH_get hb
    unfold tabsB at hB
    rw [List.all_eq_true] at hB
    have := hB x hx
    simp only [Bool.and_eq_true] at this
    have := blt_lt this.1
    omega

theorem tab_there {W : World} {name : String} {g : Nat} {e : TypeId} {k : IntKind} {zs : List Int} (hg : P.globalNamed name = some g) (hlt : g < P.globals.size)
    (hrow : (((begin P (fun _ _ => 0) default).world.heap[g]?).bind Obj.row?).map (·.2) = some e) (hsh : W.ShapedOpen P) (ht : Lib.TabIs P W name k zs) :
    W.heap[g]? = some (.cells (zs.map fun z => Value.int k z).toArray e (0, 0)) := by
  cases hr : ((begin P (fun _ _ => 0) default).world.heap[g]?).bind Obj.row? with
  | none => rw [hr] at hrow; cases hrow
  | some zt =>
    obtain ⟨z, t⟩ := zt
    rw [hr] at hrow
    simp only [Option.map_some, Option.some.injEq] at hrow
    subst hrow
    obtain ⟨cs, h1, _, _⟩ := hsh.1 g z t hlt hr
    unfold Lib.TabIs World.var? at ht
    rw [hg] at ht
    simp only [Option.bind_some, h1] at ht
    simp only [Option.some.injEq] at ht
    rw [h1, ht]

theorem lifted_tabs {H : Type} {enc : TypeId × Value → H} {a : Assume} {C : Checked} {os : Os} {f : FuncId} {fn : Func} {s : ChangeSpec} {conds : List PathCond} {apart fresh handsOn : Bool} {X : World → Array Value → Prop} {ne n : Nat} {tabs : List Tab}
    (own : ownKnob C.prog.godebug = none) (started : os.Started) (noInit : C.prog.inits.idxOf? f = none) (hfn : C.prog.funcs[f]? = some fn) (hbody : fn.body.isSome = true)
    (hS : Sane C.prog ne) (hgb : globalsB C.prog = true) (hl : laidOutB C.prog = true) (hts : readB C.prog fn = true) (hv : s.vars = []) (hres : boolRes C.prog fn = true)
    (hspec : ∀ ds : List (DataW H), ds.length = fn.params.size → (s.fn H ds).results = [.lit (.bool true)] ∧ (s.fn H ds).args = ds ∧ (s.fn H ds).vars = [])
    (hB : tabsB C.prog tabs = true) (hX : ∀ (w w' : World) (args : Array Value), w.heap = w'.heap → X w args → X w' args) (ht : ∀ W args, X W args → W.ShapedOpen C.prog → ∀ x ∈ tabs, ∃ fr, W.heap[x.1]? = some (.cells x.2.2 x.2.1 fr))
    (hrun : (acall C.prog ne n C.prog.globals.size f (fn.params.map (anyArg C.prog)) (startH C.prog tabs)).map (·.1) = some (.bool true))
    (witness : ∃ (w : World) (tape : Tape) (i : Input), w.os = os ∧ (w.forCall tape i).Shaped C.prog ∧ i.vars = [] ∧ Input.okWide C.prog (w.forCall tape i) .any w.heap.size f i ∧
      ((s.pre enc C.prog fn conds apart (w.forCall tape i).memory i.args ∧ X (w.forCall tape i).memory i.args) ∧ sizedMet enc C.prog fn (OpenSpec.ofChange s) apart (w.forCall tape i).memory i.args) ∧ a.holds C.prog (lone (Frame.enter C.prog f i.args .normal) [] (w.forCall tape i))) :
    ReturnsInHanded a C os f .any (fun w args => (s.pre enc C.prog fn conds apart w args ∧ X w args) ∧ sizedMet enc C.prog fn (OpenSpec.ofChange s) apart w args) (s.post enc C.prog fn apart fresh handsOn false) := by
  obtain ⟨c, hbody⟩ := Option.isSome_iff_exists.1 hbody
  obtain ⟨tb, hres, hbool⟩ := boolRes_of hres
  have hts := readB_of hts
  refine returnsInHanded_of_calls own started noInit witness ?_
  intro w tape i _ hsh _ hok hpre hholds
  obtain ⟨_, _, _, fn', hfn', _, _, _, hsz, hval⟩ := hok
  have e : fn' = fn := Option.some.inj (hfn'.symm.trans hfn)
  subst e
  obtain ⟨⟨⟨ds, gs, before, hw, hc⟩, hx⟩, _⟩ := hpre
  have hw' := DataW.Whole.of_heap (w' := w.forCall tape i) (by rfl) hw
  have hx' := hX _ (w.forCall tape i) _ (by rfl) hx
  have hlen : ds.length = fn'.params.size := by
    obtain ⟨p, q, hA, _⟩ := hw'
    have key : ∀ (ts : List TypeId) (vs : List Value) (ds : List (DataW H)) (ps : List MemPlace), DataW.TrodAll enc C.prog (w.forCall tape i) 0 (fun _ => true) true ts vs ds ps → ds.length = ts.length := by
      intro ts
      induction ts with
      | nil => intro vs ds ps h; obtain ⟨_, rfl, _⟩ := ChangeShapes.trodAll_nil h; rfl
      | cons t ts ih => intro vs ds ps h; obtain ⟨v, vs', d, ds', p, q, _, rfl, _, _, h2⟩ := ChangeShapes.trodAll_cons h; simp [ih _ _ _ h2]
    simpa using key _ _ _ _ hA
  refine (true_of_run_tabs hS hfn hbody hrun (ar_anyArgs hsz hval) (globals_there hgb hsh) hB (ht _ _ hx' hsh)).mono fun e W' ⟨he, hb⟩ => ?_
  subst he
  exact ChangeSpec.post_blind (law_post hl hts hv hres hbool hw' (hspec ds hlen) hb)

end Go.Abs
