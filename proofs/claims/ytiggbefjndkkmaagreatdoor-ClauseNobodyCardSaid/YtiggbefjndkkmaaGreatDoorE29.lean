/- The engine, part 29 of 35: pieces of the interpreter and of its soundness. No condition. -/
import Derived.Test.YtiggbefjndkkmaaGreatDoorE28
namespace Go.Abs

variable {P : Program} {m : Nat}

section
variable {ne : Nat} {ih : Ex} {n : Nat} {ops : Array Oper} {bs : List Nat} {D : Nat → DSt} {ss0 : Sl} {H0 : AH} {φ0 : Inj} {w0 : World}

theorem Glob.restr {φ0 φ : Inj} {k N : Nat} (h : Glob P φ0) (hle : φ0.le φ) (hd : ∀ id l, φ0 id = some l → id < k) (hk : k ≤ N) : Glob P (restr φ N) := by
  intro g hg
  obtain ⟨l, a, b, c⟩ := h g hg
  exact ⟨l, restr_of (Nat.lt_of_lt_of_le (hd _ _ a) hk) (hle _ _ a), b, c⟩

theorem restr_sub {φ : Inj} (N : Nat) : (restr φ N).le φ := fun id l h => (restr_some h).2

theorem step_drawn (hS : Sane P ne) (hG : Good P ih) (pl' : Plan P ne ih m n ops bs D ss0 H0) (hg : Glob P φ0) (hd0 : ∀ id l, φ0 id = some l → id < H0.next)
    {la : Array Bool} (hc : JC ops bs la) {φ : Inj} {g : Nat → Option Blk} {p : Nat} {w : World} {a : Act} (h : JH m ops bs D φ0 H0 w0 la φ g p w) (hs : JS ops D n la φ a) {i : Nat} (r : Rdy ops bs la i) {Q : Exit → Act → World → Prop} :
    wpOp P ops Q i (fun a' w' => ∃ φ' g' p', JH m ops bs D φ0 H0 w0 (la.setIfInBounds i true) φ' g' p' w' ∧ JS ops D n (la.setIfInBounds i true) φ' a') a w := by
  obtain ⟨o, ho, ho'⟩ := op_at r.lt
  have hread : ∀ t ∈ namesOf ops o, VR (restr φ (D i).cnt) (((D i).ss.get t).getD undef) (a.tmps.getD t undef) := fun t ht => hs.read pl' hc r ho ht
  have h0i := pl'.cnt_mono (Nat.zero_le i) (Nat.le_of_lt r.lt)
  rw [pl'.start] at h0i
  simp only at h0i
  unfold wpOp
  rw [ho']
  simp only
  cases pl'.seq i o ho with
  | pass hw hp hcn hG' hpe ha hgs hpl =>
    rw [wanted_names hread hw]
    simp only [Bool.false_eq_true, if_false]
    refine ⟨φ, g, p, h.still hc r (by unfold pl; rw [hpl]; simp) (by unfold pl; rw [hpl]; simp) h.inv (StepG.refl _ _ _ _ _), hs.next pl' hc (Inj.le_refl φ) r ho hp (vr_undef _)⟩
  | quiet v hw hx hq hp hcn hG' hpe ha hgs hpl =>
    rw [wanted_names hread hw]
    simp only [if_true]
    left
    have hst := pl'.steady i o ho
    have hpl2 : pl D i = ⟨.quiet, (D i).ss, (D i).cnt, v, (D i).cnt⟩ := by unfold pl; rw [hpl]; rfl
    rw [hpl2] at hst
    unfold steady at hst
    simp only [Bool.and_eq_true] at hst
    obtain ⟨hun, hall⟩ := hst
    obtain ⟨c1, c2, c3⟩ := pl'.at_cut h.ple
    have hone := all_zipIdx hall c1
    simp only at hone
    have hfit : fits bs (D ops.size).acts.reverse i (D p).acts.length = true := by
      unfold fits
      rw [c2]
      simp only [Bool.and_eq_true, List.all_eq_true, Bool.not_eq_true']
      refine ⟨fun b hb => ?_, fun b hb => ?_⟩
      · rw [List.mem_reverse, pl'.acts h.ple] at hb
        cases hpre : (Nat.blt i b && pre bs b i) with
        | false => rfl
        | true =>
          exfalso
          simp only [Bool.and_eq_true] at hpre
          exact r.no (hc.closed b i ((h.cut b hb.2).2 hb.1) (blt_lt hpre.1) hpre.2)
      · obtain ⟨hpb, hAb⟩ := c3 b hb
        cases hpre : (Nat.blt b i && pre bs i b) with
        | false => rfl
        | true =>
          exfalso
          simp only [Bool.and_eq_true] at hpre
          have := (h.cut b hAb).1 (r.all b (blt_lt hpre.1) hpre.2)
          omega
    rw [hfit] at hone
    simp only [Bool.not_true, Bool.false_or] at hone
    cases hr : runOp P ne ih m o (evalA (D i).ss) { (D p).G with next := max (D i).cnt (D p).G.next } with
    | none => rw [hr] at hone; cases hone
    | some vh =>
      obtain ⟨v2, H2⟩ := vh
      rw [hr] at hone
      simp only at hone
      have e1 := veq_eq _ hone
      subst e1
      have e2 := quiet_same hq hr
      subst e2
      have hgn := pl'.gnext h.ple
      have hcp := pl'.cnt_mono h.ple (Nat.le_refl _)
      have hci := pl'.cnt_mono (Nat.le_of_lt r.lt) (Nat.le_refl _)
      have hsub : ∀ id b, AH.get { (D p).G with next := max (D i).cnt (D p).G.next } id = some b → g id = some b ∧ id < max (D i).cnt (D p).G.next := by
        intro id b hb
        have hb : (D p).G.get id = some b := hb
        have := h.gids id b hb
        exact ⟨h.g_of_G hb, by omega⟩
      have hinv : Inv (restr φ (max (D i).cnt (D p).G.next)) { (D p).G with next := max (D i).cnt (D p).G.next } w :=
        h.inv.part (Hin := { (D p).G with next := max (D i).cnt (D p).G.next }) hsub fun id b hb => (h.undG id b hb).mono (Nat.le_max_right _ _)
      have hlei : (restr φ (D i).cnt).le (restr φ (max (D i).cnt (D p).G.next)) := restr_le _ _ (Nat.le_max_left _ _) (Inj.le_refl φ)
      have hgl : Glob P (restr φ (D i).cnt) := hg.restr h.step.ext hd0 h0i
      refine runOp_ok hS hG hr (hgl.mono hlei) (fun x hxm => (eval_names hread hgl hx x hxm).mono hlei) hinv fun φ' v' w' q1 q2 q3 => ?_
      obtain ⟨f1, f2, f3⟩ := quiet_frame (lo := H0.next) h.inv hsub (by show max _ _ ≤ _; omega) (by show _ ≤ max _ _; omega)
        (ActIn.excl h (Hin := { (D p).G with next := max (D i).cnt (D p).G.next }) (fun id b hb => ⟨b, hb⟩) hsub) q2 q3
      refine ⟨φ, g, p, h.still hc r (by unfold pl; rw [hpl]; simp) (by unfold pl; rw [hpl]; simp) f2 f3, hs.next pl' hc (Inj.le_refl φ) r ho hp ?_⟩
      rw [hcn]
      refine unders_under _ hun φ v' ?_
      rw [f1] at q1
      exact q1.mono (restr_sub _)
  | new v H b hw hx hr hb hn hm hp hcn hG' hpe ha hgs hpl =>
    rw [wanted_names hread hw]
    simp only [if_true]
    left
    have hgl : Glob P (restr φ (D i).cnt) := hg.restr h.step.ext hd0 h0i
    have hci := pl'.cnt_mono (Nat.le_of_lt r.lt) (Nat.le_refl _)
    have hinv : Inv (restr φ (D i).cnt) ⟨(D i).cnt, .nil⟩ w := h.inv.part (Hin := ⟨(D i).cnt, .nil⟩) (fun id b hb => by cases hb) (fun id b hb => by cases hb)
    have hN : IsNew ops D i b := ⟨r.lt, by unfold pl; rw [hpl]; rfl⟩
    refine wp_of_opOK (aOp_ok hinv (fun x hxm => eval_names hread hgl hx x hxm) hr) fun φ' v' w' q1 q2 q3 => ?_
    obtain ⟨ψ, g', k1, k2, k3⟩ := h.new pl' hc r hN hb hn q2 q3
    refine ⟨ψ, g', p, k3, hs.next pl' hc k1 r ho hp ?_⟩
    refine underV_of (fun id l hl => ?_) q1 ψ v' (q1.mono k2)
    have := (q2.dom id l hl).1
    omega
  | act v hw hx hch hr hle hp hcn hpe ha hgs hpl =>
    rw [wanted_names hread hw]
    simp only [if_true]
    left
    have hA : IsAct ops D i := ⟨r.lt, by unfold pl; rw [hpl]; rfl⟩
    have x := h.actIn pl' hc r hA hch
    have hnx := x.next
    have hgl : Glob P (restr φ (D i).cnt) := hg.restr h.step.ext hd0 h0i
    have hinv : Inv (restr φ (Hact bs D i).next) (Hact bs D i) w := h.inv.part (x.sub pl' h r) (x.und pl' h r)
    rw [← hnx] at hgl hread
    refine runOp_ok hS hG hr hgl (fun y hym => eval_names hread hgl hx y hym) hinv fun φ' v' w' q1 q2 q3 => ?_
    obtain ⟨ψ, g', k1, k2, k3⟩ := h.act pl' hc r hA x hcn q2 q3
    refine ⟨ψ, g', i + 1, k3, hs.next pl' hc k1 r ho hp ?_⟩
    refine underV_of (fun id l hl => ?_) q1 ψ v' (q1.mono k2)
    have := (q2.dom id l hl).1
    omega

theorem count_false (la : Array Bool) (i : Nat) (hi : i < la.size) (h : ¬ LL la i) : (la.setIfInBounds i true).toList.count false + 1 = la.toList.count false := by
  unfold LL at h
  rw [Array.getD_eq_getD_getElem?, Array.getElem?_eq_getElem hi, Option.getD_some] at h
  have h : la[i] = false := by simpa using h
  have hl : i < la.toList.length := by simpa using hi
  rw [Array.toList_setIfInBounds, List.count_set hl]
  have e : la.toList[i] = false := by simpa using h
  have hpos : 0 < la.toList.count false := by
    rw [List.count_pos_iff]
    exact e ▸ List.getElem_mem hl
  simp only [e]
  have e2 : ((true : Bool) == false) = false := rfl
  have e3 : ((false : Bool) == false) = true := rfl
  rw [e2, e3]
  simp only [if_true, Bool.false_eq_true, if_false]
  omega

theorem wpAny_drawn (hS : Sane P ne) (hG : Good P ih) (pl' : Plan P ne ih m n ops bs D ss0 H0) (hg : Glob P φ0) (hd0 : ∀ id l, φ0 id = some l → id < H0.next) {Q : Exit → Act → World → Prop}
    (hQ : ∀ (la : Array Bool) φ g p a w, (∀ i, i < ops.size → LL la i) → JH m ops bs D φ0 H0 w0 la φ g p w → JS ops D n la φ a → Q .normal a w) :
    ∀ (fuel : Nat) (la : Array Bool) (φ : Inj) (g : Nat → Option Blk) (p : Nat) (a : Act) (w : World), la.toList.count false = fuel → JC ops bs la → JH m ops bs D φ0 H0 w0 la φ g p w → JS ops D n la φ a → wpAny P .any ops Q fuel la a w := by
  intro fuel
  induction fuel with
  | zero =>
    intro la φ g p a w hcount hc h hs
    have hr : Region.ready .any ops la = [] := by
      rw [List.eq_nil_iff_forall_not_mem]
      intro i hi
      have r := rdy_of pl'.closed hc hi
      have := count_false la i (by rw [hc.size]; exact r.lt) r.no
      omega
    exact ⟨hr, hQ la φ g p a w (all_listed pl'.edges hc hr) h hs⟩
  | succ fuel ihf =>
    intro la φ g p a w hcount hc h hs
    refine ⟨fun hr => hQ la φ g p a w (all_listed pl'.edges hc hr) h hs, fun i hi => ?_⟩
    have r := rdy_of pl'.closed hc hi
    refine wpOp_mono (fun a' w' hK => ?_) (step_drawn hS hG pl' hg hd0 hc h hs r)
    obtain ⟨φ', g', p', h', hs'⟩ := hK
    have := count_false la i (by rw [hc.size]; exact r.lt) r.no
    exact ihf _ φ' g' p' a' w' (by omega) (hc.next r) h' hs'

end

theorem drawnA_ok {ne : Nat} {ih : Ex} (hS : Sane P ne) (hG : Good P ih) {ops : Array Oper} {st st' : ASt} (hd : drawnA P ne ih m ops st = some st') {φ : Inj} {w : World} {a : Act} (hg : Glob P φ) (hs : SR φ st.ss st.n a) (hi : Inv φ st.H w)
    {id : Nat} {Q : Exit → Act → World → Prop} (hn : ∀ φ' a' w', SR φ' st'.ss st'.n a' → Inv φ' st'.H w' → Step m φ st.H w φ' st'.H w' → Q .normal a' w') : (Code.region id ops true).wp P Q a w := by
  obtain ⟨D, pl', rfl⟩ := drawnA_plan hd
  have hD0 : (D 0).cnt = st.H.next := by rw [pl'.start]
  have hS0 : (D 0).ss = st.ss := by rw [pl'.start]
  have hLL : ∀ i, i < ops.size → ¬ LL (Array.replicate ops.size false) i := by
    intro i h1 h2
    unfold LL at h2
    rw [Array.getD_eq_getD_getElem?, Array.getElem?_replicate] at h2
    rw [if_pos h1] at h2
    cases h2
  have hw' : Inv φ st.H { w with drawn := w.drawn + 1 } := ⟨hi.dom, hi.obj, hi.sep⟩
  refine wp_region_any hS.mixed (wpAny_drawn (φ0 := φ) (w0 := w) hS hG pl' hg (fun id l h => (hi.dom id l h).1) ?_ _ _ φ st.H.get 0 a _ (by simp) ⟨by simp, fun i j h => ?_⟩ (JH.init pl' hLL hi.g hw' ⟨Inj.le_refl _, fun id l h h' => (by rw [h] at h'; cases h'), fun _ h => .inl h, Nat.le_refl _, fun _ _ _ => rfl, rfl, rfl, rfl⟩) ?_)
  · intro la φ' g p a' w' hall h hs'
    have hN : ∀ i, i ≤ ops.size → (D i).cnt ≤ (D ops.size).cnt := fun i hi => pl'.cnt_mono hi (Nat.le_refl _)
    have hnoact : ∀ i, p ≤ i → i < ops.size → ¬ IsAct ops D i := fun i h1 h2 hA => by
      have := (h.cut i hA).1 (hall i h2)
      omega
    have hGe := pl'.g_same h.ple (Nat.le_refl _) hnoact
    have hmem := pl'.pend (Nat.le_refl ops.size)
    have hNP : ∀ j, NP ops D (befores ops.toList) j p ↔ NP ops D (befores ops.toList) j ops.size := by
      intro j
      constructor
      · intro hP b hb h1 h2
        exact hP b hb h1 ((h.cut b hb).1 (hall b hb.1))
      · intro hP b hb h1 h2
        exact hP b hb h1 hb.1
    have huniq : ∀ q q2, q ∈ (D ops.size).pend → q2 ∈ (D ops.size).pend → q2.2.1 = q.2.1 → q2 = q := by
      intro q q2 hq hq2 he
      obtain ⟨h1, h2, h3, h4⟩ := (hmem q).1 hq
      obtain ⟨k1, k2, k3, k4⟩ := (hmem q2).1 hq2
      have e := pl'.new_eq k2 h2 (by rw [← k3, he, h3])
      obtain ⟨a1, a2, a3⟩ := q
      obtain ⟨b1, b2, b3⟩ := q2
      simp only at *
      subst e
      have := k2.2.symm.trans h2.2
      cases this
      rw [he]
    have hget : ∀ id, (putAll (D ops.size).pend { (D ops.size).G with next := (D ops.size).cnt }).get id = g id := by
      intro id
      by_cases hex : ∃ q ∈ (D ops.size).pend, q.2.1 = id
      · obtain ⟨q, hq, he⟩ := hex
        obtain ⟨h1, h2, h3, h4⟩ := (hmem q).1 hq
        have := putAll_in (D ops.size).pend { (D ops.size).G with next := (D ops.size).cnt } q hq (fun q2 hq2 he => huniq _ q2 hq hq2 he)
        rw [he] at this
        rw [this, ← he, h3]
        exact (h.pnd q.1 q.2.2 h2 (hall _ h1) ((hNP _).2 h4)).symm
      · have := putAll_out (D ops.size).pend { (D ops.size).G with next := (D ops.size).cnt } id (fun q hq he => hex ⟨q, hq, he⟩)
        rw [this]
        have := h.rest id fun j c h1 h2 h3 e => hex ⟨(j, (D j).cnt, c), (hmem _).2 ⟨h1.1, h1, rfl, (hNP _).1 h3⟩, e.symm⟩
        rw [this, ← hGe]; rfl
    have hgf : (putAll (D ops.size).pend { (D ops.size).G with next := (D ops.size).cnt }).get = g := funext hget
    have hnx : (putAll (D ops.size).pend { (D ops.size).G with next := (D ops.size).cnt }).next = (D ops.size).cnt := putAll_next _ _
    have h0 := hN 0 (Nat.zero_le _)
    refine hn φ' a' w' ⟨fun t => ?_, hs'.size, hs'.defers⟩ ⟨?_, ?_, ?_⟩ ⟨?_, h.step.ext, h.step.new, ?_, h.step.size, h.step.keep, h.step.os, h.step.tape, h.step.output⟩
    · obtain ⟨e, he, hw, hsm, hv⟩ := hs'.slot t
      have : (D ops.size).ss.get t = (D e).ss.get t := pl'.ss_same he (Nat.le_refl _) fun k q h1 h2 hq hd => by
        have := hw k q hq (hall k h2) hd
        omega
      show VR φ' (((D ops.size).ss.get t).getD undef) _
      rw [this]
      exact hv.mono (restr_sub _)
    · show ∀ id l, φ' id = some l → id < (putAll _ _).next ∧ _
      rw [hnx]; exact h.inv.dom
    · show ∀ id b, (putAll _ _).get id = some b → _
      rw [hgf]; exact h.inv.obj
    · show ∀ id id' b b' l l', (putAll _ _).get id = some b → (putAll _ _).get id' = some b' → _
      rw [hgf]; exact h.inv.sep
    · show st.H.next ≤ (putAll _ _).next
      rw [hnx]; omega
    · show ∀ id, ((putAll _ _).get id).isSome = true → _
      rw [hgf]; exact h.step.alv
  · by_cases hlt : i < ops.size
    · exact absurd h (hLL i hlt)
    · unfold LL at h
      rw [Array.getD_eq_getD_getElem?, Array.getElem?_replicate, if_neg hlt] at h
      cases h
  · refine ⟨fun t => ⟨0, Nat.zero_le _, fun j q hj hL => absurd hL (hLL j (lt_of_at hj)), .inl rfl, ?_⟩, hs.size, hs.defers⟩
    rw [hD0, hS0]
    have := hs.slot t
    refine underV_of (fun id l hl => (hi.dom id l hl).1) this φ _ this

end Go.Abs
