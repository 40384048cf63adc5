/- The engine, part 27 of 35: pieces of the interpreter and of its soundness. No condition. -/
import Derived.Test.YtiggbefjndkkmaaGreatDoorE26
namespace Go.Abs

variable {P : Program} {m : Nat}

def NP (ops : Array Oper) (D : Nat → DSt) (bs : List Nat) (i p : Nat) : Prop := ∀ a, IsAct ops D a → i < a → a < p → pre bs a i = false

structure JH (m : Nat) (ops : Array Oper) (bs : List Nat) (D : Nat → DSt) (φ0 : Inj) (H0 : AH) (w0 : World) (la : Array Bool) (φ : Inj) (g : Nat → Option Blk) (p : Nat) (w : World) : Prop where
  ini : InvG φ0 H0.get H0.next w0
  ple : p ≤ ops.size
  cut : ∀ i, IsAct ops D i → (LL la i ↔ i < p)
  dom : ∀ id l, φ id = some l → id < H0.next ∨ ∃ i, i < ops.size ∧ LL la i ∧ (D i).cnt ≤ id ∧ id < (D (i + 1)).cnt
  inv : InvG φ g (D ops.size).cnt w
  step : StepG m H0.next φ0 H0.get w0 φ g w
  pnd : ∀ i b, IsNew ops D i b → LL la i → NP ops D bs i p → g (D i).cnt = some b
  rest : ∀ id, (∀ i b, IsNew ops D i b → LL la i → NP ops D bs i p → id ≠ (D i).cnt) → g id = (D p).G.get id
  fresh : ∀ i b, IsNew ops D i b → NP ops D bs i p → (D p).G.get (D i).cnt = none
  gids : ∀ id b, (D p).G.get id = some b → id < (D p).G.next
  undG : ∀ id b, (D p).G.get id = some b → UnderB (D p).G.next b
  undP : ∀ i b, IsNew ops D i b → LL la i → UnderB ((D i).cnt + 1) b
  excl : ∀ i b, IsNew ops D i b → LL la i → NP ops D bs i p → ∀ id2 l l2, id2 ≠ (D i).cnt → (g id2).isSome = true → φ (D i).cnt = some l → φ id2 = some l2 → l2.blk ≠ l.blk

section
variable {ne : Nat} {ih : Ex} {n : Nat} {ops : Array Oper} {bs : List Nat} {D : Nat → DSt} {ss0 : Sl} {H0 : AH} {φ0 : Inj} {w0 : World}

theorem JH.init (p : Plan P ne ih m n ops bs D ss0 H0) {la : Array Bool} (hla : ∀ i, i < ops.size → ¬ LL la i) {φ : Inj} {w : World} (hini : InvG φ0 H0.get H0.next w0) (hi : Inv φ H0 w) (hw0 : StepG m H0.next φ0 H0.get w0 φ H0.get w) : JH m ops bs D φ0 H0 w0 la φ H0.get 0 w := by
  have hG : (D 0).G = H0 := by rw [p.start]
  have hc0 : (D 0).cnt = H0.next := by rw [p.start]
  refine ⟨hini, Nat.zero_le _, fun i hA => ⟨fun h => absurd h (hla i hA.1), fun h => by omega⟩, fun id l hl => .inl (hi.dom id l hl).1, ⟨fun id l hl => ?_, hi.obj, hi.sep⟩, hw0, fun i b hN hL _ => absurd hL (hla i hN.1), fun id _ => by rw [hG], ?_, ?_, ?_,
    fun i b hN hL => absurd hL (hla i hN.1), fun i b hN hL => absurd hL (hla i hN.1)⟩
  · have h1 := hi.dom id l hl
    have h2 := p.cnt_mono (Nat.zero_le _) (Nat.le_refl ops.size)
    rw [hc0] at h2
    exact ⟨by omega, h1.2⟩
  · intro i b hN _
    rw [hG]
    cases hq : H0.get (D i).cnt with
    | none => rfl
    | some b' =>
      obtain ⟨l, h1, _⟩ := hi.obj _ _ hq
      have h2 := (hi.dom _ _ h1).1
      have h3 := p.cnt_mono (Nat.zero_le i) (Nat.le_of_lt hN.1)
      omega
  · intro id b hb
    rw [hG] at hb ⊢
    obtain ⟨l, h1, _⟩ := hi.obj _ _ hb
    exact (hi.dom _ _ h1).1
  · intro id b hb
    rw [hG] at hb ⊢
    obtain ⟨l, h1, h2⟩ := hi.obj _ _ hb
    exact underB_of (fun id l h => (hi.dom id l h).1) h2

theorem JH.g_of_G {la : Array Bool} {φ : Inj} {g : Nat → Option Blk} {p : Nat} {w : World} (h : JH m ops bs D φ0 H0 w0 la φ g p w) {id : Nat} {b : Blk} (hb : (D p).G.get id = some b) : g id = some b := by
  rw [h.rest id fun i c hN hL hP e => ?_]
  · exact hb
  · subst e
    rw [h.fresh i c hN hP] at hb; cases hb

theorem JH.free (pl : Plan P ne ih m n ops bs D ss0 H0) {la : Array Bool} {φ : Inj} {g : Nat → Option Blk} {p : Nat} {w : World} (h : JH m ops bs D φ0 H0 w0 la φ g p w) {i : Nat} (r : Rdy ops bs la i) {id : Nat} (h1 : (D i).cnt ≤ id) (h2 : id < (D (i + 1)).cnt) : φ id = none := by
  cases hq : φ id with
  | none => rfl
  | some l =>
    exfalso
    rcases h.dom id l hq with h3 | ⟨j, hj, hL, h3, h4⟩
    · have := pl.cnt_mono (Nat.zero_le i) (Nat.le_of_lt r.lt)
      rw [pl.start] at this
      simp only at this
      omega
    · have hne : j ≠ i := fun e => r.no (e ▸ hL)
      by_cases hlt : j < i
      · have := pl.cnt_mono (show j + 1 ≤ i by omega) (Nat.le_of_lt r.lt)
        omega
      · have := pl.cnt_mono (show i + 1 ≤ j by omega) (Nat.le_of_lt hj)
        omega

theorem JH.still {la : Array Bool} (hc : JC ops bs la) {φ : Inj} {g : Nat → Option Blk} {p : Nat} {w w' : World} (h : JH m ops bs D φ0 H0 w0 la φ g p w) {i : Nat} (r : Rdy ops bs la i)
    (ha : (pl D i).kind ≠ .act) (hn : ∀ b, (pl D i).kind ≠ .new b) (hi : InvG φ g (D ops.size).cnt w') (hs : StepG m H0.next φ g w φ g w') : JH m ops bs D φ0 H0 w0 (la.setIfInBounds i true) φ g p w' := by
  have hlt : i < la.size := by rw [hc.size]; exact r.lt
  have old : ∀ j b, IsNew ops D j b → LL (la.setIfInBounds i true) j → LL la j := by
    intro j b hN hL
    rw [LL_set hlt] at hL
    rcases hL with rfl | hL
    · exact absurd hN.2 (hn b)
    · exact hL
  refine ⟨h.ini, h.ple, fun j hA => ?_, fun id l hl => ?_, hi, h.step.trans h.ini hs, fun j b hN hL hP => h.pnd j b hN (old j b hN hL) hP, fun id hh => h.rest id fun j b hN hL hP => hh j b hN ((LL_set hlt j).2 (.inr hL)) hP, h.fresh, h.gids, h.undG,
    fun j b hN hL => h.undP j b hN (old j b hN hL), fun j b hN hL hP => h.excl j b hN (old j b hN hL) hP⟩
  · rw [LL_set hlt, ← h.cut j hA]
    constructor
    · rintro (rfl | h)
      · exact absurd hA.2 ha
      · exact h
    · exact .inr
  · rcases h.dom id l hl with h1 | ⟨j, h1, h2, h3⟩
    · exact .inl h1
    · exact .inr ⟨j, h1, (LL_set hlt j).2 (.inr h2), h3⟩

theorem joinedG_self {g : Nat → Option Blk} {Hin : AH} (hsub : ∀ id b, Hin.get id = some b → g id = some b) : joinedG g Hin Hin = g := by
  funext id
  unfold joinedG
  split
  · rename_i h
    rcases h with h | h
    · obtain ⟨b, hb⟩ := Option.isSome_iff_exists.1 h
      rw [hb, hsub id b hb]
    · omega
  · rfl

theorem quiet_frame {lo N : Nat} {φ φ' : Inj} {g : Nat → Option Blk} {w w' : World} {Hin : AH} (hi : InvG φ g N w) (hsub : ∀ id b, Hin.get id = some b → g id = some b ∧ id < Hin.next) (hn : Hin.next ≤ N) (hlo : lo ≤ Hin.next)
    (hex : ∀ id b, g id = some b → Hin.get id = none → ∀ id' l l', (Hin.get id').isSome = true → φ id = some l → φ id' = some l' → l'.blk ≠ l.blk)
    (h1 : Inv φ' Hin w') (h2 : Step m (restr φ Hin.next) Hin w φ' Hin w') : φ' = restr φ Hin.next ∧ InvG φ g N w' ∧ StepG m lo φ g w φ g w' := by
  have e1 : φ' = restr φ Hin.next := by
    funext id
    cases hq : restr φ Hin.next id with
    | some l => exact h2.ext _ _ hq
    | none =>
      cases hp : φ' id with
      | none => rfl
      | some l =>
        have := (h2.new id l hp hq).1
        have := (h1.dom id l hp).1
        omega
  have e2 : joined φ φ' Hin.next = φ := by
    funext id
    unfold joined
    split
    · rename_i hlt; rw [e1, restr_lt hlt]
    · rfl
  have e3 := joinedG_self fun id b hb => (hsub id b hb).1
  have fr := frame hi hsub (fun id a b => by omega) (Nat.le_refl N) hn hlo hex h1 h2
  refine ⟨e1, ?_, ?_⟩
  · have := fr.inv; rw [e2, e3] at this; exact this
  · have := fr.step; rw [e2, e3] at this; exact this

theorem JH.new (pl' : Plan P ne ih m n ops bs D ss0 H0) {la : Array Bool} (hc : JC ops bs la) {φ : Inj} {g : Nat → Option Blk} {p : Nat} {w : World} (h : JH m ops bs D φ0 H0 w0 la φ g p w) {i : Nat} (r : Rdy ops bs la i) {b : Blk} (hN : IsNew ops D i b)
    {H : AH} (hb : H.get (D i).cnt = some b) (hnx : H.next = (D i).cnt + 1) {φ' : Inj} {w' : World} (h1 : Inv φ' H w') (h2 : Step m (restr φ (D i).cnt) ⟨(D i).cnt, .nil⟩ w φ' H w') :
    ∃ ψ g', φ.le ψ ∧ φ'.le ψ ∧ JH m ops bs D φ0 H0 w0 (la.setIfInBounds i true) ψ g' p w' := by
  have hlt : i < la.size := by rw [hc.size]; exact r.lt
  have hstep := pl'.kind_new hN
  have hnil : ∀ id, (AH.get ⟨(D i).cnt, .nil⟩ id) = none := fun id => rfl
  have hcN := pl'.cnt_mono (show i + 1 ≤ ops.size from r.lt) (Nat.le_refl _)
  have h0i := pl'.cnt_mono (Nat.zero_le i) (Nat.le_of_lt r.lt)
  rw [pl'.start] at h0i
  simp only at h0i
  have fr := frame (n' := (D ops.size).cnt) (lo := H0.next) (Hin := ⟨(D i).cnt, .nil⟩) h.inv (fun id b hb => by rw [hnil] at hb; cases hb) (fun id a b => h.free pl' r a (by rw [hstep]; omega)) (Nat.le_refl _) (by omega) h0i (fun id b _ _ id' l l' hs => by rw [hnil] at hs; cases hs) h1 h2
  have hjg : ∀ id, joinedG g ⟨(D i).cnt, .nil⟩ H id = if id = (D i).cnt then some b else g id := by
    intro id
    unfold joinedG
    rw [hnil]
    by_cases e : id = (D i).cnt
    · subst e; rw [if_pos (.inr ⟨Nat.le_refl _, by omega⟩), if_pos rfl, hb]
    · rw [if_neg (by simp; omega), if_neg e]
  have hNPi : NP ops D bs i p := by
    intro a hA hia hap
    cases hq : pre bs a i with
    | false => rfl
    | true => exact absurd (hc.closed a i ((h.cut a hA).2 hap) hia hq) r.no
  have hjd : ∀ id l, joined φ φ' H.next id = some l → φ id = some l ∨ (id = (D i).cnt ∧ φ' id = some l) := by
    intro id l hl
    unfold joined at hl
    split at hl
    · cases hr : restr φ (D i).cnt id with
      | some l2 =>
        have e := h2.ext _ _ hr
        rw [hl] at e; cases e
        exact .inl (restr_some hr).2
      | none =>
        have := (h2.new id l hl hr).1
        have := (h1.dom id l hl).1
        exact .inr ⟨by simp only at *; omega, hl⟩
    · exact .inl hl
  have old : ∀ j b, IsNew ops D j b → j ≠ i → (D j).cnt ≠ (D i).cnt := fun j b hj hne e => hne (pl'.new_eq hj hN e)
  refine ⟨joined φ φ' H.next, joinedG g ⟨(D i).cnt, .nil⟩ H, fr.le, fr.le', h.ini, h.ple, fun j hA => ?_, fun id l hl => ?_, fr.inv, h.step.trans h.ini fr.step, fun j c hj hL hP => ?_, fun id hh => ?_, h.fresh, h.gids, h.undG, fun j c hj hL => ?_, fun j c hj hL hP id2 l l2 hne hs hl hl2 => ?_⟩
  · rw [LL_set hlt, ← h.cut j hA]
    constructor
    · rintro (rfl | h)
      · exact (not_new_act hN hA).elim
      · exact h
    · exact .inr
  · rcases hjd id l hl with hl | ⟨rfl, _⟩
    · rcases h.dom id l hl with q1 | ⟨j, q1, q2, q3⟩
      · exact .inl q1
      · exact .inr ⟨j, q1, (LL_set hlt j).2 (.inr q2), q3⟩
    · exact .inr ⟨i, r.lt, (LL_set hlt i).2 (.inl rfl), Nat.le_refl _, by omega⟩
  · rw [LL_set hlt] at hL
    rw [hjg]
    by_cases e : j = i
    · subst e
      rw [if_pos rfl]
      have := hN.2.symm.trans hj.2
      cases this; rfl
    · rw [if_neg (old j c hj e)]
      exact h.pnd j c hj (hL.resolve_left e) hP
  · have hne : id ≠ (D i).cnt := hh i b hN ((LL_set hlt i).2 (.inl rfl)) hNPi
    rw [hjg, if_neg hne]
    exact h.rest id fun j c hj hL hP => hh j c hj ((LL_set hlt j).2 (.inr hL)) hP
  · rw [LL_set hlt] at hL
    by_cases e : j = i
    · subst e
      have := hN.2.symm.trans hj.2
      cases this
      obtain ⟨l, q1, q2⟩ := h1.obj _ _ hb
      rw [← hnx]
      exact underB_of (fun id l h => (h1.dom id l h).1) q2
    · exact h.undP j c hj (hL.resolve_left e)
  · rw [LL_set hlt] at hL
    by_cases e : j = i
    · subst e
      have hs' : (g id2).isSome = true := by rw [hjg, if_neg hne] at hs; exact hs
      obtain ⟨b2, hb2⟩ := Option.isSome_iff_exists.1 hs'
      obtain ⟨k2, q1, _⟩ := h.inv.obj _ _ hb2
      have := fr.le _ _ q1
      rw [hl2] at this; cases this
      have hk2 := (h.inv.dom _ _ q1).2
      rcases hjd _ _ hl with q3 | ⟨_, q3⟩
      · rw [h.free pl' r (Nat.le_refl _) (by omega)] at q3; cases q3
      · have hr : restr φ (D j).cnt (D j).cnt = none := by unfold restr; rw [if_neg (by omega)]
        obtain ⟨_, q4⟩ := h2.new _ _ q3 hr
        rcases q4 with q4 | ⟨id0, l0, _, q5, _⟩
        · omega
        · rw [hnil] at q5; cases q5
    · have hjc := old j c hj e
      have hg := h.pnd j c hj (hL.resolve_left e) hP
      exact fr.excl (D j).cnt id2 l l2 (by rw [hg]; rfl) (hnil _) (by simp only; omega) (fun e => hne e.symm) hs hl hl2 fun id3 l3 hne3 hs3 hl3 l1 hl1 => h.excl j c hj (hL.resolve_left e) hP id3 l1 l3 hne3 hs3 hl1 hl3

end
end Go.Abs
