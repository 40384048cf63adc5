/- The engine, part 28 of 35: pieces of the interpreter and of its soundness. No condition. -/
import Derived.Test.YtiggbefjndkkmaaGreatDoorE27
namespace Go.Abs

variable {P : Program} {m : Nat}

section
variable {ne : Nat} {ih : Ex} {n : Nat} {ops : Array Oper} {bs : List Nat} {D : Nat → DSt} {ss0 : Sl} {H0 : AH} {φ0 : Inj} {w0 : World}

/-- The heap that an acting operation sees. -/
def Hact (bs : List Nat) (D : Nat → DSt) (i : Nat) : AH := putAll ((D i).pend.filter fun p => pre bs i p.1) { (D i).G with next := (D i).cnt }

structure ActIn (ops : Array Oper) (bs : List Nat) (D : Nat → DSt) (la : Array Bool) (p i : Nat) : Prop where
  pi : p ≤ i
  no : ∀ a, p ≤ a → a < i → ¬ IsAct ops D a
  G : (D i).G = (D p).G
  next : (Hact bs D i).next = (D i).cnt
  put : ∀ j b, IsNew ops D j b → j < i → NP ops D bs j i → pre bs i j = true → (Hact bs D i).get (D j).cnt = some b
  get : ∀ id, (Hact bs D i).get id = (D p).G.get id ∨ ∃ j b, IsNew ops D j b ∧ j < i ∧ LL la j ∧ NP ops D bs j p ∧ NP ops D bs j i ∧ pre bs i j = true ∧ id = (D j).cnt ∧ (Hact bs D i).get id = some b

theorem JH.actIn (pl' : Plan P ne ih m n ops bs D ss0 H0) {la : Array Bool} (hc : JC ops bs la) {φ : Inj} {g : Nat → Option Blk} {p : Nat} {w : World} (h : JH m ops bs D φ0 H0 w0 la φ g p w) {i : Nat} (r : Rdy ops bs la i) (hA : IsAct ops D i)
    (hch : (D i).acts.all (pre bs i) = true) : ActIn ops bs D la p i := by
  have hpi : p ≤ i := by
    apply Classical.byContradiction
    intro hlt
    exact r.no ((h.cut i hA).2 (by omega))
  have hno : ∀ a, p ≤ a → a < i → ¬ IsAct ops D a := by
    intro a h1 h2 hAa
    have hm := (pl'.acts (Nat.le_of_lt r.lt) a).2 ⟨h2, hAa⟩
    rw [List.all_eq_true] at hch
    have := (h.cut a hAa).1 (r.all a h2 (hch a hm))
    omega
  have hG := pl'.g_same hpi (Nat.le_of_lt r.lt) hno
  have hpend := pl'.pend (Nat.le_of_lt r.lt)
  have hmem : ∀ q, q ∈ ((D i).pend.filter fun p => pre bs i p.1) ↔ (q.1 < i ∧ IsNew ops D q.1 q.2.2 ∧ q.2.1 = (D q.1).cnt ∧ NP ops D bs q.1 i) ∧ pre bs i q.1 = true := by
    intro q
    rw [List.mem_filter, hpend]
    exact Iff.rfl
  have huniq : ∀ q q2, q ∈ ((D i).pend.filter fun p => pre bs i p.1) → q2 ∈ ((D i).pend.filter fun p => pre bs i p.1) → q2.2.1 = q.2.1 → q2 = q := by
    intro q q2 hq hq2 he
    obtain ⟨⟨h1, h2, h3, h4⟩, _⟩ := (hmem q).1 hq
    obtain ⟨⟨k1, k2, k3, k4⟩, _⟩ := (hmem q2).1 hq2
    have e := pl'.new_eq k2 h2 (by rw [← k3, he, h3])
    obtain ⟨a1, a2, a3⟩ := q
    obtain ⟨b1, b2, b3⟩ := q2
    simp only at *
    subst e
    have := k2.2.symm.trans h2.2
    cases this
    rw [he]
  refine ⟨hpi, hno, hG, putAll_next _ _, fun j b hj hji hnp hpre => ?_, fun id => ?_⟩
  · have := putAll_in ((D i).pend.filter fun p => pre bs i p.1) { (D i).G with next := (D i).cnt } (j, (D j).cnt, b) ((hmem _).2 ⟨⟨hji, hj, rfl, hnp⟩, hpre⟩) (fun q hq he => huniq _ q ((hmem _).2 ⟨⟨hji, hj, rfl, hnp⟩, hpre⟩) hq he)
    exact this
  · by_cases hex : ∃ q ∈ ((D i).pend.filter fun p => pre bs i p.1), q.2.1 = id
    · obtain ⟨q, hq, he⟩ := hex
      right
      obtain ⟨⟨h1, h2, h3, h4⟩, h5⟩ := (hmem q).1 hq
      refine ⟨q.1, q.2.2, h2, h1, r.all _ h1 h5, fun a ha h6 h7 => h4 a ha h6 (by omega), h4, h5, by rw [← he, h3], ?_⟩
      have := putAll_in ((D i).pend.filter fun p => pre bs i p.1) { (D i).G with next := (D i).cnt } q hq (fun q2 hq2 he => huniq _ q2 hq hq2 he)
      rw [he] at this
      exact this
    · left
      have := putAll_out ((D i).pend.filter fun p => pre bs i p.1) { (D i).G with next := (D i).cnt } id (fun q hq he => hex ⟨q, hq, he⟩)
      rw [← hG]
      exact this

theorem ActIn.sub (pl' : Plan P ne ih m n ops bs D ss0 H0) {la : Array Bool} {φ : Inj} {g : Nat → Option Blk} {p : Nat} {w : World} (h : JH m ops bs D φ0 H0 w0 la φ g p w) {i : Nat} (r : Rdy ops bs la i) (x : ActIn ops bs D la p i) :
    ∀ id b, (Hact bs D i).get id = some b → g id = some b ∧ id < (Hact bs D i).next := by
  intro id b hb
  rw [x.next]
  rcases x.get id with h1 | ⟨j, c, h1, h2, h3, h4, h5, h6, h7, h8⟩
  · rw [h1] at hb
    refine ⟨h.g_of_G hb, ?_⟩
    have q1 := h.gids id b hb
    have q2 := pl'.gnext h.ple
    have q3 := pl'.cnt_mono x.pi (Nat.le_of_lt r.lt)
    omega
  · rw [hb] at h8; cases h8
    subst h7
    refine ⟨h.pnd j _ h1 h3 h4, ?_⟩
    have q1 := pl'.kind_new h1
    have q2 := pl'.cnt_mono (show j + 1 ≤ i by omega) (Nat.le_of_lt r.lt)
    omega

theorem ActIn.und (pl' : Plan P ne ih m n ops bs D ss0 H0) {la : Array Bool} {φ : Inj} {g : Nat → Option Blk} {p : Nat} {w : World} (h : JH m ops bs D φ0 H0 w0 la φ g p w) {i : Nat} (r : Rdy ops bs la i) (x : ActIn ops bs D la p i) :
    ∀ id b, (Hact bs D i).get id = some b → UnderB (Hact bs D i).next b := by
  intro id b hb
  rw [x.next]
  rcases x.get id with h1 | ⟨j, c, h1, h2, h3, h4, h5, h6, h7, h8⟩
  · rw [h1] at hb
    have q2 := pl'.gnext h.ple
    have q3 := pl'.cnt_mono x.pi (Nat.le_of_lt r.lt)
    exact (h.undG id b hb).mono (by omega)
  · rw [hb] at h8; cases h8
    have q1 := pl'.kind_new h1
    have q2 := pl'.cnt_mono (show j + 1 ≤ i by omega) (Nat.le_of_lt r.lt)
    exact (h.undP j _ h1 h3).mono (by omega)

theorem ActIn.pending {la : Array Bool} {φ : Inj} {g : Nat → Option Blk} {p : Nat} {w : World} (h : JH m ops bs D φ0 H0 w0 la φ g p w) {Hin : AH} (hsup : ∀ id b, (D p).G.get id = some b → ∃ c, Hin.get id = some c) {id : Nat} {b : Blk} (hb : g id = some b) (hn : Hin.get id = none) :
    ∃ j c, IsNew ops D j c ∧ LL la j ∧ NP ops D bs j p ∧ id = (D j).cnt := by
  apply Classical.byContradiction
  intro hno
  have := h.rest id fun j c h1 h2 h3 e => hno ⟨j, c, h1, h2, h3, e⟩
  rw [hb] at this
  obtain ⟨c, hc⟩ := hsup id b this.symm
  rw [hn] at hc; cases hc

theorem ActIn.sup {la : Array Bool} {p i : Nat} (x : ActIn ops bs D la p i) : ∀ id b, (D p).G.get id = some b → ∃ c, (Hact bs D i).get id = some c := by
  intro id b hb
  rcases x.get id with h1 | ⟨j, c, h1, h2, h3, h4, h5, h6, h7, h8⟩
  · exact ⟨b, by rw [h1, hb]⟩
  · exact ⟨c, h8⟩

theorem ActIn.excl {la : Array Bool} {φ : Inj} {g : Nat → Option Blk} {p : Nat} {w : World} (h : JH m ops bs D φ0 H0 w0 la φ g p w) {Hin : AH} (hsup : ∀ id b, (D p).G.get id = some b → ∃ c, Hin.get id = some c) (hsub : ∀ id b, Hin.get id = some b → g id = some b ∧ id < Hin.next) :
    ∀ id b, g id = some b → Hin.get id = none → ∀ id' l l', (Hin.get id').isSome = true → φ id = some l → φ id' = some l' → l'.blk ≠ l.blk := by
  intro id b hb hn id' l l' hs hl hl'
  obtain ⟨j, c, h1, h2, h3, rfl⟩ := ActIn.pending h hsup hb hn
  obtain ⟨b', hb'⟩ := Option.isSome_iff_exists.1 hs
  exact h.excl j c h1 h2 h3 id' l l' (fun e => by rw [e, hn] at hs; cases hs) (by rw [(hsub _ _ hb').1]; rfl) hl hl'

theorem JH.act (pl' : Plan P ne ih m n ops bs D ss0 H0) {la : Array Bool} (hc : JC ops bs la) {φ : Inj} {g : Nat → Option Blk} {p : Nat} {w : World} (h : JH m ops bs D φ0 H0 w0 la φ g p w) {i : Nat} (r : Rdy ops bs la i) (hA : IsAct ops D i)
    (x : ActIn ops bs D la p i) (hcnt : (D (i + 1)).cnt = (D (i + 1)).G.next) {φ' : Inj} {w' : World} (h1 : Inv φ' (D (i + 1)).G w') (h2 : Step m (restr φ (Hact bs D i).next) (Hact bs D i) w φ' (D (i + 1)).G w') :
    ∃ ψ g', φ.le ψ ∧ φ'.le ψ ∧ JH m ops bs D φ0 H0 w0 (la.setIfInBounds i true) ψ g' (i + 1) w' := by
  have hlt : i < la.size := by rw [hc.size]; exact r.lt
  have hsub := x.sub pl' h r
  have hcN := pl'.cnt_mono (show i + 1 ≤ ops.size from r.lt) (Nat.le_refl _)
  have h0i := pl'.cnt_mono (Nat.zero_le i) (Nat.le_of_lt r.lt)
  have hii := pl'.cnt_step r.lt
  rw [pl'.start] at h0i
  simp only at h0i
  have hnx := x.next
  have fr := frame (n' := (D ops.size).cnt) (lo := H0.next) (Hin := Hact bs D i) h.inv hsub (fun id a b => h.free pl' r (by omega) (by omega)) (Nat.le_refl _) (by omega) (by omega) (ActIn.excl h x.sup hsub) h1 h2
  have oldL : ∀ j c, IsNew ops D j c → LL (la.setIfInBounds i true) j → j ≠ i ∧ LL la j := by
    intro j c hj hL
    have hne : j ≠ i := fun e => not_new_act hj (e ▸ hA)
    rw [LL_set hlt] at hL
    exact ⟨hne, hL.resolve_left hne⟩
  -- what is not taken in
  have out : ∀ j c, IsNew ops D j c → NP ops D bs j (i + 1) → (Hact bs D i).get (D j).cnt = none ∧ ((D j).cnt < (Hact bs D i).next ∨ (D (i + 1)).G.next ≤ (D j).cnt) := by
    intro j c hj hP
    have hne : j ≠ i := fun e => not_new_act hj (e ▸ hA)
    by_cases hji : j < i
    · have q1 := pl'.kind_new hj
      have q2 := pl'.cnt_mono (show j + 1 ≤ i by omega) (Nat.le_of_lt r.lt)
      refine ⟨?_, .inl (by omega)⟩
      rcases x.get (D j).cnt with h3 | ⟨k, d, k1, k2, k3, k4, k5, k6, k7, k8⟩
      · rw [h3]
        have := x.pi
        exact h.fresh j c hj fun a ha q1 q2 => hP a ha q1 (by omega)
      · have := pl'.new_eq hj k1 k7
        subst this
        rw [hP i hA hji (by omega)] at k6; cases k6
    · have q2 := pl'.cnt_mono (show i + 1 ≤ j by omega) (Nat.le_of_lt hj.1)
      refine ⟨?_, .inr (by omega)⟩
      cases hq : (Hact bs D i).get (D j).cnt with
      | none => rfl
      | some b => have := (hsub _ _ hq).2; omega
  have np : ∀ j, NP ops D bs j (i + 1) → NP ops D bs j p := fun j hP a ha q1 q2 => hP a ha q1 (by have := x.pi; omega)
  refine ⟨joined φ φ' (D (i + 1)).G.next, joinedG g (Hact bs D i) (D (i + 1)).G, fr.le, fr.le', h.ini, r.lt, fun j hAj => ?_, fun id l hl => ?_, fr.inv, h.step.trans h.ini fr.step, fun j c hj hL hP => ?_, fun id hh => ?_, fun j c hj hP => ?_, fun id b hb => ?_, fun id b hb => ?_,
    fun j c hj hL => h.undP j c hj (oldL j c hj hL).2, fun j c hj hL hP id2 l l2 hne hs hl hl2 => ?_⟩
  · rw [LL_set hlt]
    constructor
    · rintro (rfl | hL)
      · omega
      · have := (h.cut j hAj).1 hL
        have := x.pi
        omega
    · intro hj
      by_cases e : j = i
      · exact .inl e
      · right
        rw [h.cut j hAj]
        apply Classical.byContradiction
        intro hge
        exact x.no j (by omega) (by omega) hAj
  · unfold joined at hl
    split at hl
    · rename_i hidlt
      cases hr : restr φ (Hact bs D i).next id with
      | some l2 =>
        have e := h2.ext _ _ hr
        rw [hl] at e; cases e
        rcases h.dom id l (restr_some hr).2 with q1 | ⟨j, q1, q2, q3⟩
        · exact .inl q1
        · exact .inr ⟨j, q1, (LL_set hlt j).2 (.inr q2), q3⟩
      | none =>
        have := (h2.new id l hl hr).1
        exact .inr ⟨i, r.lt, (LL_set hlt i).2 (.inl rfl), by omega, by omega⟩
    · rcases h.dom id l hl with q1 | ⟨j, q1, q2, q3⟩
      · exact .inl q1
      · exact .inr ⟨j, q1, (LL_set hlt j).2 (.inr q2), q3⟩
  · obtain ⟨hne, hL⟩ := oldL j c hj hL
    obtain ⟨q1, q2⟩ := out j c hj hP
    unfold joinedG
    rw [if_neg (by rw [q1]; simp; omega)]
    exact h.pnd j c hj hL (np j hP)
  · unfold joinedG
    split
    · rfl
    · rename_i hno
      have e1 : (D (i + 1)).G.get id = none := by
        cases hq : (D (i + 1)).G.get id with
        | none => rfl
        | some b => exact absurd (fr.none_ id (by rw [hq]; rfl)) hno
      rw [e1]
      cases hq : g id with
      | none => rfl
      | some b =>
        exfalso
        have hnn : (Hact bs D i).get id = none := by
          cases hq : (Hact bs D i).get id with
          | none => rfl
          | some b => exact absurd (.inl (by rw [hq]; rfl)) hno
        obtain ⟨j, c, k1, k2, k3, rfl⟩ := ActIn.pending h x.sup hq hnn
        by_cases hP : NP ops D bs j (i + 1)
        · exact hh j c k1 ((LL_set hlt j).2 (.inr k2)) hP rfl
        · apply hP
          intro a ha q1 q2
          cases hpr : pre bs a j with
          | false => rfl
          | true =>
            exfalso
            by_cases hap : a < p
            · rw [k3 a ha q1 hap] at hpr; cases hpr
            · have : a = i := by
                apply Classical.byContradiction
                intro hne
                exact x.no a (by omega) (by omega) ha
              subst this
              have := x.put j c k1 q1 (fun a' ha' r1 r2 => by
                by_cases hap' : a' < p
                · exact k3 a' ha' r1 hap'
                · exact absurd ha' (x.no a' (by omega) r2)) hpr
              rw [hnn] at this; cases this
  · obtain ⟨q1, q2⟩ := out j c hj hP
    cases hq : (D (i + 1)).G.get (D j).cnt with
    | none => rfl
    | some b =>
      rcases fr.none_ (D j).cnt (by rw [hq]; rfl) with h3 | h3
      · rw [q1] at h3; cases h3
      · omega
  · obtain ⟨l, q1, _⟩ := h1.obj _ _ hb
    exact (h1.dom _ _ q1).1
  · obtain ⟨l, q1, q2⟩ := h1.obj _ _ hb
    exact underB_of (fun id l h => (h1.dom id l h).1) q2
  · obtain ⟨hne', hL⟩ := oldL j c hj hL
    obtain ⟨q1, q2⟩ := out j c hj hP
    have hg := h.pnd j c hj hL (np j hP)
    exact fr.excl (D j).cnt id2 l l2 (by rw [hg]; rfl) q1 q2 (fun e => hne e.symm) hs hl hl2 fun id3 l3 hne3 hs3 hl3 l1 hl1 => h.excl j c hj hL (np j hP) id3 l1 l3 hne3 hs3 hl1 hl3

end
end Go.Abs
