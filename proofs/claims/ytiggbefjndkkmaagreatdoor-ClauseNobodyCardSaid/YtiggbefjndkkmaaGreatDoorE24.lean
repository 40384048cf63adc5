/- The engine, part 24 of 35: pieces of the interpreter and of its soundness. No condition. -/
import Derived.Test.YtiggbefjndkkmaaGreatDoorE23
namespace Go.Abs

variable {P : Program} {m : Nat}

/-! ### What points below a number -/

def UnderV (n : Nat) (v : Value) : Prop := ∀ φ v', VR φ v v' → VR (restr φ n) v v'

theorem restr_of {φ : Inj} {n b : Nat} {l : Loc} (hb : b < n) (h : φ b = some l) : restr φ n b = some l := by rw [restr_lt hb]; exact h

theorem underV_of {ψ : Inj} {n : Nat} (hd : ∀ id l, ψ id = some l → id < n) {v u : Value} (h : VR ψ v u) : UnderV n v := by
  induction h with
  | ptr b o l hb =>
    intro φ v' h'
    cases h' with
    | ptr _ _ l' hb' => exact .ptr b o l' (restr_of (hd _ _ hb) hb')
  | slice b o k c l hb hc =>
    intro φ v' h'
    cases h' with
    | slice _ _ _ _ l' hb' hc' => exact .slice b o k c l' (restr_of (hd _ _ hb) hb') hc'
    | sliceOpen _ _ _ c' l' hb' h1 h2 => exact .sliceOpen b o k c' l' (restr_of (hd _ _ hb) hb') h1 h2
    | sliceEnd _ _ l' a hb' => exact .sliceEnd b o l' a (restr_of (hd _ _ hb) hb')
    | sliceZero _ _ l' a hb' => exact .sliceZero b o l' a (restr_of (hd _ _ hb) hb')
  | sliceOpen b o k c l hb hc =>
    intro φ v' h'
    cases h' with
    | slice _ _ _ _ l' hb' hc' => exact .slice b o k _ l' (restr_of (hd _ _ hb) hb') hc'
    | sliceOpen _ _ _ c' l' hb' h1 h2 => exact .sliceOpen b o k c' l' (restr_of (hd _ _ hb) hb') h1 h2
    | sliceEnd _ _ l' a hb' => exact .sliceEnd b o l' a (restr_of (hd _ _ hb) hb')
  | sliceEnd b o l a hb =>
    intro φ v' h'
    cases h' with
    | slice _ _ _ _ l' hb' hc' => exact .slice b o 0 _ l' (restr_of (hd _ _ hb) hb') hc'
    | sliceOpen _ _ _ c' l' hb' h1 h2 => exact .sliceOpen b o 0 c' l' (restr_of (hd _ _ hb) hb') h1 h2
    | sliceEnd _ _ l' a hb' => exact .sliceEnd b o l' a (restr_of (hd _ _ hb) hb')
  | sliceZero b o l a hb =>
    intro φ v' h'
    cases h' with
    | slice _ _ _ _ l' hb' hc' => exact .slice b o 0 _ l' (restr_of (hd _ _ hb) hb') hc'
    | sliceZero _ _ l' a hb' => exact .sliceZero b o l' a (restr_of (hd _ _ hb) hb')
  | map r l hb =>
    intro φ v' h'
    cases h' with
    | map _ l' hb' => exact .map r l' (restr_of (hd _ _ hb) hb')
  | func fn f g f' g' hf hg h1 h2 i1 i2 =>
    intro φ v' h'
    cases h' with
    | func _ _ _ f2 g2 hf2 hg2 k1 k2 =>
      refine .func fn f g f2 g2 hf2 hg2 (fun i x y hx hy => ?_) (fun i x y hx hy => ?_)
      · obtain ⟨u, hu, _⟩ := AR.get (φ := ψ) ⟨hf, h1⟩ hx
        exact i1 i x u hx hu φ y (k1 i x y hx hy)
      · obtain ⟨u, hu, _⟩ := AR.get (φ := ψ) ⟨hg, h2⟩ hx
        exact i2 i x u hx hu φ y (k2 i x y hx hy)
  | iface t v u hv ih =>
    intro φ v' h'
    cases h' with
    | iface _ _ v2 hv2 => exact .iface t v v2 (ih φ v2 hv2)
  | agg f f' hf h1 i1 =>
    intro φ v' h'
    cases h' with
    | agg _ f2 hf2 k1 =>
      refine .agg f f2 hf2 (fun i x y hx hy => ?_)
      obtain ⟨u, hu, _⟩ := AR.get (φ := ψ) ⟨hf, h1⟩ hx
      exact i1 i x u hx hu φ y (k1 i x y hx hy)
  | tuple f f' hf h1 i1 =>
    intro φ v' h'
    cases h' with
    | tuple _ f2 hf2 k1 =>
      refine .tuple f f2 hf2 (fun i x y hx hy => ?_)
      obtain ⟨u, hu, _⟩ := AR.get (φ := ψ) ⟨hf, h1⟩ hx
      exact i1 i x u hx hu φ y (k1 i x y hx hy)
  | bool b => intro φ v' h'; cases h'; exact .bool b
  | int k b => intro φ v' h'; cases h'; exact .int k b
  | float k b => intro φ v' h'; cases h'; exact .float k b
  | complex k a b v hv => intro φ v' h'; cases h' with | complex _ _ _ _ hv => exact .complex k a b _ hv
  | string s => intro φ v' h'; cases h'; exact .string s
  | ptrNil => intro φ v' h'; cases h'; exact .ptrNil
  | sliceNil a b => intro φ v' h'; cases h'; exact .sliceNil a b
  | mapNil => intro φ v' h'; cases h'; exact .mapNil
  | chanNil => intro φ v' h'; cases h'; exact .chanNil
  | nilFunc => intro φ v' h'; cases h'; exact .nilFunc
  | nilIface => intro φ v' h'; cases h'; exact .nilIface

theorem blt_lt {a b : Nat} (h : Nat.blt a b = true) : a < b := Nat.lt_of_lt_of_le (Nat.lt_succ_self _) (Nat.le_of_ble_eq_true h)

theorem unders_under {c : Nat} : ∀ (n : Nat) {v : Value}, unders c n v = true → UnderV c v := by
  intro n
  induction n with
  | zero =>
    intro v h φ v' h'
    cases h' <;> simp only [unders] at h <;> first
      | (cases h; done)
      | exact .bool _ | exact .int _ _ | exact .float _ _ | exact .complex _ _ _ _ (by assumption) | exact .string _ | exact .ptrNil | exact .sliceNil _ _ | exact .mapNil | exact .chanNil | exact .nilFunc | exact .nilIface
      | exact .ptr _ _ _ (restr_of (blt_lt h) (by assumption))
      | exact .map _ _ (restr_of (blt_lt h) (by assumption))
      | exact .slice _ _ _ _ _ (restr_of (blt_lt h) (by assumption)) (by assumption)
      | exact .sliceOpen _ _ _ _ _ (restr_of (blt_lt h) (by assumption)) (by assumption) (by assumption)
      | exact .sliceEnd _ _ _ _ (restr_of (blt_lt h) (by assumption))
      | exact .sliceZero _ _ _ _ (restr_of (blt_lt h) (by assumption))
  | succ n ih =>
    have arr : ∀ {φ : Inj} (f f' : Array Value), f.all (unders c n) = true → (∀ (i : Nat) (x y : Value), f[i]? = some x → f'[i]? = some y → VR φ x y) → (∀ (i : Nat) (x y : Value), f[i]? = some x → f'[i]? = some y → VR (restr φ c) x y) := by
      intro φ f f' hall hh i x y hx hy
      have hx' := hx
      rw [Array.getElem?_eq_some_iff] at hx
      obtain ⟨hi, rfl⟩ := hx
      rw [Array.all_eq_true] at hall
      exact ih (hall i hi) φ y (hh i _ y hx' hy)
    intro v h φ v' h'
    cases h' <;> simp only [unders, Bool.and_eq_true] at h <;> first
      | (cases h; done)
      | exact .bool _ | exact .int _ _ | exact .float _ _ | exact .complex _ _ _ _ (by assumption) | exact .string _ | exact .ptrNil | exact .sliceNil _ _ | exact .mapNil | exact .chanNil | exact .nilFunc | exact .nilIface
      | exact .ptr _ _ _ (restr_of (blt_lt h) (by assumption))
      | exact .map _ _ (restr_of (blt_lt h) (by assumption))
      | exact .slice _ _ _ _ _ (restr_of (blt_lt h) (by assumption)) (by assumption)
      | exact .sliceOpen _ _ _ _ _ (restr_of (blt_lt h) (by assumption)) (by assumption) (by assumption)
      | exact .sliceEnd _ _ _ _ (restr_of (blt_lt h) (by assumption))
      | exact .sliceZero _ _ _ _ (restr_of (blt_lt h) (by assumption))
      | exact .iface _ _ _ (ih h _ _ (by assumption))
      | exact .agg _ _ (by assumption) (arr _ _ h (by assumption))
      | exact .tuple _ _ (by assumption) (arr _ _ h (by assumption))
      | exact .func _ _ _ _ _ (by assumption) (by assumption) (arr _ _ h.1 (by assumption)) (arr _ _ h.2 (by assumption))

theorem UnderV.mono {n k : Nat} (hnk : n ≤ k) {v : Value} (h : UnderV n v) : UnderV k v := fun φ v' hv => (h φ v' hv).mono (restr_le n k hnk (Inj.le_refl φ))

def UnderB (n : Nat) (b : Blk) : Prop := ∀ φ l w, OR φ l b w → OR (restr φ n) l b w

theorem UnderB.mono {n k : Nat} (hnk : n ≤ k) {b : Blk} (h : UnderB n b) : UnderB k b := fun φ l w hv => (h φ l w hv).mono (restr_le n k hnk (Inj.le_refl φ))

theorem objR_under {ψ : Inj} {n : Nat} (hd : ∀ id l, ψ id = some l → id < n) {φ : Inj} {bo o1 o2 : Obj} (h1 : ObjR ψ bo o1) (h2 : ObjR φ bo o2) : ObjR (restr φ n) bo o2 := by
  cases bo with
  | map es k =>
    cases o1 <;> first | (exact h1.elim) | skip
    cases o2 <;> first | (exact h2.elim) | skip
    rename_i es1 k1 es2 k2
    refine ⟨h2.1, h2.2.1, fun i x y hx hy => ?_⟩
    obtain ⟨q1, q2, q3, q4⟩ := h2.2.2 i x y hx hy
    have hi : i < es1.size := by rw [← h1.2.1]; rw [Array.getElem?_eq_some_iff] at hx; exact hx.1
    obtain ⟨_, r2, _⟩ := h1.2.2 i x es1[i] hx (by simp [hi])
    exact ⟨q1, underV_of hd r2 φ _ q2, q3, q4⟩
  | stringIter s p =>
    cases o1 <;> first | (exact h1.elim) | skip
    cases o2 <;> first | (exact h2.elim) | skip
    exact h2
  | mapIter m a b c =>
    cases o1 <;> first | (exact h1.elim) | skip
    cases o2 <;> first | (exact h2.elim) | skip
    exact ⟨underV_of hd h1.1 φ _ h2.1, h2.2⟩
  | _ => cases o1 <;> exact h1.elim

theorem underB_of {ψ : Inj} {n : Nat} (hd : ∀ id l, ψ id = some l → id < n) {b : Blk} {l : Loc} {w : World} (h : OR ψ l b w) : UnderB n b := by
  intro φ l' w' h'
  obtain ⟨bo, opn, esz, ro⟩ := b
  cases bo with
  | cells c e f =>
    obtain ⟨c1, e1, f1, _, h1⟩ := h
    obtain ⟨c2, e2, f2, h3, h2⟩ := h'
    refine ⟨c2, e2, f2, h3, ⟨fun i v hv => ?_, h2.fin, h2.esz, h2.exact_, h2.own, h2.elem⟩⟩
    obtain ⟨u, _, hu⟩ := h1.cell i v hv
    obtain ⟨v', hv', hr⟩ := h2.cell i v hv
    exact ⟨v', hv', underV_of hd hu φ v' hr⟩
  | deferred d => exact h'
  | _ =>
    obtain ⟨o1, _, h1, _⟩ := h
    obtain ⟨o2, h3, h4, h5⟩ := h'
    exact ⟨o2, h3, objR_under hd h1 h4, h5⟩

theorem InvG.part {φ : Inj} {g : Nat → Option Blk} {n : Nat} {w : World} (hi : InvG φ g n w) {Hin : AH} (hsub : ∀ id b, Hin.get id = some b → g id = some b ∧ id < Hin.next) (hu : ∀ id b, Hin.get id = some b → UnderB Hin.next b) :
    Inv (restr φ Hin.next) Hin w := by
  refine ⟨fun id l hl => ?_, fun id b hb => ?_, fun id id' b b' l l' hb hb' hne hr ha ha' hl hl' => ?_⟩
  · obtain ⟨h1, h2⟩ := restr_some hl
    exact ⟨h1, (hi.dom id l h2).2⟩
  · obtain ⟨h1, h2⟩ := hsub id b hb
    obtain ⟨l, h3, h4⟩ := hi.obj id b h1
    exact ⟨l, restr_of h2 h3, hu id b hb φ l w h4⟩
  · exact hi.sep id id' b b' l l' (hsub id b hb).1 (hsub id' b' hb').1 hne hr ha ha' (restr_some hl).2 (restr_some hl').2

end Go.Abs
