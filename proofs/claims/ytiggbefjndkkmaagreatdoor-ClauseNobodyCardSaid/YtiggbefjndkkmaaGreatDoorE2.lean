/- The engine, part 2 of 35: pieces of the interpreter and of its soundness. No condition. -/
import Derived.Test.YtiggbefjndkkmaaGreatDoorE1
import Derived.Laws.Sem
import Derived.Laws.World
import Derived.Laws.Cells
namespace Go.Abs

/-- Where an abstract block lies: its concrete block, from which cell on, how many cells that one has, the size of its elements. -/
structure Loc where
  blk : Nat
  off : Nat
  fin : Nat
  esz : Nat

abbrev Inj := Nat → Option Loc

def Inj.le (φ ψ : Inj) : Prop := ∀ i l, φ i = some l → ψ i = some l

theorem Inj.le_refl (φ : Inj) : φ.le φ := fun _ _ h => h
theorem Inj.le_trans {φ ψ χ : Inj} (h : φ.le ψ) (k : ψ.le χ) : φ.le χ := fun i l e => k i l (h i l e)

/-- An abstract value and what it stands for. -/
inductive VR (φ : Inj) : Value → Value → Prop
  | bool (b : Bool) : VR φ (.bool b) (.bool b)
  | int (k : IntKind) (n : Int) : VR φ (.int k n) (.int k n)
  | float (k : FloatKind) (n : Nat) : VR φ (.float k n) (.float k n)
  | complex (k : FloatKind) (a b : Nat) (v : Value) (hv : one v = true) : VR φ (.complex k a b) v
  | string (s : ByteArray) : VR φ (.string s) (.string s)
  | ptrNil : VR φ (.pointer none) (.pointer none)
  | ptr (b o : Nat) (l : Loc) (h : φ b = some l) : VR φ (.pointer (some ⟨b, o, none⟩)) (.pointer (some ⟨l.blk, l.off + o, none⟩))
  | sliceNil (n c : Nat) : VR φ (.slice none n c) (.slice none n c)
  | slice (b o n c : Nat) (l : Loc) (h : φ b = some l) (hc : c ≠ OPEN) : VR φ (.slice (some ⟨b, o, none⟩) n c) (.slice (some ⟨l.blk, l.off + o, none⟩) n c)
  | sliceOpen (b o n c : Nat) (l : Loc) (h : φ b = some l) (hn : n ≤ c) (hc : l.off + o + c * l.esz ≤ l.fin) :
      VR φ (.slice (some ⟨b, o, none⟩) n OPEN) (.slice (some ⟨l.blk, l.off + o, none⟩) n c)
  | sliceEnd (b o : Nat) (l : Loc) (a : Addr) (h : φ b = some l) : VR φ (.slice (some ⟨b, o, none⟩) 0 OPEN) (.slice (some a) 0 0)
  | sliceZero (b o : Nat) (l : Loc) (a : Addr) (h : φ b = some l) : VR φ (.slice (some ⟨b, o, none⟩) 0 0) (.slice (some a) 0 0)
  | mapNil : VR φ (.map none) (.map none)
  | map (r : Nat) (l : Loc) (h : φ r = some l) : VR φ (.map (some r)) (.map (some l.blk))
  | chanNil : VR φ (.chan none) (.chan none)
  | func (fn : Fn) (f g f' g' : Array Value) (hf : f.size = f'.size) (hg : g.size = g'.size)
      (h1 : ∀ (i : Nat) (x y : Value), f[i]? = some x → f'[i]? = some y → VR φ x y)
      (h2 : ∀ (i : Nat) (x y : Value), g[i]? = some x → g'[i]? = some y → VR φ x y) : VR φ (.func fn f g) (.func fn f' g')
  | nilFunc : VR φ .nilFunc .nilFunc
  | iface (t : TypeId) (v v' : Value) (h : VR φ v v') : VR φ (.iface t v) (.iface t v')
  | nilIface : VR φ .nilIface .nilIface
  | agg (f f' : Array Value) (hf : f.size = f'.size) (h1 : ∀ (i : Nat) (x y : Value), f[i]? = some x → f'[i]? = some y → VR φ x y) : VR φ (.agg f) (.agg f')
  | tuple (f f' : Array Value) (hf : f.size = f'.size) (h1 : ∀ (i : Nat) (x y : Value), f[i]? = some x → f'[i]? = some y → VR φ x y) : VR φ (.tuple f) (.tuple f')

theorem VR.mono {φ ψ : Inj} (hle : φ.le ψ) {v v' : Value} (h : VR φ v v') : VR ψ v v' := by
  induction h with
  | bool b => exact .bool b
  | int k n => exact .int k n
  | float k n => exact .float k n
  | complex k a b v hv => exact .complex k a b v hv
  | string s => exact .string s
  | ptrNil => exact .ptrNil
  | ptr b o l h => exact .ptr b o l (hle _ _ h)
  | sliceNil n c => exact .sliceNil n c
  | slice b o n c l h hc => exact .slice b o n c l (hle _ _ h) hc
  | sliceOpen b o n c l h hn hc => exact .sliceOpen b o n c l (hle _ _ h) hn hc
  | sliceEnd b o l a h => exact .sliceEnd b o l a (hle _ _ h)
  | sliceZero b o l a h => exact .sliceZero b o l a (hle _ _ h)
  | mapNil => exact .mapNil
  | map r l h => exact .map r l (hle _ _ h)
  | chanNil => exact .chanNil
  | func fn f g f' g' hf hg _ _ i1 i2 => exact .func fn f g f' g' hf hg i1 i2
  | nilFunc => exact .nilFunc
  | iface t v v' _ ih => exact .iface t v v' ih
  | nilIface => exact .nilIface
  | agg f f' hf _ ih => exact .agg f f' hf ih
  | tuple f f' hf _ ih => exact .tuple f f' hf ih

/-- Arrays of values, one by one. -/
def AR (φ : Inj) (f f' : Array Value) : Prop := f.size = f'.size ∧ ∀ (i : Nat) (x y : Value), f[i]? = some x → f'[i]? = some y → VR φ x y

theorem AR.mono {φ ψ : Inj} (hle : φ.le ψ) {f f' : Array Value} (h : AR φ f f') : AR ψ f f' := ⟨h.1, fun i x y hx hy => (h.2 i x y hx hy).mono hle⟩

theorem AR.get {φ : Inj} {f f' : Array Value} (h : AR φ f f') {i : Nat} {x : Value} (hx : f[i]? = some x) : ∃ y, f'[i]? = some y ∧ VR φ x y := by
  have hi : i < f.size := by
    rw [Array.getElem?_eq_some_iff] at hx; exact hx.1
  have hi' : i < f'.size := h.1 ▸ hi
  exact ⟨f'[i], by simp [hi'], h.2 i x _ hx (by simp [hi'])⟩

theorem AR.none {φ : Inj} {f f' : Array Value} (h : AR φ f f') {i : Nat} (hx : f[i]? = none) : f'[i]? = none := by
  have := h.1
  rw [Array.getElem?_eq_none_iff] at hx ⊢; omega

/-- Two lists, one by one. -/
inductive F2 {α β : Type} (R : α → β → Prop) : List α → List β → Prop
  | nil : F2 R [] []
  | cons {a : α} {b : β} {l : List α} {l' : List β} (h : R a b) (t : F2 R l l') : F2 R (a :: l) (b :: l')

/-- Lists of values, one by one. -/
def LR (φ : Inj) (l l' : List Value) : Prop := F2 (VR φ) l l'

theorem forall₂_of_get {α β : Type} {R : α → β → Prop} : ∀ (l : List α) (l' : List β), l.length = l'.length →
    (∀ (i : Nat) x y, l[i]? = some x → l'[i]? = some y → R x y) → F2 R l l'
  | [], [], _, _ => .nil
  | [], _ :: _, h, _ => by simp at h
  | _ :: _, [], h, _ => by simp at h
  | a :: l, b :: l', h, hh => .cons (hh 0 a b rfl rfl) (forall₂_of_get l l' (by simpa using h) fun i x y hx hy => hh (i + 1) x y hx hy)

theorem get_of_forall₂ {α β : Type} {R : α → β → Prop} {l : List α} {l' : List β} (h : F2 R l l') :
    l.length = l'.length ∧ ∀ (i : Nat) x y, l[i]? = some x → l'[i]? = some y → R x y := by
  induction h with
  | nil => exact ⟨rfl, fun i x y hx _ => by simp at hx⟩
  | cons hab _ ih =>
    refine ⟨by simp [ih.1], fun i x y hx hy => ?_⟩
    cases i with
    | zero => simp at hx hy; subst hx hy; exact hab
    | succ i => exact ih.2 i x y hx hy

theorem AR_iff {φ : Inj} {f f' : Array Value} : AR φ f f' ↔ LR φ f.toList f'.toList := by
  constructor
  · intro h
    exact forall₂_of_get _ _ (by simpa using h.1) fun i x y hx hy => h.2 i x y (by simpa using hx) (by simpa using hy)
  · intro h
    have := get_of_forall₂ h
    exact ⟨by simpa using this.1, fun i x y hx hy => this.2 i x y (by simpa using hx) (by simpa using hy)⟩

theorem LR.mono {φ ψ : Inj} (hle : φ.le ψ) {l l' : List Value} (h : LR φ l l') : LR ψ l l' := by
  induction h with
  | nil => exact .nil
  | cons hab _ ih => exact .cons (hab.mono hle) ih

theorem flat_eq {φ : Inj} : ∀ (n : Nat) {v v' : Value}, flat n v = true → VR φ v v' → v = v' := by
  intro n
  induction n with
  | zero => intro v v' h hr; cases hr <;> first | rfl | (simp [flat] at h)
  | succ n ih =>
    intro v v' h hr
    have arr : ∀ (f f' : Array Value), f.all (flat n) = true → f.size = f'.size → (∀ (i : Nat) (x y : Value), f[i]? = some x → f'[i]? = some y → VR φ x y) → f = f' := by
      intro f f' hall hs hh
      refine Array.ext hs fun i h1 h2 => ?_
      refine ih ?_ (hh i _ _ (by simp [h1]) (by simp [h2]))
      rw [Array.all_eq_true] at hall
      exact hall i h1
    cases hr with
    | func fn f g f' g' hf hg h1 h2 =>
      simp only [flat, Bool.and_eq_true] at h
      rw [arr f f' h.1 hf h1, arr g g' h.2 hg h2]
    | iface t v v' hv => simp only [flat] at h; rw [ih h hv]
    | agg f f' hf h1 => simp only [flat] at h; rw [arr f f' h hf h1]
    | tuple f f' hf h1 => simp only [flat] at h; rw [arr f f' h hf h1]
    | _ => first | rfl | (simp [flat] at h)

theorem flat_refl {φ : Inj} : ∀ (n : Nat) {v : Value}, flat n v = true → VR φ v v := by
  intro n
  induction n with
  | zero =>
    intro v h
    cases v with
    | bool b => exact .bool b
    | int k n => exact .int k n
    | float k n => exact .float k n
    | complex k a b => simp [flat] at h
    | string s => exact .string s
    | pointer a => cases a with | none => exact .ptrNil | some a => simp [flat] at h
    | slice a n c => cases a with | none => exact .sliceNil n c | some a => simp [flat] at h
    | map a => cases a with | none => exact .mapNil | some a => simp [flat] at h
    | chan a => cases a with | none => exact .chanNil | some a => simp [flat] at h
    | nilFunc => exact .nilFunc
    | nilIface => exact .nilIface
    | func f a b => simp [flat] at h
    | iface t v => simp [flat] at h
    | agg a => simp [flat] at h
    | tuple a => simp [flat] at h
  | succ n ih =>
    intro v h
    have arr : ∀ (f : Array Value), f.all (flat n) = true → (∀ (i : Nat) (x y : Value), f[i]? = some x → f[i]? = some y → VR φ x y) := by
      intro f hall i x y hx hy
      rw [hx] at hy; cases hy
      rw [Array.getElem?_eq_some_iff] at hx
      obtain ⟨hi, rfl⟩ := hx
      rw [Array.all_eq_true] at hall
      exact ih (hall i hi)
    cases v with
    | bool b => exact .bool b
    | int k n => exact .int k n
    | float k n => exact .float k n
    | complex k a b => simp [flat] at h
    | string s => exact .string s
    | pointer a => cases a with | none => exact .ptrNil | some a => simp [flat] at h
    | slice a n c => cases a with | none => exact .sliceNil n c | some a => simp [flat] at h
    | map a => cases a with | none => exact .mapNil | some a => simp [flat] at h
    | chan a => cases a with | none => exact .chanNil | some a => simp [flat] at h
    | nilFunc => exact .nilFunc
    | nilIface => exact .nilIface
    | func fn f g => simp only [flat, Bool.and_eq_true] at h; exact .func fn f g f g rfl rfl (arr f h.1) (arr g h.2)
    | iface t v => simp only [flat] at h; exact .iface t v v (ih h)
    | agg f => simp only [flat] at h; exact .agg f f rfl (arr f h)
    | tuple f => simp only [flat] at h; exact .tuple f f rfl (arr f h)

/-! ### The tree -/

theorem Tr.get_set_same {α : Type} : ∀ (n : Nat) (t : Tr α) (i : Nat) (b : α), i < n → (t.set n i b).get i = some b := by
  intro n
  induction n with
  | zero => intro t i b h; omega
  | succ n ih =>
    intro t i b h
    cases h0 : Nat.beq i 0
    · have ei := Nat.ne_of_beq_eq_false h0
      have q1 : i / 2 < n := by omega
      have q2 : i / 2 - 1 < n := by omega
      cases h1 : Nat.beq (i % 2) 1 <;> cases t <;> simp only [Tr.set, h0, h1, cond_true, cond_false, Tr.get] <;> first | exact ih _ _ _ q1 | exact ih _ _ _ q2
    · cases t <;> simp only [Tr.set, h0, cond_true, Tr.get]

theorem Tr.get_set_other {α : Type} : ∀ (n : Nat) (t : Tr α) (i j : Nat) (b : α), i < n → j ≠ i → (t.set n i b).get j = t.get j := by
  intro n
  induction n with
  | zero => intro t i j b h; omega
  | succ n ih =>
    intro t i j b h hne
    have half : ∀ k, Nat.beq k 0 = false → Nat.beq (k % 2) 1 = true → k = 2 * (k / 2) + 1 := by
      intro k _ h1; have := Nat.eq_of_beq_eq_true h1; omega
    have half' : ∀ k, Nat.beq k 0 = false → Nat.beq (k % 2) 1 = false → k = 2 * (k / 2 - 1) + 2 := by
      intro k h0 h1
      have a := Nat.ne_of_beq_eq_false h0; have := Nat.ne_of_beq_eq_false h1; omega
    cases t with
    | nil =>
      simp only [Tr.set]
      cases h0 : Nat.beq i 0
      · simp only [cond_false]
        have ei := Nat.ne_of_beq_eq_false h0
        cases h1 : Nat.beq (i % 2) 1 <;> simp only [cond_true, cond_false, Tr.get] <;> cases j0 : Nat.beq j 0 <;> simp only [cond_true, cond_false] <;>
          cases j1 : Nat.beq (j % 2) 1 <;> simp only [cond_true, cond_false]
        · rw [ih .nil _ _ b (by omega) (by have a := half' i h0 h1; have c := half' j j0 j1; omega)]; rfl
        · rw [ih .nil _ _ b (by omega) (by have a := half i h0 h1; have c := half j j0 j1; omega)]; rfl
      · have ei := Nat.eq_of_beq_eq_true h0
        simp only [cond_true, Tr.get]
        cases j0 : Nat.beq j 0
        · simp only [cond_false]; cases Nat.beq (j % 2) 1 <;> rfl
        · exact absurd ((Nat.eq_of_beq_eq_true j0).trans ei.symm) hne
    | node v l r =>
      simp only [Tr.set]
      cases h0 : Nat.beq i 0
      · simp only [cond_false]
        have ei := Nat.ne_of_beq_eq_false h0
        cases h1 : Nat.beq (i % 2) 1 <;> simp only [cond_true, cond_false, Tr.get] <;> cases j0 : Nat.beq j 0 <;> simp only [cond_true, cond_false] <;>
          cases j1 : Nat.beq (j % 2) 1 <;> simp only [cond_true, cond_false]
        · rw [ih r _ _ b (by omega) (by have a := half' i h0 h1; have c := half' j j0 j1; omega)]
        · rw [ih l _ _ b (by omega) (by have a := half i h0 h1; have c := half j j0 j1; omega)]
      · have ei := Nat.eq_of_beq_eq_true h0
        simp only [cond_true, Tr.get]
        cases j0 : Nat.beq j 0
        · simp only [cond_false]
        · exact absurd ((Nat.eq_of_beq_eq_true j0).trans ei.symm) hne

theorem AH.get_put_same (H : AH) (i : Nat) (b : Blk) : (H.put i b).get i = some b := Tr.get_set_same _ _ _ _ (by omega)
theorem AH.get_put_other (H : AH) {i j : Nat} (b : Blk) (h : j ≠ i) : (H.put i b).get j = H.get j := Tr.get_set_other _ _ _ _ _ (by omega) h
theorem AH.get_push_same (H : AH) (b : Blk) : (H.push b).get H.next = some b := Tr.get_set_same _ _ _ _ (by omega)
theorem AH.get_push_other (H : AH) {j : Nat} (b : Blk) (h : j ≠ H.next) : (H.push b).get j = H.get j := Tr.get_set_other _ _ _ _ _ (by omega) h
@[simp] theorem AH.next_put (H : AH) (i : Nat) (b : Blk) : (H.put i b).next = H.next := rfl
@[simp] theorem AH.next_push (H : AH) (b : Blk) : (H.push b).next = H.next + 1 := rfl

end Go.Abs
