/- Parts of the proof: an abstract interpreter of the loaded program and its soundness, printed functions, the law's own texts; part 3. No condition. -/
import Derived.Test.YtgkhbmoidenjaaaDoorOw2
import Derived.Shelf.SortM.Plain
import Derived.Shelf.SortM.SortNone
import Derived.Shelf.Strconv.Itoa3
import Derived.Below
import Derived.Test.YtgkhbmoidenjaaaDoorChecked
import Derived.Test.YtgkhbmoidenjaaaDoorRows
import Derived.Test.YtgkhbmoidenjaaaDoorCards
import Derived.Test.YtgkhbmoidenjaaaDoorTie
import Derived.Deep.DeepWitnessRowRef
import Derived.ChangeMaps5
namespace Go.Abs.Eg
def addU (o:Nat→Nat) (n:Nat):List Nat→List Cl→List Cl
 | [],cs=>cs
 | a :: ays,cs=>addU o n ays (cs.modify (o a) fun c=>{ c with uses:=c.uses++[n] })
theorem I9 (o:Nat→Nat) (n:Nat):∀(ays:List Nat) (cs:List Cl),(addU o n ays cs).length=cs.length
 | [],cs=>rfl
 | a :: ays,cs=>by
  show (addU o n ays _).length=_;rw [I9 o n ays,List.length_modify]
theorem zd6 (o:Nat→Nat) (n:Nat):∀(ays:List Nat) (cs:List Cl) (k:Nat),k<cs.length →
  (((addU o n ays cs).getD k Cl.nil).mem=(cs.getD k Cl.nil).mem∧((addU o n ays cs).getD k Cl.nil).vals=(cs.getD k Cl.nil).vals∧((addU o n ays cs).getD k Cl.nil).low=(cs.getD k Cl.nil).low) ∧
  ∀u,u∈((addU o n ays cs).getD k Cl.nil).uses↔u∈(cs.getD k Cl.nil).uses∨u=n∧∃a∈ays,o a=k
 | [],cs,k,hk=>⟨⟨rfl,rfl,rfl⟩,fun u=>by simp [addU]⟩
 | a :: ays,cs,k,hk=>by
  have ih:=zd6 o n ays (cs.modify (o a) fun c=>{ c with uses:=c.uses++[n] }) k (by rw [List.length_modify]; exact hk);have hg:(cs.modify (o a) fun c=>{ c with uses:=c.uses++[n] }).getD k Cl.nil=if o a=k then { (cs.getD k Cl.nil) with uses:=(cs.getD k Cl.nil).uses++[n] } else cs.getD k Cl.nil:=by
   rw [List.getD_eq_getElem?_getD,List.getD_eq_getElem?_getD,List.getElem?_modify,List.getElem?_eq_getElem hk];by_cases e:o a=k
   ·simp [e]
   ·simp [e]
  rw [hg] at ih;refine ⟨?_,fun u=>?_⟩
  ·show ((addU o n ays _).getD k Cl.nil).mem=_∧_;by_cases e:o a=k
   ·rw [if_pos e] at ih; exact ih.1
   ·rw [if_neg e] at ih; exact ih.1
  ·show u∈((addU o n ays _).getD k Cl.nil).uses↔_;rw [ih.2 u];by_cases e:o a=k
   ·rw [if_pos e];rw [List.mem_append,List.mem_singleton];simp only [List.mem_cons];constructor
    ·rintro ((h | h) | ⟨h,b,hb,h2⟩)
     ·exact .inl h
     ·exact .inr ⟨h,a,.inl rfl,e⟩
     ·exact .inr ⟨h,b,.inr hb,h2⟩
    ·rintro (h | ⟨h,b,hb | hb,h2⟩)
     ·exact .inl (.inl h)
     ·exact .inl (.inr h)
     ·exact .inr ⟨h,b,hb,h2⟩
   ·rw [if_neg e];simp only [List.mem_cons];constructor
    ·rintro (h | ⟨h,b,hb,h2⟩)
     ·exact .inl h
     ·exact .inr ⟨h,b,.inr hb,h2⟩
    ·rintro (h | ⟨h,b,hb | hb,h2⟩)
     ·exact .inl h
     ·rw [hb] at h2; exact absurd h2 e
     ·exact .inr ⟨h,b,hb,h2⟩
def begSt (g:St) (x:Nd):St :=
 let of':=g.of++[g.cls.length]
 ⟨g.N++[x],of',addU (fun i=>of'.getD i 0) g.n x.args (g.cls++[⟨[],[g.n],if x.value then [g.n] else [],g.n⟩]),g.sigs,g.fo++[-1]⟩
section
variable {g:St} {M:List (Nat×Nat)} {x:Nd}
theorem beg_n:(begSt g x).n=g.n+1:=by
 show (g.N++[x]).length=g.N.length+1;simp
theorem Z5 {i:Nat} (hl:g.of.length=g.n) (hi:i<g.n):(begSt g x).o i=g.o i:=by
 show (g.of++[g.cls.length]).getD i 0=g.of.getD i 0;rw [List.getD_eq_getElem?_getD,List.getD_eq_getElem?_getD,List.getElem?_append_left (by omega)]
theorem z5d (hl:g.of.length=g.n):(begSt g x).o g.n=g.cls.length:=by
 show (g.of++[g.cls.length]).getD g.n 0=g.cls.length;rw [List.getD_eq_getElem?_getD,List.getElem?_append_right (by omega),hl];simp
theorem beg_N (i:Nat):(begSt g x).N[i]? = if i=g.n then some x else g.N[i]? := by
 show (g.N++[x])[i]? = _;by_cases e:i=g.n
 ·rw [if_pos e,List.getElem?_append_right (by show g.N.length≤i; rw [e]; exact Nat.le_refl _),e];show [x][g.N.length - g.N.length]? = some x;simp
 ·rw [if_neg e];by_cases h:i<g.N.length
  ·rw [List.getElem?_append_left h]
  ·rw [List.getElem?_eq_none (by simp; have:g.n=g.N.length:=rfl; omega),List.getElem?_eq_none (by omega)]
theorem beg_c (hl:g.of.length=g.n) (k:Nat) (hk:k<g.cls.length+1) :
  (((begSt g x).c k).mem=(if k=g.cls.length then [g.n] else (g.c k).mem)∧((begSt g x).c k).vals=(if k=g.cls.length then (if x.value then [g.n] else []) else (g.c k).vals)∧((begSt g x).c k).low=(if k=g.cls.length then g.n else (g.c k).low)) ∧
  ∀u,u∈((begSt g x).c k).uses↔u∈(if k=g.cls.length then [] else (g.c k).uses)∨u=g.n∧∃a∈x.args,(begSt g x).o a=k:=by
 have h:=zd6 (begSt g x).o g.n x.args (g.cls++[⟨[],[g.n],if x.value then [g.n] else [],g.n⟩]) k (by simpa using hk);have hg:(g.cls++[(⟨[],[g.n],if x.value then [g.n] else [],g.n⟩:Cl)]).getD k Cl.nil=if k=g.cls.length then (⟨[],[g.n],if x.value then [g.n] else [],g.n⟩:Cl) else g.c k:=by
  rw [List.getD_eq_getElem?_getD];by_cases e:k=g.cls.length
  ·rw [if_pos e,List.getElem?_append_right (by omega),e];simp
  ·rw [if_neg e,List.getElem?_append_left (by omega)];show _=g.cls.getD k Cl.nil;rw [List.getD_eq_getElem?_getD]
 rw [hg] at h;by_cases e:k=g.cls.length
 ·simp only [if_pos e] at h ⊢; exact h
 ·simp only [if_neg e] at h ⊢; exact h
theorem o9 (hl:g.of.length=g.n) (ha:∀(i:Nat) y,g.N[i]? = some y→∀a∈y.args,a<i) {i:Nat} (hi:i<g.n):(begSt g x).sig i=g.sig i:=by
 obtain ⟨y,hy⟩:=J6 hi;rw [sig_of hy,sig_of (g:=begSt g x) (x:=y) (by rw [beg_N,if_neg (by omega)]; exact hy)];unfold keyOf;have:y.args.map (begSt g x).o=y.args.map g.o:=List.map_congr_left fun a h=>Z5 hl (by have:=ha i y hy a h; omega);rw [this]
theorem z1b (hl:g.of.length=g.n) (hx:∀a∈x.args,a<g.n):(begSt g x).sig g.n=keyOf x g.o:=by
 rw [sig_of (g:=begSt g x) (x:=x) (by rw [beg_N,if_pos rfl])];unfold keyOf;have:x.args.map (begSt g x).o=x.args.map g.o:=List.map_congr_left fun a h=>Z5 hl (hx a h);rw [this]
theorem MI.beg0 (h:MI g M []) (hx:∀a∈x.args,a<g.n) (sg:Key→Option Nat) (q:List (Nat×Nat)) (hs1:∀s k,sg s=some k→k<g.n+1∧(begSt g x).sig k=s)
  (hs2:∀i,i<g.n+1→∃k,sg ((begSt g x).sig i)=some k∧Conn (g.n+1) (begSt g x).o q i k) (hq:∀a b,(a,b)∈q→a<g.n+1∧b<g.n+1∧Cong (g.N++[x]) M a b):MI { begSt g x with sigs:=sg } M q:=by
 have hn:(begSt g x).n=g.n+1:=beg_n;have hold:∀{i},i<g.n→(begSt g x).o i=g.o i:=fun hi=>Z5 h.len hi;have hnew:(begSt g x).o g.n=g.cls.length:=z5d h.len;have hcm:∀i y,g.N[i]? = some y→(g.N++[x])[i]? = some y:=fun i y hy=>by rw [List.getElem?_append_left (List.getElem?_eq_some_iff.1 hy).1]; exact hy
 have hlt:∀{i},i<g.n→g.o i<g.cls.length:=fun hi=>h.cl _ hi;have lenC:({ begSt g x with sigs:=sg }:St).cls.length=g.cls.length+1:=by
  show (addU _ _ _ _).length=_;rw [I9]; simp
 have split:∀{i},i<g.n+1→i<g.n∨i=g.n:=fun h=>by omega
 refine ⟨?_,?_,?_,?_,?_,?_,?_,?_,?_,?_,?_,?_,?_,?_,?_,?_,?_⟩
 ·show (g.of++[g.cls.length]).length=(begSt g x).n;rw [hn,List.length_append,h.len]; rfl
 ·show (g.fo++[-1]).length=(begSt g x).n;rw [hn,List.length_append,h.flen]; rfl
 ·intro i y hy a ha;have hy:(begSt g x).N[i]? = some y:=hy;rw [beg_N] at hy;split at hy
  ·rename_i e;cases hy;rw [e]; exact hx a ha
  ·exact h.args i y hy a ha
 ·intro i hi;rw [lenC];show (begSt g x).o i<_;rcases split (hn▸hi) with hi | rfl
  ·rw [hold hi]; have:=hlt hi; omega
  ·rw [hnew]; omega
 ·intro i hi j;show j∈((begSt g x).c ((begSt g x).o i)).mem↔j<(begSt g x).n∧(begSt g x).o j=(begSt g x).o i;rw [hn];rcases split (hn▸hi) with hi | rfl
  ·have hk:=hlt hi;rw [hold hi,(beg_c h.len (g.o i) (by omega)).1.1,if_neg (by omega),h.mem i hi];constructor
   ·rintro ⟨h1,h2⟩; exact ⟨by omega,by rw [hold h1]; exact h2⟩
   ·rintro ⟨h1,h2⟩
    rcases split h1 with h1 | rfl
    ·rw [hold h1] at h2; exact ⟨h1,h2⟩
    ·rw [hnew] at h2; omega
  ·rw [hnew,(beg_c h.len _ (by omega)).1.1,if_pos rfl,List.mem_singleton];constructor
   ·rintro rfl; exact ⟨by omega,hnew⟩
   ·rintro ⟨h1,h2⟩
    rcases split h1 with h1 | rfl
    ·rw [hold h1] at h2; have:=hlt h1; omega
    ·rfl
 ·intro i hi j;show j∈((begSt g x).c ((begSt g x).o i)).vals↔j<(begSt g x).n∧(begSt g x).o j=(begSt g x).o i∧∃y,(begSt g x).N[j]? = some y∧y.value=true;rw [hn];rcases split (hn▸hi) with hi | rfl
  ·have hk:=hlt hi;rw [hold hi,(beg_c h.len (g.o i) (by omega)).1.2.1,if_neg (by omega),h.vals i hi];constructor
   ·rintro ⟨h1,h2,h3⟩; exact ⟨by omega,by rw [hold h1]; exact h2,by rw [beg_N,if_neg (by omega)]; exact h3⟩
   ·rintro ⟨h1,h2,h3⟩
    rcases split h1 with h1 | rfl
    ·rw [hold h1] at h2;rw [beg_N,if_neg (by omega)] at h3;exact ⟨h1,h2,h3⟩
    ·rw [hnew] at h2; omega
  ·rw [hnew,(beg_c h.len _ (by omega)).1.2.1,if_pos rfl];constructor
   ·intro hj;cases hv:x.value with
    | false=>rw [hv] at hj; simp at hj
    | true =>
     rw [hv] at hj;simp only [if_true,List.mem_singleton] at hj;subst hj;exact ⟨by omega,hnew,x,by rw [beg_N,if_pos rfl],hv⟩
   ·rintro ⟨h1,h2,y,hy,hv⟩
    rcases split h1 with h1 | rfl
    ·rw [hold h1] at h2; have:=hlt h1; omega
    ·rw [beg_N,if_pos rfl] at hy;cases hy;rw [hv]; simp
 ·intro k v hv;have hv:v∈((begSt g x).c k).vals:=hv;show v<(begSt g x).n;rw [hn];by_cases hk:k<g.cls.length+1
  ·rw [(beg_c h.len k hk).1.2.1] at hv;split at hv
   ·split at hv
    ·simp at hv; omega
    ·simp at hv
   ·have:=h.vlt k v hv; omega
  ·have:(begSt g x).c k=Cl.nil:=by
    show (begSt g x).cls.getD k Cl.nil=_;rw [List.getD_eq_getElem?_getD,List.getElem?_eq_none (by have:=lenC; show (begSt g x).cls.length≤k; have:(begSt g x).cls.length=g.cls.length+1:=lenC; omega)];rfl
   rw [this] at hv;cases hv
 ·intro i hi;show ((begSt g x).c ((begSt g x).o i)).vals.Nodup;rcases split (hn▸hi) with hi | rfl
  ·have hk:=hlt hi;rw [hold hi,(beg_c h.len (g.o i) (by omega)).1.2.1,if_neg (by omega)];exact h.vnd i hi
  ·rw [hnew,(beg_c h.len _ (by omega)).1.2.1,if_pos rfl];split <;> simp
 ·intro i hi;show ((begSt g x).c ((begSt g x).o i)).low<(begSt g x).n∧(begSt g x).o ((begSt g x).c ((begSt g x).o i)).low=(begSt g x).o i∧∀j,j<(begSt g x).n→(begSt g x).o j=(begSt g x).o i→((begSt g x).c ((begSt g x).o i)).low≤j;rw [hn];rcases split (hn▸hi) with hi | rfl
  ·have hk:=hlt hi;rw [hold hi,(beg_c h.len (g.o i) (by omega)).1.2.2,if_neg (by omega)];obtain ⟨l1,l2,l3⟩:=h.low i hi;refine ⟨by omega,by rw [hold l1]; exact l2,fun j hj hj2=>?_⟩;rcases split hj with hj | rfl
   ·rw [hold hj] at hj2; exact l3 j hj hj2
   ·omega
  ·rw [hnew,(beg_c h.len _ (by omega)).1.2.2,if_pos rfl];refine ⟨by omega,hnew,fun j hj hj2=>?_⟩;rcases split hj with hj | rfl
   ·rw [hold hj] at hj2; have:=hlt hj; omega
   ·omega
 ·intro i hi u;show u∈((begSt g x).c ((begSt g x).o i)).uses↔∃y,(begSt g x).N[u]? = some y∧∃a∈y.args,(begSt g x).o a=(begSt g x).o i;have hci:(begSt g x).o i<g.cls.length+1:=by
   rcases split (hn▸hi) with hi | rfl
   ·rw [hold hi]; have:=hlt hi; omega
   ·rw [hnew]; omega
  rw [(beg_c h.len _ hci).2 u];constructor
  ·rintro (hu | ⟨rfl,a,ha,e⟩)
   ·rcases split (hn▸hi) with hi | rfl
    ·have hk:=hlt hi;rw [hold hi,if_neg (by omega),h.uses i hi] at hu;obtain ⟨y,hy,a,ha,e⟩:=hu;have hun:u<g.n:=(List.getElem?_eq_some_iff.1 hy).1;refine ⟨y,by rw [beg_N,if_neg (by omega)]; exact hy,a,ha,?_⟩;have:=h.args u y hy a ha;rw [hold (by omega),hold hi]; exact e
    ·rw [hnew,if_pos rfl] at hu; cases hu
   ·exact ⟨x,by rw [beg_N,if_pos rfl],a,ha,e⟩
  ·rintro ⟨y,hy,a,ha,e⟩
   rw [beg_N] at hy;split at hy
   ·rename_i eu;cases hy;exact .inr ⟨eu,a,ha,e⟩
   ·refine .inl ?_;have hun:u<g.n:=(List.getElem?_eq_some_iff.1 hy).1;have han:a<g.n:=by have:=h.args u y hy a ha; omega
    rw [hold han] at e;rcases split (hn▸hi) with hi | rfl
    ·have hk:=hlt hi;rw [hold hi] at e ⊢;rw [if_neg (by omega),h.uses i hi];exact ⟨y,hy,a,ha,e⟩
    ·rw [hnew] at e; have:=hlt han; omega
 ·intro s k hk;show k<(begSt g x).n∧_;rw [hn];exact hs1 s k hk
 ·intro i hi;obtain ⟨k,h1,h2⟩:=hs2 i (hn▸hi);exact ⟨k,h1,by show Conn (begSt g x).n _ _ _ _; rw [hn]; exact h2⟩
 ·intro i j hi hj e;have e:(begSt g x).o i=(begSt g x).o j:=e;rcases split (hn▸hi) with hi | rfl
  ·rcases split (hn▸hj) with hj | rfl
   ·rw [hold hi,hold hj] at e;exact (h.sd i j hi hj e).mono hcm fun _ h=>h
   ·rw [hold hi,hnew] at e; have:=hlt hi; omega
  ·rcases split (hn▸hj) with hj | rfl
   ·rw [hold hj,hnew] at e; have:=hlt hj; omega
   ·exact .refl _
 ·intro a b hm;show a<(begSt g x).n∧b<(begSt g x).n∧_;rw [hn];exact hq a b hm
 ·intro a b hm;obtain ⟨h1,h2,h3⟩:=h.cb a b hm;show a<(begSt g x).n∧b<(begSt g x).n∧Conn (begSt g x).n (begSt g x).o q a b;rw [hn];exact ⟨by omega,by omega,.same (by omega) (by omega) (by rw [hold h1,hold h2]; exact h3.nil)⟩
 ·intro i hi;have old:∀{i},Way g.fo i→Way (g.fo++[-1]) i:=by
   intro i hw;induction hw with
   | root h=>exact .root (by rw [List.getElem?_append_left (List.getElem?_eq_some_iff.1 h).1]; exact h)
   | step h _ ih=>exact .step (by rw [List.getElem?_append_left (List.getElem?_eq_some_iff.1 h).1]; exact h) ih
  rcases split (hn▸hi) with hi | rfl
  ·exact old (h.way i hi)
  ·refine .root ?_;show (g.fo++[-1])[g.n]? = _;rw [List.getElem?_append_right (by rw [h.flen]; exact Nat.le_refl _),h.flen];simp
 ·intro i t ht;have ht:(g.fo++[-1])[i]? = some t:=ht;by_cases hi:i<g.fo.length
  ·rw [List.getElem?_append_left hi] at ht;rcases h.edge i t ht with e | ⟨j,h1,h2,h3⟩
   ·exact .inl e
   ·refine .inr ⟨j,h1,by show j<(begSt g x).n; rw [hn]; omega,?_⟩;show (begSt g x).o j=(begSt g x).o i;rw [hold h2,hold (by rw [h.flen] at hi; exact hi)];exact h3
  ·rw [List.getElem?_append_right (by omega)] at ht;have:=(List.getElem?_eq_some_iff.1 ht).1;simp only [List.length_singleton] at this;have e0:i - g.fo.length=0:=by omega
   rw [e0] at ht;simp at ht;exact .inl ht.symm
theorem MI.beg_new' (h:MI g M []) (hx:∀a∈x.args,a<g.n) (hs:g.sigs (keyOf x g.o)=none):MI { begSt g x with sigs:=fun s=>if s=keyOf x g.o then some g.n else g.sigs s } M []:=by
 refine h.beg0 hx _ _ (fun s k hk=>?_) (fun i hi=>?_) (fun a b hm=>by cases hm)
 ·split at hk
  ·rename_i e;cases hk;exact ⟨by omega,by rw [z1b h.len hx,e]⟩
  ·obtain ⟨h1,h2⟩:=h.s1 s k hk;exact ⟨by omega,by rw [o9 h.len h.args h1]; exact h2⟩
 ·by_cases e:i=g.n
  ·subst e;refine ⟨g.n,by rw [z1b h.len hx]; simp,.same (by omega) (by omega) rfl⟩
  ·have hi':i<g.n:=by omega
   obtain ⟨k,h1,h2⟩:=h.s2 i hi';have hk:=(h.s1 _ _ h1).1;refine ⟨k,?_,.same (by omega) (by omega) (by rw [Z5 h.len hi',Z5 h.len hk]; exact h2.nil)⟩;rw [o9 h.len h.args hi'];show (if g.sig i=keyOf x g.o then some g.n else g.sigs (g.sig i))=some k;rw [if_neg (fun e=>by rw [e,hs] at h1; cases h1)];exact h1
theorem MI.beg_wait (h:MI g M []) (hx:∀a∈x.args,a<g.n) {k:Nat} (hs:g.sigs (keyOf x g.o)=some k):MI (begSt g x) M [(g.n,k)]:=by
 obtain ⟨hk,hks⟩:=h.s1 _ _ hs;refine h.beg0 hx g.sigs _ (fun s k hk=>?_) (fun i hi=>?_) (fun a b hm=>?_)
 ·obtain ⟨h1,h2⟩:=h.s1 s k hk;exact ⟨by omega,by rw [o9 h.len h.args h1]; exact h2⟩
 ·by_cases e:i=g.n
  ·subst e;exact ⟨k,by rw [z1b h.len hx]; exact hs,.wait (by simp)⟩
  ·have hi':i<g.n:=by omega
   obtain ⟨k',h1,h2⟩:=h.s2 i hi';have hk':=(h.s1 _ _ h1).1;exact ⟨k',by rw [o9 h.len h.args hi']; exact h1,.same (by omega) (by omega) (by rw [Z5 h.len hi',Z5 h.len hk']; exact h2.nil)⟩
 ·simp only [List.mem_singleton,Prod.mk.injEq] at hm;obtain ⟨rfl,rfl⟩:=hm;refine ⟨by omega,by omega,?_⟩;obtain ⟨y,hy⟩:=J6 hk;rw [sig_of hy] at hks;obtain ⟨e1,e2,e3,e4⟩:=key_eq hks;have hyk:(g.N++[x])[b]? = some y:=by rw [List.getElem?_append_left (List.getElem?_eq_some_iff.1 hy).1]; exact hy
  have hxn:(g.N++[x])[g.n]? = some x:=by
   have:=beg_N (g:=g) (x:=x) g.n;rw [if_pos rfl] at this;exact this
  refine .symm (.congr hyk hxn e1 e2 e3 fun n u v hu hv=>?_);have h1:=h.args b y hy u (List.mem_of_getElem? hu);have h2:=hx v (List.mem_of_getElem? hv);exact (h.sd u v (by omega) h2 (e4 n u v hu hv)).mono (fun i z hz=>by rw [List.getElem?_append_left (List.getElem?_eq_some_iff.1 hz).1]; exact hz) fun _ h=>h
theorem MI.say (h:MI g M []) {a b:Nat} (ha:a<g.n) (hb:b<g.n):MI g (M++[(a,b)]) [(a,b)]:=by
 have hm:∀p∈M,p∈M++[(a,b)]:=fun p hp=>List.mem_append_left _ hp;have hc:∀{i j},Conn g.n g.o [] i j→Conn g.n g.o [(a,b)] i j:=fun hc=>hc.mono (fun _ _=>.same) fun _ _ h=>by cases h
 exact { h with
  s2:=fun i hi=>let ⟨k,h1,h2⟩:=h.s2 i hi; ⟨k,h1,hc h2⟩
  sd:=fun i j hi hj e=>(h.sd i j hi hj e).mono (fun _ _ h=>h) hm
  qd:=fun x y hxy=>by
   simp only [List.mem_singleton,Prod.mk.injEq] at hxy;obtain ⟨rfl,rfl⟩:=hxy;exact ⟨ha,hb,.base (by simp)⟩
  cb:=fun x y hxy=>by
   rcases List.mem_append.1 hxy with hxy | hxy
   ·obtain ⟨h1,h2,h3⟩:=h.cb x y hxy;exact ⟨h1,h2,hc h3⟩
   ·simp only [List.mem_singleton,Prod.mk.injEq] at hxy;obtain ⟨rfl,rfl⟩:=hxy;exact ⟨ha,hb,.wait (by simp)⟩ }
theorem MI.empty:MI ⟨[],[],[],fun _=>none,[]⟩ [] []:=by
 have h0:∀i,¬i<(⟨[],[],[],fun _=>none,[]⟩:St).n:=fun i=>Nat.not_lt_zero i;exact ⟨rfl,rfl,fun i x h=>(by cases h),fun i h=>absurd h (h0 i),fun i h=>absurd h (h0 i),fun i h=>absurd h (h0 i),fun k v h=>(by
   have:(⟨[],[],[],fun _=>none,[]⟩:St).c k=Cl.nil:=by
    show ([]:List Cl).getD k Cl.nil=_;simp
   rw [this] at h; cases h),fun i h=>absurd h (h0 i),fun i h=>absurd h (h0 i),fun i h=>absurd h (h0 i),fun s k h=>(by cases h),fun i h=>absurd h (h0 i),fun i j h=>absurd h (h0 i),fun a b h=>(by cases h),fun a b h=>(by cases h),fun i h=>absurd h (h0 i),fun i t h=>(by cases h)⟩
end
theorem MI.iff {g:St} {M:List (Nat×Nat)} (h:MI g M []) {i j:Nat} (hi:i<g.n) (hj:j<g.n):g.o i=g.o j↔Cong g.N M i j:=⟨h.sd i j hi hj,h.complete⟩
end Go.Abs.Eg
namespace Go.Abs.Eg
theorem B8:∀(n:Nat) (l:List Nat),l.Nodup→(∀x∈l,x<n)→l.length≤n
 | 0,l,_,h=>by
  cases l with
  | nil=>exact Nat.le_refl _
  | cons x l=>exact absurd (h x List.mem_cons_self) (Nat.not_lt_zero _)
 | n+1,l,hd,h=>by
  have h1:(l.filter fun x=>x != n).Nodup:=hd.filter _;have h2:=B8 n _ h1 fun x hx=>by
   have h3:=List.mem_filter.1 hx;have h4:=h x h3.1;have h5:x≠n:=by simpa using h3.2
   omega
  have h3:l.length≤(l.filter fun x=>x != n).length+1:=by
   clear h h1 h2;induction l with
   | nil=>simp
   | cons y l ih =>
    have hd':=List.nodup_cons.1 hd;by_cases e:y=n
    ·subst e;have:l.filter (fun x=>x != y)=l:=List.filter_eq_self.2 fun x hx=>by
      have:x≠y:=fun e=>hd'.1 (by rw [← e]; exact hx)
      simpa using this
     rw [List.filter_cons_of_neg (by simp),this,List.length_cons];omega
    ·rw [List.filter_cons_of_pos (by simpa using e),List.length_cons,List.length_cons];have:=ih hd'.2;omega
  omega
def St.args (g:St) (u:Nat):List Nat:=((g.N[u]?).map Nd.args).getD []
def cnt (g:St) (k:Nat):Nat:=((List.range g.n).map fun u=>(g.args u).countP fun a=>g.o a == k).sum
def tot (g:St):Nat:=((List.range g.n).map fun u=>(g.args u).length).sum
structure MX (g:St):Prop where
 mnd:∀i,i<g.n→(g.c (g.o i)).mem.Nodup
 ulen:∀i,i<g.n→(g.c (g.o i)).uses.length=cnt g (g.o i)
theorem sum_le {l:List Nat} {f g:Nat→Nat} (h:∀x∈l,f x≤g x):(l.map f).sum≤(l.map g).sum:=by
 induction l with
 | nil=>exact Nat.le_refl _
 | cons x l ih =>
  simp only [List.map_cons,List.sum_cons];have:=h x List.mem_cons_self;have:=ih fun y hy=>h y (List.mem_cons_of_mem _ hy);omega
theorem zfb {l:List Nat} {f g:Nat→Nat}:(l.map fun x=>f x+g x).sum=(l.map f).sum+(l.map g).sum:=by
 induction l with
 | nil=>rfl
 | cons x l ih=>simp only [List.map_cons,List.sum_cons,ih]; omega
theorem za {l:List Nat} {f g:Nat→Nat} (h:∀x∈l,f x=g x):(l.map f).sum=(l.map g).sum:=by
 rw [List.map_congr_left h]
theorem zbi {o:Nat→Nat} {s t:Nat} (hne:s≠t):∀l:List Nat,(l.countP fun a=>o a == t)+(l.countP fun a=>o a == s)≤l.length
 | []=>Nat.le_refl _
 | a :: l=>by
  have ih:=zbi (o:=o) hne l;simp only [List.countP_cons,List.length_cons];by_cases h1:o a=t
  ·have:¬o a=s:=fun e=>hne (e.symm.trans h1);simp [h1,this,hne,Ne.symm hne]; omega
  ·by_cases h2:o a=s <;> simp [h1,h2,hne,Ne.symm hne] <;> omega
theorem zdr {o:Nat→Nat} {s t:Nat} (hne:s≠t):∀l:List Nat,(l.countP fun a=>re s t (o a) == t)=(l.countP fun a=>o a == t)+(l.countP fun a=>o a == s)
 | []=>rfl
 | a :: l=>by
  have ih:=zdr (o:=o) hne l;simp only [List.countP_cons,ih];unfold re;by_cases h1:o a=s
  ·have:¬o a=t:=fun e=>hne (h1.symm.trans e);simp [h1,hne,Ne.symm hne]; omega
  ·by_cases h2:o a=t <;> simp [h1,h2,hne,Ne.symm hne] <;> omega
theorem zeu {o:Nat→Nat} {s t k:Nat} (h1:k≠s) (h2:k≠t) (l:List Nat):(l.countP fun a=>re s t (o a) == k)=l.countP fun a=>o a == k:=by
 refine List.countP_congr fun a _=>?_;unfold re;by_cases h:o a=s
 ·simp only [h,if_true,beq_iff_eq];constructor
  ·intro e; exact absurd e.symm h2
  ·intro e; exact absurd e.symm h1
 ·simp only [if_neg h]
section
variable {g:St} {M q:List (Nat×Nat)} {s t:Nat} {fo:List Int}
theorem zkv (hne:s≠t):cnt g t+cnt g s≤tot g:=by
 unfold cnt tot;rw [← zfb];exact sum_le fun u _=>zbi hne _
theorem cnt_le (k:Nat):cnt g k≤tot g:=sum_le fun u _=>List.countP_le_length
theorem zbe (ha:∀(i:Nat) x,g.N[i]? = some x→∀a∈x.args,a<i) {u:Nat} (hu:u<g.n):∀a∈g.args u,a<g.n:=by
 obtain ⟨x,hx⟩:=J6 hu;intro a h;unfold St.args at h;rw [hx] at h;have:=ha u x hx a h;omega
theorem zje (hl:g.of.length=g.n) (ha:∀(i:Nat) x,g.N[i]? = some x→∀a∈x.args,a<i) (k:Nat):cnt (joinSt g s t fo).1 k=((List.range g.n).map fun u=>(g.args u).countP fun a=>re s t (g.o a) == k).sum:=by
 unfold cnt;refine za fun u hu=>List.countP_congr fun a h=>?_;rw [join_o hl (zbe ha (List.mem_range.1 hu) a h)]
theorem MX.join {p:Nat×Nat} {a b:Nat} (h:MI g M (p :: q)) (hx:MX g) (hab:a<g.n∧b<g.n) (hs:g.o a=s) (ht:g.o b=t) (hne:s≠t):MX (joinSt g s t fo).1:=by
 obtain ⟨han,hbn⟩:=hab;have htl:t<g.cls.length:=by rw [← ht]; exact h.cl b hbn
 have hc:=fun k=>join_c (g:=g) (s:=s) (fo:=fo) htl k;have mS:=h.mem a han; rw [hs] at mS;have mT:=h.mem b hbn; rw [ht] at mT;have nS:=hx.mnd a han; rw [hs] at nS;have nT:=hx.mnd b hbn; rw [ht] at nT;have uS:=hx.ulen a han; rw [hs] at uS;have uT:=hx.ulen b hbn; rw [ht] at uT;refine ⟨fun i hi=>?_,fun i hi=>?_⟩
 ·rw [join_o h.len hi,hc];split
  ·refine List.nodup_append.2 ⟨nT,nS,fun x hx y hy e=>?_⟩;have h1:=(mT x).1 hx;have h2:=(mS y).1 hy;rw [e,h2.2] at h1;exact hne h1.2
  ·rename_i hn;have e:re s t (g.o i)=g.o i:=by
    unfold re at hn ⊢;split
    ·rename_i hh; rw [if_pos hh] at hn; exact absurd rfl hn
    ·rfl
   rw [e];exact hx.mnd i hi
 ·rw [join_o h.len hi,hc,zje h.len h.args];by_cases e:re s t (g.o i)=t
  ·rw [if_pos e,e];simp only [List.length_append,uS,uT];unfold cnt;rw [← zfb];exact za fun u _=>(zdr hne _).symm
  ·rw [if_neg e];have e1:g.o i≠s:=fun hh=>e (by unfold re; rw [if_pos hh]);have e2:re s t (g.o i)=g.o i:=by unfold re; rw [if_neg e1]
   have e3:g.o i≠t:=fun hh=>e (by rw [e2]; exact hh);rw [e2,hx.ulen i hi];unfold cnt;exact za fun u _=>(zeu e1 e3 _).symm
variable {x:Nd}
theorem z7e (o:Nat→Nat) (n:Nat):∀(ays:List Nat) (cs:List Cl) (k:Nat),k<cs.length→((addU o n ays cs).getD k Cl.nil).uses.length=(cs.getD k Cl.nil).uses.length+ays.countP fun a=>o a == k
 | [],cs,k,hk=>rfl
 | a :: ays,cs,k,hk=>by
  have ih:=z7e o n ays (cs.modify (o a) fun c=>{ c with uses:=c.uses++[n] }) k (by rw [List.length_modify]; exact hk);have hg:(cs.modify (o a) fun c=>{ c with uses:=c.uses++[n] }).getD k Cl.nil=if o a=k then { (cs.getD k Cl.nil) with uses:=(cs.getD k Cl.nil).uses++[n] } else cs.getD k Cl.nil:=by
   rw [List.getD_eq_getElem?_getD,List.getD_eq_getElem?_getD,List.getElem?_modify,List.getElem?_eq_getElem hk];by_cases e:o a=k
   ·simp [e]
   ·simp [e]
  show ((addU o n ays _).getD k Cl.nil).uses.length=_;rw [ih,hg,List.countP_cons];by_cases e:o a=k
  ·simp [e]; omega
  ·simp [e]
theorem zd4 {u:Nat}:(begSt g x).args u=if u=g.n then x.args else g.args u:=by
 unfold St.args;rw [beg_N];split <;> rfl
theorem zfe:tot (begSt g x)=tot g+x.args.length:=by
 unfold tot;rw [beg_n,List.range_succ,List.map_append,List.sum_append];simp only [List.map_cons,List.map_nil,List.sum_cons,List.sum_nil,Nat.add_zero,zd4,if_true]
 congr 1
 exact za fun u hu=>by rw [if_neg (by have:=List.mem_range.1 hu; omega)]
theorem MX.beg (h:MI g M []) (hx:MX g) (ha:∀a∈x.args,a<g.n) (sg:Key→Option Nat):MX { begSt g x with sigs:=sg }:=by
 have hn:({ begSt g x with sigs:=sg }:St).n=g.n+1:=beg_n;have hold:∀{i},i<g.n→(begSt g x).o i=g.o i:=fun hi=>Z5 h.len hi;have hnew:(begSt g x).o g.n=g.cls.length:=z5d h.len;have hlt:∀{i},i<g.n→g.o i<g.cls.length:=fun hi=>h.cl _ hi;refine ⟨fun i hi=>?_,fun i hi=>?_⟩
 ·show ((begSt g x).c ((begSt g x).o i)).mem.Nodup;rcases (show i<g.n∨i=g.n by omega) with hi | rfl
  ·have hk:=hlt hi;rw [hold hi,(beg_c h.len _ (by omega)).1.1,if_neg (by omega)];exact hx.mnd i hi
  ·rw [hnew,(beg_c h.len _ (by omega)).1.1,if_pos rfl]; simp
 ·show ((begSt g x).c ((begSt g x).o i)).uses.length=cnt (begSt g x) ((begSt g x).o i);have hcnt:∀k,cnt (begSt g x) k=cnt g k+x.args.countP fun a=>g.o a == k:=by
   intro k;unfold cnt;rw [beg_n,List.range_succ,List.map_append,List.sum_append];simp only [List.map_cons,List.map_nil,List.sum_cons,List.sum_nil,Nat.add_zero,zd4,if_true]
   congr 1
   ·refine za fun u hu=>?_;have hu:=List.mem_range.1 hu;rw [if_neg (by omega)];exact List.countP_congr fun a haa=>by rw [hold (zbe h.args hu a haa)]
   ·exact List.countP_congr fun a haa=>by rw [hold (ha a haa)]
  have hulen:∀k,k<g.cls.length+1→((begSt g x).c k).uses.length=(if k=g.cls.length then 0 else (g.c k).uses.length)+x.args.countP fun a=>g.o a == k:=by
   intro k hk;have h1:=z7e (begSt g x).o g.n x.args (g.cls++[⟨[],[g.n],if x.value then [g.n] else [],g.n⟩]) k (by simpa using hk);have hg:(g.cls++[(⟨[],[g.n],if x.value then [g.n] else [],g.n⟩:Cl)]).getD k Cl.nil=if k=g.cls.length then (⟨[],[g.n],if x.value then [g.n] else [],g.n⟩:Cl) else g.c k:=by
    rw [List.getD_eq_getElem?_getD];by_cases e:k=g.cls.length
    ·rw [if_pos e,List.getElem?_append_right (by omega),e];simp
    ·rw [if_neg e,List.getElem?_append_left (by omega)];show _=g.cls.getD k Cl.nil;rw [List.getD_eq_getElem?_getD]
   rw [hg] at h1;have h2:(x.args.countP fun a=>(begSt g x).o a == k)=x.args.countP fun a=>g.o a == k:=List.countP_congr fun a haa=>by rw [hold (ha a haa)]
   rw [h2] at h1;show ((addU _ _ _ _).getD k Cl.nil).uses.length=_;refine h1.trans ?_;split <;> rfl
  rw [hcnt];rcases (show i<g.n∨i=g.n by omega) with hi | rfl
  ·have hk:=hlt hi;rw [hold hi,hulen _ (by omega),if_neg (by omega),hx.ulen i hi]
  ·rw [hnew,hulen _ (by omega),if_pos rfl];have hz:cnt g g.cls.length=0:=by
    unfold cnt;have:∀u∈List.range g.n,((g.args u).countP fun a=>g.o a == g.cls.length)=0:=by
     intro u hu;refine List.countP_eq_zero.2 fun a haa=>?_;have:=hlt (zbe h.args (List.mem_range.1 hu) a haa);simp; omega
    rw [za this];clear this;generalize List.range g.n=l;induction l with
    | nil=>rfl
    | cons y l ih=>simp only [List.map_cons,List.sum_cons,ih]
   rw [hz]
end
def live (g:St):Nat:=(List.range g.cls.length).countP fun k=>decide (k∈g.of)
theorem zl2 (g:St):live g≤g.cls.length:=by
 unfold live;have:=List.countP_le_length (p:=fun k=>decide (k∈g.of)) (l:=List.range g.cls.length)
 simpa using this
theorem zhv {g:St} {s t:Nat} {fo:List Int} (hne:s≠t) (hs:s∈g.of) (ht:t∈g.of) (hsl:s<g.cls.length):live (joinSt g s t fo).1+1≤live g:=by
 unfold live;have hlen:(joinSt g s t fo).1.cls.length=g.cls.length:=by
  show (g.cls.set t _).length=_;rw [List.length_set]
 rw [hlen];have key:∀l:List Nat,l.Nodup→(l.countP fun k=>decide (k∈(joinSt g s t fo).1.of))+(if s∈l then 1 else 0)≤(l.countP fun k=>decide (k∈g.of))+(if t∈g.of then 0 else if t∈l then 1 else 0):=by
  intro l;have hm:∀k,k∈(joinSt g s t fo).1.of→k≠s∧(k∈g.of∨k=t):=by
   intro k hk;have hk:k∈g.of.map (re s t):=hk;obtain ⟨c,hc,rfl⟩:=List.mem_map.1 hk;unfold re;split
   ·exact ⟨fun e=>hne e.symm,.inr rfl⟩
   ·rename_i h; exact ⟨h,.inl hc⟩
  induction l with
  | nil=>intro _; simp
  | cons k l ih =>
   intro hd;obtain ⟨hd1,hd2⟩:=List.nodup_cons.1 hd;have ih:=ih hd2;rw [List.countP_cons,List.countP_cons];by_cases e:k=s
   ·subst e;have h1:¬k∈(joinSt g k t fo).1.of:=fun h=>(hm k h).1 rfl;have h2:¬t=k:=fun e=>hne e.symm;simp only [h1,hs,decide_true,decide_false,Bool.false_eq_true,if_false,if_true,List.mem_cons,true_or,h2,false_or,hd1] at ih ⊢;omega
   ·have e':¬s=k:=fun h=>e h.symm;by_cases et:k=t
    ·subst et;by_cases hg:k∈g.of
     ·simp only [hg,decide_true,if_true,List.mem_cons,e',false_or] at ih ⊢;split <;> omega
     ·simp only [hg,decide_false,Bool.false_eq_true,if_false,List.mem_cons,e',false_or,true_or,if_true,hd1] at ih ⊢;split <;> omega
    ·have et':¬t=k:=fun h=>et h.symm;simp only [List.mem_cons,e',et',false_or];by_cases hk:k∈(joinSt g s t fo).1.of
     ·have:k∈g.of:=(hm k hk).2.resolve_right et;simp only [hk,this,decide_true,if_true];omega
     ·simp only [hk,decide_false,Bool.false_eq_true,if_false];omega
 have:=key (List.range g.cls.length) List.nodup_range;rw [if_pos (List.mem_range.2 hsl)] at this;rw [if_pos ht] at this;omega
end Go.Abs.Eg
namespace Go.Abs
inductive VecV (e:TypeId) (sz m:Nat) (H:AH) (n:Nat) (vs:List Value):Sl3→Prop
 | nil (hn:n=0) (hv:vs=[]):VecV e sz m H n vs Sl3.nil
 | zero (a:Addr) (ha:a.block<H.next∧a.spot=none) (hn:n=0) (hv:vs=[]):VecV e sz m H n vs ⟨some a,0,0⟩
 | opn (id off:Nat) (cs:Array Value) (hm:m≤id) (hid:id<H.next) (hg:H.get id=some { obj:=.cells cs e (0,0),opn:=true,esz:=sz,ro:=false }) (hl:vs.length=n*sz) (ho:vs.all one=true)
   (hx:∀(i:Nat) (v:Value),vs[i]? = some v→cs[off+i]? = some v):VecV e sz m H n vs ⟨some ⟨id,off,none⟩,n,OPEN⟩
structure RdV (sz:Nat) (H:AH) (s:Sl3) (n:Nat) (vs:List Value):Prop where
 len:s.n=n
 nil:s.p=none→n=0∧vs=[]
 rd:∀a,s.p=some a→rdCells H a 0 (n*sz)=some vs
 one:vs.all one=true
theorem VecV.len {e:TypeId} {sz m n:Nat} {H:AH} {vs:List Value} {s:Sl3} (h:VecV e sz m H n vs s):vs.length=n*sz∧s.n=n∧vs.all Abs.one=true:=by
 cases h with
 | nil hn hv=>subst hn hv; exact ⟨by simp,rfl,rfl⟩
 | zero a ha hn hv=>subst hn hv; exact ⟨by simp,rfl,rfl⟩
 | opn id off cs hm hid hg hl ho hx=>exact ⟨hl,rfl,ho⟩
theorem VecV.cell {e:TypeId} {sz m n:Nat} {H:AH} {vs:List Value} {s:Sl3} (h:VecV e sz m H n vs s) {i:Nat} {v:Value} (hv:vs[i]? = some v):∃a,s.p=some a∧Cel H (a.add i) v:=by
 cases h with
 | nil hn hv'=>subst hv'; simp at hv
 | zero a ha hn hv'=>subst hv'; simp at hv
 | opn id off cs hm hid hg hl ho hx =>
  refine ⟨⟨id,off,none⟩,rfl,?_⟩;rw [I5];exact ⟨z2l (a:=⟨id,off+i,none⟩) hg rfl rfl (hx i v hv),hid⟩
theorem VecV.rdv {e:TypeId} {sz m n:Nat} {H:AH} {vs:List Value} {s:Sl3} (h:VecV e sz m H n vs s):RdV sz H s n vs:=by
 have hl:=h.len;refine ⟨hl.2.1,fun hp=>?_,fun a ha=>?_,hl.2.2⟩
 ·cases h with
  | nil hn hv=>exact ⟨hn,hv⟩
  | zero a ha hn hv=>cases hp
  | opn=>cases hp
 ·have:=D7 (H:=H) (a:=a) vs 0 fun i hi=>by
   obtain ⟨a',h1,h2⟩:=h.cell (i:=i) (v:=vs[i]) (by simp [hi]);rw [ha] at h1;cases h1;rw [Nat.zero_add];exact h2.1
  rw [hl.1] at this;exact this
def owns (s:Sl3) (id:Nat):Prop:=s.c=OPEN∧blkIs s id
theorem VecV.fr {e:TypeId} {sz m n:Nat} {H H':AH} {vs:List Value} {s:Sl3} {W:Nat→Prop} (h:VecV e sz m H n vs s) (hf:Fm W H H') (hw:∀id,owns s id→¬W id):VecV e sz m H' n vs s:=by
 cases h with
 | nil hn hv=>exact .nil hn hv
 | zero a ha hn hv=>exact .zero a ⟨Nat.lt_of_lt_of_le ha.1 hf.1,ha.2⟩ hn hv
 | opn id off cs hm hid hg hl ho hx=>exact .opn id off cs hm (Nat.lt_of_lt_of_le hid hf.1) (hf.2 _ _ hid (hw id ⟨rfl,_,rfl,rfl⟩) hg) hl ho hx
theorem VecV.ext {e:TypeId} {sz m n:Nat} {H H':AH} {vs:List Value} {s:Sl3} (h:VecV e sz m H n vs s) (hf:Ext H H'):VecV e sz m H' n vs s:=h.fr hf fun _ _ h=>h
theorem VecV.own {e:TypeId} {sz m n:Nat} {H:AH} {vs:List Value} {s:Sl3} (h:VecV e sz m H n vs s):∀id,owns s id→m≤id∧id<H.next:=by
 rintro id ⟨hc,a,ha,rfl⟩
 cases h with
 | nil hn' hv=>cases ha
 | zero a ha hn' hv=>cases hc
 | opn id off cs hm hid hg hl ho hx=>cases ha; exact ⟨hm,hid⟩
theorem VecV.app {e:TypeId} {sz bytes m n k:Nat} {H:AH} {vs ws:List Value} {s z:Sl3} (h:VecV e sz m H n vs s) (hz:RdV sz H z k ws) (hwl:ws.length=k*sz)
  (h1:(2*(n+k)+1000)*bytes≤281474976710656) (h2:n+k≤281474976710656) (hm:m≤H.next) :
  ∃s' H',appS m e sz bytes H s z=some (s',H')∧VecV e sz m H' (n+k) (vs++ws) s'∧Fm (owns s) H H'∧∀id,owns s' id→owns s id∨H.next≤id:=by
 have hO:OPEN=9223372036854775808:=rfl;have hsrc:∀r,appL m e sz bytes H s k ws=r→appS m e sz bytes H s z=r:=by
  intro r hr;unfold appS;cases hp:z.p with
  | none =>
   obtain ⟨rfl,rfl⟩:=hz.nil hp;simp only;rw [if_pos hz.len];exact hr
  | some b =>
   simp only;rw [hz.len,hz.rd b hp];simp only;rw [if_pos hz.one];exact hr
 by_cases hk:k=0
 ·subst hk;have:ws=[]:=List.length_eq_zero_iff.1 (by simpa using hwl);subst this;refine ⟨s,H,hsrc _ ?_,by simpa using h,Fm.refl _ _,fun id hid=>.inl hid⟩;unfold appL;rw [if_pos rfl,if_pos];cases h with
  | nil=>exact Nat.le_refl _
  | zero=>exact Nat.le_refl _
  | opn=>show n≤OPEN; omega
 ·have hone:(vs++ws).all one=true:=by rw [List.all_append,h.len.2.2,hz.one]; rfl
  have hlen:(vs++ws).length=(n+k)*sz:=by rw [List.length_append,h.len.1,hwl,Nat.add_mul]
  have fin:∀(G:AH),Fm (owns s) H G→G.next=H.next→appL m e sz bytes H s k ws=some (⟨some ⟨G.next,0,none⟩,n+k,OPEN⟩,G.push { obj:=.cells (vs++ws).toArray e (0,0),opn:=true,esz:=sz,ro:=false }) →
    ∃s' H',appS m e sz bytes H s z=some (s',H')∧VecV e sz m H' (n+k) (vs++ws) s'∧Fm (owns s) H H'∧∀id,owns s' id→owns s id∨H.next≤id:=by
   intro G hG hn he;refine ⟨_,_,hsrc _ he,.opn G.next 0 _ (by omega) (by simp) (by rw [AH.get_push_same]) hlen hone (fun i v hv=>by simpa using hv),?_,?_⟩
   ·refine ⟨by simp; omega,fun id b hid hw hb=>?_⟩;rw [AH.get_push_other _ _ (by omega)];exact hG.2 id b hid hw hb
   ·rintro id ⟨_,a,ha,rfl⟩
    cases ha;exact .inr (by show H.next≤G.next; omega)
  cases h with
  | nil hn hv =>
   subst hn hv;refine fin H (Fm.refl _ _) rfl ?_;unfold appL;rw [if_neg hk];simp only [Sl3.nil];rw [if_pos ⟨trivial,trivial⟩];simp only [Nat.zero_add,List.nil_append] at h1 h2 ⊢;rw [z3f h1 h2]
  | zero a ha hn hv =>
   subst hn hv;refine fin H (Fm.refl _ _) rfl ?_;unfold appL;rw [if_neg hk];simp only [Nat.zero_mul,rdCells,Nat.zero_add,List.nil_append];rw [if_neg (by omega),if_neg (by omega),if_pos (Nat.le_refl _)];simp only [Nat.zero_add] at h1 h2;rw [z3f h1 h2]
  | opn id off cs hm' hid hg hl ho hx =>
   have hrd:=(VecV.opn (H:=H) id off cs hm' hid hg hl ho hx).rdv.rd _ rfl;refine fin (H.put id dead) ⟨Nat.le_refl _,fun id' b hid' hn hb=>?_⟩ rfl ?_
   ·have hne:id'≠id:=fun e=>hn ⟨rfl,_,rfl,e.symm⟩;rw [AH.get_put_other _ _ hne];exact hb
   ·unfold appL;rw [if_neg hk];simp only;rw [hrd];simp only;have hown:ownedB m H ⟨id,off,none⟩ e sz=true:=by
     unfold ownedB;simp only [hg,ble_of hm',Nat.beq_refl,Bool.and_self]
    rw [if_pos trivial,if_pos ⟨hown,hz.one⟩,z3f h1 h2]
theorem z6g {e:TypeId} {H:AH} {k sz:Nat} {cells:List Value} (hl:cells.length=k*sz) (ho:cells.all one=true):RdV sz (H.push { obj:=.cells cells.toArray e (0,0),opn:=false,esz:=0,ro:=false }) ⟨some ⟨H.next,0,none⟩,k,k⟩ k cells:=by
 refine ⟨rfl,fun h=>(by cases h),fun a ha=>?_,ho⟩;cases ha;rw [← hl];exact D7 cells 0 fun i hi=>by
  rw [I5,Nat.zero_add,Nat.zero_add];exact z2l (a:=⟨H.next,i,none⟩) (AH.get_push_same _ _) rfl rfl (by simp [hi])
structure Enc (α:Type) where
 enc:α→List Value
 sz:Nat
 len:∀x,(enc x).length=sz
 one:∀x,(enc x).all Abs.one=true
theorem Enc.flat_len {α:Type} (E:Enc α) (l:List α):(l.flatMap E.enc).length=l.length*E.sz:=by
 induction l with
 | nil=>simp
 | cons x l ih=>rw [List.flatMap_cons,List.length_append,E.len,ih,List.length_cons,Nat.add_mul,Nat.one_mul,Nat.add_comm]
theorem Enc.flat_one {α:Type} (E:Enc α) (l:List α):(l.flatMap E.enc).all Abs.one=true:=by
 induction l with
 | nil=>rfl
 | cons x l ih=>rw [List.flatMap_cons,List.all_append,E.one,ih]; rfl
theorem Enc.flat_get {α:Type} (E:Enc α):∀{l:List α} {i j:Nat} (hi:i<l.length),j<E.sz→(l.flatMap E.enc)[i*E.sz+j]? = (E.enc l[i])[j]?
 | x :: l,0,j,hi,hj=>by
  rw [List.flatMap_cons,Nat.zero_mul,Nat.zero_add,List.getElem?_append_left (by rw [E.len]; exact hj)];rfl
 | x :: l,i+1,j,hi,hj=>by
  have hi':i<l.length:=by simpa using hi
  rw [List.flatMap_cons,List.getElem?_append_right (by rw [E.len,Nat.add_mul]; omega),E.len,show (i+1)*E.sz+j - E.sz=i*E.sz+j by rw [Nat.add_mul]; omega];rw [Enc.flat_get E hi' hj];rfl
def VecA {α:Type} (E:Enc α) (e:TypeId) (m:Nat) (H:AH) (l:List α) (s:Sl3):Prop:=VecV e E.sz m H l.length (l.flatMap E.enc) s
structure Ch (H:AH) (s:Sl3) (H':AH) (s':Sl3):Prop where
 fm:Fm (owns s) H H'
 ow:∀id,owns s' id→owns s id∨H.next≤id
theorem Ch.refl (H:AH) (s:Sl3):Ch H s H s:=⟨Fm.refl _ _,fun _ h=>.inl h⟩
theorem Ch.trans {H H1 H2:AH} {s s1 s2:Sl3} (h:Ch H s H1 s1) (k:Ch H1 s1 H2 s2):Ch H s H2 s2:=by
 refine ⟨h.fm.comp k.fm fun id hlt hn ho=>?_,fun id ho=>?_⟩
 ·rcases h.ow id ho with h1 | h1
  ·exact hn h1
  ·omega
 ·rcases k.ow id ho with h1 | h1
  ·exact h.ow id h1
  ·exact .inr (Nat.le_trans h.fm.1 h1)
theorem Ch.ext {H0 H H':AH} {s s':Sl3} (h:Ch H s H' s') (hx:Ext H0 H) (ho:∀id,owns s id→H0.next≤id):Ext H0 H'∧∀id,owns s' id→H0.next≤id:=by
 refine ⟨hx.comp h.fm fun id hlt _ hw=>?_,fun id hw=>?_⟩
 ·have:=ho id hw; omega
 ·rcases h.ow id hw with h1 | h1
  ·exact ho id h1
  ·exact Nat.le_trans hx.1 h1
theorem VecA.nil {α:Type} (E:Enc α) (e:TypeId) (m:Nat) (H:AH):VecA E e m H [] Sl3.nil:=VecV.nil (by rfl) (by rfl)
theorem VecA.zero {α:Type} (E:Enc α) (e:TypeId) (m:Nat) (H:AH) (a:Addr) (ha:a.block<H.next∧a.spot=none):VecA E e m H [] ⟨some a,0,0⟩:=VecV.zero a ha (by rfl) (by rfl)
theorem z5r {id:Nat}:¬owns Sl3.nil id:=by rintro ⟨_,a,ha,_⟩; cases ha
theorem zil {id n:Nat} {a:Option Addr}:¬owns ⟨a,n,0⟩ id:=by rintro ⟨h,_⟩; cases h
theorem VecA.n {α:Type} {E:Enc α} {e:TypeId} {m:Nat} {H:AH} {l:List α} {s:Sl3} (h:VecA E e m H l s):s.n=l.length:=h.len.2.1
theorem VecA.app {α:Type} {E:Enc α} {e:TypeId} {bytes m:Nat} {H:AH} {l l':List α} {s z:Sl3} (h:VecA E e m H l s) (hz:RdV E.sz H z l'.length (l'.flatMap E.enc))
  (h1:(2*(l.length+l'.length)+1000)*bytes≤281474976710656) (h2:l.length+l'.length≤281474976710656) (hm:m≤H.next) :
  ∃s' H',appS m e E.sz bytes H s z=some (s',H')∧VecA E e m H' (l++l') s'∧Ch H s H' s':=by
 obtain ⟨s',H',a1,a2,a3,a4⟩:=VecV.app h hz (E.flat_len l') h1 h2 hm;refine ⟨s',H',a1,?_,⟨a3,a4⟩⟩;unfold VecA;rw [List.length_append,List.flatMap_append];exact a2
theorem VecA.push {α:Type} {E:Enc α} {e:TypeId} {bytes m:Nat} {H:AH} {l:List α} {s:Sl3} (h:VecA E e m H l s) (x:α)
  (h1:(2*(l.length+1)+1000)*bytes≤281474976710656) (h2:l.length+1≤281474976710656) (hm:m≤H.next) (ho:∀id,owns s id→id<H.next) :
  ∃z H1 s' H',newR e 1 (E.enc x).toArray H=some (z,H1)∧appS m e E.sz bytes H1 s z=some (s',H')∧VecA E e m H' (l++[x]) s'∧Ch H s H' s':=by
 have hp:Ext H (H.push { obj:=.cells (E.enc x).toArray e (0,0),opn:=false,esz:=0,ro:=false }):=Fm.push _ _ _;have hz:=z6g (e:=e) (H:=H) (k:=1) (sz:=E.sz) (cells:=E.enc x) (by rw [E.len]; omega) (E.one x);have h':VecA E e m (H.push { obj:=.cells (E.enc x).toArray e (0,0),opn:=false,esz:=0,ro:=false }) l s:=VecV.ext h hp;obtain ⟨s',H',a1,a2,a3⟩:=VecA.app (l':=[x]) h' (by simpa using hz) h1 h2 (by simp; omega);refine ⟨_,_,s',H',rfl,a1,a2,⟨?_,fun id hid=>?_⟩⟩
 ·exact (hp.weak (W':=owns s) fun _ _ h=>h.elim).comp a3.fm fun id _ hn=>hn
 ·rcases a3.ow id hid with h3 | h3
  ·exact .inl h3
  ·simp only [AH.next_push] at h3;exact .inr (by omega)
structure ArrV (e:TypeId) (m:Nat) (H:AH) (id:Nat) (vs:List Value):Prop where
 get:H.get id=some { obj:=.cells vs.toArray e (0,0),opn:=false,esz:=0,ro:=false }
 own:m≤id
 low:id<H.next
theorem ArrV.fr {e:TypeId} {m:Nat} {H H':AH} {id:Nat} {vs:List Value} {W:Nat→Prop} (h:ArrV e m H id vs) (hf:Fm W H H') (hw:¬W id):ArrV e m H' id vs :=
 ⟨hf.2 _ _ h.low hw h.get,h.own,Nat.lt_of_lt_of_le h.low hf.1⟩
theorem ArrV.ext {e:TypeId} {m:Nat} {H H':AH} {id:Nat} {vs:List Value} (h:ArrV e m H id vs) (hf:Ext H H'):ArrV e m H' id vs:=h.fr hf fun h=>h
theorem ArrV.cel {e:TypeId} {m:Nat} {H:AH} {id:Nat} {vs:List Value} (h:ArrV e m H id vs) {i:Nat} {v:Value} (hv:vs[i]? = some v):Cel H ((⟨id,0,none⟩:Addr).add (i*1)) v:=by
 rw [I5];exact ⟨z2l (a:=⟨id,0+i*1,none⟩) h.get rfl rfl (by simpa using hv),h.low⟩
theorem ArrV.set {e:TypeId} {m:Nat} {H:AH} {id:Nat} {vs:List Value} (h:ArrV e m H id vs) {i:Nat} (hi:i<vs.length) (v:Value) :
  ∃H',H.setCell m ((⟨id,0,none⟩:Addr).add (i*1)) v=some H'∧ArrV e m H' id (vs.set i v)∧Fm (fun j=>j=id) H H'∧H'.next=H.next:=by
 have hs:=z5u (v:=v) (off:=0+i*1) h.own h.get (by simpa using hi);rw [I5];refine ⟨_,hs,⟨?_,h.own,h.low⟩,Fm.put,rfl⟩;rw [AH.get_put_same];simp
theorem zj1 {id n:Nat} {i:Nat} (hi:i<n) {v:Int} (hv:v=i):idxA 1 (⟨some ⟨id,0,none⟩,n,n⟩:Sl3) v=some ((⟨id,0,none⟩:Addr).add (i*1)):=z7u rfl hv hi
theorem zkz {e:TypeId} {bytes m:Nat} {H:AH} {z:Value} {n:Nat} (hn:n≤281474976710656) (hb:bytes*n≤281474976710656) (hm:m≤H.next) :
  ∃H',mkS e 1 bytes #[z] H (n:Int) (n:Int)=some (⟨some ⟨H.next,0,none⟩,n,n⟩,H')∧ArrV e m H' H.next (List.replicate n z)∧Ext H H'∧H'.next=H.next+1:=by
 unfold mkS;have hb':(bytes:Int)*(n:Int)≤281474976710656:=by
  rw [← Int.natCast_mul];omega
 rw [if_pos ⟨by omega,by omega,by omega,hb'⟩];simp only [Int.toNat_natCast,Nat.mul_one];refine ⟨_,rfl,⟨?_,hm,by simp⟩,Fm.push _ _ _,by simp⟩;rw [AH.get_push_same]
 congr 2
 by_cases h0:n=0
 ·subst h0; rfl
 ·rw [if_neg h0];have:zerosA #[z] n=(List.replicate n z).toArray:=by
   unfold zerosA;refine Array.ext (by simp) fun i h1 h2=>?_;have:i % 1=0:=Nat.mod_one i;simp [this]
  rw [this]
inductive SlG (e:TypeId) (sz m:Nat) (H:AH) (n:Nat) (vs:List Value):Sl3→Prop
 | own {s:Sl3} (h:VecV e sz m H n vs s):SlG e sz m H n vs s
 | full (id:Nat) (hm:m≤id) (hid:id<H.next) (hg:H.get id=some { obj:=.cells vs.toArray e (0,0),opn:=false,esz:=0,ro:=false }) (hl:vs.length=n*sz) (ho:vs.all one=true) (hn:0<n) (hN:n<OPEN):SlG e sz m H n vs ⟨some ⟨id,0,none⟩,n,n⟩
def fpt (s:Sl3) (id:Nat):Prop:=s.c≠0∧blkIs s id
theorem F7 {s:Sl3} {id:Nat} (h:owns s id):fpt s id:=⟨by rw [h.1]; unfold OPEN; omega,h.2⟩
theorem U1 {id:Nat}:¬fpt Sl3.nil id:=by rintro ⟨_,a,h,_⟩; cases h
variable {e:TypeId} {sz bytes m n k:Nat} {H H':AH} {vs ws:List Value} {s z:Sl3}
theorem SlG.len (h:SlG e sz m H n vs s):vs.length=n*sz∧s.n=n∧vs.all Abs.one=true:=by
 cases h with
 | own h=>exact h.len
 | full id hm hid hg hl ho hn hN=>exact ⟨hl,rfl,ho⟩
theorem SlG.fp (h:SlG e sz m H n vs s) {id:Nat} (hf:fpt s id):m≤id∧id<H.next:=by
 cases h with
 | own h =>
  cases h with
  | nil hn hv=>exact absurd hf U1
  | zero a ha hn hv=>exact absurd rfl hf.1
  | opn id' off cs hm hid hg hl ho hx =>
   obtain ⟨_,a,ha,rfl⟩:=hf;cases ha;exact ⟨hm,hid⟩
 | full id' hm hid hg hl ho hn hN =>
  obtain ⟨_,a,ha,rfl⟩:=hf;cases ha;exact ⟨hm,hid⟩
theorem SlG.fr {W:Nat→Prop} (h:SlG e sz m H n vs s) (hf:Fm W H H') (hw:∀id,fpt s id→¬W id):SlG e sz m H' n vs s:=by
 cases h with
 | own h=>exact .own (h.fr hf fun id ho=>hw id (F7 ho))
 | full id hm hid hg hl ho hn hN=>exact .full id hm (Nat.lt_of_lt_of_le hid hf.1) (hf.2 _ _ hid (hw id ⟨by show n≠0; omega,_,rfl,rfl⟩) hg) hl ho hn hN
theorem SlG.ext (h:SlG e sz m H n vs s) (hf:Ext H H'):SlG e sz m H' n vs s:=h.fr hf fun _ _ h=>h
theorem SlG.cell (h:SlG e sz m H n vs s) {i:Nat} {v:Value} (hv:vs[i]? = some v):∃a,s.p=some a∧Cel H (a.add i) v:=by
 cases h with
 | own h=>exact h.cell hv
 | full id hm hid hg hl ho hn hN =>
  refine ⟨⟨id,0,none⟩,rfl,?_⟩;rw [I5,Nat.zero_add];exact ⟨z2l (a:=⟨id,i,none⟩) hg rfl rfl (by simpa using hv),hid⟩
theorem SlG.rdv (h:SlG e sz m H n vs s):RdV sz H s n vs:=by
 have hl:=h.len;refine ⟨hl.2.1,fun hp=>?_,fun a ha=>?_,hl.2.2⟩
 ·cases h with
  | own h=>exact h.rdv.nil hp
  | full=>cases hp
 ·have:=D7 (H:=H) (a:=a) vs 0 fun i hi=>by
   obtain ⟨a',h1,h2⟩:=h.cell (i:=i) (v:=vs[i]) (by simp [hi]);rw [ha] at h1;cases h1;rw [Nat.zero_add];exact h2.1
  rw [hl.1] at this;exact this
theorem SlG.app (h:SlG e sz m H n vs s) (hz:RdV sz H z k ws) (hwl:ws.length=k*sz)
  (h1:(2*(n+k)+1000)*bytes≤281474976710656) (h2:n+k≤281474976710656) (hm:m≤H.next) :
  ∃s' H',appS m e sz bytes H s z=some (s',H')∧SlG e sz m H' (n+k) (vs++ws) s'∧Fm (fpt s) H H'∧(∀id,fpt s' id→fpt s id∨H.next≤id):=by
 cases h with
 | own h =>
  obtain ⟨s',H',a1,a2,a3,a4⟩:=h.app hz hwl h1 h2 hm;refine ⟨s',H',a1,.own a2,a3.weak fun _ _ h=>F7 h,fun id hid=>?_⟩;cases a2 with
  | nil hn hv=>exact absurd hid U1
  | zero a ha hn hv=>exact absurd rfl hid.1
  | opn id' off cs hm' hid' hg hl ho hx =>
   rcases a4 id ⟨rfl,hid.2⟩ with h | h
   ·exact .inl (F7 h)
   ·exact .inr h
 | full id hm' hid hg hl ho hn hN =>
  have hO:OPEN=9223372036854775808:=rfl;have hfull:=SlG.full (e:=e) (sz:=sz) id hm' hid hg hl ho hn hN;have hsrc:∀r,appL m e sz bytes H ⟨some ⟨id,0,none⟩,n,n⟩ k ws=r→appS m e sz bytes H ⟨some ⟨id,0,none⟩,n,n⟩ z=r:=by
   intro r hr;unfold appS;cases hp:z.p with
   | none =>
    obtain ⟨rfl,rfl⟩:=hz.nil hp;simp only;rw [if_pos hz.len];exact hr
   | some b =>
    simp only;rw [hz.len,hz.rd b hp];simp only;rw [if_pos hz.one];exact hr
  by_cases hk:k=0
  ·subst hk;have:ws=[]:=List.length_eq_zero_iff.1 (by simpa using hwl);subst this;refine ⟨_,H,hsrc _ ?_,by simpa using hfull,Fm.refl _ _,fun id hid=>.inl hid⟩;unfold appL;rw [if_pos rfl,if_pos (Nat.le_refl _)]
  ·refine ⟨⟨some ⟨H.next,0,none⟩,n+k,OPEN⟩,H.push { obj:=.cells (vs++ws).toArray e (0,0),opn:=true,esz:=sz,ro:=false },hsrc _ ?_,.own (.opn H.next 0 _ hm (by simp) (by rw [AH.get_push_same]) ?_ ?_ fun i v hv=>by simpa using hv),Fm.push _ _ _,?_⟩
   ·unfold appL;rw [if_neg hk];simp only;rw [hfull.rdv.rd _ rfl];simp only;rw [if_neg (by omega),if_neg (by omega),if_pos (Nat.le_refl _),z3f h1 h2]
   ·rw [List.length_append,hl,hwl,Nat.add_mul]
   ·rw [List.all_append,ho,hz.one]; rfl
   ·rintro id' ⟨_,a,ha,rfl⟩
    cases ha;exact .inr (Nat.le_refl _)
theorem SlG.new {cells:List Value} (hl:cells.length=n*sz) (ho:cells.all one=true) (hn:0<n) (hN:n<OPEN) (hm:m≤H.next):SlG e sz m (H.push { obj:=.cells cells.toArray e (0,0),opn:=false,esz:=0,ro:=false }) n cells ⟨some ⟨H.next,0,none⟩,n,n⟩ :=
 .full H.next hm (by simp) (AH.get_push_same _ _) hl ho hn hN
theorem SlG.set (h:SlG e sz m H n vs s) {i:Nat} (hi:i<vs.length) {v:Value} (hv:one v=true) {a:Addr} (ha:s.p=some a) :
  ∃H',H.setCell m (a.add i) v=some H'∧SlG e sz m H' n (vs.set i v) s∧Fm (fpt s) H H'∧H'.next=H.next:=by
 have hall:∀l:List Value,l.all one=true→(l.set i v).all one=true:=by
  intro l hl;rw [List.all_eq_true] at hl ⊢;intro x hx;rcases List.mem_or_eq_of_mem_set hx with h | h
  ·exact hl x h
  ·rw [h]; exact hv
 cases h with
 | own h =>
  cases h with
  | nil hn hv'=>subst hv'; simp at hi
  | zero a ha hn hv'=>subst hv'; simp at hi
  | opn id off cs hm hid hg hl ho hx =>
   cases ha;have hc:off+i<cs.size:=by
    have:=hx i _ (List.getElem?_eq_getElem hi);exact (Array.getElem?_eq_some_iff.1 this).1
   have hs:=z5u (v:=v) hm hg hc;rw [I5];refine ⟨_,hs,.own (.opn id off _ hm hid (AH.get_put_same _ _ _) (by rw [List.length_set]; exact hl) (hall _ ho) fun j u hu=>?_),?_,rfl⟩
   ·rw [Array.getElem?_setIfInBounds];by_cases e:i=j
    ·subst e;rw [List.getElem?_set_self hi] at hu;rw [if_pos rfl,if_pos hc];exact hu
    ·rw [List.getElem?_set_ne e] at hu;rw [if_neg (by omega)];exact hx j u hu
   ·refine (Fm.put (i:=id)).weak fun j _ hj=>?_;rw [hj];exact ⟨by show OPEN≠0; unfold OPEN; omega,_,rfl,rfl⟩
 | full id hm hid hg hl ho hn hN =>
  cases ha;have hs:=z5u (v:=v) (off:=0+i) hm hg (by simpa using hi);rw [I5];refine ⟨_,hs,.full id hm hid (by rw [AH.get_put_same]; simp) (by rw [List.length_set]; exact hl) (hall _ ho) hn hN,?_,rfl⟩;refine (Fm.put (i:=id)).weak fun j _ hj=>?_;rw [hj];exact ⟨by show n≠0; omega,_,rfl,rfl⟩
def spl (i:Nat) (ws vs:List Value):List Value:=vs.take i++ws++vs.drop (i+ws.length)
theorem SlG.wr {a:Addr} (ha:s.p=some a):∀(ws:List Value) (i:Nat) (H:AH) (vs:List Value),SlG e sz m H n vs s→i+ws.length≤vs.length→ws.all one=true →
  ∃H',wrCells m a i ws H=some H'∧SlG e sz m H' n (spl i ws vs) s∧Fm (fpt s) H H'∧H'.next=H.next:=by
 intro ws;induction ws with
 | nil =>
  intro i H vs h hi _;refine ⟨H,rfl,?_,Fm.refl _ _,rfl⟩;have:spl i [] vs=vs:=by unfold spl; simp
  rw [this];exact h
 | cons w ws ih =>
  intro i H vs h hi ho;simp only [List.length_cons] at hi;simp only [List.all_cons,Bool.and_eq_true] at ho;obtain ⟨H1,a1,a2,a3,a4⟩:=h.set (i:=i) (by omega) ho.1 ha;obtain ⟨H2,b1,b2,b3,b4⟩:=ih (i+1) H1 (vs.set i w) a2 (by rw [List.length_set]; omega) ho.2;refine ⟨H2,?_,?_,a3.comp b3 fun id _ h=>h,b4.trans a4⟩
  ·simp only [wrCells,ho.1,cond_true,a1];exact b1
  ·have:spl (i+1) ws (vs.set i w)=spl i (w :: ws) vs:=by
    unfold spl;rw [List.take_succ_eq_append_getElem (by rw [List.length_set]; omega)];simp only [List.getElem_set_self,List.take_set_of_le (Nat.le_refl i),List.length_cons,List.append_assoc,List.singleton_append,List.cons_append,List.nil_append];rw [List.drop_set_of_lt (by omega),show i+1+ws.length=i+(ws.length+1) by omega]
   rw [← this];exact b2
def SlA {α:Type} (E:Enc α) (e:TypeId) (m:Nat) (H:AH) (l:List α) (s:Sl3):Prop:=SlG e E.sz m H l.length (l.flatMap E.enc) s
section
variable {α:Type} {E:Enc α} {l l':List α}
theorem SlA.fr {W:Nat→Prop} (h:SlA E e m H l s) (hf:Fm W H H') (hw:∀id,fpt s id→¬W id):SlA E e m H' l s:=SlG.fr h hf hw
theorem SlA.ext (h:SlA E e m H l s) (hf:Ext H H'):SlA E e m H' l s:=SlG.ext h hf
theorem SlA.cnt (h:SlA E e m H l s):s.n=l.length:=(SlG.len h).2.1
theorem SlA.nil:SlA E e m H [] Sl3.nil:=.own (VecA.nil E e m H)
theorem SlA.rdv (h:SlA E e m H l s):RdV E.sz H s l.length (l.flatMap E.enc):=SlG.rdv h
theorem SlA.at_ (h:SlA E e m H l s) (hE:0<E.sz) {i:Nat} (hi:i<l.length) {v:Int} (hv:v=i):∃a,s.p=some a∧idxA E.sz s v=some (a.add (i*E.sz))∧a.spot=none∧∀j u,(E.enc l[i])[j]? = some u→Cel H ((a.add (i*E.sz)).add j) u:=by
 have hlen:=E.flat_len l;have h0:0<(l.flatMap E.enc).length:=by
  rw [hlen];exact Nat.mul_pos (by omega) hE
 obtain ⟨a,ha,hc⟩:=SlG.cell h (i:=0) (List.getElem?_eq_getElem h0);have hsp:a.spot=none:=by
  obtain ⟨_,_,_,_,_,_,h3,_⟩:=z9g hc.1;exact h3
 refine ⟨a,ha,z7u ha hv (by rw [h.cnt]; exact hi),hsp,fun j u hu=>?_⟩;have hj:j<E.sz:=by
  have:=(List.getElem?_eq_some_iff.1 hu).1;rw [E.len] at this;exact this
 obtain ⟨a',ha',hc'⟩:=SlG.cell h (i:=i*E.sz+j) (v:=u) (by rw [E.flat_get hi hj]; exact hu);rw [ha] at ha';cases ha';rw [z5e hsp];exact hc'
theorem SlA.app (h:SlA E e m H l s) (hz:RdV E.sz H z l'.length (l'.flatMap E.enc))
  (h1:(2*(l.length+l'.length)+1000)*bytes≤281474976710656) (h2:l.length+l'.length≤281474976710656) (hm:m≤H.next) :
  ∃s' H',appS m e E.sz bytes H s z=some (s',H')∧SlA E e m H' (l++l') s'∧Fm (fpt s) H H'∧(∀id,fpt s' id→fpt s id∨H.next≤id):=by
 obtain ⟨s',H',a1,a2,a3,a4⟩:=SlG.app h hz (E.flat_len l') h1 h2 hm;refine ⟨s',H',a1,?_,a3,a4⟩;unfold SlA;rw [List.length_append,List.flatMap_append];exact a2
theorem SlA.row (x:α) (hm:m≤H.next):SlA E e m (H.push { obj:=.cells (E.enc x).toArray e (0,0),opn:=false,esz:=0,ro:=false }) [x] ⟨some ⟨H.next,0,none⟩,1,1⟩:=by
 have:=SlG.new (e:=e) (sz:=E.sz) (m:=m) (H:=H) (n:=1) (cells:=E.enc x) (by rw [E.len]; omega) (E.one x) (by omega) (by unfold OPEN; omega) hm;unfold SlA
 simpa using this
theorem SlA.push (h:SlA E e m H l s) (x:α) (h1:(2*(l.length+1)+1000)*bytes≤281474976710656) (h2:l.length+1≤281474976710656) (hm:m≤H.next) :
  ∃z H1 s' H',newR e 1 (E.enc x).toArray H=some (z,H1)∧Ext H H1∧appS m e E.sz bytes H1 s z=some (s',H')∧SlA E e m H' (l++[x]) s'∧Fm (fpt s) H H'∧(∀id,fpt s' id→fpt s id∨H.next≤id):=by
 have hp:Ext H (H.push { obj:=.cells (E.enc x).toArray e (0,0),opn:=false,esz:=0,ro:=false }):=Fm.push _ _ _;have hz:=z6g (e:=e) (H:=H) (k:=1) (sz:=E.sz) (cells:=E.enc x) (by rw [E.len]; omega) (E.one x);have h':SlA E e m (H.push { obj:=.cells (E.enc x).toArray e (0,0),opn:=false,esz:=0,ro:=false }) l s:=h.ext hp;obtain ⟨s',H',a1,a2,a3,a4⟩:=SlA.app (l':=[x]) h' (by simpa using hz) h1 h2 (by simp; omega);refine ⟨_,_,s',H',rfl,hp,a1,a2,?_,fun id hid=>?_⟩
 ·exact (hp.weak (W':=fpt s) fun _ _ h=>h.elim).comp a3 fun id _ hn=>hn
 ·rcases a4 id hid with h3 | h3
  ·exact .inl h3
  ·simp only [AH.next_push] at h3;exact .inr (by omega)
theorem zd8:∀(l:List α) (i:Nat) (x:α),i<l.length→spl (i*E.sz) (E.enc x) (l.flatMap E.enc)=(l.set i x).flatMap E.enc
 | y :: l,0,x,_=>by
  unfold spl;rw [List.set_cons_zero,List.flatMap_cons,List.flatMap_cons,Nat.zero_mul,List.take_zero,List.nil_append,Nat.zero_add,E.len,List.drop_left' (E.len y)]
 | y :: l,i+1,x,hi=>by
  have ih:=zd8 l i x (by simpa using hi);unfold spl at ih ⊢;rw [List.set_cons_succ,List.flatMap_cons,List.flatMap_cons,← ih];have e1:(i+1)*E.sz=(E.enc y).length+i*E.sz:=by rw [E.len,Nat.add_mul]; omega
  rw [e1,List.take_length_add_append,Nat.add_assoc,List.drop_length_add_append];simp [List.append_assoc]
theorem SlA.put (h:SlA E e m H l s) {i:Nat} (hi:i<l.length) (x:α) {a:Addr} (ha:s.p=some a) (hsp:a.spot=none) :
  ∃H',wrCells m (a.add (i*E.sz)) 0 (E.enc x) H=some H'∧SlA E e m H' (l.set i x) s∧Fm (fpt s) H H'∧H'.next=H.next:=by
 have hb:i*E.sz+(E.enc x).length≤(l.flatMap E.enc).length:=by
  rw [E.len,E.flat_len];have:(i+1)*E.sz≤l.length*E.sz:=Nat.mul_le_mul_right _ hi;rw [Nat.add_mul] at this;omega
 obtain ⟨H',a1,a2,a3,a4⟩:=SlG.wr ha (E.enc x) (i*E.sz) H (l.flatMap E.enc) h hb (E.one x);have hw:∀(ws:List Value) (j:Nat) (H:AH),wrCells m (a.add (i*E.sz)) j ws H=wrCells m a (i*E.sz+j) ws H:=by
  intro ws;induction ws with
  | nil=>intro j H; rfl
  | cons w ws ih =>
   intro j H;simp only [wrCells,z5e hsp];cases one w with
   | false=>rfl
   | true =>
    simp only [cond_true];cases H.setCell m (a.add (i*E.sz+j)) w with
    | none=>rfl
    | some H1 =>
     simp only;rw [ih (j+1) H1,show i*E.sz+(j+1)=i*E.sz+j+1 by omega]
 refine ⟨H',by rw [hw]; exact a1,?_,a3,a4⟩;unfold SlA;rw [List.length_set,← zd8 l i x hi];exact a2
theorem SlA.put1 (h:SlA E e m H l s) (hE:∀x,∃v,E.enc x=[v]) {i:Nat} (hi:i<l.length) (x:α) {v:Value} (hv:E.enc x=[v]) {a:Addr} (ha:s.p=some a) (hsp:a.spot=none) :
  ∃H',H.setCell m (a.add (i*E.sz)) v=some H'∧SlA E e m H' (l.set i x) s∧Fm (fpt s) H H'∧H'.next=H.next:=by
 obtain ⟨H',a1,a2⟩:=h.put hi x ha hsp;refine ⟨H',?_,a2⟩;rw [hv] at a1;simp only [wrCells] at a1;cases ho:one v with
 | false=>rw [ho] at a1; cases a1
 | true =>
  rw [ho] at a1;simp only [cond_true,add_zero] at a1;cases hs:H.setCell m (a.add (i*E.sz)) v with
  | none=>rw [hs] at a1; cases a1
  | some H1=>rw [hs] at a1; exact a1
end
end Go.Abs
namespace Go.Abs
variable {e f:TypeId} {bytes m:Nat} {H H':AH} {α:Type} {E:Enc α} {l l':List α} {s z:Sl3} {id j:Nat} {vs:List Value}
theorem ArrV.rd {β:Type} (h:ArrV f m H id vs) {v:Value} (hv:vs[j]? = some v) (de:Value→Option β):rd de H ((⟨id,0,none⟩:Addr).add j)=de v:=by
 have:=(h.cel hv).rd de;rw [Nat.mul_one] at this;exact this
theorem ArrV.put (h:ArrV f m H id vs) (hj:j<vs.length) (v:Value):∃H',H.setCell m ((⟨id,0,none⟩:Addr).add j) v=some H'∧ArrV f m H' id (vs.set j v)∧Fm (fun i=>i=id) H H'∧H'.next=H.next:=by
 have:=h.set hj v;rw [Nat.mul_one] at this;exact this
theorem ArrV.new {cells:List Value} (hm:m≤H.next):ArrV f m (H.push (pubB f cells)) H.next cells:=⟨AH.get_push_same _ _,hm,by simp⟩
theorem z3o (hb:ArrV f m H id vs) (hv:vs[j]? = some (Sl3.v s)) (hs:SlA E e m H l s) (hd:¬fpt s id) (hz:RdV E.sz H z l'.length (l'.flatMap E.enc))
  (h1:(2*(l.length+l'.length)+1000)*bytes≤281474976710656) (h2:l.length+l'.length≤281474976710656) (hm:m≤H.next) :
  ∃s' H1 H',appS m e E.sz bytes H s z=some (s',H1)∧H1.setCell m ((⟨id,0,none⟩:Addr).add j) (Sl3.v s')=some H'∧ArrV f m H' id (vs.set j (Sl3.v s'))∧SlA E e m H' (l++l') s' ∧
   Fm (fun i=>i=id∨fpt s i) H H'∧(∀i,fpt s' i→fpt s i∨H.next≤i)∧¬fpt s' id:=by
 obtain ⟨s',H1,a1,a2,a3,a4⟩:=hs.app hz h1 h2 hm;have hb1:ArrV f m H1 id vs:=hb.fr a3 hd;obtain ⟨H',b1,b2,b3,b4⟩:=hb1.put (List.getElem?_eq_some_iff.1 hv).1 (Sl3.v s');have hd':¬fpt s' id:=fun h=>by
  rcases a4 id h with h | h
  ·exact hd h
  ·have:=hb.low; omega
 refine ⟨s',H1,H',a1,b1,b2,a2.fr b3 fun i hi e=>hd' (e▸hi),?_,a4,hd'⟩;exact (a3.weak (W':=fun i=>i=id∨fpt s i) fun _ _ h=>.inr h).comp b3 fun i _ hn e=>hn (.inl e)
theorem C7 (hb:ArrV f m H id vs) (hv:vs[j]? = some (Sl3.v s)) (hs:SlA E e m H l s) (hd:¬fpt s id) (x:α)
  (h1:(2*(l.length+1)+1000)*bytes≤281474976710656) (h2:l.length+1≤281474976710656) (hm:m≤H.next) :
  ∃z H0 s' H1 H',newR e 1 (E.enc x).toArray H=some (z,H0)∧Ext H H0∧ArrV f m H0 id vs∧appS m e E.sz bytes H0 s z=some (s',H1)∧H1.setCell m ((⟨id,0,none⟩:Addr).add j) (Sl3.v s')=some H'∧ArrV f m H' id (vs.set j (Sl3.v s'))∧SlA E e m H' (l++[x]) s' ∧
   Fm (fun i=>i=id∨fpt s i) H H'∧(∀i,fpt s' i→fpt s i∨H.next≤i)∧¬fpt s' id:=by
 have hp:Ext H (H.push { obj:=.cells (E.enc x).toArray e (0,0),opn:=false,esz:=0,ro:=false }):=Fm.push _ _ _;have hz:=z6g (e:=e) (H:=H) (k:=1) (sz:=E.sz) (cells:=E.enc x) (by rw [E.len]; omega) (E.one x);obtain ⟨s',H1,H',a1,a2,a3,a4,a5,a6,a7⟩:=z3o (hb.ext hp) hv (hs.ext hp) hd (l':=[x]) (by simpa using hz) h1 h2 (by simp; omega);refine ⟨_,_,s',H1,H',rfl,hp,hb.ext hp,a1,a2,a3,a4,(hp.weak (W':=fun i=>i=id∨fpt s i) fun _ _ h=>h.elim).comp a5 fun i _ hn=>hn,fun i hi=>?_,a7⟩;rcases a6 i hi with h | h
 ·exact .inl h
 ·simp only [AH.next_push] at h;exact .inr (by omega)
def EI:Enc Nat:=⟨fun n=>[.int .i64 (n:Int)],1,fun _=>rfl,fun _=>rfl⟩
def EZ:Enc Int:=⟨fun n=>[.int .i64 n],1,fun _=>rfl,fun _=>rfl⟩
def EP:Enc Nat:=⟨fun b=>[.pointer (some ⟨b,0,none⟩)],1,fun _=>rfl,fun _=>rfl⟩
def EN:Enc (Int×Sl3×Bool):=⟨fun x=>[.int .i64 x.1,x.2.1.v,.bool x.2.2],3,fun _=>rfl,fun _=>rfl⟩
def ES:Enc (Int×Int×Int×Bool):=⟨fun x=>[.int .i64 x.1,.int .i64 x.2.1,.int .i64 x.2.2.1,.bool x.2.2.2],4,fun _=>rfl,fun _=>rfl⟩
def EE:Enc (Int×Int×Int×Int×Bool):=⟨fun x=>[.int .i64 x.1,.int .i64 x.2.1,.int .i64 x.2.2.1,.int .i64 x.2.2.2.1,.bool x.2.2.2.2],5,fun _=>rfl,fun _=>rfl⟩
def EQ:Enc (Int×Int×Int×Int×Int×Int×Bool):=⟨fun x=>[.int .i64 x.1,.int .i64 x.2.1,.int .i64 x.2.2.1,.int .i64 x.2.2.2.1,.int .i64 x.2.2.2.2.1,.int .i64 x.2.2.2.2.2.1,.bool x.2.2.2.2.2.2],7,fun _=>rfl,fun _=>rfl⟩
theorem rd_EI {l:List Nat} {m:Nat} (h:SlA EI e m H l s) {i:Nat} (hi:i<l.length) {v:Int} (hv:v=i):∃q,idxA 1 s v=some q∧rd (deI .i64) H q=some (l[i]:Int):=by
 obtain ⟨a,h1,h2,h3,h4⟩:=h.at_ (by show 0<1; omega) hi hv;refine ⟨_,h2,?_⟩;have:=h4 0 (.int .i64 (l[i]:Int)) rfl;rw [add_zero] at this;rw [this.rd];rfl
theorem rd_EP {l:List Nat} {m:Nat} (h:SlA EP e m H l s) {i:Nat} (hi:i<l.length) {v:Int} (hv:v=i):∃q,idxA 1 s v=some q∧rd deP H q=some (some ⟨l[i],0,none⟩):=by
 obtain ⟨a,h1,h2,h3,h4⟩:=h.at_ (by show 0<1; omega) hi hv;refine ⟨_,h2,?_⟩;have:=h4 0 (.pointer (some ⟨l[i],0,none⟩)) rfl;rw [add_zero] at this;rw [this.rd];rfl
theorem rd_EN {l:List (Int×Sl3×Bool)} {m:Nat} (h:SlA EN e m H l s) {i:Nat} (hi:i<l.length) {v:Int} (hv:v=i) :
  ∃q,idxA 3 s v=some q∧rd (deI .i64) H (q.add 0)=some l[i].1∧rd deSl H (q.add 1)=some l[i].2.1∧rd deB H (q.add 2)=some l[i].2.2:=by
 obtain ⟨a,h1,h2,h3,h4⟩:=h.at_ (by show 0<3; omega) hi hv;refine ⟨_,h2,?_,?_,?_⟩
 ·rw [(h4 0 _ rfl).rd]; rfl
 ·rw [(h4 1 _ rfl).rd]; rfl
 ·rw [(h4 2 _ rfl).rd]; rfl
theorem rd_ES {l:List (Int×Int×Int×Bool)} {m:Nat} (h:SlA ES e m H l s) {i:Nat} (hi:i<l.length) {v:Int} (hv:v=i) :
  ∃q,idxA 4 s v=some q∧rd (deI .i64) H (q.add 0)=some l[i].1∧rd (deI .i64) H (q.add 1)=some l[i].2.1∧rd (deI .i64) H (q.add 2)=some l[i].2.2.1∧rd deB H (q.add 3)=some l[i].2.2.2:=by
 obtain ⟨a,h1,h2,h3,h4⟩:=h.at_ (by show 0<4; omega) hi hv;refine ⟨_,h2,?_,?_,?_,?_⟩
 ·rw [(h4 0 _ rfl).rd]; rfl
 ·rw [(h4 1 _ rfl).rd]; rfl
 ·rw [(h4 2 _ rfl).rd]; rfl
 ·rw [(h4 3 _ rfl).rd]; rfl
theorem rd_EE {l:List (Int×Int×Int×Int×Bool)} {m:Nat} (h:SlA EE e m H l s) {i:Nat} (hi:i<l.length) {v:Int} (hv:v=i) :
  ∃q,idxA 5 s v=some q∧(∃a,s.p=some a∧a.spot=none∧q=a.add (i*5))∧rd (deI .i64) H (q.add 0)=some l[i].1∧rd (deI .i64) H (q.add 1)=some l[i].2.1∧rd (deI .i64) H (q.add 2)=some l[i].2.2.1∧rd (deI .i64) H (q.add 3)=some l[i].2.2.2.1∧rd deB H (q.add 4)=some l[i].2.2.2.2:=by
 obtain ⟨a,h1,h2,h3,h4⟩:=h.at_ (by show 0<5; omega) hi hv;refine ⟨_,h2,⟨a,h1,h3,rfl⟩,?_,?_,?_,?_,?_⟩
 ·rw [(h4 0 _ rfl).rd]; rfl
 ·rw [(h4 1 _ rfl).rd]; rfl
 ·rw [(h4 2 _ rfl).rd]; rfl
 ·rw [(h4 3 _ rfl).rd]; rfl
 ·rw [(h4 4 _ rfl).rd]; rfl
theorem rd_EQ {l:List (Int×Int×Int×Int×Int×Int×Bool)} {m:Nat} (h:SlA EQ e m H l s) {i:Nat} (hi:i<l.length) {v:Int} (hv:v=i) :
  ∃q,idxA 7 s v=some q∧rd (deI .i64) H (q.add 0)=some l[i].1∧rd (deI .i64) H (q.add 1)=some l[i].2.1∧rd (deI .i64) H (q.add 2)=some l[i].2.2.1∧rd (deI .i64) H (q.add 3)=some l[i].2.2.2.1∧rd (deI .i64) H (q.add 4)=some l[i].2.2.2.2.1∧rd (deI .i64) H (q.add 5)=some l[i].2.2.2.2.2.1∧rd deB H (q.add 6)=some l[i].2.2.2.2.2.2:=by
 obtain ⟨a,h1,h2,h3,h4⟩:=h.at_ (by show 0<7; omega) hi hv;refine ⟨_,h2,?_,?_,?_,?_,?_,?_,?_⟩
 ·rw [(h4 0 _ rfl).rd]; rfl
 ·rw [(h4 1 _ rfl).rd]; rfl
 ·rw [(h4 2 _ rfl).rd]; rfl
 ·rw [(h4 3 _ rfl).rd]; rfl
 ·rw [(h4 4 _ rfl).rd]; rfl
 ·rw [(h4 5 _ rfl).rd]; rfl
 ·rw [(h4 6 _ rfl).rd]; rfl
end Go.Abs
namespace Go.Abs
theorem ba_beq (s t:ByteArray):(s == t)=decide (s=t):=by
 obtain ⟨a⟩:=s;obtain ⟨b⟩:=t;rw [Bool.eq_iff_iff];simp only [decide_eq_true_eq,ByteArray.mk.injEq];show (a == b)=true↔_;exact beq_iff_eq
variable {P:Program} {γ:Type} [DecidableEq γ]
structure KeyK (P:Program) (kt:TypeId) (enc:γ→Value):Prop where
 und:∃d,P.underlying kt=some d∧((∀a b,Instr.sameNow d (enc a) (enc b)=some (decide (a=b)))∨((∀a b,Instr.sameNow d (enc a) (enc b)=none)∧∀a b,peval P (Op.equal kt (enc a) (enc b))=some (decide (a=b))))
 chk:∀a b,peval P (Instr.checkKey b 10000 kt (enc a))=some ()
 bits:∀a,Instr.sameBits 10000 (enc a) (enc a)=true
def look (l:List (γ×Value)) (k:γ):Option Value:=(l.find? fun x=>decide (x.1=k)).map (·.2)
def findI (k:γ):List (γ×Value)→Nat→Option (Nat×Value)
 | [],_=>none
 | x :: l,i=>if k=x.1 then some (i,x.2) else findI k l (i+1)
theorem z2k (k:γ):∀(l:List (γ×Value)) (i:Nat),(findI k l i).map (·.2)=look l k
 | [],_=>rfl
 | x :: l,i=>by
  unfold findI look;rw [List.find?_cons];by_cases h:k=x.1
  ·rw [if_pos h,decide_eq_true h.symm]; rfl
  ·rw [if_neg h,decide_eq_false (fun e=>h e.symm)];exact z2k k l (i+1)
def Ents (enc:γ→Value) (es:List MapEntry) (l:List (γ×Value)):Prop:=es.map (fun e=>(e.key,e.val))=l.map fun x=>(enc x.1,x.2)
theorem M8 {kt:TypeId} {enc:γ→Value} (hK:KeyK P kt enc) (k:γ) {es:List MapEntry} {l:List (γ×Value)} (h:Ents enc es l):aFind P kt (enc k) es=some (findI k l 0):=by
 obtain ⟨d,h1,h2⟩:=hK.und;unfold aFind;rw [h1];simp only;rcases h2 with h2 | ⟨h2,h3⟩
 ·have key:∀(es:List MapEntry) (l:List (γ×Value)) (i:Nat),Ents enc es l→Instr.findNow d (enc k) es i=some (findI k l i):=by
   intro es;induction es with
   | nil =>
    intro l i h;cases l with
    | nil=>rfl
    | cons x l=>simp [Ents] at h
   | cons e es ih =>
    intro l i h;cases l with
    | nil=>simp [Ents] at h
    | cons x l =>
     simp only [Ents,List.map_cons,List.cons.injEq,Prod.mk.injEq] at h;obtain ⟨⟨e1,e2⟩,e3⟩:=h;unfold Instr.findNow findI;rw [e1,h2,e2];by_cases hk:k=x.1
     ·rw [decide_eq_true hk,if_pos hk]
     ·rw [decide_eq_false hk,if_neg hk];exact ih l (i+1) e3
  rw [key es l 0 h]
 ·have key:∀(es:List MapEntry) (l:List (γ×Value)) (i:Nat),Ents enc es l→aAsk P kt (enc k) es i=some (findI k l i):=by
   intro es;induction es with
   | nil =>
    intro l i h;cases l with
    | nil=>rfl
    | cons x l=>simp [Ents] at h
   | cons e es ih =>
    intro l i h;cases l with
    | nil=>simp [Ents] at h
    | cons x l =>
     simp only [Ents,List.map_cons,List.cons.injEq,Prod.mk.injEq] at h;obtain ⟨⟨e1,e2⟩,e3⟩:=h;unfold aAsk findI;rw [e1,h3,e2];by_cases hk:k=x.1
     ·rw [decide_eq_true hk,if_pos hk]
     ·rw [decide_eq_false hk,if_neg hk];exact ih l (i+1) e3
  cases es with
  | nil =>
   cases l with
   | nil=>rfl
   | cons x l=>simp [Ents] at h
  | cons e es =>
   cases l with
   | nil=>simp [Ents] at h
   | cons x l =>
    have h':=h;simp only [Ents,List.map_cons,List.cons.injEq,Prod.mk.injEq] at h';have hn:Instr.findNow d (enc k) (e :: es) 0=none:=by
     unfold Instr.findNow;rw [h'.1.1,h2]
    rw [hn];exact key _ _ 0 h
def MapA (enc:γ→Value) (H:AH) (id:Nat) (f:γ→Option Value):Prop :=
 ∃es n opn esz l,H.get id=some { obj:=.map es n,opn:=opn,esz:=esz,ro:=false }∧Ents enc es.toList l∧∀k,look l k=f k
theorem zj5 {α:Type} {t kt e:TypeId} {enc:γ→Value} (hK:KeyK P kt enc) (ht:P.underlying t=some (.map kt e)) {z:Value} (hz:(P.info? e).bind (·.zero)=some z) (hzf:flat depth z=true)
  {H:AH} {id:Nat} {f:γ→Option Value} (h:MapA enc H id f) (k:γ) (de:Value→Option α):lkM P t de H (some id) (enc k)=(de ((f k).getD z)).map fun x=>(x,(f k).isSome):=by
 obtain ⟨es,n,opn,esz,l,h1,h2,h3⟩:=h;have ha:aLookup P t (.map (some id)) (enc k) true H=some (.tuple #[(f k).getD z,.bool (f k).isSome]):=by
  unfold aLookup;rw [ht];simp only [aEntries,h1,hK.chk,M8 hK k h2];have:=z2k k l 0;rw [h3 k] at this;cases hq:findI k l 0 with
  | none=>rw [hq] at this; simp only [Option.map_none] at this; rw [← this]; simp only [hz,hzf,cond_true]; rfl
  | some r=>rw [hq] at this; simp only [Option.map_some] at this; rw [← this]; simp only [cond_true]; rfl
 unfold lkM;rw [ha]
theorem z2o {α:Type} {t kt e:TypeId} {enc:γ→Value} (hK:KeyK P kt enc) (ht:P.underlying t=some (.map kt e)) {z:Value} (hz:(P.info? e).bind (·.zero)=some z) (hzf:flat depth z=true)
  {H:AH} {id:Nat} {f:γ→Option Value} (h:MapA enc H id f) (k:γ) (de:Value→Option α):lk1 P t de H (some id) (enc k)=de ((f k).getD z):=by
 obtain ⟨es,n,opn,esz,l,h1,h2,h3⟩:=h;have ha:aLookup P t (.map (some id)) (enc k) false H=some ((f k).getD z):=by
  unfold aLookup;rw [ht];simp only [aEntries,h1,hK.chk,M8 hK k h2];have:=z2k k l 0;rw [h3 k] at this;cases hq:findI k l 0 with
  | none=>rw [hq] at this; simp only [Option.map_none] at this; rw [← this]; simp only [hz,hzf,cond_true]; rfl
  | some r=>rw [hq] at this; simp only [Option.map_some] at this; rw [← this]; simp only [cond_false]; rfl
 unfold lk1;rw [ha];rfl
theorem z5t {k:γ}:∀{l:List (γ×Value)} {i:Nat},findI k l i=none→∀x∈l,x.1≠k
 | [],_,_,x,hx=>by cases hx
 | y :: l,i,h,x,hx=>by
  unfold findI at h;split at h
  ·cases h
  ·rename_i hn;rcases List.mem_cons.1 hx with rfl | hx
   ·exact fun e=>hn e.symm
   ·exact z5t h x hx
theorem zem (l:List (γ×Value)) (k k':γ) (v:Value) (hn:∀x∈l,x.1≠k):look (l++[(k,v)]) k'=if k'=k then some v else look l k':=by
 unfold look;rw [List.find?_append];by_cases h:k'=k
 ·subst h;have:l.find? (fun x=>decide (x.1=k'))=none:=by
   rw [List.find?_eq_none];intro x hx
   simpa using hn x hx
  rw [this,if_pos rfl];simp
 ·rw [if_neg h];have:([(k,v)]:List (γ×Value)).find? (fun x=>decide (x.1=k'))=none:=by
   simp only [List.find?_cons,decide_eq_false (show ¬k=k' from fun e=>h e.symm),List.find?_nil]
  rw [this];cases l.find? fun x=>decide (x.1=k') <;> rfl
theorem z69 {k k':γ} {v:Value}:∀{l:List (γ×Value)} {i j:Nat} {w:Value},findI k l i=some (j,w)→i≤j∧j - i<l.length∧(∀(h:j - i<l.length),(l[j - i]).1=k)∧look (l.modify (j - i) fun x=>(k,v)) k'=if k'=k then some v else look l k'
 | [],i,j,w,h=>by cases h
 | x :: l,i,j,w,h=>by
  unfold findI at h;split at h
  ·rename_i hk;cases h;refine ⟨Nat.le_refl _,by simp,fun _=>by simp [hk],?_⟩;rw [Nat.sub_self];simp only [List.modify_zero_cons];unfold look;rw [List.find?_cons,List.find?_cons];by_cases e:k'=k
   ·subst e;simp
   ·rw [if_neg e,decide_eq_false (show ¬k=k' from fun q=>e q.symm),decide_eq_false (show ¬x.1=k' from fun q=>e (q.symm.trans hk.symm))]
  ·rename_i hk;obtain ⟨h1,h2,h3,h4⟩:=z69 (k':=k') (v:=v) h;obtain ⟨d,rfl⟩:∃d,j=i+1+d:=⟨j - (i+1),by omega⟩;have e1:i+1+d - i=d+1:=by omega
   have e2:i+1+d - (i+1)=d:=by omega
   rw [e2] at h2 h3 h4;rw [e1];refine ⟨by omega,by simp; omega,fun _=>by simpa using h3 h2,?_⟩;rw [List.modify_succ_cons];unfold look at h4 ⊢;rw [List.find?_cons,List.find?_cons];by_cases e:x.1=k'
   ·rw [decide_eq_true e];have:¬k'=k:=fun q=>hk (q.symm.trans e.symm);rw [if_neg this]
   ·rw [decide_eq_false e];exact h4
end Go.Abs
namespace Go.Abs
variable {P:Program} {γ:Type} [DecidableEq γ]
def MapL (enc:γ→Value) (H:AH) (id:Nat) (l:List (γ×Value)):Prop :=
 ∃es n opn esz,H.get id=some { obj:=.map es n,opn:=opn,esz:=esz,ro:=false }∧Ents enc es.toList l
def MapU (enc:γ→Value) (H:AH) (id:Nat) (f:γ→Option Value):Prop:=∃l,MapL enc H id l∧(l.map (·.1)).Nodup∧∀k,look l k=f k
theorem MapU.toA {enc:γ→Value} {H:AH} {id:Nat} {f:γ→Option Value} (h:MapU enc H id f):MapA enc H id f:=by
 obtain ⟨l,⟨es,n,opn,esz,h1,h2⟩,_,h3⟩:=h;exact ⟨es,n,opn,esz,l,h1,h2,h3⟩
theorem MapU.fr {W:Nat→Prop} {enc:γ→Value} {H H':AH} {id:Nat} {f:γ→Option Value} (h:MapU enc H id f) (hf:Fm W H H') (hlt:id<H.next) (hw:¬W id):MapU enc H' id f:=by
 obtain ⟨l,⟨es,n,opn,esz,h1,h2⟩,h3,h4⟩:=h;exact ⟨l,⟨es,n,opn,esz,hf.2 _ _ hlt hw h1,h2⟩,h3,h4⟩
theorem MapU.new (enc:γ→Value) {H:AH}:MapU enc (H.push mapB) H.next fun _=>none :=
 ⟨[],⟨#[],0,false,0,by rw [AH.get_push_same]; rfl,rfl⟩,by simp,fun k=>rfl⟩
theorem z9b {t kt e:TypeId} {enc:γ→Value} (hK:KeyK P kt enc) (ht:P.underlying t=some (.map kt e)) {m:Nat} {H:AH} {id:Nat} {f:γ→Option Value} (h:MapU enc H id f) (hm:m≤id) (k:γ) (v:Value) :
  ∃H',upM P m t H (some id) (enc k) v=some H'∧MapU enc H' id (fun k'=>if k'=k then some v else f k')∧Fm (fun i=>i=id) H H'∧H'.next=H.next:=by
 obtain ⟨l,⟨es,n,opn,esz,h1,h2⟩,hnd,h3⟩:=h;have hmap:aMapAt m H (.map (some id))=some (id,{ obj:=.map es n,opn:=opn,esz:=esz,ro:=false },es,n):=by
  unfold aMapAt;simp only [h1];rw [show Nat.ble m id=true by simp [hm]];rfl
 cases hq:findI k l 0 with
 | none =>
  refine ⟨H.put id { obj:=.map (es.push { key:=enc k,val:=v,born:=n }) (n+1),opn:=opn,esz:=esz,ro:=false },?_,⟨l++[(k,v)],⟨_,_,_,_,AH.get_put_same _ _ _,?_⟩,?_,fun k'=>?_⟩,Fm.put,rfl⟩
  ·unfold upM aUpdate;rw [ht];simp only [hmap,hK.chk,M8 hK k h2,hq];rfl
  ·unfold Ents at h2 ⊢;simp [h2]
  ·rw [List.map_append];refine List.nodup_append.2 ⟨hnd,by simp,fun x hx y hy e=>?_⟩;simp only [List.map_cons,List.map_nil,List.mem_singleton] at hy;obtain ⟨z,hz,rfl⟩:=List.mem_map.1 hx;exact z5t hq z hz (e.trans hy)
  ·rw [zem l k k' v (z5t hq),h3 k']
 | some r =>
  obtain ⟨j,w⟩:=r;obtain ⟨_,h5,h6,h7⟩:=z69 (k':=k) (v:=v) hq;rw [Nat.sub_zero] at h5 h6;have hlen:es.size=l.length:=by
   have:=congrArg List.length h2
   simpa using this
  have hj:j<es.size:=by omega
  have hkey:(es[j]'hj).key=enc k:=by
   have h8:(es.toList.map (fun e=>(e.key,e.val)))[j]? = (l.map fun x=>(enc x.1,x.2))[j]? := by
    unfold Ents at h2;rw [h2]
   simp [hj,h5] at h8;rw [h8.1,h6 h5]
  have hb:Instr.sameBits 10000 (((es[j]?).map (·.key)).getD (enc k)) (enc k)=true:=by
   rw [Array.getElem?_eq_getElem hj];simp only [Option.map_some,Option.getD_some,hkey];exact hK.bits k
  refine ⟨H.put id { obj:=.map (es.modify j fun e=>{ e with key:=enc k,val:=v }) n,opn:=opn,esz:=esz,ro:=false },?_,⟨l.modify j fun x=>(k,v),⟨_,_,_,_,AH.get_put_same _ _ _,?_⟩,?_,fun k'=>?_⟩,Fm.put,rfl⟩
  ·unfold upM aUpdate;rw [ht];simp only [hmap,hK.chk,M8 hK k h2,hq,hb,cond_true];rfl
  ·unfold Ents at h2 ⊢;have:(es.modify j fun e=>{ e with key:=enc k,val:=v }).toList=es.toList.modify j fun e=>{ e with key:=enc k,val:=v }:=by simp
   rw [this];refine List.ext_getElem? fun i=>?_;have h8:(es.toList.map (fun e=>(e.key,e.val)))[i]? = (l.map fun x=>(enc x.1,x.2))[i]? := by rw [h2]
   simp only [List.getElem?_map,List.getElem?_modify] at h8 ⊢;by_cases hij:j=i
   ·subst hij;simp only [if_true];have g1:es.toList[j]? = some es[j]:=by simp [hj]
    have g2:l[j]? = some l[j]:=by simp [h5]
    rw [g1,g2];rfl
   ·simp only [if_neg hij]
    simpa using h8
  ·have:(l.modify j fun x=>(k,v)).map (·.1)=l.map (·.1):=by
    refine List.ext_getElem? fun i=>?_;simp only [List.getElem?_map,List.getElem?_modify];by_cases hij:j=i
    ·subst hij;rw [List.getElem?_eq_getElem h5];simp [h6 h5]
    ·simp [hij]
   rw [this];exact hnd
  ·have:=(z69 (k':=k') (v:=v) hq).2.2.2;rw [Nat.sub_zero] at this;rw [this,h3 k']
theorem z1u {α β:Type} (f:α→β):∀(l:List α) (j:Nat),(l.eraseIdx j).map f=(l.map f).eraseIdx j
 | [],_=>rfl
 | _ :: _,0=>rfl
 | x :: l,j+1=>by simp only [List.eraseIdx_cons_succ,List.map_cons,z1u f l j]
theorem zhl {l:List (γ×Value)} {k:γ} (h:¬k∈l.map (·.1)):look l k=none:=by
 unfold look;have:l.find? (fun x=>decide (x.1=k))=none:=by
  refine List.find?_eq_none.2 fun x hx=>?_;have:x.1≠k:=fun e=>h (List.mem_map.2 ⟨x,hx,e⟩)
  simpa using this
 rw [this];rfl
theorem z7s (x:γ×Value) (l:List (γ×Value)) (k:γ):look (x :: l) k=if x.1=k then some x.2 else look l k:=by
 unfold look;rw [List.find?_cons];by_cases h:x.1=k
 ·simp [h]
 ·simp [h]
theorem zar {k k':γ}:∀(l:List (γ×Value)) (j:Nat) (h:j<l.length),(l[j]).1=k→(l.map (·.1)).Nodup→look (l.eraseIdx j) k'=if k'=k then none else look l k'
 | x :: l,0,_,he,hd=>by
  have he:x.1=k:=he;rw [List.map_cons,List.nodup_cons] at hd;rw [List.eraseIdx_zero,List.tail_cons,z7s];by_cases e:k'=k
  ·rw [if_pos e,e,← he];exact zhl hd.1
  ·rw [if_neg e,if_neg (fun hh=>e (hh.symm.trans he))]
 | x :: l,j+1,h,he,hd=>by
  have h':j<l.length:=by simpa using h
  have he:(l[j]).1=k:=he;rw [List.map_cons,List.nodup_cons] at hd;have hx:x.1≠k:=fun e=>hd.1 (List.mem_map.2 ⟨l[j],List.getElem_mem _,by rw [he,e]⟩);rw [List.eraseIdx_cons_succ,z7s,z7s,zar l j h' he hd.2];by_cases e:k'=k
  ·rw [if_pos e,if_pos e,if_neg (fun hh=>hx (hh.trans e))]
  ·rw [if_neg e,if_neg e]
theorem zid {α:Type}:∀(l:List α) (j:Nat),(l.eraseIdx j).Sublist l:=fun l j=>List.eraseIdx_sublist l j
theorem zhz {t kt e:TypeId} {enc:γ→Value} (hK:KeyK P kt enc) (ht:P.underlying t=some (.map kt e)) {m:Nat} {H:AH} {id:Nat} {f:γ→Option Value} (h:MapU enc H id f) (hm:m≤id) (k:γ) (hf:flat depth (enc k)=true) {ts:Array TypeId} (hts:ts[0]? = some t) :
  ∃H',aDelete P m ts [.map (some id),enc k] H=some (.tuple #[],H')∧MapU enc H' id (fun k'=>if k'=k then none else f k')∧Fm (fun i=>i=id) H H'∧H'.next=H.next:=by
 obtain ⟨l,⟨es,n,opn,esz,h1,h2⟩,hnd,h3⟩:=h;have hmap:aMapAt m H (.map (some id))=some (id,{ obj:=.map es n,opn:=opn,esz:=esz,ro:=false },es,n):=by
  unfold aMapAt;simp only [h1];rw [show Nat.ble m id=true by simp [hm]];rfl
 cases hq:findI k l 0 with
 | none =>
  refine ⟨H,?_,⟨l,⟨_,_,_,_,h1,h2⟩,hnd,fun k'=>?_⟩,Fm.refl _ _,rfl⟩
  ·unfold aDelete;rw [hts];simp only [hf,cond_true,ht,hmap,hK.chk,M8 hK k h2,hq]
  ·have h0:=z2k k l 0;rw [hq] at h0;show look l k'=if k'=k then none else f k'
   by_cases e:k'=k
   ·rw [if_pos e,e,← h0]; rfl
   ·rw [if_neg e,h3 k']
 | some r =>
  obtain ⟨j,w⟩:=r;obtain ⟨_,h5,h6,_⟩:=z69 (k':=k) (v:=w) hq;rw [Nat.sub_zero] at h5 h6;have hlen:es.size=l.length:=by
   have:=congrArg List.length h2
   simpa using this
  have hj:j<es.size:=by omega
  refine ⟨H.put id { obj:=.map (es.eraseIdxIfInBounds j) n,opn:=opn,esz:=esz,ro:=false },?_,⟨l.eraseIdx j,⟨_,_,_,_,AH.get_put_same _ _ _,?_⟩,?_,fun k'=>?_⟩,Fm.put,rfl⟩
  ·unfold aDelete;rw [hts];simp only [hf,cond_true,ht,hmap,hK.chk,M8 hK k h2,hq]
  ·unfold Ents at h2 ⊢;have:(es.eraseIdxIfInBounds j).toList=es.toList.eraseIdx j:=by
    unfold Array.eraseIdxIfInBounds;rw [dif_pos hj];simp
   rw [this,z1u,z1u,h2]
  ·exact hnd.sublist ((zid l j).map _)
  ·rw [zar l j h5 (h6 h5) hnd,h3 k']
end Go.Abs
namespace Go.Abs.Eg
structure Tys where
 G:TypeId
 N:TypeId
 S:TypeId
 I:TypeId
 P:TypeId
 E:TypeId
 C:TypeId
structure GL where
 q:Nat
 mi:Nat
 ms:Nat
 sN:Sl3
 sS:Sl3
 sM:Sl3
 sO:Sl3
 sC:Sl3
 sF:Sl3
 cl:List (Nat×Sl3×Sl3×Sl3)
 na:List Sl3
abbrev Sd:=Int×Int×Int×Bool
abbrev Ed:=Int×Int×Int×Int×Bool
structure Gh where
 g:St
 ids:Key→Option Nat
 sd:List Sd
 fe:List Ed
def nodeL (N:List Nd) (na:List Sl3):List (Int×Sl3×Bool):=List.zipWith (fun x s=>(x.sym,s,x.value)) N na
def strM (tx:Key→ByteArray) (f:Key→Option Nat) (F:ByteArray→Option Value):Prop:=∀k,F (tx k)=(f k).map fun n=>Value.int .i64 (n:Int)
inductive Comp where
 | q | mi | ms | N | S | O | C | F
 | blk (k:Nat) | us (k:Nat) | me (k:Nat) | va (k:Nat) | na (i:Nat)
deriving DecidableEq
def qCells (L:GL):List Value:=[L.sN.v,.map (some L.mi),L.sS.v,L.sM.v,L.sO.v,L.sC.v,L.sF.v,.map (some L.ms)]
def cCells (p:Nat×Sl3×Sl3×Sl3) (low:Nat):List Value:=[p.2.1.v,p.2.2.1.v,p.2.2.2.v,.int .i64 (low:Int)]
def Hold (T:Tys) (tx:Key→ByteArray) (m:Nat) (H:AH) (L:GL) (x:Gh):Comp→Prop
 | .q=>ArrV T.G m H L.q (qCells L)
 | .mi=>m≤L.mi∧L.mi<H.next∧∃F,MapU Value.string H L.mi F∧strM tx x.ids F
 | .ms=>m≤L.ms∧L.ms<H.next∧∃F,MapU Value.string H L.ms F∧strM tx x.g.sigs F
 | .N=>SlA EN T.N m H (nodeL x.g.N L.na) L.sN
 | .S=>SlA ES T.S m H x.sd L.sS
 | .O=>SlA EI T.I m H x.g.of L.sO
 | .C=>SlA EP T.P m H (L.cl.map (·.1)) L.sC
 | .F=>SlA EE T.E m H x.fe L.sF
 | .blk k=>∀p,L.cl[k]? = some p→ArrV T.C m H p.1 (cCells p (x.g.c k).low)
 | .us k=>∀p,L.cl[k]? = some p→SlA EI T.I m H (x.g.c k).uses p.2.1
 | .me k=>∀p,L.cl[k]? = some p→SlA EI T.I m H (x.g.c k).mem p.2.2.1
 | .va k=>∀p,L.cl[k]? = some p→SlA EI T.I m H (x.g.c k).vals p.2.2.2
 | .na i=>∀s,L.na[i]? = some s→SlA EI T.I m H (x.g.args i) s
def GL.fp (L:GL):Comp→Nat→Prop
 | .q=>fun id=>id=L.q
 | .mi=>fun id=>id=L.mi
 | .ms=>fun id=>id=L.ms
 | .N=>fpt L.sN
 | .S=>fpt L.sS
 | .O=>fpt L.sO
 | .C=>fpt L.sC
 | .F=>fpt L.sF
 | .blk k=>fun id=>∃p,L.cl[k]? = some p∧id=p.1
 | .us k=>fun id=>∃p,L.cl[k]? = some p∧fpt p.2.1 id
 | .me k=>fun id=>∃p,L.cl[k]? = some p∧fpt p.2.2.1 id
 | .va k=>fun id=>∃p,L.cl[k]? = some p∧fpt p.2.2.2 id
 | .na i=>fun id=>∃s,L.na[i]? = some s∧fpt s id
variable {T:Tys} {tx:Key→ByteArray} {m:Nat} {H H':AH} {L L':GL} {x x':Gh}
theorem Hold.low {c:Comp} (h:Hold T tx m H L x c) {id:Nat} (hf:L.fp c id):m≤id∧id<H.next:=by
 cases c with
 | q=>have h:ArrV _ _ _ _ _:=h; have hf:id=L.q:=hf; subst hf; exact ⟨h.own,h.low⟩
 | mi=>have hf:id=L.mi:=hf; subst hf; exact ⟨h.1,h.2.1⟩
 | ms=>have hf:id=L.ms:=hf; subst hf; exact ⟨h.1,h.2.1⟩
 | N=>exact SlG.fp h hf
 | S=>exact SlG.fp h hf
 | O=>exact SlG.fp h hf
 | C=>exact SlG.fp h hf
 | F=>exact SlG.fp h hf
 | blk k=>obtain ⟨p,hp,rfl⟩:=hf; have:=h p hp; exact ⟨this.own,this.low⟩
 | us k=>obtain ⟨p,hp,hf⟩:=hf; exact SlG.fp (h p hp) hf
 | me k=>obtain ⟨p,hp,hf⟩:=hf; exact SlG.fp (h p hp) hf
 | va k=>obtain ⟨p,hp,hf⟩:=hf; exact SlG.fp (h p hp) hf
 | na i=>obtain ⟨s,hs,hf⟩:=hf; exact SlG.fp (h s hs) hf
theorem Hold.fr {W:Nat→Prop} {c:Comp} (h:Hold T tx m H L x c) (hf:Fm W H H') (hw:∀id,L.fp c id→¬W id):Hold T tx m H' L x c:=by
 cases c with
 | q=>exact ArrV.fr h hf (hw _ rfl)
 | mi=>obtain ⟨h1,h2,F,h3,h4⟩:=h; exact ⟨h1,Nat.lt_of_lt_of_le h2 hf.1,F,h3.fr hf h2 (hw _ rfl),h4⟩
 | ms=>obtain ⟨h1,h2,F,h3,h4⟩:=h; exact ⟨h1,Nat.lt_of_lt_of_le h2 hf.1,F,h3.fr hf h2 (hw _ rfl),h4⟩
 | N=>exact SlA.fr h hf hw
 | S=>exact SlA.fr h hf hw
 | O=>exact SlA.fr h hf hw
 | C=>exact SlA.fr h hf hw
 | F=>exact SlA.fr h hf hw
 | blk k=>exact fun p hp=>(h p hp).fr hf (hw _ ⟨p,hp,rfl⟩)
 | us k=>exact fun p hp=>(h p hp).fr hf fun id hi=>hw id ⟨p,hp,hi⟩
 | me k=>exact fun p hp=>(h p hp).fr hf fun id hi=>hw id ⟨p,hp,hi⟩
 | va k=>exact fun p hp=>(h p hp).fr hf fun id hi=>hw id ⟨p,hp,hi⟩
 | na i=>exact fun s hs=>(h s hs).fr hf fun id hi=>hw id ⟨s,hs,hi⟩
structure Rep (T:Tys) (tx:Key→ByteArray) (m:Nat) (H:AH) (L:GL) (x:Gh):Prop where
 hold:∀c,Hold T tx m H L x c
 disj:∀c c' id,L.fp c id→L.fp c' id→c=c'
 nal:L.na.length=x.g.N.length
 cll:L.cl.length=x.g.cls.length
 fel:x.fe.map (·.1)=x.g.fo
theorem Rep.low (h:Rep T tx m H L x) {c:Comp} {id:Nat} (hf:L.fp c id):m≤id∧id<H.next:=(h.hold c).low hf
theorem Rep.ext (h:Rep T tx m H L x) (hf:Ext H H'):Rep T tx m H' L x:=⟨fun c=>(h.hold c).fr hf fun _ _ h=>h,h.disj,h.nal,h.cll,h.fel⟩
theorem Rep.step (h:Rep T tx m H L x) (X:Comp→Prop) {W:Nat→Prop} (hf:Fm W H H') (hW:∀id,W id→∃c,X c∧L.fp c id)
  (same:∀c,¬X c→(Hold T tx m H' L x c→Hold T tx m H' L' x' c)∧∀id,L'.fp c id→L.fp c id) (new:∀c,X c→Hold T tx m H' L' x' c)
  (nfp:∀c,X c→∀id,L'.fp c id→L.fp c id∨H.next≤id) (nd:∀c c',X c→X c'→∀id,L'.fp c id→L'.fp c' id→c=c')
  (nal:L'.na.length=x'.g.N.length) (cll:L'.cl.length=x'.g.cls.length) (fel:x'.fe.map (·.1)=x'.g.fo):Rep T tx m H' L' x':=by
 refine ⟨fun c=>?_,fun c c' id h1 h2=>?_,nal,cll,fel⟩
 ·by_cases hc:X c
  ·exact new c hc
  ·refine (same c hc).1 ((h.hold c).fr hf fun id hi hw=>?_);obtain ⟨c',hc',hi'⟩:=hW id hw;have:=h.disj c c' id hi hi';subst this;exact hc hc'
 ·have mixed:∀c c',X c→¬X c'→L'.fp c id→L'.fp c' id→c=c':=by
   intro c c' hc hc' h1 h2;have h2':=(same c' hc').2 id h2;rcases nfp c hc id h1 with h1 | h1
   ·exact h.disj c c' id h1 h2'
   ·have:=(h.low h2').2; omega
  by_cases hc:X c
  ·by_cases hc':X c'
   ·exact nd c c' hc hc' id h1 h2
   ·exact mixed c c' hc hc' h1 h2
  ·by_cases hc':X c'
   ·exact (mixed c' c hc' hc h2 h1).symm
   ·exact h.disj c c' id ((same c hc).2 id h1) ((same c' hc').2 id h2)
theorem Rep.q (h:Rep T tx m H L x) {j:Nat} {v:Value} (hv:(qCells L)[j]? = some v) {β:Type} (de:Value→Option β):rd de H ((⟨L.q,0,none⟩:Addr).add j)=de v :=
 (show ArrV T.G m H L.q (qCells L) from h.hold .q).rd hv de
theorem Rep.of_ (h:Rep T tx m H L x) {i:Nat} (hi:i<x.g.of.length) {v:Int} (hv:v=i):∃q,idxA 1 L.sO v=some q∧rd (deI .i64) H q=some ((x.g.o i:Nat):Int):=by
 obtain ⟨q,h1,h2⟩:=rd_EI (show SlA EI T.I m H x.g.of L.sO from h.hold .O) hi hv;refine ⟨q,h1,h2.trans ?_⟩;have:x.g.o i=x.g.of[i]:=by
  unfold St.o;rw [List.getD_eq_getElem?_getD,List.getElem?_eq_getElem hi];rfl
 rw [this]
theorem Rep.cls_ (h:Rep T tx m H L x) {k:Nat} (hk:k<x.g.cls.length) {v:Int} (hv:v=k):∃q p,L.cl[k]? = some p∧idxA 1 L.sC v=some q∧rd deP H q=some (some ⟨p.1,0,none⟩):=by
 have hk':k<L.cl.length:=by rw [h.cll]; exact hk
 obtain ⟨q,h1,h2⟩:=rd_EP (show SlA EP T.P m H (L.cl.map (·.1)) L.sC from h.hold .C) (i:=k) (by rw [List.length_map]; exact hk') hv;refine ⟨q,L.cl[k],List.getElem?_eq_getElem hk',h1,?_⟩;rw [h2,List.getElem_map]
theorem Rep.node (h:Rep T tx m H L x) {i:Nat} {y:Nd} (hy:x.g.N[i]? = some y) {v:Int} (hv:v=i) :
  ∃q s,idxA 3 L.sN v=some q∧rd (deI .i64) H (q.add 0)=some y.sym∧rd deSl H (q.add 1)=some s∧rd deB H (q.add 2)=some y.value∧SlA EI T.I m H y.args s∧L.na[i]? = some s:=by
 have hi:i<x.g.N.length:=(List.getElem?_eq_some_iff.1 hy).1;have hi2:i<L.na.length:=by rw [h.nal]; exact hi
 have hl:i<(nodeL x.g.N L.na).length:=by unfold nodeL; rw [List.length_zipWith]; omega
 obtain ⟨q,h1,h2,h3,h4⟩:=rd_EN (show SlA EN T.N m H (nodeL x.g.N L.na) L.sN from h.hold .N) hl hv;have he:(nodeL x.g.N L.na)[i]=(y.sym,L.na[i],y.value):=by
  have h0:(nodeL x.g.N L.na)[i]? = some (y.sym,L.na[i],y.value):=by
   unfold nodeL;rw [List.getElem?_zipWith,hy,List.getElem?_eq_getElem hi2]
  rw [List.getElem?_eq_getElem hl] at h0;exact Option.some.inj h0
 rw [he] at h2 h3 h4;have hs:L.na[i]? = some L.na[i]:=List.getElem?_eq_getElem hi2;have ha:=(show ∀s,L.na[i]? = some s→SlA EI T.I m H (x.g.args i) s from h.hold (.na i)) _ hs;have hargs:x.g.args i=y.args:=by
  unfold St.args;rw [hy];rfl
 rw [hargs] at ha;exact ⟨q,L.na[i],h1,h2,h3,h4,ha,hs⟩
end Go.Abs.Eg
namespace Go.Abs.Eg
def withS (x:Gh) (f:Key→Option Nat):Gh:=⟨{ x.g with sigs:=f },x.ids,x.sd,x.fe⟩
def withI (x:Gh) (f:Key→Option Nat):Gh:=⟨x.g,f,x.sd,x.fe⟩
variable {T:Tys} {tx:Key→ByteArray} {m:Nat} {H H':AH} {L:GL} {x:Gh} {P:Program} {t kt e:TypeId}
theorem zf4 {f:Key→Option Nat} {F:ByteArray→Option Value} (hi:∀k k',tx k=tx k'→k=k') (h:strM tx f F) (k:Key) (n:Nat):strM tx (fun k'=>if k'=k then some n else f k') fun s=>if s=tx k then some (.int .i64 (n:Int)) else F s:=by
 intro k';simp only;by_cases hk:k'=k
 ·rw [if_pos hk,if_pos (by rw [hk])]; rfl
 ·rw [if_neg hk,if_neg (fun e=>hk (hi _ _ e))]; exact h k'
theorem ziz {f:Key→Option Nat} {F:ByteArray→Option Value} (hi:∀k k',tx k=tx k'→k=k') (h:strM tx f F) (k:Key):strM tx (fun k'=>if k'=k then none else f k') fun s=>if s=tx k then none else F s:=by
 intro k';simp only;by_cases hk:k'=k
 ·rw [if_pos hk,if_pos (by rw [hk])]; rfl
 ·rw [if_neg hk,if_neg (fun e=>hk (hi _ _ e))]; exact h k'
structure MP (P:Program) (t kt e:TypeId):Prop where
 key:KeyK P kt Value.string
 und:P.underlying t=some (.map kt e)
 zero:(P.info? e).bind (·.zero)=some (.int .i64 0)
theorem lk_num {f:Key→Option Nat} {F:ByteArray→Option Value} (hP:MP P t kt e) {id:Nat} (hM:MapU Value.string H id F) (hs:strM tx f F) (k:Key) :
  lkM P t (deI .i64) H (some id) (.string (tx k))=some ((((f k).getD 0:Nat):Int),(f k).isSome):=by
 rw [zj5 hP.key hP.und hP.zero rfl hM.toA (tx k),hs k];cases f k <;> rfl
theorem Rep.lkS (hP:MP P t kt e) (h:Rep T tx m H L x) (k:Key):lkM P t (deI .i64) H (some L.ms) (.string (tx k))=some ((((x.g.sigs k).getD 0:Nat):Int),(x.g.sigs k).isSome):=by
 obtain ⟨_,_,F,h3,h4⟩:=(show Hold T tx m H L x .ms from h.hold .ms);exact lk_num hP h3 h4 k
theorem Rep.lkI (hP:MP P t kt e) (h:Rep T tx m H L x) (k:Key):lkM P t (deI .i64) H (some L.mi) (.string (tx k))=some ((((x.ids k).getD 0:Nat):Int),(x.ids k).isSome):=by
 obtain ⟨_,_,F,h3,h4⟩:=(show Hold T tx m H L x .mi from h.hold .mi);exact lk_num hP h3 h4 k
theorem Rep.setS (h:Rep T tx m H L x) {f:Key→Option Nat} (hf:Fm (fun i=>i=L.ms) H H') (hm:∃F,MapU Value.string H' L.ms F∧strM tx f F) (hn:H'.next=H.next):Rep T tx m H' L (withS x f):=by
 obtain ⟨h1,h2,_⟩:=(show Hold T tx m H L x .ms from h.hold .ms);refine h.step (fun c=>c=.ms) hf (fun id hid=>⟨.ms,rfl,hid⟩) (fun c hc=>⟨fun hh=>?_,fun id hid=>hid⟩) (fun c hc=>?_) (fun c hc id hid=>.inl hid) (fun c c' hc hc' _ _ _=>hc.trans hc'.symm) h.nal h.cll h.fel
 ·cases c <;> first | exact hh | exact absurd rfl hc
 ·subst hc; exact ⟨h1,by rw [hn]; exact h2,hm⟩
theorem Rep.setI (h:Rep T tx m H L x) {f:Key→Option Nat} (hf:Fm (fun i=>i=L.mi) H H') (hm:∃F,MapU Value.string H' L.mi F∧strM tx f F) (hn:H'.next=H.next):Rep T tx m H' L (withI x f):=by
 obtain ⟨h1,h2,_⟩:=(show Hold T tx m H L x .mi from h.hold .mi);refine h.step (fun c=>c=.mi) hf (fun id hid=>⟨.mi,rfl,hid⟩) (fun c hc=>⟨fun hh=>?_,fun id hid=>hid⟩) (fun c hc=>?_) (fun c hc id hid=>.inl hid) (fun c c' hc hc' _ _ _=>hc.trans hc'.symm) h.nal h.cll h.fel
 ·cases c <;> first | exact hh | exact absurd rfl hc
 ·subst hc; exact ⟨h1,by rw [hn]; exact h2,hm⟩
theorem Rep.upS (hi:∀k k',tx k=tx k'→k=k') (hP:MP P t kt e) (h:Rep T tx m H L x) (k:Key) (n:Nat) :
  ∃H',upM P m t H (some L.ms) (.string (tx k)) (.int .i64 (n:Int))=some H'∧Rep T tx m H' L (withS x fun k'=>if k'=k then some n else x.g.sigs k')∧Fm (fun i=>i=L.ms) H H'∧H'.next=H.next:=by
 obtain ⟨h1,h2,F,h3,h4⟩:=(show Hold T tx m H L x .ms from h.hold .ms);obtain ⟨H',a1,a2,a3,a4⟩:=z9b hP.key hP.und h3 h1 (tx k) (.int .i64 (n:Int));exact ⟨H',a1,h.setS a3 ⟨_,a2,zf4 hi h4 k n⟩ a4,a3,a4⟩
theorem Rep.upI (hi:∀k k',tx k=tx k'→k=k') (hP:MP P t kt e) (h:Rep T tx m H L x) (k:Key) (n:Nat) :
  ∃H',upM P m t H (some L.mi) (.string (tx k)) (.int .i64 (n:Int))=some H'∧Rep T tx m H' L (withI x fun k'=>if k'=k then some n else x.ids k')∧Fm (fun i=>i=L.mi) H H'∧H'.next=H.next:=by
 obtain ⟨h1,h2,F,h3,h4⟩:=(show Hold T tx m H L x .mi from h.hold .mi);obtain ⟨H',a1,a2,a3,a4⟩:=z9b hP.key hP.und h3 h1 (tx k) (.int .i64 (n:Int));exact ⟨H',a1,h.setI a3 ⟨_,a2,zf4 hi h4 k n⟩ a4,a3,a4⟩
theorem Rep.delS_ (hi:∀k k',tx k=tx k'→k=k') (hP:MP P t kt e) (h:Rep T tx m H L x) (k:Key) {ts:Array TypeId} (hts:ts[0]? = some t) :
  ∃H',aDelete P m ts [.map (some L.ms),.string (tx k)] H=some (.tuple #[],H')∧Rep T tx m H' L (withS x fun k'=>if k'=k then none else x.g.sigs k')∧Fm (fun i=>i=L.ms) H H'∧H'.next=H.next:=by
 obtain ⟨h1,h2,F,h3,h4⟩:=(show Hold T tx m H L x .ms from h.hold .ms);obtain ⟨H',a1,a2,a3,a4⟩:=zhz hP.key hP.und h3 h1 (tx k) rfl hts;exact ⟨H',a1,h.setS a3 ⟨_,a2,ziz hi h4 k⟩ a4,a3,a4⟩
theorem ziv (g:St) (us:List Nat):delS g (us.take 0)=g.sigs:=by
 funext k
 unfold delS;cases g.sigs k <;> simp
theorem zhd {g:St} (hs1:∀s k,g.sigs s=some k→k<g.n∧g.sig k=s) {us:List Nat} {i:Nat} (hi:i<us.length) :
  delS g (us.take (i+1))=if delS g (us.take i) (g.sig us[i])=some us[i] then (fun k=>if k=g.sig us[i] then none else delS g (us.take i) k) else delS g (us.take i):=by
 have hmem:∀w,w∈us.take (i+1)↔w∈us.take i∨w=us[i]:=by
  intro w;rw [List.take_succ_eq_append_getElem hi,List.mem_append,List.mem_singleton]
 funext k
 by_cases hc:delS g (us.take i) (g.sig us[i])=some us[i]
 ·rw [if_pos hc];show delS g (us.take (i+1)) k=if k=g.sig us[i] then none else delS g (us.take i) k
  by_cases hk:k=g.sig us[i]
  ·rw [if_pos hk,hk];unfold delS at hc ⊢;cases hg:g.sigs (g.sig us[i]) with
   | none=>rfl
   | some w =>
    rw [hg] at hc;simp only at hc ⊢;split at hc
    ·cases hc
    ·have hc:=Option.some.inj hc;rw [if_pos ((hmem w).2 (.inr hc))]
  ·rw [if_neg hk];unfold delS;cases hg:g.sigs k with
   | none=>rfl
   | some w =>
    simp only;have hw:w≠us[i]:=fun e=>hk (by rw [← e]; exact (hs1 k w hg).2.symm);by_cases hm:w∈us.take i
    ·rw [if_pos hm,if_pos ((hmem w).2 (.inl hm))]
    ·rw [if_neg hm,if_neg (fun h=>((hmem w).1 h).elim hm hw)]
 ·rw [if_neg hc];unfold delS at hc ⊢;cases hg:g.sigs k with
  | none=>rfl
  | some w =>
   simp only;by_cases hm:w∈us.take i
   ·rw [if_pos hm,if_pos ((hmem w).2 (.inl hm))]
   ·rw [if_neg hm];have hw:w≠us[i]:=by
     intro e;apply hc;have hk:g.sig us[i]=k:=by rw [← e]; exact (hs1 k w hg).2
     rw [hk,hg];simp only;rw [if_neg hm,e]
    rw [if_neg (fun h=>((hmem w).1 h).elim hm hw)]
end Go.Abs.Eg
namespace Go.Abs.Eg
def GL.setcl (L:GL) (t:Nat) (p:Nat×Sl3×Sl3×Sl3):GL:={ L with cl:=L.cl.set t p }
def withC (x:Gh) (t:Nat) (c:Cl):Gh:=⟨{ x.g with cls:=x.g.cls.set t c },x.ids,x.sd,x.fe⟩
variable {T:Tys} {tx:Key→ByteArray} {m:Nat} {H H':AH} {L:GL} {x:Gh}
theorem Rep.other {W:Nat→Prop} (h:Rep T tx m H L x) (hf:Fm W H H') (hw:∀c id,L.fp c id→¬W id):Rep T tx m H' L x :=
 ⟨fun c=>(h.hold c).fr hf (hw c),h.disj,h.nal,h.cll,h.fel⟩
theorem N9 {t:Nat} {c:Cl} (ht:t<x.g.cls.length) (k:Nat):(withC x t c).g.c k=if k=t then c else x.g.c k:=by
 show (x.g.cls.set t c).getD k Cl.nil=_;rw [List.getD_eq_getElem?_getD];by_cases hk:k=t
 ·subst hk;rw [List.getElem?_set_self ht,if_pos rfl];rfl
 ·rw [List.getElem?_set_ne (fun e=>hk e.symm),if_neg hk];show _=x.g.cls.getD k Cl.nil;rw [List.getD_eq_getElem?_getD]
theorem Rep.cls (h:Rep T tx m H L x) {t:Nat} {p p':Nat×Sl3×Sl3×Sl3} (hp:L.cl[t]? = some p) (hpp:p'.1=p.1) {c:Cl} {W:Nat→Prop} (hf:Fm W H H') (hW:∀id,W id→id=p.1∨fpt p.2.1 id∨fpt p.2.2.1 id∨fpt p.2.2.2 id)
  (hb:ArrV T.C m H' p.1 (cCells p' c.low)) (hu:SlA EI T.I m H' c.uses p'.2.1) (hm:SlA EI T.I m H' c.mem p'.2.2.1) (hv:SlA EI T.I m H' c.vals p'.2.2.2)
  (fu:∀id,fpt p'.2.1 id→fpt p.2.1 id∨H.next≤id) (fm:∀id,fpt p'.2.2.1 id→fpt p.2.2.1 id∨H.next≤id) (fv:∀id,fpt p'.2.2.2 id→fpt p.2.2.2 id∨H.next≤id)
  (one:∀id,H.next≤id→¬(fpt p'.2.1 id∧fpt p'.2.2.1 id)∧¬(fpt p'.2.1 id∧fpt p'.2.2.2 id)∧¬(fpt p'.2.2.1 id∧fpt p'.2.2.2 id)):Rep T tx m H' (L.setcl t p') (withC x t c):=by
 have htl:t<L.cl.length:=(List.getElem?_eq_some_iff.1 hp).1;have htc:t<x.g.cls.length:=by rw [← h.cll]; exact htl
 have hself:(L.setcl t p').cl[t]? = some p':=List.getElem?_set_self htl;have hother:∀k,k≠t→(L.setcl t p').cl[k]? = L.cl[k]? := fun k hk=>List.getElem?_set_ne (fun e=>hk e.symm);have hmap:(L.setcl t p').cl.map (·.1)=L.cl.map (·.1):=by
  refine List.ext_getElem? fun k=>?_;rw [List.getElem?_map,List.getElem?_map];by_cases hk:k=t
  ·rw [hk,hself,hp]; simp [hpp]
  ·rw [hother k hk]
 have hct:(withC x t c).g.c t=c:=by rw [N9 htc,if_pos rfl]
 have hco:∀k,k≠t→(withC x t c).g.c k=x.g.c k:=fun k hk=>by rw [N9 htc,if_neg hk]
 let X:Comp→Prop:=fun d=>d=.blk t∨d=.us t∨d=.me t∨d=.va t
 have lowp:∀d id,L.fp d id→id<H.next:=fun d id hd=>(h.low hd).2;refine h.step X hf (fun id hid=>?_) (fun d hd=>?_) (fun d hd=>?_) (fun d hd id hid=>?_) (fun d d' hd hd' id h1 h2=>?_) h.nal (by show (L.cl.set t p').length=(x.g.cls.set t c).length; rw [List.length_set,List.length_set]; exact h.cll) h.fel
 ·rcases hW id hid with e | e | e | e
  ·exact ⟨.blk t,.inl rfl,p,hp,e⟩
  ·exact ⟨.us t,.inr (.inl rfl),p,hp,e⟩
  ·exact ⟨.me t,.inr (.inr (.inl rfl)),p,hp,e⟩
  ·exact ⟨.va t,.inr (.inr (.inr rfl)),p,hp,e⟩
 ·cases d with
  | blk k =>
   have hk:k≠t:=fun e=>hd (.inl (by rw [e]));refine ⟨fun hh p0 hp0=>?_,fun id hid=>?_⟩
   ·rw [hother k hk] at hp0; rw [hco k hk]; exact hh p0 hp0
   ·obtain ⟨p0,hp0,e⟩:=hid; rw [hother k hk] at hp0; exact ⟨p0,hp0,e⟩
  | us k =>
   have hk:k≠t:=fun e=>hd (.inr (.inl (by rw [e])));refine ⟨fun hh p0 hp0=>?_,fun id hid=>?_⟩
   ·rw [hother k hk] at hp0; rw [hco k hk]; exact hh p0 hp0
   ·obtain ⟨p0,hp0,e⟩:=hid; rw [hother k hk] at hp0; exact ⟨p0,hp0,e⟩
  | me k =>
   have hk:k≠t:=fun e=>hd (.inr (.inr (.inl (by rw [e]))));refine ⟨fun hh p0 hp0=>?_,fun id hid=>?_⟩
   ·rw [hother k hk] at hp0; rw [hco k hk]; exact hh p0 hp0
   ·obtain ⟨p0,hp0,e⟩:=hid; rw [hother k hk] at hp0; exact ⟨p0,hp0,e⟩
  | va k =>
   have hk:k≠t:=fun e=>hd (.inr (.inr (.inr (by rw [e]))));refine ⟨fun hh p0 hp0=>?_,fun id hid=>?_⟩
   ·rw [hother k hk] at hp0; rw [hco k hk]; exact hh p0 hp0
   ·obtain ⟨p0,hp0,e⟩:=hid; rw [hother k hk] at hp0; exact ⟨p0,hp0,e⟩
  | C=>exact ⟨fun hh=>by show SlA EP T.P m H' ((L.setcl t p').cl.map (·.1)) L.sC; rw [hmap]; exact hh,fun id hid=>hid⟩
  | _=>exact ⟨fun hh=>hh,fun id hid=>hid⟩
 ·rcases hd with rfl | rfl | rfl | rfl
  ·intro p0 hp0;rw [hself] at hp0; cases hp0;rw [hct,hpp]; exact hb
  ·intro p0 hp0;rw [hself] at hp0; cases hp0;rw [hct]; exact hu
  ·intro p0 hp0;rw [hself] at hp0; cases hp0;rw [hct]; exact hm
  ·intro p0 hp0;rw [hself] at hp0; cases hp0;rw [hct]; exact hv
 ·rcases hd with rfl | rfl | rfl | rfl
  ·obtain ⟨p0,hp0,e⟩:=hid;rw [hself] at hp0; cases hp0;exact .inl ⟨p,hp,by rw [e,hpp]⟩
  ·obtain ⟨p0,hp0,e⟩:=hid;rw [hself] at hp0; cases hp0;exact (fu id e).imp (fun e=>⟨p,hp,e⟩) fun e=>e
  ·obtain ⟨p0,hp0,e⟩:=hid;rw [hself] at hp0; cases hp0;exact (fm id e).imp (fun e=>⟨p,hp,e⟩) fun e=>e
  ·obtain ⟨p0,hp0,e⟩:=hid;rw [hself] at hp0; cases hp0;exact (fv id e).imp (fun e=>⟨p,hp,e⟩) fun e=>e
 ·
  have old:∀d id,X d→(L.setcl t p').fp d id→id<H.next→L.fp d id:=by
   intro d id hd hid hlt;rcases hd with rfl | rfl | rfl | rfl
   ·obtain ⟨p0,hp0,e⟩:=hid;rw [hself] at hp0; cases hp0;exact ⟨p,hp,by rw [e,hpp]⟩
   ·obtain ⟨p0,hp0,e⟩:=hid;rw [hself] at hp0; cases hp0;exact ⟨p,hp,(fu id e).resolve_right (by omega)⟩
   ·obtain ⟨p0,hp0,e⟩:=hid;rw [hself] at hp0; cases hp0;exact ⟨p,hp,(fm id e).resolve_right (by omega)⟩
   ·obtain ⟨p0,hp0,e⟩:=hid;rw [hself] at hp0; cases hp0;exact ⟨p,hp,(fv id e).resolve_right (by omega)⟩
  by_cases hlt:id<H.next
  ·exact h.disj d d' id (old d id hd h1 hlt) (old d' id hd' h2 hlt)
  ·have h3:=one id (by omega);have blk:¬(L.setcl t p').fp (.blk t) id:=by
    rintro ⟨p0,hp0,e⟩
    rw [hself] at hp0; cases hp0;have:=lowp (.blk t) p.1 ⟨p,hp,rfl⟩;omega
   have gu:(L.setcl t p').fp (.us t) id→fpt p'.2.1 id:=by rintro ⟨p0,hp0,e⟩; rw [hself] at hp0; cases hp0; exact e
   have gm:(L.setcl t p').fp (.me t) id→fpt p'.2.2.1 id:=by rintro ⟨p0,hp0,e⟩; rw [hself] at hp0; cases hp0; exact e
   have gv:(L.setcl t p').fp (.va t) id→fpt p'.2.2.2 id:=by rintro ⟨p0,hp0,e⟩; rw [hself] at hp0; cases hp0; exact e
   rcases hd with rfl | rfl | rfl | rfl <;> rcases hd' with rfl | rfl | rfl | rfl <;> first | rfl | exact absurd h1 blk | exact absurd h2 blk | exact (h3.1 ⟨gu h1,gm h2⟩).elim | exact (h3.1 ⟨gu h2,gm h1⟩).elim | exact (h3.2.1 ⟨gu h1,gv h2⟩).elim | exact (h3.2.1 ⟨gu h2,gv h1⟩).elim | exact (h3.2.2 ⟨gm h1,gv h2⟩).elim | exact (h3.2.2 ⟨gm h2,gv h1⟩).elim
structure ClA (T:Tys) (m:Nat) (H:AH) (p:Nat×Sl3×Sl3×Sl3) (c:Cl):Prop where
 blk:ArrV T.C m H p.1 (cCells p c.low)
 us:SlA EI T.I m H c.uses p.2.1
 me:SlA EI T.I m H c.mem p.2.2.1
 va:SlA EI T.I m H c.vals p.2.2.2
 du:¬fpt p.2.1 p.1
 dm:¬fpt p.2.2.1 p.1
 dv:¬fpt p.2.2.2 p.1
 um:∀id,fpt p.2.1 id→¬fpt p.2.2.1 id
 uv:∀id,fpt p.2.1 id→¬fpt p.2.2.2 id
 mv:∀id,fpt p.2.2.1 id→¬fpt p.2.2.2 id
theorem Rep.cla (h:Rep T tx m H L x) {t:Nat} {p:Nat×Sl3×Sl3×Sl3} (hp:L.cl[t]? = some p):ClA T m H p (x.g.c t):=by
 refine ⟨h.hold (.blk t) p hp,h.hold (.us t) p hp,h.hold (.me t) p hp,h.hold (.va t) p hp,fun hf=>?_,fun hf=>?_,fun hf=>?_,fun id h1 h2=>?_,fun id h1 h2=>?_,fun id h1 h2=>?_⟩
 ·have:=h.disj (.us t) (.blk t) p.1 ⟨p,hp,hf⟩ ⟨p,hp,rfl⟩; cases this
 ·have:=h.disj (.me t) (.blk t) p.1 ⟨p,hp,hf⟩ ⟨p,hp,rfl⟩; cases this
 ·have:=h.disj (.va t) (.blk t) p.1 ⟨p,hp,hf⟩ ⟨p,hp,rfl⟩; cases this
 ·have:=h.disj (.us t) (.me t) id ⟨p,hp,h1⟩ ⟨p,hp,h2⟩; cases this
 ·have:=h.disj (.us t) (.va t) id ⟨p,hp,h1⟩ ⟨p,hp,h2⟩; cases this
 ·have:=h.disj (.me t) (.va t) id ⟨p,hp,h1⟩ ⟨p,hp,h2⟩; cases this
theorem Rep.appU (h:Rep T tx m H L x) {t:Nat} {p:Nat×Sl3×Sl3×Sl3} (hp:L.cl[t]? = some p) {l':List Nat} {z:Sl3} (hz:RdV 1 H z l'.length (l'.flatMap EI.enc))
  (h2:(x.g.c t).uses.length+l'.length≤1099511627776) (hm:m≤H.next) :
  ∃s' H1 H',appS m T.I 1 8 H p.2.1 z=some (s',H1)∧H1.setCell m ((⟨p.1,0,none⟩:Addr).add 0) (Sl3.v s')=some H'∧Rep T tx m H' (L.setcl t (p.1,s',p.2.2.1,p.2.2.2)) (withC x t { x.g.c t with uses:=(x.g.c t).uses++l' }) ∧
   Fm (fun i=>i=p.1∨fpt p.2.1 i) H H'∧∀i,fpt s' i→fpt p.2.1 i∨H.next≤i:=by
 have hc:=h.cla hp;obtain ⟨s',H1,H',a1,a2,a3,a4,a5,a6,a7⟩:=z3o (j:=0) (bytes:=8) (E:=EI) hc.blk rfl hc.us hc.du hz (by omega) (by omega) hm;refine ⟨s',H1,H',a1,a2,?_,a5,a6⟩;refine h.cls hp rfl a5 (fun id hid=>hid.elim .inl fun h=>.inr (.inl h)) (p':=(p.1,s',p.2.2.1,p.2.2.2)) a3 a4 (hc.me.fr a5 fun id hid hw=>?_) (hc.va.fr a5 fun id hid hw=>?_) a6 (fun id hid=>.inl hid) (fun id hid=>.inl hid) fun id hle=>?_
 ·rcases hw with e | e
  ·rw [e] at hid; exact hc.dm hid
  ·exact hc.um id e hid
 ·rcases hw with e | e
  ·rw [e] at hid; exact hc.dv hid
  ·exact hc.uv id e hid
 ·have hm':¬fpt p.2.2.1 id:=fun hh=>by have:=(h.low (c:=.me t) ⟨p,hp,hh⟩).2; omega
  have hv':¬fpt p.2.2.2 id:=fun hh=>by have:=(h.low (c:=.va t) ⟨p,hp,hh⟩).2; omega
  exact ⟨fun hh=>hm' hh.2,fun hh=>hv' hh.2,fun hh=>hm' hh.1⟩
theorem Rep.appM (h:Rep T tx m H L x) {t:Nat} {p:Nat×Sl3×Sl3×Sl3} (hp:L.cl[t]? = some p) {l':List Nat} {z:Sl3} (hz:RdV 1 H z l'.length (l'.flatMap EI.enc))
  (h2:(x.g.c t).mem.length+l'.length≤1099511627776) (hm:m≤H.next) :
  ∃s' H1 H',appS m T.I 1 8 H p.2.2.1 z=some (s',H1)∧H1.setCell m ((⟨p.1,0,none⟩:Addr).add 1) (Sl3.v s')=some H'∧Rep T tx m H' (L.setcl t (p.1,p.2.1,s',p.2.2.2)) (withC x t { x.g.c t with mem:=(x.g.c t).mem++l' }) ∧
   Fm (fun i=>i=p.1∨fpt p.2.2.1 i) H H'∧∀i,fpt s' i→fpt p.2.2.1 i∨H.next≤i:=by
 have hc:=h.cla hp;obtain ⟨s',H1,H',a1,a2,a3,a4,a5,a6,a7⟩:=z3o (j:=1) (bytes:=8) (E:=EI) hc.blk rfl hc.me hc.dm hz (by omega) (by omega) hm;refine ⟨s',H1,H',a1,a2,?_,a5,a6⟩;refine h.cls hp rfl a5 (fun id hid=>hid.elim .inl fun h=>.inr (.inr (.inl h))) (p':=(p.1,p.2.1,s',p.2.2.2)) a3 (hc.us.fr a5 fun id hid hw=>?_) a4 (hc.va.fr a5 fun id hid hw=>?_) (fun id hid=>.inl hid) a6 (fun id hid=>.inl hid) fun id hle=>?_
 ·rcases hw with e | e
  ·rw [e] at hid; exact hc.du hid
  ·exact hc.um id hid e
 ·rcases hw with e | e
  ·rw [e] at hid; exact hc.dv hid
  ·exact hc.mv id e hid
 ·have hu':¬fpt p.2.1 id:=fun hh=>by have:=(h.low (c:=.us t) ⟨p,hp,hh⟩).2; omega
  have hv':¬fpt p.2.2.2 id:=fun hh=>by have:=(h.low (c:=.va t) ⟨p,hp,hh⟩).2; omega
  exact ⟨fun hh=>hu' hh.1,fun hh=>hu' hh.1,fun hh=>hv' hh.2⟩
theorem Rep.appV (h:Rep T tx m H L x) {t:Nat} {p:Nat×Sl3×Sl3×Sl3} (hp:L.cl[t]? = some p) {l':List Nat} {z:Sl3} (hz:RdV 1 H z l'.length (l'.flatMap EI.enc))
  (h2:(x.g.c t).vals.length+l'.length≤1099511627776) (hm:m≤H.next) :
  ∃s' H1 H',appS m T.I 1 8 H p.2.2.2 z=some (s',H1)∧H1.setCell m ((⟨p.1,0,none⟩:Addr).add 2) (Sl3.v s')=some H'∧Rep T tx m H' (L.setcl t (p.1,p.2.1,p.2.2.1,s')) (withC x t { x.g.c t with vals:=(x.g.c t).vals++l' }) ∧
   Fm (fun i=>i=p.1∨fpt p.2.2.2 i) H H'∧∀i,fpt s' i→fpt p.2.2.2 i∨H.next≤i:=by
 have hc:=h.cla hp;obtain ⟨s',H1,H',a1,a2,a3,a4,a5,a6,a7⟩:=z3o (j:=2) (bytes:=8) (E:=EI) hc.blk rfl hc.va hc.dv hz (by omega) (by omega) hm;refine ⟨s',H1,H',a1,a2,?_,a5,a6⟩;refine h.cls hp rfl a5 (fun id hid=>hid.elim .inl fun h=>.inr (.inr (.inr h))) (p':=(p.1,p.2.1,p.2.2.1,s')) a3 (hc.us.fr a5 fun id hid hw=>?_) (hc.me.fr a5 fun id hid hw=>?_) a4 (fun id hid=>.inl hid) (fun id hid=>.inl hid) a6 fun id hle=>?_
 ·rcases hw with e | e
  ·rw [e] at hid; exact hc.du hid
  ·exact hc.uv id hid e
 ·rcases hw with e | e
  ·rw [e] at hid; exact hc.dm hid
  ·exact hc.mv id hid e
 ·have hu':¬fpt p.2.1 id:=fun hh=>by have:=(h.low (c:=.us t) ⟨p,hp,hh⟩).2; omega
  have hm':¬fpt p.2.2.1 id:=fun hh=>by have:=(h.low (c:=.me t) ⟨p,hp,hh⟩).2; omega
  exact ⟨fun hh=>hu' hh.1,fun hh=>hu' hh.1,fun hh=>hm' hh.1⟩
theorem Rep.putL (h:Rep T tx m H L x) {t:Nat} {p:Nat×Sl3×Sl3×Sl3} (hp:L.cl[t]? = some p) (n:Nat) :
  ∃H',H.setCell m ((⟨p.1,0,none⟩:Addr).add 3) (.int .i64 (n:Int))=some H'∧Rep T tx m H' (L.setcl t p) (withC x t { x.g.c t with low:=n })∧Fm (fun i=>i=p.1) H H'∧H'.next=H.next:=by
 have hc:=h.cla hp;obtain ⟨H',a1,a2,a3,a4⟩:=hc.blk.put (j:=3) (by show 3<4; omega) (.int .i64 (n:Int));refine ⟨H',a1,?_,a3,a4⟩;refine h.cls hp rfl a3 (fun id hid=>.inl hid) (p':=p) a2 (hc.us.fr a3 fun id hid hw=>?_) (hc.me.fr a3 fun id hid hw=>?_) (hc.va.fr a3 fun id hid hw=>?_) (fun id hid=>.inl hid) (fun id hid=>.inl hid) (fun id hid=>.inl hid) fun id hle=>?_
 ·rw [hw] at hid; exact hc.du hid
 ·rw [hw] at hid; exact hc.dm hid
 ·rw [hw] at hid; exact hc.dv hid
 ·have hu':¬fpt p.2.1 id:=fun hh=>by have:=(h.low (c:=.us t) ⟨p,hp,hh⟩).2; omega
  have hm':¬fpt p.2.2.1 id:=fun hh=>by have:=(h.low (c:=.me t) ⟨p,hp,hh⟩).2; omega
  exact ⟨fun hh=>hu' hh.1,fun hh=>hu' hh.1,fun hh=>hm' hh.1⟩
end Go.Abs.Eg
namespace Go.Abs.Eg
structure MJ (g:St):Prop where
 len:g.of.length=g.n
 args:∀(i:Nat) x,g.N[i]? = some x→∀a∈x.args,a<i
 cl:∀i,i<g.n→g.o i<g.cls.length
 mem:∀i,i<g.n→∀j,j∈(g.c (g.o i)).mem↔j<g.n∧g.o j=g.o i
 vals:∀i,i<g.n→∀j,j∈(g.c (g.o i)).vals↔j<g.n∧g.o j=g.o i∧∃x,g.N[j]? = some x∧x.value=true
 vnd:∀i,i<g.n→(g.c (g.o i)).vals.Nodup
 uses:∀i,i<g.n→∀u,u∈(g.c (g.o i)).uses↔∃x,g.N[u]? = some x∧∃a∈x.args,g.o a=g.o i
 s1:∀s k,g.sigs s=some k→k<g.n∧g.sig k=s
theorem MI.toJ {g:St} {M q:List (Nat×Nat)} (h:MI g M q):MJ g:=⟨h.len,h.args,h.cl,h.mem,h.vals,h.vnd,h.uses,h.s1⟩
theorem MJ.f {g:St} (h:MJ g) (fo:List Int):MJ { g with fo:=fo }:=⟨h.len,h.args,h.cl,h.mem,h.vals,h.vnd,h.uses,h.s1⟩
theorem MX.f {g:St} (h:MX g) (fo:List Int):MX { g with fo:=fo }:=⟨h.mnd,h.ulen⟩
end Go.Abs.Eg
namespace Go.Abs
variable {e:TypeId} {m:Nat} {H:AH} {α:Type} {E:Enc α} {x:α} {l:List α} {s:Sl3}
theorem zbn (h:VecA E e m H (x :: l) s) (hN:l.length<OPEN):∃s',slc E.sz H s (some 1) none none=some s'∧VecA E e m H l s'∧∀id,fpt s' id→fpt s id:=by
 unfold VecA at h;generalize hn:(x :: l).length=n at h;generalize hv:(x :: l).flatMap E.enc=vs at h;cases h with
 | nil hn' hv'=>subst hn'; simp at hn
 | zero a ha hn' hv'=>subst hn'; simp at hn
 | opn id off cs hm hid hg hl ho hx =>
  have hn1:n=l.length+1:=by rw [← hn]; rfl
  refine ⟨⟨some ⟨id,off+E.sz,none⟩,l.length,OPEN⟩,?_,?_,fun id' hid'=>⟨by show OPEN≠0; unfold OPEN; omega,?_⟩⟩
  ·unfold slc;simp only;rw [if_pos trivial];have hb:slcB n n (some 1) none none=some (1,n,n):=by
    unfold slcB;simp only [boundI,Option.isSome_none,Bool.false_and,cond_false];rw [if_pos ⟨by omega,by omega⟩];rfl
   rw [hb];simp only [hg];rw [if_pos ⟨trivial,trivial,rfl⟩];rw [Nat.one_mul,I5];have:n - 1=l.length:=by omega
   rw [this]
  ·unfold VecA;have hvl:vs=E.enc x++l.flatMap E.enc:=by rw [← hv]; rfl
   refine .opn id (off+E.sz) cs hm hid hg (E.flat_len l) (E.flat_one l) fun i v hi=>?_;have:=hx (E.sz+i) v (by rw [hvl,List.getElem?_append_right (by rw [E.len]; omega),E.len,Nat.add_sub_cancel_left]; exact hi);rw [← Nat.add_assoc] at this;exact this
  ·obtain ⟨_,a,ha,rfl⟩:=hid';cases ha;exact ⟨_,rfl,rfl⟩
theorem zds (h:VecA E e m H (x :: l) s∨l=[]∧SlA E e m H [x] s) (hN:l.length<OPEN):∃s',slc E.sz H s (some 1) none none=some s'∧VecA E e m H l s'∧∀id,fpt s' id→fpt s id:=by
 rcases h with h | ⟨rfl,h⟩
 ·exact zbn h hN
 ·unfold SlA at h;generalize hn:[x].length=n at h;generalize hv:[x].flatMap E.enc=vs at h;cases h with
  | own h=>subst hn hv; exact zbn h hN
  | full id hm hid hg hl ho hn' hN' =>
   have hn1:n=1:=hn.symm;subst hn1;refine ⟨⟨some ⟨id,0,none⟩,0,0⟩,?_,VecA.zero E e m H ⟨id,0,none⟩ ⟨hid,rfl⟩,fun id' hid'=>absurd rfl hid'.1⟩;unfold slc;simp only;rw [if_neg (by unfold OPEN; omega)];have hb:slcB 1 1 (some 1) none none=some (1,1,1):=by
    unfold slcB;simp only [boundI,Option.isSome_none,Bool.false_and,cond_false];rw [if_pos ⟨by omega,by omega⟩];rfl
   rw [hb];simp only;rw [if_pos ⟨by unfold OPEN; omega,by omega⟩,if_pos trivial]
theorem VecA.toS (h:VecA E e m H l s):SlA E e m H l s:=.own h
end Go.Abs
namespace Go.Abs.Eg
variable {T:Tys} {tx:Key→ByteArray} {m:Nat} {H H':AH} {L L':GL} {x x':Gh}
theorem Rep.stepN (h:Rep T tx m H L x) (X:Comp→Prop) (New:Nat→Prop) (hN:∀c id,L.fp c id→¬New id) {W:Nat→Prop} (hf:Fm W H H') (hW:∀id,W id→(∃c,X c∧L.fp c id)∨New id)
  (same:∀c,¬X c→(Hold T tx m H' L x c→Hold T tx m H' L' x' c)∧∀id,L'.fp c id→L.fp c id) (new:∀c,X c→Hold T tx m H' L' x' c)
  (nfp:∀c,X c→∀id,L'.fp c id→L.fp c id∨New id) (nd:∀c c',X c→X c'→∀id,L'.fp c id→L'.fp c' id→c=c')
  (nal:L'.na.length=x'.g.N.length) (cll:L'.cl.length=x'.g.cls.length) (fel:x'.fe.map (·.1)=x'.g.fo):Rep T tx m H' L' x':=by
 refine ⟨fun c=>?_,fun c c' id h1 h2=>?_,nal,cll,fel⟩
 ·by_cases hc:X c
  ·exact new c hc
  ·refine (same c hc).1 ((h.hold c).fr hf fun id hi hw=>?_);rcases hW id hw with ⟨c',hc',hi'⟩ | hi'
   ·have:=h.disj c c' id hi hi';subst this;exact hc hc'
   ·exact hN c id hi hi'
 ·have mixed:∀c c',X c→¬X c'→L'.fp c id→L'.fp c' id→c=c':=by
   intro c c' hc hc' h1 h2;have h2':=(same c' hc').2 id h2;rcases nfp c hc id h1 with h1 | h1
   ·exact h.disj c c' id h1 h2'
   ·exact absurd h1 (hN c' id h2')
  by_cases hc:X c
  ·by_cases hc':X c'
   ·exact nd c c' hc hc' id h1 h2
   ·exact mixed c c' hc hc' h1 h2
  ·by_cases hc':X c'
   ·exact (mixed c' c hc' hc h2 h1).symm
   ·exact h.disj c c' id ((same c hc).2 id h1) ((same c' hc').2 id h2)
theorem two_nd {c1 c2:Comp} {id0:Nat→Prop} (h:∀id,L'.fp c1 id→L'.fp c2 id→False):∀c c',(c=c1∨c=c2)→(c'=c1∨c'=c2)→∀id,L'.fp c id→L'.fp c' id→c=c':=by
 rintro c c' (rfl | rfl) (rfl | rfl) id h1 h2
 ·rfl
 ·exact (h id h1 h2).elim
 ·exact (h id h2 h1).elim
 ·rfl
theorem Rep.dq (h:Rep T tx m H L x) {c:Comp} (hc:c≠.q):¬L.fp c L.q:=fun hf=>hc (h.disj c .q L.q hf rfl)
def addO (x:Gh) (n:Nat):Gh:=⟨{ x.g with of:=x.g.of++[n] },x.ids,x.sd,x.fe⟩
theorem Rep.pushO (h:Rep T tx m H L x) (n:Nat) (hl:x.g.of.length≤1048576) (hm:m≤H.next) :
  ∃z H0 s' H1 H',newR T.I 1 #[.int .i64 (n:Int)] H=some (z,H0)∧appS m T.I 1 8 H0 L.sO z=some (s',H1)∧H1.setCell m ((⟨L.q,0,none⟩:Addr).add 4) (Sl3.v s')=some H'∧Rep T tx m H' { L with sO:=s' } (addO x n) ∧
   Fm (fun i=>i=L.q∨fpt L.sO i) H H'∧(∀i,fpt s' i→fpt L.sO i∨H.next≤i):=by
 obtain ⟨z,H0,s',H1,H',a1,_,_,a2,a3,a4,a5,a6,a7,a8⟩:=C7 (E:=EI) (bytes:=8) (j:=4) (show ArrV T.G m H L.q (qCells L) from h.hold .q) rfl (show SlA EI T.I m H x.g.of L.sO from h.hold .O) (h.dq (c:=.O) (by intro e; cases e)) n (by omega) (by omega) hm;refine ⟨z,H0,s',H1,H',a1,a2,a3,?_,a6,a7⟩;refine h.step (fun c=>c=.q∨c=.O) a6 (fun id hid=>hid.elim (fun e=>⟨.q,.inl rfl,e⟩) fun e=>⟨.O,.inr rfl,e⟩) (fun c hc=>?_) (fun c hc=>?_) (fun c hc id hid=>?_) (two_nd (id0:=fun _=>True) fun id h1 h2=>a8 (by have h1:id=L.q:=h1; rw [← h1]; exact h2)) h.nal h.cll h.fel
 ·cases c <;> first | exact ⟨fun hh=>hh,fun id hid=>hid⟩ | exact absurd (.inl rfl) hc | exact absurd (.inr rfl) hc
 ·rcases hc with rfl | rfl
  ·exact a4
  ·exact a5
 ·rcases hc with rfl | rfl
  ·exact .inl hid
  ·exact a7 id hid
def addF (x:Gh) (e:Ed):Gh:=⟨{ x.g with fo:=x.g.fo++[e.1] },x.ids,x.sd,x.fe++[e]⟩
theorem Rep.pushF (h:Rep T tx m H L x) (e:Ed) (hl:x.fe.length≤1048576) (hm:m≤H.next) :
  ∃z H0 s' H1 H',newR T.E 1 #[.int .i64 e.1,.int .i64 e.2.1,.int .i64 e.2.2.1,.int .i64 e.2.2.2.1,.bool e.2.2.2.2] H=some (z,H0)∧appS m T.E 5 40 H0 L.sF z=some (s',H1)∧H1.setCell m ((⟨L.q,0,none⟩:Addr).add 6) (Sl3.v s')=some H'∧Rep T tx m H' { L with sF:=s' } (addF x e) ∧
   Fm (fun i=>i=L.q∨fpt L.sF i) H H'∧(∀i,fpt s' i→fpt L.sF i∨H.next≤i):=by
 obtain ⟨z,H0,s',H1,H',a1,_,_,a2,a3,a4,a5,a6,a7,a8⟩:=C7 (E:=EE) (bytes:=40) (j:=6) (show ArrV T.G m H L.q (qCells L) from h.hold .q) rfl (show SlA EE T.E m H x.fe L.sF from h.hold .F) (h.dq (c:=.F) (by intro e; cases e)) e (by omega) (by omega) hm;refine ⟨z,H0,s',H1,H',a1,a2,a3,?_,a6,a7⟩;refine h.step (fun c=>c=.q∨c=.F) a6 (fun id hid=>hid.elim (fun e=>⟨.q,.inl rfl,e⟩) fun e=>⟨.F,.inr rfl,e⟩) (fun c hc=>?_) (fun c hc=>?_) (fun c hc id hid=>?_) (two_nd (id0:=fun _=>True) fun id h1 h2=>a8 (by have h1:id=L.q:=h1; rw [← h1]; exact h2)) h.nal h.cll (by show (x.fe++[e]).map (·.1)=x.g.fo++[e.1]; rw [List.map_append,h.fel]; rfl)
 ·cases c <;> first | exact ⟨fun hh=>hh,fun id hid=>hid⟩ | exact absurd (.inl rfl) hc | exact absurd (.inr rfl) hc
 ·rcases hc with rfl | rfl
  ·exact a4
  ·exact a5
 ·rcases hc with rfl | rfl
  ·exact .inl hid
  ·exact a7 id hid
def addS (x:Gh) (s:Sd):Gh:=⟨x.g,x.ids,x.sd++[s],x.fe⟩
theorem Rep.pushS (h:Rep T tx m H L x) (s:Sd) (hl:x.sd.length≤1048576) (hm:m≤H.next) :
  ∃z H0 s' H1 H',newR T.S 1 #[.int .i64 s.1,.int .i64 s.2.1,.int .i64 s.2.2.1,.bool s.2.2.2] H=some (z,H0)∧appS m T.S 4 32 H0 L.sS z=some (s',H1)∧H1.setCell m ((⟨L.q,0,none⟩:Addr).add 2) (Sl3.v s')=some H'∧Rep T tx m H' { L with sS:=s' } (addS x s) ∧
   Fm (fun i=>i=L.q∨fpt L.sS i) H H'∧(∀i,fpt s' i→fpt L.sS i∨H.next≤i):=by
 obtain ⟨z,H0,s',H1,H',a1,_,_,a2,a3,a4,a5,a6,a7,a8⟩:=C7 (E:=ES) (bytes:=32) (j:=2) (show ArrV T.G m H L.q (qCells L) from h.hold .q) rfl (show SlA ES T.S m H x.sd L.sS from h.hold .S) (h.dq (c:=.S) (by intro e; cases e)) s (by omega) (by omega) hm;refine ⟨z,H0,s',H1,H',a1,a2,a3,?_,a6,a7⟩;refine h.step (fun c=>c=.q∨c=.S) a6 (fun id hid=>hid.elim (fun e=>⟨.q,.inl rfl,e⟩) fun e=>⟨.S,.inr rfl,e⟩) (fun c hc=>?_) (fun c hc=>?_) (fun c hc id hid=>?_) (two_nd (id0:=fun _=>True) fun id h1 h2=>a8 (by have h1:id=L.q:=h1; rw [← h1]; exact h2)) h.nal h.cll h.fel
 ·cases c <;> first | exact ⟨fun hh=>hh,fun id hid=>hid⟩ | exact absurd (.inl rfl) hc | exact absurd (.inr rfl) hc
 ·rcases hc with rfl | rfl
  ·exact a4
  ·exact a5
 ·rcases hc with rfl | rfl
  ·exact .inl hid
  ·exact a7 id hid
def addC (x:Gh) (c:Cl):Gh:=⟨{ x.g with cls:=x.g.cls++[c] },x.ids,x.sd,x.fe⟩
theorem z6f {c:Cl} {k:Nat} (hk:k≠x.g.cls.length):(addC x c).g.c k=x.g.c k:=by
 show (x.g.cls++[c]).getD k Cl.nil=x.g.cls.getD k Cl.nil;rw [List.getD_eq_getElem?_getD,List.getD_eq_getElem?_getD];by_cases h:k<x.g.cls.length
 ·rw [List.getElem?_append_left h]
 ·rw [List.getElem?_eq_none (by simp; omega),List.getElem?_eq_none (by omega)]
theorem z5s {c:Cl}:(addC x c).g.c x.g.cls.length=c:=by
 show (x.g.cls++[c]).getD x.g.cls.length Cl.nil=c;rw [List.getD_eq_getElem?_getD,List.getElem?_append_right (Nat.le_refl _)];simp
theorem Rep.pushC (h:Rep T tx m H L x) {p:Nat×Sl3×Sl3×Sl3} {c:Cl} (hc:ClA T m H p c) (hd:∀c' id,L.fp c' id→¬(id=p.1∨fpt p.2.1 id∨fpt p.2.2.1 id∨fpt p.2.2.2 id)) (hl:x.g.cls.length≤1048576) (hm:m≤H.next) :
  ∃z H0 s' H1 H',newR T.P 1 #[.pointer (some ⟨p.1,0,none⟩)] H=some (z,H0)∧appS m T.P 1 8 H0 L.sC z=some (s',H1)∧H1.setCell m ((⟨L.q,0,none⟩:Addr).add 5) (Sl3.v s')=some H'∧Rep T tx m H' { L with sC:=s',cl:=L.cl++[p] } (addC x c) ∧
   Fm (fun i=>i=L.q∨fpt L.sC i) H H'∧(∀i,fpt s' i→fpt L.sC i∨H.next≤i):=by
 have hll:(L.cl.map (·.1)).length=x.g.cls.length:=by rw [List.length_map]; exact h.cll
 obtain ⟨z,H0,s',H1,H',a1,_,_,a2,a3,a4,a5,a6,a7,a8⟩:=C7 (E:=EP) (bytes:=8) (j:=5) (show ArrV T.G m H L.q (qCells L) from h.hold .q) rfl (show SlA EP T.P m H (L.cl.map (·.1)) L.sC from h.hold .C) (h.dq (c:=.C) (by intro e; cases e)) p.1 (by omega) (by omega) hm;refine ⟨z,H0,s',H1,H',a1,a2,a3,?_,a6,a7⟩
 let K:=L.cl.length
 let own:Nat→Prop:=fun id=>id=p.1∨fpt p.2.1 id∨fpt p.2.2.1 id∨fpt p.2.2.2 id
 have ownlt:∀id,own id→id<H.next:=by
  rintro id (e | e | e | e)
  ·rw [e]; exact hc.blk.low
  ·exact (SlG.fp hc.us e).2
  ·exact (SlG.fp hc.me e).2
  ·exact (SlG.fp hc.va e).2
 have keep:∀id,own id→¬(id=L.q∨fpt L.sC id):=fun id ho hw=>by
  rcases hw with e | e
  ·exact hd .q id e ho
  ·exact hd .C id e ho
 have hself:(L.cl++[p])[K]? = some p:=by rw [List.getElem?_append_right (Nat.le_refl _)]; simp [K]
 have hold':∀k,k≠K→(L.cl++[p])[k]? = L.cl[k]? := fun k hk=>by
  by_cases hlt:k<L.cl.length
  ·rw [List.getElem?_append_left hlt]
  ·rw [List.getElem?_eq_none (by simp; show L.cl.length+1≤k; have:k≠L.cl.length:=hk; omega),List.getElem?_eq_none (by omega)]
 have hnone:L.cl[K]? = none:=List.getElem?_eq_none (Nat.le_refl _);have hKc:K=x.g.cls.length:=h.cll
 let X:Comp→Prop:=fun d=>d=.q∨d=.C∨d=.blk K∨d=.us K∨d=.me K∨d=.va K
 refine h.stepN X (fun id=>H.next≤id∨own id) (fun d id hid hn=>?_) a6 (fun id hid=>.inl (hid.elim (fun e=>⟨.q,.inl rfl,e⟩) fun e=>⟨.C,.inr (.inl rfl),e⟩)) (fun d hdx=>?_) (fun d hdx=>?_) (fun d hdx id hid=>?_) (fun d d' hdx hdx' id h1 h2=>?_) h.nal (by show (L.cl++[p]).length=(x.g.cls++[c]).length; simp [h.cll]) h.fel
 ·rcases hn with hn | hn
  ·have:=(h.low hid).2; omega
  ·exact hd d id hid hn
 ·cases d with
  | blk k =>
   have hk:k≠K:=fun e=>hdx (.inr (.inr (.inl (by rw [e]))));refine ⟨fun hh p0 hp0=>?_,fun id hid=>?_⟩
   ·rw [z6f (by rw [← hKc]; exact hk)]; exact hh p0 ((hold' k hk).symm.trans hp0)
   ·obtain ⟨p0,hp0,e⟩:=hid; exact ⟨p0,(hold' k hk).symm.trans hp0,e⟩
  | us k =>
   have hk:k≠K:=fun e=>hdx (.inr (.inr (.inr (.inl (by rw [e])))));refine ⟨fun hh p0 hp0=>?_,fun id hid=>?_⟩
   ·rw [z6f (by rw [← hKc]; exact hk)]; exact hh p0 ((hold' k hk).symm.trans hp0)
   ·obtain ⟨p0,hp0,e⟩:=hid; exact ⟨p0,(hold' k hk).symm.trans hp0,e⟩
  | me k =>
   have hk:k≠K:=fun e=>hdx (.inr (.inr (.inr (.inr (.inl (by rw [e]))))));refine ⟨fun hh p0 hp0=>?_,fun id hid=>?_⟩
   ·rw [z6f (by rw [← hKc]; exact hk)]; exact hh p0 ((hold' k hk).symm.trans hp0)
   ·obtain ⟨p0,hp0,e⟩:=hid; exact ⟨p0,(hold' k hk).symm.trans hp0,e⟩
  | va k =>
   have hk:k≠K:=fun e=>hdx (.inr (.inr (.inr (.inr (.inr (by rw [e]))))));refine ⟨fun hh p0 hp0=>?_,fun id hid=>?_⟩
   ·rw [z6f (by rw [← hKc]; exact hk)]; exact hh p0 ((hold' k hk).symm.trans hp0)
   ·obtain ⟨p0,hp0,e⟩:=hid; exact ⟨p0,(hold' k hk).symm.trans hp0,e⟩
  | q=>exact absurd (.inl rfl) hdx
  | C=>exact absurd (.inr (.inl rfl)) hdx
  | _=>exact ⟨fun hh=>hh,fun id hid=>hid⟩
 ·rcases hdx with rfl | rfl | rfl | rfl | rfl | rfl
  ·exact a4
  ·show SlA EP T.P m H' ((L.cl++[p]).map (·.1)) s';rw [List.map_append];exact a5
  ·intro p0 hp0;have hp0:(L.cl++[p])[K]? = some p0:=hp0;rw [hself] at hp0; cases hp0;rw [hKc,z5s];exact hc.blk.fr a6 (keep _ (.inl rfl))
  ·intro p0 hp0;have hp0:(L.cl++[p])[K]? = some p0:=hp0;rw [hself] at hp0; cases hp0;rw [hKc,z5s];exact hc.us.fr a6 fun id hid=>keep id (.inr (.inl hid))
  ·intro p0 hp0;have hp0:(L.cl++[p])[K]? = some p0:=hp0;rw [hself] at hp0; cases hp0;rw [hKc,z5s];exact hc.me.fr a6 fun id hid=>keep id (.inr (.inr (.inl hid)))
  ·intro p0 hp0;have hp0:(L.cl++[p])[K]? = some p0:=hp0;rw [hself] at hp0; cases hp0;rw [hKc,z5s];exact hc.va.fr a6 fun id hid=>keep id (.inr (.inr (.inr hid)))
 ·rcases hdx with rfl | rfl | rfl | rfl | rfl | rfl
  ·exact .inl hid
  ·exact (a7 id hid).imp (fun h=>h) .inl
  all_goals
   obtain ⟨p0,hp0,e⟩:=hid;have hp0:(L.cl++[p])[K]? = some p0:=hp0;rw [hself] at hp0; cases hp0;first | exact .inr (.inr (.inl e)) | exact .inr (.inr (.inr (.inl e))) | exact .inr (.inr (.inr (.inr (.inl e)))) | exact .inr (.inr (.inr (.inr (.inr e))))
 ·have eq0:∀{d} {f:Nat×Sl3×Sl3×Sl3→Nat→Prop},(∃p0,(L.cl++[p])[K]? = some p0∧f p0 d)→f p d:=by
   rintro d f ⟨p0,hp0,e⟩
   rw [hself] at hp0; cases hp0;exact e
  have gb:∀{i},GL.fp { L with sC:=s',cl:=L.cl++[p] } (.blk K) i→i=p.1:=fun h=>eq0 (f:=fun p i=>i=p.1) h;have gu:∀{i},GL.fp { L with sC:=s',cl:=L.cl++[p] } (.us K) i→fpt p.2.1 i:=fun h=>eq0 (f:=fun p i=>fpt p.2.1 i) h;have gm:∀{i},GL.fp { L with sC:=s',cl:=L.cl++[p] } (.me K) i→fpt p.2.2.1 i:=fun h=>eq0 (f:=fun p i=>fpt p.2.2.1 i) h;have gv:∀{i},GL.fp { L with sC:=s',cl:=L.cl++[p] } (.va K) i→fpt p.2.2.2 i:=fun h=>eq0 (f:=fun p i=>fpt p.2.2.2 i) h;have qo:∀{i},i=L.q→own i→False:=fun e ho=>hd .q _ e ho;have co:∀{i},fpt s' i→own i→False:=fun {i} e ho=>by
   rcases a7 i e with e | e
   ·exact hd .C i e ho
   ·have:=ownlt i ho; omega
  have qc:∀{i},i=L.q→fpt s' i→False:=fun {i} e f=>a8 (by rw [← e]; exact f);rcases hdx with rfl | rfl | rfl | rfl | rfl | rfl <;> rcases hdx' with rfl | rfl | rfl | rfl | rfl | rfl <;> first
   | rfl
   | exact (qc h1 h2).elim | exact (qc h2 h1).elim
   | exact (qo h1 (.inl (gb h2))).elim | exact (qo h2 (.inl (gb h1))).elim
   | exact (qo h1 (.inr (.inl (gu h2)))).elim | exact (qo h2 (.inr (.inl (gu h1)))).elim
   | exact (qo h1 (.inr (.inr (.inl (gm h2))))).elim | exact (qo h2 (.inr (.inr (.inl (gm h1))))).elim
   | exact (qo h1 (.inr (.inr (.inr (gv h2))))).elim | exact (qo h2 (.inr (.inr (.inr (gv h1))))).elim
   | exact (co h1 (.inl (gb h2))).elim | exact (co h2 (.inl (gb h1))).elim
   | exact (co h1 (.inr (.inl (gu h2)))).elim | exact (co h2 (.inr (.inl (gu h1)))).elim
   | exact (co h1 (.inr (.inr (.inl (gm h2))))).elim | exact (co h2 (.inr (.inr (.inl (gm h1))))).elim
   | exact (co h1 (.inr (.inr (.inr (gv h2))))).elim | exact (co h2 (.inr (.inr (.inr (gv h1))))).elim
   | exact (hc.du (by rw [← gb h1]; exact gu h2)).elim | exact (hc.du (by rw [← gb h2]; exact gu h1)).elim
   | exact (hc.dm (by rw [← gb h1]; exact gm h2)).elim | exact (hc.dm (by rw [← gb h2]; exact gm h1)).elim
   | exact (hc.dv (by rw [← gb h1]; exact gv h2)).elim | exact (hc.dv (by rw [← gb h2]; exact gv h1)).elim
   | exact (hc.um _ (gu h1) (gm h2)).elim | exact (hc.um _ (gu h2) (gm h1)).elim
   | exact (hc.uv _ (gu h1) (gv h2)).elim | exact (hc.uv _ (gu h2) (gv h1)).elim
   | exact (hc.mv _ (gm h1) (gv h2)).elim | exact (hc.mv _ (gm h2) (gv h1)).elim
end Go.Abs.Eg
namespace Go.Abs.Eg
variable {T:Tys} {tx:Key→ByteArray} {m:Nat} {H H':AH} {L:GL} {x:Gh}
def addN (x:Gh) (y:Nd):Gh:=⟨{ x.g with N:=x.g.N++[y] },x.ids,x.sd,x.fe⟩
theorem zcu {y:Nd} {i:Nat} (hi:i≠x.g.N.length):(addN x y).g.args i=x.g.args i:=by
 unfold St.args;show (((x.g.N++[y])[i]?).map Nd.args).getD []=_;by_cases h:i<x.g.N.length
 ·rw [List.getElem?_append_left h]
 ·rw [List.getElem?_eq_none (by simp; omega),List.getElem?_eq_none (by omega)]
theorem zci {y:Nd}:(addN x y).g.args x.g.N.length=y.args:=by
 unfold St.args;show (((x.g.N++[y])[x.g.N.length]?).map Nd.args).getD []=_;rw [List.getElem?_append_right (Nat.le_refl _)];simp
theorem zgo {N:List Nd} {na:List Sl3} (hl:na.length=N.length) (y:Nd) (s:Sl3):nodeL (N++[y]) (na++[s])=nodeL N na++[(y.sym,s,y.value)]:=by
 unfold nodeL;rw [List.zipWith_append hl.symm];rfl
theorem Rep.pushN (h:Rep T tx m H L x) (y:Nd) {sl:Sl3} (hs:SlA EI T.I m H y.args sl) (hd:∀c id,L.fp c id→¬fpt sl id) (hl:x.g.N.length≤1048576) (hm:m≤H.next) :
  ∃z H0 s' H1 H',newR T.N 1 #[.int .i64 y.sym,Sl3.v sl,.bool y.value] H=some (z,H0)∧appS m T.N 3 40 H0 L.sN z=some (s',H1)∧H1.setCell m ((⟨L.q,0,none⟩:Addr).add 0) (Sl3.v s')=some H'∧Rep T tx m H' { L with sN:=s',na:=L.na++[sl] } (addN x y) ∧
   Fm (fun i=>i=L.q∨fpt L.sN i) H H'∧(∀i,fpt s' i→fpt L.sN i∨H.next≤i):=by
 have hll:(nodeL x.g.N L.na).length=x.g.N.length:=by
  unfold nodeL; rw [List.length_zipWith,h.nal]; exact Nat.min_self _
 obtain ⟨z,H0,s',H1,H',a1,_,_,a2,a3,a4,a5,a6,a7,a8⟩:=C7 (E:=EN) (bytes:=40) (j:=0) (show ArrV T.G m H L.q (qCells L) from h.hold .q) rfl (show SlA EN T.N m H (nodeL x.g.N L.na) L.sN from h.hold .N) (h.dq (c:=.N) (by intro e; cases e)) (y.sym,sl,y.value) (by omega) (by omega) hm;refine ⟨z,H0,s',H1,H',a1,a2,a3,?_,a6,a7⟩
 let K:=L.na.length
 have hKc:K=x.g.N.length:=h.nal;have keep:∀id,fpt sl id→¬(id=L.q∨fpt L.sN id):=fun id ho hw=>by
  rcases hw with e | e
  ·exact hd .q id e ho
  ·exact hd .N id e ho
 have hself:(L.na++[sl])[K]? = some sl:=by rw [List.getElem?_append_right (Nat.le_refl _)]; simp [K]
 have hold':∀k,k≠K→(L.na++[sl])[k]? = L.na[k]? := fun k hk=>by
  by_cases hlt:k<L.na.length
  ·rw [List.getElem?_append_left hlt]
  ·rw [List.getElem?_eq_none (by simp; show L.na.length+1≤k; have:k≠L.na.length:=hk; omega),List.getElem?_eq_none (by omega)]
 let X:Comp→Prop:=fun d=>d=.q∨d=.N∨d=.na K
 refine h.stepN X (fun id=>H.next≤id∨fpt sl id) (fun d id hid hn=>?_) a6 (fun id hid=>.inl (hid.elim (fun e=>⟨.q,.inl rfl,e⟩) fun e=>⟨.N,.inr (.inl rfl),e⟩)) (fun d hdx=>?_) (fun d hdx=>?_) (fun d hdx id hid=>?_) (fun d d' hdx hdx' id h1 h2=>?_) (by show (L.na++[sl]).length=(x.g.N++[y]).length; simp [h.nal]) h.cll h.fel
 ·rcases hn with hn | hn
  ·have:=(h.low hid).2; omega
  ·exact hd d id hid hn
 ·cases d with
  | na k =>
   have hk:k≠K:=fun e=>hdx (.inr (.inr (by rw [e])));refine ⟨fun hh p0 hp0=>?_,fun id hid=>?_⟩
   ·rw [zcu (by rw [← hKc]; exact hk)]; exact hh p0 ((hold' k hk).symm.trans hp0)
   ·obtain ⟨p0,hp0,e⟩:=hid; exact ⟨p0,(hold' k hk).symm.trans hp0,e⟩
  | q=>exact absurd (.inl rfl) hdx
  | N=>exact absurd (.inr (.inl rfl)) hdx
  | _=>exact ⟨fun hh=>hh,fun id hid=>hid⟩
 ·rcases hdx with rfl | rfl | rfl
  ·exact a4
  ·show SlA EN T.N m H' (nodeL (x.g.N++[y]) (L.na++[sl])) s';rw [zgo h.nal];exact a5
  ·intro p0 hp0;have hp0:(L.na++[sl])[K]? = some p0:=hp0;rw [hself] at hp0; cases hp0;rw [hKc,zci];exact hs.fr a6 fun id hid=>keep id hid
 ·rcases hdx with rfl | rfl | rfl
  ·exact .inl hid
  ·exact (a7 id hid).imp (fun h=>h) .inl
  ·obtain ⟨p0,hp0,e⟩:=hid;have hp0:(L.na++[sl])[K]? = some p0:=hp0;rw [hself] at hp0; cases hp0;exact .inr (.inr e)
 ·have gn:∀{i},GL.fp { L with sN:=s',na:=L.na++[sl] } (.na K) i→fpt sl i:=fun h=>by
   obtain ⟨p0,hp0,e⟩:=h;have hp0:(L.na++[sl])[K]? = some p0:=hp0;rw [hself] at hp0; cases hp0;exact e
  have qo:∀{i},i=L.q→fpt sl i→False:=fun e ho=>hd .q _ e ho;have co:∀{i},fpt s' i→fpt sl i→False:=fun {i} e ho=>by
   rcases a7 i e with e | e
   ·exact hd .N i e ho
   ·have:=(SlG.fp hs ho).2; omega
  have qc:∀{i},i=L.q→fpt s' i→False:=fun {i} e f=>a8 (by rw [← e]; exact f);rcases hdx with rfl | rfl | rfl <;> rcases hdx' with rfl | rfl | rfl <;> first
   | rfl
   | exact (qc h1 h2).elim | exact (qc h2 h1).elim
   | exact (qo h1 (gn h2)).elim | exact (qo h2 (gn h1)).elim
   | exact (co h1 (gn h2)).elim | exact (co h2 (gn h1)).elim
theorem zc8 (o:Nat→Nat) (n:Nat):∀(ays:List Nat) (a:Nat) (cs:List Cl),addU o n (ays++[a]) cs=(addU o n ays cs).modify (o a) fun c=>{ c with uses:=c.uses++[n] }
 | [],a,cs=>rfl
 | b :: ays,a,cs=>zc8 o n ays a _
theorem zg0 (cs:List Cl) (t:Nat) (f:Cl→Cl) (ht:t<cs.length):cs.set t (f (cs.getD t Cl.nil))=cs.modify t f:=by
 refine List.ext_getElem? fun k=>?_;rw [List.getElem?_modify];by_cases hk:t=k
 ·subst hk;rw [List.getElem?_set_self ht,List.getD_eq_getElem?_getD,List.getElem?_eq_getElem ht];simp
 ·rw [List.getElem?_set_ne hk];cases cs[k]? <;> simp [hk]
end Go.Abs.Eg
namespace Go.Abs.Eg
variable {T:Tys} {tx:Key→ByteArray} {m:Nat} {H H':AH} {L:GL} {x:Gh} {p:Nat×Sl3×Sl3×Sl3} {c:Cl}
theorem zfo {j id:Nat} (h:fpt (⟨some ⟨j,0,none⟩,1,1⟩:Sl3) id):id=j:=by
 obtain ⟨_,a,ha,rfl⟩:=h;cases ha;rfl
def ownC (p:Nat×Sl3×Sl3×Sl3) (id:Nat):Prop:=id=p.1∨fpt p.2.1 id∨fpt p.2.2.1 id∨fpt p.2.2.2 id
theorem ClA.fr {W:Nat→Prop} (h:ClA T m H p c) (hf:Fm W H H') (hw:∀id,ownC p id→¬W id):ClA T m H' p c :=
 ⟨h.blk.fr hf (hw _ (.inl rfl)),h.us.fr hf fun id hi=>hw _ (.inr (.inl hi)),h.me.fr hf fun id hi=>hw _ (.inr (.inr (.inl hi))),h.va.fr hf fun id hi=>hw _ (.inr (.inr (.inr hi))),h.du,h.dm,h.dv,h.um,h.uv,h.mv⟩
theorem ClA.lt (h:ClA T m H p c) {id:Nat} (ho:ownC p id):m≤id∧id<H.next:=by
 rcases ho with e | e | e | e
 ·rw [e]; exact ⟨h.blk.own,h.blk.low⟩
 ·exact SlG.fp h.us e
 ·exact SlG.fp h.me e
 ·exact SlG.fp h.va e
theorem zib (hm:m≤H.next) (n:Nat) (b:Bool):∃s1 H2 p H4 H5,newR T.I 1 #[.int .i64 (n:Int)] H=some (s1,H2)∧newB T.C [Sl3.v Sl3.nil,Sl3.v s1,Sl3.v Sl3.nil,.int .i64 (n:Int)] H2=some (⟨p.1,0,none⟩,H4) ∧
  (b=false∧H5=H4∨b=true∧∃s10 H11,newR T.I 1 #[.int .i64 (n:Int)] H4=some (s10,H11)∧H11.setCell m ((⟨p.1,0,none⟩:Addr).add 2) (Sl3.v s10)=some H5) ∧
  ClA T m H5 p ⟨[],[n],if b then [n] else [],n⟩∧Ext H H4∧Ext H H5∧∀id,ownC p id→H.next≤id:=by
 let B1:Blk:={ obj:=.cells (EI.enc n).toArray T.I (0,0),opn:=false,esz:=0,ro:=false }
 let H2:=H.push B1
 let s1:Sl3:=⟨some ⟨H.next,0,none⟩,1,1⟩
 have x1:Ext H H2:=Fm.push _ _ _;have g1:SlA EI T.I m H2 [n] s1:=SlA.row (E:=EI) n hm
 let cs:List Value:=[Sl3.v Sl3.nil,Sl3.v s1,Sl3.v Sl3.nil,.int .i64 (n:Int)]
 let H4:=H2.push (pubB T.C cs)
 have x2:Ext H2 H4:=Fm.push _ _ _;have hm2:m≤H2.next:=Nat.le_trans hm x1.1;have n2:H2.next=H.next+1:=AH.next_push _ _;have n4:H4.next=H.next+2:=by show (H2.push _).next=_; rw [AH.next_push,n2]
 have g2:ArrV T.C m H4 H2.next cs:=ArrV.new hm2;have f1:∀{id},fpt s1 id→id=H.next:=fun h=>zfo h;cases b with
 | false =>
  refine ⟨s1,H2,(H2.next,Sl3.nil,s1,Sl3.nil),H4,H4,rfl,rfl,.inl ⟨rfl,rfl⟩,⟨g2,SlA.nil,g1.ext x2,SlA.nil,U1,fun h=>?_,U1,fun id h=>(U1 h).elim,fun id h=>(U1 h).elim,fun id h h'=>U1 h'⟩,x1.trans x2,x1.trans x2,?_⟩
  ·have:=f1 h;have:H2.next=H.next:=this;omega
  ·rintro id (e | e | e | e)
   ·have e:id=H2.next:=e;omega
   ·exact (U1 e).elim
   ·have:=f1 e; omega
   ·exact (U1 e).elim
 | true =>
  let B3:Blk:={ obj:=.cells (EI.enc n).toArray T.I (0,0),opn:=false,esz:=0,ro:=false }
  let H11:=H4.push B3
  have x3:Ext H4 H11:=Fm.push _ _ _
  let s10:Sl3:=⟨some ⟨H4.next,0,none⟩,1,1⟩
  have hm4:m≤H4.next:=Nat.le_trans hm2 x2.1;have g3:SlA EI T.I m H11 [n] s10:=SlA.row (E:=EI) n hm4;have f2:∀{id},fpt s10 id→id=H4.next:=fun h=>zfo h;obtain ⟨H5,a1,a2,a3,a4⟩:=(g2.ext x3).put (j:=2) (by show 2<4; omega) (Sl3.v s10);have keep:∀{s:Sl3} {id},fpt s id→id≠H2.next→¬id=H2.next:=fun _ h=>h;have xx:Ext H H5:=⟨Nat.le_trans x1.1 (Nat.le_trans x2.1 (Nat.le_trans x3.1 a3.1)),fun id b hid hw hg=>a3.2 id b (by have:=x3.1; omega) (by show ¬id=H2.next; omega) (x3.2 id b (by omega) hw (x2.2 id b (by omega) hw (x1.2 id b hid hw hg)))⟩;refine ⟨s1,H2,(H2.next,Sl3.nil,s1,s10),H4,H5,rfl,rfl,.inr ⟨rfl,s10,H11,rfl,a1⟩,⟨a2,SlA.nil,((g1.ext x2).ext x3).fr a3 fun id h=>?_,g3.fr a3 fun id h=>?_,U1,fun h=>?_,fun h=>?_,fun id h=>(U1 h).elim,fun id h=>(U1 h).elim,fun id h h'=>?_⟩,x1.trans x2,xx,?_⟩
  ·have:=f1 h; omega
  ·have:=f2 h; omega
  ·have:=f1 h;have:H2.next=H.next:=this;omega
  ·have:=f2 h;have:H2.next=H4.next:=this;omega
  ·have:=f1 h; have:=f2 h'; omega
  ·rintro id (e | e | e | e)
   ·have e:id=H2.next:=e;omega
   ·exact (U1 e).elim
   ·have:=f1 e; omega
   ·have:=f2 e; omega
theorem fpO {s':Sl3} {n0:Nat} (hs:∀i,fpt s' i→fpt L.sO i∨n0≤i):∀c id,GL.fp { L with sO:=s' } c id→L.fp c id∨n0≤id:=by
 intro c id h;cases c <;> first | exact .inl h | exact hs id h
theorem fpF {s':Sl3} {n0:Nat} (hs:∀i,fpt s' i→fpt L.sF i∨n0≤i):∀c id,GL.fp { L with sF:=s' } c id→L.fp c id∨n0≤id:=by
 intro c id h;cases c <;> first | exact .inl h | exact hs id h
theorem fpS {s':Sl3} {n0:Nat} (hs:∀i,fpt s' i→fpt L.sS i∨n0≤i):∀c id,GL.fp { L with sS:=s' } c id→L.fp c id∨n0≤id:=by
 intro c id h;cases c <;> first | exact .inl h | exact hs id h
theorem z2p {α:Type} {l:List α} {a b:α} {k:Nat} (h:(l++[a])[k]? = some b):l[k]? = some b∨b=a:=by
 by_cases hk:k<l.length
 ·rw [List.getElem?_append_left hk] at h; exact .inl h
 ·rw [List.getElem?_append_right (by omega)] at h;have:=(List.getElem?_eq_some_iff.1 h).1;simp only [List.length_singleton] at this;rw [show k - l.length=0 by omega] at h;simp at h;exact .inr h.symm
theorem fpC {s':Sl3} {n0:Nat} {p:Nat×Sl3×Sl3×Sl3} (hs:∀i,fpt s' i→fpt L.sC i∨n0≤i) (hp:∀id,ownC p id→n0≤id):∀c id,GL.fp { L with sC:=s',cl:=L.cl++[p] } c id→L.fp c id∨n0≤id:=by
 intro c id h;cases c with
 | C=>exact hs id h
 | blk k =>
  obtain ⟨p0,h0,e⟩:=h;rcases z2p h0 with h0 | rfl
  ·exact .inl ⟨p0,h0,e⟩
  ·exact .inr (hp id (.inl e))
 | us k =>
  obtain ⟨p0,h0,e⟩:=h;rcases z2p h0 with h0 | rfl
  ·exact .inl ⟨p0,h0,e⟩
  ·exact .inr (hp id (.inr (.inl e)))
 | me k =>
  obtain ⟨p0,h0,e⟩:=h;rcases z2p h0 with h0 | rfl
  ·exact .inl ⟨p0,h0,e⟩
  ·exact .inr (hp id (.inr (.inr (.inl e))))
 | va k =>
  obtain ⟨p0,h0,e⟩:=h;rcases z2p h0 with h0 | rfl
  ·exact .inl ⟨p0,h0,e⟩
  ·exact .inr (hp id (.inr (.inr (.inr e))))
 | _=>exact .inl h
theorem fpN {s' sl:Sl3} {n0:Nat} (hs:∀i,fpt s' i→fpt L.sN i∨n0≤i) (hp:∀id,fpt sl id→n0≤id):∀c id,GL.fp { L with sN:=s',na:=L.na++[sl] } c id→L.fp c id∨n0≤id:=by
 intro c id h;cases c with
 | N=>exact hs id h
 | na k =>
  obtain ⟨p0,h0,e⟩:=h;rcases z2p h0 with h0 | rfl
  ·exact .inl ⟨p0,h0,e⟩
  ·exact .inr (hp id e)
 | _=>exact .inl h
end Go.Abs.Eg
namespace Go.Abs.Eg
def putP (N:List Nd) (y:Nd):Int×Int×List Nd:=match N.findIdx? (fun z=>decide (z=y)) with
 | some i=>((i:Nat),0,N)
 | none=>if 1048576≤N.length then (0,3,N) else ((N.length:Nat),0,N++[y])
def okA (N:List Nd) (a:Int):Bool:=decide (0≤a∧a<(N.length:Nat))
def addP (N:List Nd) (s:Int) (ays:List Int):Int×Int×List Nd :=
 if 64<ays.length then (0,51,N) else if ays.all (okA N) then putP N ⟨false,s,ays.map Int.toNat⟩ else (0,150,N)
def valP (N:List Nd) (s:Int):Int×Int×List Nd:=putP N ⟨true,s,[]⟩
def sayP (N:List Nd) (sd:List Sd) (s:Sd):Int×List Sd:=if okA N s.1&&okA N s.2.1 then (0,sd++[s]) else (150,sd)
def keyN (y:Nd):Key:=(y.value,y.sym,y.args)
theorem zju {y z:Nd} (h:keyN y=keyN z):y=z:=by
 cases y; cases z;simp only [keyN,Prod.mk.injEq] at h;obtain ⟨rfl,rfl,rfl⟩:=h;rfl
def IdsOK (f:Key→Option Nat) (N:List Nd):Prop:=∀y:Nd,f (keyN y)=N.findIdx? fun z=>decide (z=y)
theorem IdsOK.push {f:Key→Option Nat} {N:List Nd} (h:IdsOK f N) {y:Nd} (hn:f (keyN y)=none):IdsOK (fun k=>if k=keyN y then some N.length else f k) (N++[y]):=by
 intro z;rw [List.findIdx?_append,← h z];simp only;by_cases e:z=y
 ·subst e;rw [if_pos rfl,hn];simp
 ·rw [if_neg fun hh=>e (zju hh)];cases hf:f (keyN z) with
  | some i=>rfl
  | none=>simp [Ne.symm e]
def totN (N:List Nd):Nat:=(N.map fun y=>y.args.length).sum
theorem tot_eq (g:St):tot g=totN g.N:=by
 unfold tot totN St.n;have:∀(N:List Nd),(List.range N.length).map (fun u=>(((N[u]?).map Nd.args).getD []).length)=N.map fun y=>y.args.length:=by
  intro N;refine List.ext_getElem? fun i=>?_;rw [List.getElem?_map,List.getElem?_map];by_cases h:i<N.length
  ·rw [List.getElem?_range h,List.getElem?_eq_getElem h];simp [h]
  ·rw [List.getElem?_eq_none (by simp; omega),List.getElem?_eq_none (by omega)];rfl
 rw [← this g.N];rfl
theorem zih (N:List Nd) (y:Nd):totN (N++[y])=totN N+y.args.length:=by
 unfold totN;simp
def Mof (sd:List Sd):List (Nat×Nat):=sd.filterMap fun s=>if s.2.2.2 then none else some (s.1.toNat,s.2.1.toNat)
theorem z9l (sd:List Sd) (s:Sd):Mof (sd++[s])=Mof sd++(if s.2.2.2 then [] else [(s.1.toNat,s.2.1.toNat)]):=by
 unfold Mof;rw [List.filterMap_append]
 congr 1
 cases h:s.2.2.2 <;> simp [h]
theorem J3 {N:List Nd} {a:Int}:okA N a=true↔∃n:Nat,a=n∧n<N.length:=by
 unfold okA;rw [decide_eq_true_iff];constructor
 ·rintro ⟨h1,h2⟩; exact ⟨a.toNat,by omega,by omega⟩
 ·rintro ⟨n,rfl,h⟩; omega
theorem zkp {α:Type} {E:Enc α} {e:TypeId} {m:Nat} {H:AH} {l:List α} {s:Sl3} (h:VecA E e m H l s) {id:Nat} (hf:fpt s id):owns s id:=by
 unfold VecA at h;cases h with
 | nil hn hv=>exact absurd hf U1
 | zero a ha hn hv=>exact absurd rfl hf.1
 | opn id' off cs hm hid' hg hl ho hx=>exact ⟨rfl,hf.2⟩
theorem SlA.down {α:Type} {E:Enc α} {e:TypeId} {m m':Nat} {H:AH} {l:List α} {s:Sl3} (h:SlA E e m' H l s) (hm:m≤m'):SlA E e m H l s:=by
 cases h with
 | own h =>
  refine .own ?_;cases h with
  | nil hn hv=>exact .nil hn hv
  | zero a ha hn hv=>exact .zero a ha hn hv
  | opn id off cs hm' hid' hg hl ho hx=>exact .opn id off cs (by omega) hid' hg hl ho hx
 | full id hm' hid hg hl ho hn hN=>exact .full id (by omega) hid hg hl ho hn hN
structure AR (H:AH) (s:Sl3) (ays:List Int):Prop where
 n:s.n=ays.length
 rdv:RdV 1 H s ays.length (ays.flatMap EZ.enc)
 at_:∀(i:Nat) (hi:i<ays.length),∃q,idxA 1 s (i:Int)=some q∧rd (deI .i64) H q=some ays[i]
theorem z9f:∀{ays:List Int},(∀a∈ays,0≤a)→ays.flatMap EZ.enc=(ays.map Int.toNat).flatMap EI.enc
 | [],_=>rfl
 | a :: ays,h=>by
  rw [List.map_cons,List.flatMap_cons,List.flatMap_cons,z9f (ays:=ays) fun b hb=>h b (List.mem_cons_of_mem _ hb)];have:EZ.enc a=EI.enc a.toNat:=by
   show [Value.int .i64 a]=[Value.int .i64 ((a.toNat:Nat):Int)];rw [Int.toNat_of_nonneg (h a List.mem_cons_self)]
  rw [this]
theorem scanO {S R:Type} {f:S→Option (Lp S R)} (n:Nat) (P:Nat→Bool) (st:Nat→S) (Q:R→Prop)
  (hn:∀i,i<n→P i=false→f (st i)=some (.next (st (i+1)))) (hf:∀i,i<n→P i=true→∃r,f (st i)=some (.ret r)∧Q r) (hb:f (st n)=some (.brk (st n))) :
  ((∃i,i<n∧P i=true)∧∃r,loopO f (st 0)=some (.inr r)∧Q r)∨((∀i,i<n→P i=false)∧loopO f (st 0)=some (.inl (st n))):=by
 have loop:∀(d i:Nat),i+d=n→((∃j,i≤j∧j<n∧P j=true)∧∃r,loopO f (st i)=some (.inr r)∧Q r)∨((∀j,i≤j→j<n→P j=false)∧loopO f (st i)=some (.inl (st n))):=by
  intro d;induction d with
  | zero =>
   intro i hi;have:i=n:=by omega
   subst this;exact .inr ⟨fun j h1 h2=>by omega,O1 hb⟩
  | succ d ih =>
   intro i hi;have hil:i<n:=by omega
   cases hP:P i with
   | true =>
    obtain ⟨r,h1,h2⟩:=hf i hil hP;exact .inl ⟨⟨i,Nat.le_refl _,hil,hP⟩,r,z3m h1,h2⟩
   | false =>
    rw [K1 (hn i hil hP)];rcases ih (i+1) (by omega) with ⟨⟨j,h1,h2,h3⟩,h4⟩ | ⟨h1,h2⟩
    ·exact .inl ⟨⟨j,by omega,h2,h3⟩,h4⟩
    ·refine .inr ⟨fun j h3 h4=>?_,h2⟩;by_cases e:j=i
     ·subst e; exact hP
     ·exact h1 j (by omega) h4
 rcases loop n 0 (by omega) with ⟨⟨j,_,h2,h3⟩,h4⟩ | ⟨h1,h2⟩
 ·exact .inl ⟨⟨j,h2,h3⟩,h4⟩
 ·exact .inr ⟨fun i hi=>h1 i (Nat.zero_le _) hi,h2⟩
def isVal (N:List Nd) (v:Nat):Prop:=∃y,N[v]? = some y∧y.value=true
def ClashP (N:List Nd) (sd:List Sd) (R:Nat→Nat→Prop):Prop :=
 (∃s∈sd,s.2.2.2=true∧R s.1.toNat s.2.1.toNat)∨∃v w,v≠w∧isVal N v∧isVal N w∧R v w
def swap (s:Sd):Sd:=(s.2.1,s.1,s.2.2.1,s.2.2.2)
section
variable {g:St} {M:List (Nat×Nat)}
theorem zk5 (h:MI g M []):(∃k,k<g.cls.length∧∃v w r,(g.c k).vals=v :: w :: r∧g.o v=k)↔∃v w,v≠w∧isVal g.N v∧isVal g.N w∧g.o v=g.o w:=by
 constructor
 ·rintro ⟨k,hk,v,w,r,e,ho⟩
  have hv:v<g.n:=h.vlt k v (by rw [e]; simp);have hc:=h.vals v hv;have hd:=h.vnd v hv;rw [ho,e] at hc hd;have h1:=(hc v).1 (by simp);have h2:=(hc w).1 (by simp);refine ⟨v,w,fun e=>?_,h1.2.2,h2.2.2,?_⟩
  ·rw [e] at hd; simp at hd
  ·rw [h2.2.1,ho]
 ·rintro ⟨v,w,hne,⟨y,hy,hyv⟩,⟨z,hz,hzv⟩,ho⟩
  have hv:v<g.n:=(List.getElem?_eq_some_iff.1 hy).1;have hw:w<g.n:=(List.getElem?_eq_some_iff.1 hz).1;have m1:=(h.vals v hv v).2 ⟨hv,rfl,y,hy,hyv⟩;have m2:=(h.vals v hv w).2 ⟨hw,ho.symm,z,hz,hzv⟩;have hk:=h.cl v hv;cases e:(g.c (g.o v)).vals with
  | nil=>rw [e] at m1; cases m1
  | cons a l =>
   cases l with
   | nil =>
    rw [e] at m1 m2;simp only [List.mem_singleton] at m1 m2;exact absurd (m1.trans m2.symm) hne
   | cons b r =>
    refine ⟨_,hk,a,b,r,e,?_⟩;exact ((h.vals v hv a).1 (by rw [e]; simp)).2.1
theorem zc4 (h:MI g M []) {sd:List Sd} (hs:∀s∈sd,okA g.N s.1=true∧okA g.N s.2.1=true) :
  (∃s∈sd,s.2.2.2=true∧g.o s.1.toNat=g.o s.2.1.toNat)∨(∃k,k<g.cls.length∧∃v w r,(g.c k).vals=v :: w :: r∧g.o v=k)↔ClashP g.N sd (Cong g.N M):=by
 have io:∀{N:List Nd} {a:Int},okA N a=true→a.toNat<N.length:=fun ha=>by
  obtain ⟨n,rfl,hn⟩:=J3.1 ha;exact hn
 have iv:∀{v},isVal g.N v→v<g.n:=fun ⟨y,hy,_⟩=>(List.getElem?_eq_some_iff.1 hy).1;rw [zk5 h];unfold ClashP;refine or_congr ?_ ?_
 ·refine exists_congr fun s=>and_congr_right fun hm=>and_congr_right fun _=>?_;obtain ⟨h1,h2⟩:=hs s hm;exact h.iff (io h1) (io h2)
 ·refine exists_congr fun v=>exists_congr fun w=>and_congr_right fun _=>and_congr_right fun h1=>and_congr_right fun h2=>?_;exact h.iff (iv h1) (iv h2)
end
end Go.Abs.Eg
namespace Go.Abs.Eg
theorem scanI {S R:Type} {f:S→Option (Lp S R)} (n:Nat) (P:Nat→Bool) (st:Nat→S) (rt:Nat→R)
  (hn:∀i,i<n→P i=false→f (st i)=some (.next (st (i+1)))) (hf:∀i,i<n→P i=true→f (st i)=some (.ret (rt i))) (hb:f (st n)=some (.brk (st n))) :
  (∃i,i<n∧P i=true∧(∀j,j<i→P j=false)∧loopO f (st 0)=some (.inr (rt i)))∨((∀i,i<n→P i=false)∧loopO f (st 0)=some (.inl (st n))):=by
 have loop:∀(d i:Nat),i+d=n→(∀j,j<i→P j=false)→(∃j,j<n∧P j=true∧(∀l,l<j→P l=false)∧loopO f (st i)=some (.inr (rt j)))∨((∀j,j<n→P j=false)∧loopO f (st i)=some (.inl (st n))):=by
  intro d;induction d with
  | zero =>
   intro i hi hall;have:i=n:=by omega
   subst this;exact .inr ⟨hall,O1 hb⟩
  | succ d ih =>
   intro i hi hall;have hil:i<n:=by omega
   cases hP:P i with
   | true=>exact .inl ⟨i,hil,hP,hall,z3m (hf i hil hP)⟩
   | false =>
    rw [K1 (hn i hil hP)];refine ih (i+1) (by omega) fun j hj=>?_;by_cases e:j=i
    ·subst e; exact hP
    ·exact hall j (by omega)
 exact loop n 0 (by omega) fun j hj=>absurd hj (Nat.not_lt_zero j)
theorem zcq {N:List Nd} {y:Nd} {i:Nat} (hi:i<N.length) (hy:N[i]=y) (hf:∀j (hj:j<i),N[j]'(by omega)≠y):N.findIdx? (fun z=>decide (z=y))=some i:=by
 rw [List.findIdx?_eq_some_iff_getElem];exact ⟨hi,by simpa using hy,fun j hj=>by simpa using hf j hj⟩
theorem zdk {N:List Nd} {y:Nd} (hf:∀j (hj:j<N.length),N[j]≠y):N.findIdx? (fun z=>decide (z=y))=none:=by
 rw [List.findIdx?_eq_none_iff];intro z hz;obtain ⟨j,hj,rfl⟩:=List.mem_iff_getElem.1 hz
 simpa using hf j hj
def ER:Enc (Int×Bool×Sl3):=⟨fun x=>[.int .i64 x.1,.bool x.2.1,x.2.2.v],3,fun _=>rfl,fun _=>rfl⟩
theorem rd_ER {l:List (Int×Bool×Sl3)} {e:TypeId} {m:Nat} {H:AH} {s:Sl3} (h:SlA ER e m H l s) {i:Nat} (hi:i<l.length) {v:Int} (hv:v=i) :
  ∃q,idxA 3 s v=some q∧rd (deI .i64) H (q.add 0)=some l[i].1∧rd deB H (q.add 1)=some l[i].2.1∧rd deSl H (q.add 2)=some l[i].2.2:=by
 obtain ⟨a,h1,h2,h3,h4⟩:=h.at_ (by show 0<3; omega) hi hv;refine ⟨_,h2,?_,?_,?_⟩
 ·rw [(h4 0 _ rfl).rd]; rfl
 ·rw [(h4 1 _ rfl).rd]; rfl
 ·rw [(h4 2 _ rfl).rd]; rfl
def refL (N:List Nd) (na:List Sl3):List (Int×Bool×Sl3):=List.zipWith (fun x s=>(x.sym,x.value,s)) N na
structure RL where
 q:Nat
 sN:Sl3
 sS:Sl3
 na:List Sl3
def RL.fp (R:RL) (id:Nat):Prop:=id=R.q∨fpt R.sN id∨fpt R.sS id∨∃s∈R.na,fpt s id
structure RR (tq tN tS:TypeId) (m:Nat) (H:AH) (R:RL) (N:List Nd) (sd:List Sd):Prop where
 q:ArrV tq m H R.q [R.sN.v,R.sS.v,Sl3.v Sl3.nil]
 hN:SlA ER tN m H (refL N R.na) R.sN
 hS:SlA ES tS m H sd R.sS
 nal:R.na.length=N.length
 na:∀(i:Nat) (y:Nd) (s:Sl3),N[i]? = some y→R.na[i]? = some s→SlA EI 3 m H y.args s
 dN:¬fpt R.sN R.q
 dS:¬fpt R.sS R.q
 dNS:∀id,fpt R.sN id→¬fpt R.sS id
 dA:∀s∈R.na,∀id,fpt s id→id≠R.q∧¬fpt R.sN id∧¬fpt R.sS id
variable {tq tN tS:TypeId} {m:Nat} {H H':AH} {R:RL} {N:List Nd} {sd:List Sd}
theorem RR.low (h:RR tq tN tS m H R N sd) {id:Nat} (hf:R.fp id):m≤id∧id<H.next:=by
 rcases hf with e | e | e | ⟨s,hs,e⟩
 ·rw [e]; exact ⟨h.q.own,h.q.low⟩
 ·exact SlG.fp h.hN e
 ·exact SlG.fp h.hS e
 ·obtain ⟨i,hi,rfl⟩:=List.mem_iff_getElem.1 hs;exact SlG.fp (h.na i _ _ (List.getElem?_eq_getElem (by rw [← h.nal]; exact hi)) (List.getElem?_eq_getElem hi)) e
theorem RR.fr {W:Nat→Prop} (h:RR tq tN tS m H R N sd) (hf:Fm W H H') (hw:∀id,R.fp id→¬W id):RR tq tN tS m H' R N sd :=
 ⟨h.q.fr hf (hw _ (.inl rfl)),h.hN.fr hf fun id hi=>hw id (.inr (.inl hi)),h.hS.fr hf fun id hi=>hw id (.inr (.inr (.inl hi))),h.nal,fun i y s h1 h2=>(h.na i y s h1 h2).fr hf fun id hi=>hw id (.inr (.inr (.inr ⟨s,List.mem_of_getElem? h2,hi⟩))),h.dN,h.dS,h.dNS,h.dA⟩
theorem RR.ext (h:RR tq tN tS m H R N sd) (hf:Ext H H'):RR tq tN tS m H' R N sd:=h.fr hf fun _ _ h=>h
theorem i7 (h:R.na.length=N.length):(refL N R.na).length=N.length:=by
 unfold refL;rw [List.length_zipWith,h]; exact Nat.min_self _
theorem zbo {na:List Sl3} (hl:na.length=N.length) (y:Nd) (s:Sl3):refL (N++[y]) (na++[s])=refL N na++[(y.sym,y.value,s)]:=by
 unfold refL;rw [List.zipWith_append hl.symm];rfl
theorem RR.node (h:RR tq tN tS m H R N sd) {i:Nat} (hi:i<N.length) {v:Int} (hv:v=i) :
  ∃q s,idxA 3 R.sN v=some q∧rd (deI .i64) H (q.add 0)=some N[i].sym∧rd deB H (q.add 1)=some N[i].value∧rd deSl H (q.add 2)=some s∧SlA EI 3 m H N[i].args s∧R.na[i]? = some s:=by
 have hi2:i<R.na.length:=by rw [h.nal]; exact hi
 obtain ⟨q,h1,h2,h3,h4⟩:=rd_ER h.hN (i:=i) (by rw [i7 h.nal]; exact hi) hv;have he:(refL N R.na)[i]'(by rw [i7 h.nal]; exact hi)=(N[i].sym,N[i].value,R.na[i]):=by
  simp [refL]
 rw [he] at h2 h3 h4;exact ⟨q,R.na[i],h1,h2,h3,h4,h.na i _ _ (List.getElem?_eq_getElem hi) (List.getElem?_eq_getElem hi2),List.getElem?_eq_getElem hi2⟩
theorem RR.pushN (h:RR tq tN tS m H R N sd) (y:Nd) {sl:Sl3} (hs:SlA EI 3 m H y.args sl) (hd:∀id,R.fp id→¬fpt sl id) (hl:N.length≤1048576) (hm:m≤H.next) :
  ∃z H0 s' H1 H',newR tN 1 #[.int .i64 y.sym,.bool y.value,Sl3.v sl] H=some (z,H0)∧appS m tN 3 40 H0 R.sN z=some (s',H1)∧H1.setCell m ((⟨R.q,0,none⟩:Addr).add 0) (Sl3.v s')=some H'∧RR tq tN tS m H' { R with sN:=s',na:=R.na++[sl] } (N++[y]) sd ∧
   Fm (fun i=>i=R.q∨fpt R.sN i) H H'∧(∀i,fpt s' i→fpt R.sN i∨H.next≤i):=by
 have hll:=i7 (R:=R) h.nal;obtain ⟨z,H0,s',H1,H',a1,_,_,a2,a3,a4,a5,a6,a7,a8⟩:=C7 (E:=ER) (bytes:=40) (j:=0) h.q rfl h.hN h.dN (y.sym,y.value,sl) (by omega) (by omega) hm;refine ⟨z,H0,s',H1,H',a1,a2,a3,⟨a4,?_,?_,by simp [h.nal],fun i y' s h1 h2=>?_,a8,h.dS,fun id h1 h2=>?_,fun s hs' id hi=>?_⟩,a6,a7⟩
 ·show SlA ER tN m H' (refL (N++[y]) (R.na++[sl])) s';rw [zbo h.nal];exact a5
 ·exact h.hS.fr a6 fun id hi hw=>by
   rcases hw with e | e
   ·exact h.dS (e▸hi)
   ·exact h.dNS id e hi
 ·have h2:(R.na++[sl])[i]? = some s:=h2;by_cases hi:i<N.length
  ·rw [List.getElem?_append_left hi] at h1;rw [List.getElem?_append_left (by rw [h.nal]; exact hi)] at h2;exact (h.na i y' s h1 h2).fr a6 fun id hid hw=>by
    obtain ⟨e1,e2,e3⟩:=h.dA s (List.mem_of_getElem? h2) id hid;rcases hw with e | e
    ·exact e1 e
    ·exact e2 e
  ·have hlt:=(List.getElem?_eq_some_iff.1 h1).1;simp at hlt;have:i=N.length:=by omega
   subst this;rw [List.getElem?_append_right (Nat.le_refl _)] at h1;rw [List.getElem?_append_right (by rw [h.nal]; exact Nat.le_refl _),h.nal] at h2;simp at h1 h2;subst h1; subst h2;exact hs.fr a6 fun id hid hw=>by
    rcases hw with e | e
    ·exact hd id (.inl e) hid
    ·exact hd id (.inr (.inl e)) hid
 ·rcases a7 id h1 with e | e
  ·exact h.dNS id e h2
  ·have:=(SlG.fp h.hS h2).2; omega
 ·rcases List.mem_append.1 hs' with h1 | h1
  ·obtain ⟨e1,e2,e3⟩:=h.dA s h1 id hi;refine ⟨e1,fun h2=>?_,e3⟩;rcases a7 id h2 with e | e
   ·exact e2 e
   ·have:=(h.low (id:=id) (.inr (.inr (.inr ⟨s,h1,hi⟩)))).2; omega
  ·rw [List.mem_singleton] at h1;subst h1;refine ⟨fun e=>hd id (.inl e) hi,fun h2=>?_,fun h2=>hd id (.inr (.inr (.inl h2))) hi⟩;rcases a7 id h2 with e | e
   ·exact hd id (.inr (.inl e)) hi
   ·have:=(SlG.fp hs hi).2; omega
theorem RR.pushS (h:RR tq tN tS m H R N sd) (s:Sd) (hl:sd.length≤1048576) (hm:m≤H.next) :
  ∃z H0 s' H1 H',newR tS 1 #[.int .i64 s.1,.int .i64 s.2.1,.int .i64 s.2.2.1,.bool s.2.2.2] H=some (z,H0)∧appS m tS 4 32 H0 R.sS z=some (s',H1)∧H1.setCell m ((⟨R.q,0,none⟩:Addr).add 1) (Sl3.v s')=some H'∧RR tq tN tS m H' { R with sS:=s' } N (sd++[s]) ∧
   Fm (fun i=>i=R.q∨fpt R.sS i) H H'∧(∀i,fpt s' i→fpt R.sS i∨H.next≤i):=by
 obtain ⟨z,H0,s',H1,H',a1,_,_,a2,a3,a4,a5,a6,a7,a8⟩:=C7 (E:=ES) (bytes:=32) (j:=1) h.q rfl h.hS h.dS s (by omega) (by omega) hm;refine ⟨z,H0,s',H1,H',a1,a2,a3,⟨a4,?_,a5,h.nal,fun i y s0 h1 h2=>?_,h.dN,a8,fun id h1 h2=>?_,fun s0 hs' id hi=>?_⟩,a6,a7⟩
 ·exact h.hN.fr a6 fun id hi hw=>by
   rcases hw with e | e
   ·exact h.dN (e▸hi)
   ·exact h.dNS id hi e
 ·exact (h.na i y s0 h1 h2).fr a6 fun id hid hw=>by
   obtain ⟨e1,e2,e3⟩:=h.dA s0 (List.mem_of_getElem? h2) id hid;rcases hw with e | e
   ·exact e1 e
   ·exact e3 e
 ·rcases a7 id h2 with e | e
  ·exact h.dNS id h1 e
  ·have:=(SlG.fp h.hN h1).2; omega
 ·obtain ⟨e1,e2,e3⟩:=h.dA s0 hs' id hi;refine ⟨e1,e2,fun h2=>?_⟩;rcases a7 id h2 with e | e
  ·exact e3 e
  ·have:=(h.low (id:=id) (.inr (.inr (.inr ⟨s0,hs',hi⟩)))).2; omega
theorem RR.new (hm:m≤H.next):RR tq tN tS m (H.push (pubB tq [Sl3.v Sl3.nil,Sl3.v Sl3.nil,Sl3.v Sl3.nil])) ⟨H.next,Sl3.nil,Sl3.nil,[]⟩ [] [] :=
 ⟨ArrV.new hm,SlA.nil,SlA.nil,rfl,fun i y s h=>(by cases h),U1,U1,fun id h=>(U1 h).elim,fun s h=>(by cases h)⟩
end Go.Abs.Eg
namespace Go.Abs.Eg
structure NOK (N:List Nd):Prop where
 nd:N.Nodup
 va:∀y∈N,y.value=true→y.args=[]
theorem NOK.nil:NOK []:=⟨by simp,fun y h=>by cases h⟩
theorem NOK.put {N:List Nd} (h:NOK N) {y:Nd} (hy:y.value=true→y.args=[]):NOK (putP N y).2.2:=by
 unfold putP;cases hf:N.findIdx? fun z=>decide (z=y) with
 | some i=>exact h
 | none =>
  simp only;split
  ·exact h
  ·have hn:y ∉ N:=fun hm=>by
    have:=(List.findIdx?_eq_none_iff.1 hf) y hm;simp at this
   refine ⟨List.nodup_append.2 ⟨h.nd,by simp,fun a ha b hb e=>?_⟩,fun z hz=>?_⟩
   ·rw [List.mem_singleton] at hb;subst hb; subst e;exact hn ha
   ·rcases List.mem_append.1 hz with hz | hz
    ·exact h.va z hz
    ·rw [List.mem_singleton] at hz;subst hz;exact hy
theorem NOK.val {N:List Nd} (h:NOK N) (s:Int):NOK (valP N s).2.2:=h.put fun _=>rfl
theorem NOK.add {N:List Nd} (h:NOK N) (s:Int) (ays:List Int):NOK (addP N s ays).2.2:=by
 unfold addP;split
 ·exact h
 ·split
  ·exact h.put fun hv=>by cases hv
  ·exact h
theorem zf5 (N:List Nd) (y:Nd):totN (putP N y).2.2≤totN N+y.args.length:=by
 unfold putP;split
 ·show totN N≤_; omega
 ·split
  ·show totN N≤_; omega
  ·show totN (N++[y])≤_;rw [zih]; exact Nat.le_refl _
theorem zkd (N:List Nd) (s:Int):totN (valP N s).2.2≤totN N:=by
 have:=zf5 N ⟨true,s,[]⟩
 simpa [valP] using this
theorem zl9 (N:List Nd) (s:Int) (ays:List Int):totN (addP N s ays).2.2≤totN N+ays.length:=by
 unfold addP;split
 ·show totN N≤_; omega
 ·split
  ·have:=zf5 N ⟨false,s,ays.map Int.toNat⟩
   simpa using this
  ·show totN N≤_; omega
theorem zfi (N:List Nd) (sd:List Sd) (s:Sd):(sayP N sd s).2.length≤sd.length+1:=by
 unfold sayP;split <;> simp
structure OpD where
 kd:Int
 sy:Int
 aa:List Int
 a:Int
 b:Int
 tg:Int
structure OpAt (H:AH) (p:Addr) (o:OpD):Prop where
 kd:Cel H (p.add 0) (.int .i64 o.kd)
 sy:Cel H (p.add 1) (.int .i64 o.sy)
 aa:∃s:Sl3,Cel H (p.add 2) s.v∧∀H',Ext H H'→AR H' s o.aa
 a:Cel H (p.add 3) (.int .i64 o.a)
 b:Cel H (p.add 4) (.int .i64 o.b)
 tg:Cel H (p.add 5) (.int .i64 o.tg)
 ok:-9223372036854775808≤o.sy∧o.sy<9223372036854775808
theorem OpAt.ext {H H':AH} {p:Addr} {o:OpD} (h:OpAt H p o) (hf:Ext H H'):OpAt H' p o :=
 ⟨h.kd.ext hf,h.sy.ext hf,let ⟨s,h1,h2⟩:=h.aa; ⟨s,h1.ext hf,fun H2 hx=>h2 H2 (hf.trans hx)⟩,h.a.ext hf,h.b.ext hf,h.tg.ext hf,h.ok⟩
structure OpsR (H:AH) (s:Sl3) (ops:List OpD):Prop where
 n:s.n=ops.length
 at_:∀(i:Nat) (hi:i<ops.length),∃p,idxA 6 s (i:Int)=some p∧OpAt H p ops[i]
def bulkO (ops:List OpD):Nat:=ops.length+(ops.map fun o=>o.aa.length).sum
theorem zhn (ops:List OpD) {i:Nat} (hi:i<ops.length):((ops.take i).map fun o=>o.aa.length).sum+ops[i].aa.length=((ops.take (i+1)).map fun o=>o.aa.length).sum∧((ops.take (i+1)).map fun o=>o.aa.length).sum≤(ops.map fun o=>o.aa.length).sum:=by
 constructor
 ·rw [List.take_succ_eq_append_getElem hi,List.map_append,List.sum_append];simp
 ·rw [List.map_take];generalize ops.map (fun o=>o.aa.length)=l;have:l.sum=(l.take (i+1)).sum+(l.drop (i+1)).sum:=by rw [← List.sum_append,List.take_append_drop]
  omega
end Go.Abs.Eg
namespace Go.Abs
variable {P:Program} {ne:NE} {m n:Nat}
theorem z7m {α β:Type} {R:α→β→Prop} {l:List α} {l':List β} (h:F2 R l l') {b:β} (hb:b∈l'):∃a,a∈l∧R a b:=by
 induction h with
 | nil=>cases hb
 | cons hab _ ih =>
  rcases List.mem_cons.1 hb with e | e
  ·subst e; exact ⟨_,List.mem_cons_self,hab⟩
  ·obtain ⟨a,h1,h2⟩:=ih e;exact ⟨a,List.mem_cons_of_mem _ h1,h2⟩
theorem run_choose {w:World} {k:Nat} (hk:0<k):∃c w',c<k∧(choose (.mapNext k)).run P w=.ok c w'∧(w'=w∨w'={ w with drawn:=w.drawn+1 }):=by
 unfold Go.choose;simp only [Sem.run];by_cases h:(Question.mapNext k).forced=true
 ·rw [if_pos h];exact ⟨0,w,hk,rfl,.inl rfl⟩
 ·rw [if_neg h];exact ⟨_,_,Nat.mod_lt _ hk,rfl,.inr rfl⟩
theorem zjk {φ:Inj} {H:AH} {w:World} (hi:Inv φ H w) {b r since last clock:Nat} {seen:Array Nat} {B R:Blk} {es:Array MapEntry} (hb:H.get b=some B) (hB:B.obj=.mapIter (some r) since seen last) (hro:B.ro=false) (hm:m≤b)
  (hr:H.get r=some R) (hR:R.obj=.map es clock) (hok:(!seen.isEmpty&&!es.isEmpty&&es.all fun e=>decide (e.born≥last))=false) (hold:∀e∈es,e.born<since) {x':Value} (hx:VR φ (.pointer (some ⟨b,0,none⟩)) x') (t:TypeId) :
  ∃φ' v v' w' H',(Instr.next x' false t).run P w=.ok v' w'∧VR φ' v v'∧Inv φ' H' w'∧Step m φ H w φ' H' w' ∧
   (((∀e∈es,e.born∈seen)∧v=.tuple #[.bool false]∧H'=H)∨∃e∈es,e.born ∉ seen∧v=.tuple #[.bool true,e.key,e.val]∧H'=H.put b { B with obj:=.mapIter (some r) since (seen.push e.born) clock }):=by
 obtain ⟨l,o',h1,h2,h3,h4⟩:=hi.ref hb (by rw [hB]; rfl);obtain ⟨lr,u',g1,g2,g3,g4⟩:=hi.ref hr (by rw [hR]; rfl);rw [hB] at h3;rw [hR] at g3;cases hx with
 | ptr _ _ l1 hl1 =>
 rw [h1] at hl1; cases hl1;cases o' with
 | mapIter mp' since' seen' last' =>
  obtain ⟨hmp,rfl,rfl,rfl⟩:=h3;cases hmp with
  | map _ lr' hlr =>
  rw [g1] at hlr; cases hlr;cases u' with
  | map es' clock' =>
   obtain ⟨rfl,hes⟩:=g3;have hf:=MR_iff.1 hes;have e1:es.isEmpty=es'.isEmpty:=by simpa using hf.isEmpty
   have e2:(es.all fun e=>decide (e.born≥last))=(es'.all fun e=>decide (e.born≥last)):=by
    have:=F2.all (fun e:MapEntry=>decide (e.born≥last)) (fun e:MapEntry=>decide (e.born≥last)) (fun x y hxy=>by rw [hxy.2.2.1]) hf
    simpa using this
   have f1:=F2.filter (fun e:MapEntry=>!seen.contains e.born) (fun e:MapEntry=>!seen.contains e.born) (fun x y hxy=>by rw [hxy.2.2.1]) hf;have hnew:((es'.filter fun e=>!seen.contains e.born).filter fun e=>decide (e.born≥since))=#[]:=by
    apply Array.ext';rw [Array.toList_filter,List.toList_toArray,List.filter_eq_nil_iff];intro e he;rw [Array.toList_filter] at he;obtain ⟨e0,h5,h6⟩:=z7m hf ((List.mem_filter.1 he).1);have:=hold e0 (by simpa using h5);rw [← h6.2.2.1]
    simpa using this
   have hleft:((es'.filter fun e=>!seen.contains e.born).filter fun e=>decide (e.born<since))=(es'.filter fun e=>!seen.contains e.born):=by
    apply Array.ext';rw [Array.toList_filter,List.filter_eq_self];intro e he;rw [Array.toList_filter] at he;obtain ⟨e0,h5,h6⟩:=z7m hf ((List.mem_filter.1 he).1);have:=hold e0 (by simpa using h5);rw [← h6.2.2.1]
    simpa using this
   unfold Instr.next;simp only [h4,Nat.zero_add,Go.getObj,Sem.run_bind,Sem.run,h2,Result.andThen_ok,g2];rw [← e1,← e2,hok];simp only [Bool.false_eq_true,if_false,hnew,hleft,Array.append_empty];have hmem:∀e'∈(es'.filter fun e=>!seen.contains e.born).toList,∃e∈es,ER φ e e'∧e.born ∉ seen:=by
    intro e' he';rw [Array.toList_filter] at he';obtain ⟨h5,h6⟩:=List.mem_filter.1 he';obtain ⟨e,h7,h8⟩:=z7m hf h5;refine ⟨e,by simpa using h7,h8,?_⟩;rw [h8.2.2.1]
    simpa using h6
   have hemp:(es'.filter fun e=>!seen.contains e.born).isEmpty=true→∀e∈es,e.born∈seen:=by
    intro he e hm;have h5:(es'.filter fun e=>!seen.contains e.born).toList=[]:=by simpa using he
    rw [Array.toList_filter] at h5;have h6:=f1.length;rw [h5] at h6;have h7:List.filter (fun e:MapEntry=>!seen.contains e.born) es.toList=[]:=List.length_eq_zero_iff.1 h6;rw [List.filter_eq_nil_iff] at h7;have:=h7 e (by simpa using hm)
    simpa using this
   generalize (es'.filter fun e=>!seen.contains e.born)=left at hmem hemp;cases he:left.isEmpty with
   | true =>
    have hl0:left=#[]:=by simpa using he
    subst hl0;obtain ⟨c,w1,hc,hcr,hw⟩:=run_choose (P:=P) (w:=w) (k:=1) (by omega);obtain rfl:c=0:=by omega
    have hsz:((if true=true then #[none] else #[])++Array.map some (#[]:Array MapEntry):Array (Option MapEntry))=#[none]:=by simp
    rw [hsz];refine ⟨φ,_,_,w1,H,?_,z7i (.bool false),?_,?_,.inl ⟨hemp he,rfl,rfl⟩⟩
    ·show (Sem.run P (choose (.mapNext 1) >>= _) w)=_;rw [Sem.run_bind,hcr];rfl
    ·rcases hw with rfl | rfl
     ·exact hi
     ·exact hi.drew
    ·rcases hw with rfl | rfl
     ·exact Step.refl _ _ _ _
     ·exact Step.drew H w
   | false =>
    have hsz:((if false=true then #[none] else #[])++Array.map some left:Array (Option MapEntry))=Array.map some left:=by simp
    rw [hsz];have hpos:0<(Array.map some left).size:=by
     rw [Array.size_map];have:left≠#[]:=fun e=>by rw [e] at he; simp at he
     exact Nat.pos_of_ne_zero fun e=>this (Array.eq_empty_of_size_eq_zero e)
    obtain ⟨c,w1,hc,hcr,hw⟩:=run_choose (P:=P) (w:=w) hpos;have hcl:c<left.size:=by simpa using hc
    obtain ⟨e,hem,her,hns⟩:=hmem left[c] (by simp);have hi1:Inv φ H w1:=by
     rcases hw with rfl | rfl
     ·exact hi
     ·exact hi.drew
    have hs1:Step m φ H w φ H w1:=by
     rcases hw with rfl | rfl
     ·exact Step.refl _ _ _ _
     ·exact Step.drew H w
    obtain ⟨φ',y,w',q1,q2,q3,_⟩:=z2h (P:=P) (m:=m) h1 (o:=.mapIter (some r) since (seen.push e.born) clock) (o':=.mapIter (some lr.blk) since (seen.push e.born) clock) ⟨.map r lr g1,rfl,rfl,rfl⟩ H w1 () (H.put b { B with obj:=.mapIter (some r) since (seen.push e.born) clock }) (by
      simp only [Go.setObj,arun,hb];rw [hB,hro,show Nat.ble m b=true by simp [hm]];rfl) hi1
    refine ⟨φ',.tuple #[.bool true,e.key,e.val],.tuple #[.bool true,left[c].key,left[c].val],w',_,?_,?_,q2,hs1.trans hi q3,.inr ⟨e,hem,hns,rfl,rfl⟩⟩
    ·rw [Sem.run_bind,hcr];simp only [Result.andThen_ok,Array.getElem?_map,Array.getElem?_eq_getElem hcl,Option.map_some];rw [← her.2.2.1,Sem.run_bind,q1];rfl
    ·rw [← her.1];exact z7b (.bool true) (N2 _ her.2.2.2) (her.2.1.mono q3.ext)
  | _=>exact g3.elim
 | _=>exact h3.elim
section
variable {E:Ent} {kn:KN} {ls:Lcs} {H:AH} {Q:Exit→Act→World→Prop}
theorem RS.nx {ops:Array Oper} {k:Nat} (d x:Nat) {b r since last clock:Nat} {seen:Array Nat} {B R:Blk} {es:Array MapEntry} (hb:H.get b=some B) (hB:B.obj=.mapIter (some r) since seen last) (hro:B.ro=false) (hm:m≤b)
  (hr:H.get r=some R) (hR:R.obj=.map es clock) (hok:(!seen.isEmpty&&!es.isEmpty&&es.all fun e=>decide (e.born≥last))=false) (hold:∀e∈es,e.born<since)
  (h0:(∀e∈es,e.born∈seen)→RS P ne m E n ops (k+1) (putV kn (some d) (.val (.tuple #[.bool false]))) ls H Q)
  (h1:∀e∈es,e.born ∉ seen→RS P ne m E n ops (k+1) (putV kn (some d) (.val (.tuple #[.bool true,e.key,e.val]))) ls (H.put b { B with obj:=.mapIter (some r) since (seen.push e.born) clock }) Q)
  (hop:(opAt ops k).op=.next (.tmp x) false:=by kernel_rfl) (hg:(opAt ops k).guard=none:=by kernel_rfl) (hd:(opAt ops k).dst=some d:=by kernel_rfl) (hdn:Nat.blt d n=true:=by kernel_rfl) (ho:ops[k]? = some (opAt ops k):=by kernel_rfl)
  (hx:lkV kn x=some (.val (.pointer (some ⟨b,0,none⟩))):=by kernel_rfl):RS P ne m E n ops k kn ls H Q:=by
 intro a w hs;obtain ⟨φ,cs,hs⟩:=hs;rw [zj ho,wpOps_cons];unfold wpOp;rw [ho];have hw:wantV ops kn (opAt ops k)=some true:=by unfold wantV; rw [hg]
 simp only [V4 hs hw,if_true];left;have hxv:VR φ (.pointer (some ⟨b,0,none⟩)) (a.eval (.tmp x)):=hs.slot x _ hx;obtain ⟨φ',v,v',w',H',g1,g2,g3,g4,g5⟩:=zjk (P:=P) hs.inv hb hB hro hm hr hR hok hold hxv (opAt ops k).type;have hex:(execOp a.eval (opAt ops k)).run P w=.ok (.value v') w':=by
  generalize opAt ops k=o at hop g1;obtain ⟨dst,op,ty,pos,after,guard⟩:=o;simp only at hop;subst hop;show (Instr.next (a.eval (.tmp x)) false ty >>= fun v=>(pure (Next.value v):Sem Next)).run P w=_;rw [Sem.run_bind,g1];rfl
 refine Q5 (φ:=φ) (H:=H) (H':=H') (m:=m) (v:=v) ⟨φ',w',.value v',hex,g3,g4,.inl ⟨v',rfl,g2⟩⟩ fun φ2 v2 w2 k1 k2 k3=>?_;rw [hd];have hs2:∀{vv},v=vv→SS P ne m E n (putV kn (some d) (.val vv)) ls H' (a.put (some d) v2) w2:=fun e=>by
  subst e;exact ⟨φ2,cs,(hs.heap k2 k3).put (by exact hdn) k1⟩
 rcases g5 with ⟨j1,j2,rfl⟩ | ⟨e,j1,j2,j3,rfl⟩
 ·exact h0 j1 _ _ (hs2 j2)
 ·exact h1 e j1 j2 _ _ (hs2 j3)
def iterB (r clock:Nat):Blk:={ obj:=.mapIter (some r) clock #[] clock,opn:=false,esz:=0,ro:=false }
theorem zij {o:Oper} {ρ:Operand→Value} {t k e:TypeId} {x:Operand} {r clock:Nat} {R:Blk} {es:Array MapEntry} (hop:o.op=.range t x) (hu:P.underlying t=some (.map k e)) (hx:ρ x=.map (some r)) (hr:H.get r=some R) (hR:R.obj=.map es clock) {ih:Ex} :
  runOp P ne ih m o ρ H=some (.pointer (some ⟨H.next,0,none⟩),H.push (iterB r clock)):=by
 obtain ⟨dst,op,ty,pos,after,guard⟩:=o;simp only at hop;subst hop;have h1:arun P m (Instr.range t (ρ x)) H=some (.pointer (some ⟨H.next,0,none⟩),H.push (iterB r clock)):=by
  unfold Instr.range;rw [hx];simp only [Go.underlying,Go.program,Bind.bind,Sem.bind,arun,hu,Go.getObj,hr,hR,Go.newObj,isRef,cond_true,Pure.pure,blkOf];rfl
 have h2:arun P m (execOp ρ { dst:=dst,op:=.range t x,type:=ty,pos:=pos,after:=after,guard:=guard }) H=some (.value (.pointer (some ⟨H.next,0,none⟩)),H.push (iterB r clock)):=by
  show arun P m ((Instr.range t (ρ x)).bind fun v=>.pure (Next.value v)) H=_;rw [I2,h1];rfl
 show asNext (arun P m (execOp ρ { dst:=dst,op:=.range t x,type:=ty,pos:=pos,after:=after,guard:=guard }) H)=_;rw [h2];rfl
theorem zix {o:Oper} {ρ:Operand→Value} {x:Operand} {b r since clock:Nat} {seen:Array Nat} {B R:Blk} {es:Array MapEntry} {stamp:Nat} {en:MapEntry} (hop:o.op=.entry x) (hx:ρ x=.pointer (some ⟨b,0,none⟩)) (hb:H.get b=some B) (hB:B.obj=.mapIter (some r) since seen clock)
  (hr:H.get r=some R) (hR:R.obj=.map es clock) (hs:seen.back? = some stamp) (he:es.find? (fun e=>e.born == stamp)=some en) {ih:Ex} :
  runOp P ne ih m o ρ H=some (.tuple #[en.key,en.val],H):=by
 obtain ⟨dst,op,ty,pos,after,guard⟩:=o;simp only at hop;subst hop;have h1:arun P m (Instr.entry (ρ x)) H=some (.tuple #[en.key,en.val],H):=by
  unfold Instr.entry;rw [hx];simp only [Bind.bind,Sem.bind,Go.getObj,arun,hb,hB,isRef,cond_true,Pure.pure,hs,hr,hR,bne_self_eq_false,Bool.false_eq_true,if_false,he]
 have h2:arun P m (execOp ρ { dst:=dst,op:=.entry x,type:=ty,pos:=pos,after:=after,guard:=guard }) H=some (.value (.tuple #[en.key,en.val]),H):=by
  show arun P m ((Instr.entry (ρ x)).bind fun v=>.pure (Next.value v)) H=_;rw [I2,h1];rfl
 show asNext (arun P m (execOp ρ { dst:=dst,op:=.entry x,type:=ty,pos:=pos,after:=after,guard:=guard }) H)=_;rw [h2];rfl
theorem SS.forget {a:Act} {w:World} {H':AH} (hs:SS P ne m E n kn ls H a w) (hn:H'.next=H.next) (hg:∀id b,H'.get id=some b→H.get id=some b):SS P ne m E n kn ls H' a w:=by
 obtain ⟨φ,cs,h⟩:=hs;refine ⟨φ,cs,h.glob,⟨fun id l hl=>by rw [hn]; exact h.inv.dom id l hl,fun id b hb=>h.inv.obj id b (hg id b hb),fun id id' b b' l l' hb hb'=>h.inv.sep id id' b b' l l' (hg id b hb) (hg id' b' hb')⟩,
  ⟨by rw [hn]; exact h.step.le,h.step.ext,h.step.new,fun id hi=>h.step.alv id ?_,h.step.size,h.step.keep,h.step.os,h.step.tape,h.step.output⟩,h.len,h.loc,h.inj,h.low,h.slot,h.size,h.defers,h.sane,h.inv0⟩
 cases hq:H'.get id with
 | none=>rw [hq] at hi; cases hi
 | some b=>rw [hg id b hq]; rfl
def relS {S:Type} (P:Program) (ne:NE) (m:Nat) (E:Ent) (n:Nat) (knOf:S→KN) (lsOf:S→Lcs) (hOf:S→AH) (i:Nat) (I F:S→Prop) (μ:S→Nat) (s:S):Exit→Act→World→Prop
 | .normal,a,w=>∃s',I s'∧μ s'<μ s∧SS P ne m E n (knOf s') (lsOf s') (hOf s') a w
 | .exit j,a,w=>∃s',F s'∧j=i∧SS P ne m E n (knOf s') (lsOf s') (hOf s') a w
 | _,_,_=>False
theorem WS.loopRel {S:Type} {c:Code} (knOf:S→KN) (lsOf:S→Lcs) (hOf:S→AH) (i:Nat) (I F:S→Prop) (μ:S→Nat)
  (hbody:∀s,I s→WS P ne m E n (cfst c) (knOf s) (lsOf s) (hOf s) (relS P ne m E n knOf lsOf hOf i I F μ s)) {s:S} (hI:I s)
  (h1:∀s',F s'→∀a w,SS P ne m E n (knOf s') (lsOf s') (hOf s') a w→Q (.exit i) a w) (hc:isLoop c=true:=by kernel_rfl):WS P ne m E n c (knOf s) (lsOf s) (hOf s) Q:=by
 cases c with
 | loop body =>
  have key:∀(k:Nat) (s:S),μ s<k→I s→∀a w,SS P ne m E n (knOf s) (lsOf s) (hOf s) a w→Code.rounds P body Q k a w:=by
   intro k;induction k with
   | zero=>intro s hk; exact absurd hk (Nat.not_lt_zero _)
   | succ k ih =>
    intro s hk hI a w hs;rw [rounds_succ];refine wp_mono (hbody s hI a w hs) fun e a' w' hq=>?_;cases e with
    | normal =>
     obtain ⟨s',hI',hlt,hs'⟩:=hq;exact ih s' (by omega) hI' a' w' hs'
    | exit j =>
     obtain ⟨s',hF,rfl,hs'⟩:=hq;exact h1 s' hF a' w' hs'
    | _=>exact hq.elim
  exact fun a w hs=>wp_loop_rounds (μ s+1) (key (μ s+1) s (by omega) hI a w hs)
 | _=>cases hc
end
end Go.Abs
namespace Go.Abs
open Go.Shelf Go.Proofs
open Go.Sort (putRow putCells onCells Holds)
variable {P:Program} {ne:NE} {m n:Nat}
def zcells (zs:List Int):Array Value:=(zs.map fun z=>Value.int .i64 z).toArray
def sortI (zs:List Int):List Int:=zs.mergeSort fun x y=>decide (x≤y)
theorem z1c (zs:List Int):(sortI zs).length=zs.length:=List.length_mergeSort zs
theorem zi (zs:List Int) (i:Nat):(zcells zs)[i]? = (zs[i]?).map fun z=>Value.int .i64 z:=by
 unfold zcells;rw [List.getElem?_toArray,List.getElem?_map]
theorem Inv.grow {φ:Inj} {H:AH} {w:World} (h:Inv φ H w) (os:Array Obj):Inv φ H (Go.Sort.grow w os):=by
 have hsz:w.heap.size≤(Go.Sort.grow w os).heap.size:=by show w.heap.size≤(w.heap++os).size; simp
 refine ⟨fun id l hl=>⟨(h.dom id l hl).1,Nat.lt_of_lt_of_le (h.dom id l hl).2 hsz⟩,fun id b hb=>?_,h.sep⟩;obtain ⟨l,h1,h2⟩:=h.obj id b hb;refine ⟨l,h1,h2.same ?_⟩;have hlt:=(h.dom id l h1).2;show (w.heap++os)[l.blk]? = w.heap[l.blk]?;rw [Array.getElem?_append_left hlt]
theorem Step.grow {φ:Inj} {H:AH} (w:World) (os:Array Obj):Step m φ H w φ H (Go.Sort.grow w os) :=
 ⟨Nat.le_refl _,Inj.le_refl _,fun id l h h'=>(by rw [h] at h'; cases h'),fun _ h=>.inl h,by show w.heap.size≤(w.heap++os).size; simp,fun c hc _=>by
  show (w.heap++os)[c]? = _;rw [Array.getElem?_append_left hc],rfl,rfl,rfl⟩
theorem zbu {ρ:Ren} (Ly:SlLaysM.n5 P ρ) (hf:∃fn c,P.funcs[ρ.f 5]? = some fn∧fn.body=some c) {H:AH} {id:Nat} {zs:List Int} {e:TypeId} {opn:Bool} {esz c:Nat} (hb:H.get id=some { obj:=.cells (zcells zs) e (0,0),opn:=opn,esz:=esz,ro:=false }) (hm:m≤id) (h0:0<zs.length) (hz:zs.length<4611686018427387904) :
  CallS P ne m (ρ.f 5) #[.slice (some ⟨id,0,none⟩) zs.length c] H (.tuple #[]) (H.put id { obj:=.cells (zcells (sortI zs)) e (0,0),opn:=opn,esz:=esz,ro:=false }):=by
 intro hS;refine ⟨hf,fun φ w args' hg ha hi=>?_⟩;obtain ⟨l,c',f',g1,g2,g3⟩:=hi.cells hb rfl;have harg:∃c2,args'=#[.slice (some ⟨l.blk,l.off,none⟩) zs.length c2]:=by
  obtain ⟨hsz,hel⟩:=ha;have hsz:args'.size=1:=hsz.symm;obtain ⟨x',rfl⟩:∃x',args'=#[x']:=by
   match args',hsz with
   | ⟨[x']⟩,_=>exact ⟨x',rfl⟩
  have hx:=hel 0 _ _ rfl rfl;generalize hn:zs.length=nn at hx h0;generalize hcc:c=cc at hx;cases hx with
  | slice _ _ _ _ l1 hl1 hc1=>rw [g1] at hl1; cases hl1; exact ⟨_,rfl⟩
  | sliceOpen _ _ _ _ l1 hl1 hn1 hc1=>rw [g1] at hl1; cases hl1; exact ⟨_,rfl⟩
  | sliceEnd=>omega
  | sliceZero=>omega
 obtain ⟨c2,rfl⟩:=harg;have hlt:l.blk<w.heap.size:=(hi.dom id l g1).2;have hcell:∀(j:Nat) (hj:j<zs.length),c'[l.off+j]? = some (.int .i64 zs[j]):=fun j hj=>by
  obtain ⟨v',h1,h2⟩:=g3.cell j (.int .i64 zs[j]) (by rw [zi,List.getElem?_eq_getElem hj]; rfl);cases h2;exact h1
 have hH:Holds (Value.int .i64) w l.blk l.off zs.toArray:=by
  intro j hj;have hj:j<zs.length:=by simpa using hj
  refine ⟨?_,?_⟩
  ·unfold World.cell?;simp only [g2];rw [hcell j hj]
   congr 2
   rw [getElem!_pos _ j (by simpa using hj)];simp
  ·unfold World.frozen?;simp only [g2];have hsz:=(Array.getElem?_eq_some_iff.1 (hcell j hj)).1;rcases g3.own rfl with h | h
   ·simp only [Bool.and_eq_false_iff,decide_eq_false_iff_not]; omega
   ·simp only [Bool.and_eq_false_iff,decide_eq_false_iff_not]; omega
 refine (Proofs.AnyM.slices_Sort_int Ly l.blk l.off c2 zs w hH hlt hz).mono fun en w' hh=>?_;obtain ⟨rfl,k,os,rfl⟩:=hh
 let w1:World:=putRow (Value.int .i64) (Go.Sort.ahead w k) l.blk l.off (sortI zs).toArray
 have hw1:w1.heap=w.heap.modify l.blk (onCells (putCells (Value.int .i64) l.off (sortI zs).toArray)):=rfl;have hs1:w1.heap.size=w.heap.size:=by rw [hw1]; simp
 have ho1:∀c,c≠l.blk→w1.heap[c]? = w.heap[c]? := fun c hc=>by rw [hw1,Array.getElem?_modify,if_neg (fun h=>hc h.symm)]
 have ha1:w1.heap[l.blk]? = some (.cells (putCells (Value.int .i64) l.off (sortI zs).toArray c') e f'):=by
  rw [hw1,Array.getElem?_modify,if_pos rfl,g2];rfl
 have hor:OR φ l { obj:=.cells (zcells (sortI zs)) e (0,0),opn:=opn,esz:=esz,ro:=false } w1:=by
  refine ⟨_,e,f',ha1,⟨fun i v hv=>?_,?_,g3.esz,fun ho=>?_,fun hr=>?_,rfl⟩⟩
  ·rw [zi] at hv;have hi':i<(sortI zs).length:=by
    by_cases h:i<(sortI zs).length
    ·exact h
    ·rw [List.getElem?_eq_none (by omega)] at hv; cases hv
   rw [List.getElem?_eq_getElem hi'] at hv;simp only [Option.map_some,Option.some.injEq] at hv;subst hv;refine ⟨.int .i64 (sortI zs)[i],?_,.int _ _⟩;have hl:=z1c zs;simp only [putCells,Array.getElem?_mapIdx,hcell i (by omega),Option.map_some];rw [if_pos (by simp; omega)]
   congr 2
   rw [show l.off+i - l.off=i by omega,getElem!_pos _ i (by simpa using hi')];simp
  ·simp only [putCells,Array.size_mapIdx]; exact g3.fin
  ·obtain ⟨h1,h2⟩:=g3.exact_ ho;refine ⟨h1,?_⟩;simp only [putCells,Array.size_mapIdx];rw [h2];simp [zcells,z1c]
  ·simp only [putCells,Array.size_mapIdx]; exact g3.own rfl
 have hi0:Inv φ H (Go.Sort.ahead w k):=⟨hi.dom,hi.obj,hi.sep⟩;have hst:Step m φ H w φ (H.put id { obj:=.cells (zcells (sortI zs)) e (0,0),opn:=opn,esz:=esz,ro:=false }) w1:=Step.put hm hb g1 hs1 ho1 rfl rfl rfl;have hin:Inv φ (H.put id { obj:=.cells (zcells (sortI zs)) e (0,0),opn:=opn,esz:=esz,ro:=false }) w1:=Inv.put hi hb rfl rfl g1 hs1 ho1 hor;exact ⟨φ,.tuple #[],rfl,.tuple #[] #[] rfl (fun i x y h=>by simp at h),hin.grow os,hst.trans hi (Step.grow w1 os)⟩
theorem ze0 {ρ:Ren} (Ly:SlLaysM.n5 P ρ) (hf:∃fn c,P.funcs[ρ.f 5]? = some fn∧fn.body=some c) {H:AH}:CallS P ne m (ρ.f 5) #[.slice none 0 0] H (.tuple #[]) H:=by
 intro hS;refine ⟨hf,fun φ w args' hg ha hi=>?_⟩;have harg:args'=#[.slice none 0 0]:=by
  obtain ⟨hsz,hel⟩:=ha;have hsz:args'.size=1:=hsz.symm;obtain ⟨x',rfl⟩:∃x',args'=#[x']:=by
   match args',hsz with
   | ⟨[x']⟩,_=>exact ⟨x',rfl⟩
  have hx:=hel 0 _ _ rfl rfl;cases hx with
  | sliceNil=>rfl
 subst harg;refine (Proofs.AnyM.slices_Sort_int_none Ly none 0 w).mono fun en w' hh=>?_;obtain ⟨rfl,rfl⟩:=hh;exact ⟨φ,.tuple #[],rfl,.tuple #[] #[] rfl (fun i x y h=>by simp at h),hi,Step.refl _ _ _ _⟩
end Go.Abs
namespace Go.Abs
variable {P:Program} {ne:NE} {m n:Nat}
theorem zgi {l l':List Int} (h:l.Perm l'):sortI l=sortI l':=by
 have ht:∀a b c:Int,decide (a≤b)=true→decide (b≤c)=true→decide (a≤c)=true:=fun a b c h1 h2=>by simp at *; omega
 have hc:∀a b:Int,(decide (a≤b)||decide (b≤a))=true:=fun a b=>by simp; omega
 refine List.Perm.eq_of_pairwise (le:=fun a b=>decide (a≤b)=true) (fun a b _ _ h1 h2=>by simp at h1 h2; omega) (List.pairwise_mergeSort ht hc l) (List.pairwise_mergeSort ht hc l') ?_;exact (List.mergeSort_perm l _).trans (h.trans (List.mergeSort_perm l' _).symm)
def keyZ (e:MapEntry):Option Int:=match e.key with
 | .int .i64 z=>some z
 | _=>none
theorem zhk {e:MapEntry} {z:Int} (h:keyZ e=some z):e.key=.int .i64 z:=by
 unfold keyZ at h;split at h
 ·rename_i z' hk;cases h;exact hk
 ·cases h
def keysZ:List MapEntry→Option (List Int)
 | []=>some []
 | e :: l=>match keyZ e,keysZ l with
  | some z,some zs=>some (z :: zs)
  | _,_=>none
theorem C6 {e:MapEntry} {l:List MapEntry} {zs:List Int} (h:keysZ (e :: l)=some zs):∃z r,keyZ e=some z∧keysZ l=some r∧zs=z :: r:=by
 simp only [keysZ] at h;split at h
 ·rename_i z r h1 h2;cases h;exact ⟨z,r,h1,h2,rfl⟩
 ·cases h
theorem z3j:∀{l:List MapEntry} {zs:List Int},keysZ l=some zs→zs.length=l.length
 | [],zs,h=>by cases h; rfl
 | e :: l,zs,h=>by
  obtain ⟨z,r,_,h2,rfl⟩:=C6 h;simp [z3j h2]
theorem z7g:∀{l:List MapEntry} {zs:List Int},keysZ l=some zs→∀e∈l,∃z,keyZ e=some z
 | [],zs,h,e,he=>by cases he
 | x :: l,zs,h,e,he=>by
  obtain ⟨z,r,h1,h2,rfl⟩:=C6 h;rcases List.mem_cons.1 he with rfl | he
  ·exact ⟨z,h1⟩
  ·exact z7g h2 e he
theorem z6c:∀{l:List MapEntry} {zs:List Int} {e:MapEntry} {z:Int},keysZ l=some zs→keyZ e=some z→keysZ (l++[e])=some (zs++[z])
 | [],zs,e,z,h,hz=>by cases h; simp [keysZ,hz]
 | x :: l,zs,e,z,h,hz=>by
  obtain ⟨y,r,h1,h2,rfl⟩:=C6 h;simp [keysZ,h1,z6c h2 hz]
theorem zc1:∀{l:List MapEntry},(∀e∈l,∃z,keyZ e=some z)→∃zs,keysZ l=some zs
 | [],_=>⟨[],rfl⟩
 | e :: l,h=>by
  obtain ⟨z,hz⟩:=h e List.mem_cons_self;obtain ⟨zs,h2⟩:=zc1 fun e he=>h e (List.mem_cons_of_mem _ he);exact ⟨z :: zs,by simp [keysZ,hz,h2]⟩
theorem zgj {l l':List MapEntry} (hp:l.Perm l'):∀(zs zs':List Int),keysZ l=some zs→keysZ l'=some zs'→zs.Perm zs':=by
 induction hp with
 | nil=>intro zs zs' h h'; cases h; cases h'; exact .refl _
 | cons x _ ih =>
  intro zs zs' h h';obtain ⟨z,r,h1,h2,rfl⟩:=C6 h;obtain ⟨z',r',h3,h4,rfl⟩:=C6 h';rw [h1] at h3; cases h3;exact (ih _ _ h2 h4).cons z
 | swap x y l =>
  intro zs zs' h h';obtain ⟨z,r,h1,h2,rfl⟩:=C6 h;obtain ⟨z2,r2,h3,h4,rfl⟩:=C6 h2;obtain ⟨z',r',h5,h6,rfl⟩:=C6 h';obtain ⟨z2',r2',h7,h8,rfl⟩:=C6 h6;rw [h1] at h7; cases h7;rw [h3] at h5; cases h5;rw [h4] at h8; cases h8;exact .swap _ _ _
 | trans h1 h2 ih1 ih2 =>
  intro zs zs' h h';have:∃ys,keysZ _=some ys:=(zc1 (fun e he=>z7g h e ((h1.mem_iff).2 he)));obtain ⟨ys,hy⟩:=this;exact (ih1 _ _ h hy).trans (ih2 _ _ hy h')
def rowB (e:TypeId) (zs:List Int):Blk:={ obj:=.cells (zcells zs) e (0,0),opn:=true,esz:=1,ro:=false }
def outS (e:TypeId) (H:AH) (zs:List Int):Sl3×AH :=
 if zs=[] then (Sl3.nil,{ H with next:=H.next+1 })
 else (⟨some ⟨H.next+2*zs.length,0,none⟩,zs.length,OPEN⟩,AH.push { H with next:=H.next+2*zs.length } (rowB e (sortI zs)))
def keysS (e:TypeId) (m:Nat) (H:AH) (r:Nat):Option (Sl3×AH) :=
 match H.get r with
 | some { obj:=.map es clock,.. } =>
  match keysZ es.toList with
  | some zs=>if (es.toList.map (·.born)).Nodup∧(∀e∈es.toList,e.born<clock)∧zs.length≤1073741824∧m≤H.next then some (outS e H zs) else none
  | none=>none
 | _=>none
structure KeyI (e:TypeId) (H:AH) (r clock:Nat) (es:Array MapEntry) (s:AH×Sl3×List MapEntry):Prop where
 next:s.1.next=H.next+1+2*s.2.2.length
 low:∀id,id<H.next→s.1.get id=H.get id
 iter:s.1.get H.next=some { obj:=.mapIter (some r) clock (s.2.2.map (·.born)).toArray clock,opn:=false,esz:=0,ro:=false }
 nd:(s.2.2.map (·.born)).Nodup
 sub:∀x∈s.2.2,x∈es
 keys:∃zs,keysZ s.2.2=some zs∧((zs=[]∧s.2.1=Sl3.nil)∨(zs≠[]∧s.2.1=⟨some ⟨H.next+2*zs.length,0,none⟩,zs.length,OPEN⟩∧s.1.get (H.next+2*zs.length)=some (rowB e zs)))
theorem KeyI.step {e:TypeId} {H:AH} {r clock:Nat} {es:Array MapEntry} {s:AH×Sl3×List MapEntry} (h:KeyI e H r clock es s) (hm:m≤H.next) {x:MapEntry} {z:Int} (hx:x∈es) (hn:x.born ∉ (s.2.2.map (·.born)).toArray) (hz:keyZ x=some z) (hl:s.2.2.length≤1073741824) :
  ∃row H2 out H3,newR e 1 #[.int .i64 z] (s.1.put H.next { obj:=.mapIter (some r) clock ((s.2.2.map (·.born)).toArray.push x.born) clock,opn:=false,esz:=0,ro:=false })=some (row,H2)∧appS m e 1 8 H2 s.2.1 row=some (out,H3)∧KeyI e H r clock es (H3,out,s.2.2++[x]):=by
 obtain ⟨zs,hk,hc⟩:=h.keys;have hlen:=z3j hk
 let H1:=s.1.put H.next { obj:=.mapIter (some r) clock ((s.2.2.map (·.born)).toArray.push x.born) clock,opn:=false,esz:=0,ro:=false }
 have n1:H1.next=s.1.next:=rfl
 let B:Blk:={ obj:=.cells #[.int .i64 z] e (0,0),opn:=false,esz:=0,ro:=false }
 let H2:=H1.push B
 have n2:H2.next=H.next+2*s.2.2.length+2:=by show H1.next+1=_; rw [n1,h.next]; omega
 have g2:∀id,id≠H1.next→H2.get id=H1.get id:=fun id hid=>AH.get_push_other H1 B hid;have g1:∀id,id≠H.next→H1.get id=s.1.get id:=fun id hid=>AH.get_put_other _ _ hid;have hrow:rdCells H2 ⟨H1.next,0,none⟩ 0 1=some [.int .i64 z]:=by
  have:H2.cell ((⟨H1.next,0,none⟩:Addr).add 0)=some (.int .i64 z):=by
   rw [add_zero];unfold AH.cell;rw [show H2.get H1.next=some B from AH.get_push_same _ _];rfl
  simp only [rdCells,this]
 have hone:([.int .i64 z]:List Value).all one=true:=rfl;have nd':((s.2.2++[x]).map (·.born)).Nodup:=by
  rw [List.map_append,List.nodup_append];refine ⟨h.nd,by simp,fun a ha b hb e=>?_⟩;simp only [List.map_cons,List.map_nil,List.mem_singleton] at hb;rw [e,hb] at ha;exact hn (by simpa using ha)
 have sub':∀y∈s.2.2++[x],y∈es:=fun y hy=>by
  rcases List.mem_append.1 hy with hy | hy
  ·exact h.sub y hy
  ·rw [List.mem_singleton] at hy; rw [hy]; exact hx
 have it':((s.2.2++[x]).map (·.born)).toArray=(s.2.2.map (·.born)).toArray.push x.born:=by simp
 have hpos:H.next≠H1.next:=by rw [n1,h.next]; omega
 rcases hc with ⟨hz0,hs⟩ | ⟨hzn,hs,hg⟩
 ·
  have hl0:s.2.2=[]:=by
   rw [hz0] at hlen;exact List.length_eq_zero_iff.1 hlen.symm
  refine ⟨⟨some ⟨H1.next,0,none⟩,1,1⟩,H2,⟨some ⟨H2.next,0,none⟩,1,OPEN⟩,H2.push (rowB e [z]),rfl,?_,?_⟩
  ·unfold appS;simp only [Nat.mul_one];rw [hrow];simp only [hone,if_true];unfold appL;rw [if_neg (by omega),hs];simp only [Sl3.nil,and_self,if_true];unfold grownS;rw [if_pos ⟨by omega,by omega⟩];rfl
  ·have n2':H2.next=H.next+2:=by rw [n2,hl0]; rfl
   refine ⟨?_,fun id hid=>?_,?_,nd',sub',zs++[z],z6c hk hz,.inr ⟨by simp,?_,?_⟩⟩
   ·show H2.next+1=_;rw [n2',hl0]; rfl
   ·show (H2.push _).get id=_;rw [AH.get_push_other _ _ (by omega),g2 id (by rw [n1,h.next]; omega),g1 id (by omega)];exact h.low id hid
   ·show (H2.push _).get H.next=_;rw [AH.get_push_other _ _ (by omega),g2 _ hpos,AH.get_put_same,it']
   ·rw [hz0];show _=(⟨some ⟨H.next+2*1,0,none⟩,1,OPEN⟩:Sl3);rw [n2']
   ·rw [hz0];show (H2.push _).get (H.next+2*1)=_;rw [show H.next+2*1=H2.next by rw [n2'],AH.get_push_same];rfl
 ·
  have hzl:0<zs.length:=List.length_pos_iff.2 hzn;have hold:H2.get (H.next+2*zs.length)=some (rowB e zs):=by
   rw [g2 _ (by rw [n1,h.next]; omega),g1 _ (by omega)];exact hg
  have hrd:rdCells H2 ⟨H.next+2*zs.length,0,none⟩ 0 zs.length=some (zs.map fun z=>Value.int .i64 z):=by
   have:=D7 (H:=H2) (a:=⟨H.next+2*zs.length,0,none⟩) (zs.map fun z=>Value.int .i64 z) 0 fun i hi=>by
    rw [List.length_map] at hi;rw [Nat.zero_add,I5];unfold AH.cell;simp only [hold,rowB,Nat.zero_add];rw [zi,List.getElem?_eq_getElem hi,List.getElem_map];rfl
   rw [List.length_map] at this;exact this
  let H3:=H2.put (H.next+2*zs.length) dead
  have n3:H3.next=H2.next:=rfl;refine ⟨⟨some ⟨H1.next,0,none⟩,1,1⟩,H2,⟨some ⟨H3.next,0,none⟩,zs.length+1,OPEN⟩,H3.push (rowB e (zs++[z])),rfl,?_,?_⟩
  ·unfold appS;simp only [Nat.mul_one];rw [hrow];simp only [hone,if_true];unfold appL;rw [if_neg (by omega),hs];simp only [Nat.mul_one,hrd,if_true];have hob:ownedB m H2 ⟨H.next+2*zs.length,0,none⟩ e 1=true:=by
    unfold ownedB;simp only [hold,rowB];rw [ble_of (by omega),Nat.beq_refl,Nat.beq_refl];rfl
   rw [if_pos ⟨hob,hone⟩];unfold grownS;rw [if_pos ⟨by omega,by omega⟩];have:(List.map (fun z=>Value.int .i64 z) zs++[Value.int .i64 z]).toArray=zcells (zs++[z]):=by unfold zcells; rw [List.map_append]; rfl
   rw [this];rfl
  ·refine ⟨?_,fun id hid=>?_,?_,nd',sub',zs++[z],z6c hk hz,.inr ⟨by simp,?_,?_⟩⟩
   ·show H3.next+1=_;rw [n3,n2,List.length_append];simp only [List.length_singleton]; omega
   ·show (H3.push _).get id=_;rw [AH.get_push_other _ _ (by rw [n3,n2]; omega),show H3.get id=H2.get id from AH.get_put_other _ _ (by omega),g2 id (by rw [n1,h.next]; omega),g1 id (by omega)];exact h.low id hid
   ·show (H3.push _).get H.next=_;rw [AH.get_push_other _ _ (by rw [n3,n2]; omega),show H3.get H.next=H2.get H.next from AH.get_put_other _ _ (by omega),g2 _ hpos,AH.get_put_same,it']
   ·show (⟨some ⟨H3.next,0,none⟩,zs.length+1,OPEN⟩:Sl3)=_;rw [List.length_append,n3,n2,hlen];simp only [List.length_singleton];rw [show H.next+2*s.2.2.length+2=H.next+2*(s.2.2.length+1) by omega]
   ·show (H3.push _).get (H.next+2*(zs++[z]).length)=_;rw [List.length_append];simp only [List.length_singleton];rw [show H.next+2*(zs.length+1)=H3.next by rw [n3,n2,hlen]; omega,AH.get_push_same]
end Go.Abs
namespace Go.Abs
open Go.Shelf Go.Proofs
variable {P:Program} {ne:NE} {m:Nat}
theorem zik {ρ:Ren} (Ly:LaysM.n171 P ρ) (hf:∃fn c,P.funcs[ρ.f 171]? = some fn∧fn.body=some c) {g:Nat} (hg:P.globalNamed "internal/strconv.uint64pow10"=some g) (hgl:g<P.globals.size) {H:AH} {c:Array Value} {e:TypeId} {esz:Nat} {ro:Bool}
  (hb:H.get g=some { obj:=.cells c e (0,0),opn:=false,esz:=esz,ro:=ro }) (hc:c=(Lib.pow10Tab.map fun z=>Value.int .u64 z).toArray) {n:Int} (h0:-9223372036854775808≤n) (h1:n≤9223372036854775807) :
  CallS P ne m (ρ.f 171) #[.int .i64 n] H (.string ⟨(Lib.itoa n).toArray⟩) H:=by
 intro hS;refine ⟨hf,fun φ w args' hG ha hi=>?_⟩;obtain ⟨l,c',f',g1,g2,g3⟩:=hi.cells hb rfl;obtain ⟨l',k1,k2,k3⟩:=hG g hgl;rw [g1] at k1;cases k1;have harg:args'=#[.int .i64 n]:=by
  obtain ⟨hsz,hel⟩:=ha;have hsz:args'.size=1:=hsz.symm;obtain ⟨x',rfl⟩:∃x',args'=#[x']:=by
   match args',hsz with
   | ⟨[x']⟩,_=>exact ⟨x',rfl⟩
  have hx:=hel 0 _ _ rfl rfl;cases hx;rfl
 subst harg;obtain ⟨e1,e2⟩:=g3.exact_ rfl;have hcc:c'=c:=by
  refine Array.ext e2 fun i hi1 hi2=>?_;obtain ⟨v',q1,q2⟩:=g3.cell i c[i] (Array.getElem?_eq_getElem hi2);rw [e1,Nat.zero_add,Array.getElem?_eq_getElem hi1] at q1;cases q1;have:∃z,c[i]=Value.int .u64 z:=by
   subst hc;simp
  obtain ⟨z,hz⟩:=this;rw [hz] at q2 ⊢;generalize c'[i]=y at q2;cases q2;rfl
 have htab:Lib.TabIs P w "internal/strconv.uint64pow10" .u64 Lib.pow10Tab:=by
  unfold Lib.TabIs World.var?;rw [hg];rw [k2] at g2;simp only [Option.bind_some,g2,hcc,hc]
 refine (Any.strconv_Itoa Ly n h0 h1 w htab).mono fun en w' hh=>?_;obtain ⟨rfl,k,os,rfl⟩:=hh;have hi0:Inv φ H (w.drewN k):=⟨hi.dom,hi.obj,hi.sep⟩;have hst:Step m φ H w φ H (Go.Sort.grow (w.drewN k) os) :=
  ⟨Nat.le_refl _,Inj.le_refl _,fun id l h h'=>(by rw [h] at h'; cases h'),fun _ h=>.inl h,by show w.heap.size≤(w.heap++os).size; simp,fun c hc _=>by
   show (w.heap++os)[c]? = _;rw [Array.getElem?_append_left hc],rfl,rfl,rfl⟩
 exact ⟨φ,.string ⟨(Lib.itoa n).toArray⟩,rfl,.string _,hi0.grow os,hst⟩
end Go.Abs
namespace Go.Abs
open Go.Shelf Go.Proofs Go.RowKit
variable {P:Program} {ne:NE} {m:Nat}
theorem Inv.pushAt {φ:Inj} {H:AH} {w W:World} {b:Blk} {l:Loc} (hi:Inv φ H w) (hB:Below w.heap.size w W) (h1:w.heap.size≤l.blk) (h2:l.blk<W.heap.size) (hor:OR (φ.upd H.next l) l b W):Inv (φ.upd H.next l) (H.push b) W:=by
 have hf:=hi.fresh;have hle:=Inj.le_upd l hf;have hsz:=hB.size;refine ⟨fun i k h=>?_,fun i k h=>?_,fun i j k k' l1 l2 h h' hne hr ha ha' hl1 hl2=>?_⟩
 ·by_cases e:i=H.next
  ·subst e; rw [Inj.upd_same] at h; cases h; exact ⟨by simp,h2⟩
  ·rw [Inj.upd_other _ _ e] at h;have:=hi.dom i k h;simp only [AH.next_push]; omega
 ·by_cases e:i=H.next
  ·subst e; rw [AH.get_push_same] at h; cases h;exact ⟨l,Inj.upd_same _ _ _,hor⟩
  ·rw [AH.get_push_other _ _ e] at h;obtain ⟨l1,g1,g2⟩:=hi.obj i k h;exact ⟨l1,hle _ _ g1,(g2.mono hle).same (hB.block _ (hi.dom i l1 g1).2)⟩
 ·by_cases e:i=H.next
  ·subst e;rw [Inj.upd_same] at hl1; cases hl1;rw [Inj.upd_other _ _ (fun hh=>hne hh.symm)] at hl2;have:=(hi.dom j l2 hl2).2;omega
  ·rw [AH.get_push_other _ _ e] at h;rw [Inj.upd_other _ _ e] at hl1;by_cases e':j=H.next
   ·subst e';rw [Inj.upd_same] at hl2; cases hl2;have:=(hi.dom i l1 hl1).2;omega
   ·rw [AH.get_push_other _ _ e'] at h';rw [Inj.upd_other _ _ e'] at hl2;exact hi.sep i j k k' l1 l2 h h' hne hr ha ha' hl1 hl2
theorem Step.pushAt {φ:Inj} {H:AH} {w W:World} {b:Blk} {l:Loc} (hi:Inv φ H w) (hB:Below w.heap.size w W) (h1:w.heap.size≤l.blk):Step m φ H w (φ.upd H.next l) (H.push b) W:=by
 refine ⟨by simp,Inj.le_upd l hi.fresh,fun i k h h'=>?_,fun i h=>?_,hB.size,fun c hc _=>hB.block c hc,hB.os,hB.tape,hB.output⟩
 ·by_cases e:i=H.next
  ·subst e; rw [Inj.upd_same] at h; cases h;exact ⟨Nat.le_refl _,.inl h1⟩
  ·rw [Inj.upd_other _ _ e,h'] at h; cases h
 ·by_cases e:i=H.next
  ·subst e; exact .inr hi.fresh
  ·rw [AH.get_push_other _ _ e] at h; exact .inl h
theorem zec {f g:Nat} {e:TypeId} {zs:List Int} (hf:∃fn c,P.funcs[f]? = some fn∧fn.body=some c) (h0:0<zs.length)
  (hA:∀(Bs b off cap:Nat) (w:World),Bs<w.heap.size→w.cell? ⟨Bs,0,none⟩=some (.slice (some ⟨b,off,none⟩) zs.length cap)→b<w.heap.size→(∀j,j<zs.length→w.cell? ⟨b,off+j,none⟩=some (.int .i64 (zs[j]?.getD 0))) →
   Calls P f #[.slice none 0 0,.func (.func g) #[] #[.pointer (some ⟨Bs,0,none⟩)]] w fun e' W'=>∃v,e'=.returned v∧W'.ownsRow w.heap.size e 1 v zs.length (zs.map (Value.int .i64))∧(v=.slice none 0 0↔zs=[])∧Below w.heap.size w W')
  {H:AH} {p:Nat} {c0:Array Value} {e0:TypeId} {esz:Nat} {ro:Bool} (hp:H.get p=some { obj:=.cells c0 e0 (0,0),opn:=false,esz:=esz,ro:=ro }) {a:Addr} {cp:Nat} (hs:c0[0]? = some (.slice (some a) zs.length cp)) (hsp:a.spot=none)
  (hc:∀j,j<zs.length→H.cell (a.add j)=some (.int .i64 (zs[j]?.getD 0))) :
  CallS P ne m f #[.slice none 0 0,.func (.func g) #[] #[.pointer (some ⟨p,0,none⟩)]] H (.slice (some ⟨H.next,0,none⟩) zs.length OPEN) (H.push (rowB e zs)):=by
 intro hS;refine ⟨hf,fun φ w args' hG ha hi=>?_⟩;obtain ⟨l,c',f',g1,g2,g3⟩:=hi.cells hp rfl;obtain ⟨e1,e2⟩:=g3.exact_ rfl;obtain ⟨blk,off,spot⟩:=a;simp only at hsp;subst hsp;have harg:args'=#[.slice none 0 0,.func (.func g) #[] #[.pointer (some ⟨l.blk,0,none⟩)]]:=by
  obtain ⟨hsz,hel⟩:=ha;have hsz:args'.size=2:=hsz.symm;obtain ⟨x',y',rfl⟩:∃x' y',args'=#[x',y']:=by
   match args',hsz with
   | ⟨[x',y']⟩,_=>exact ⟨x',y',rfl⟩
  have hx:=hel 0 _ _ rfl rfl;have hy:=hel 1 _ _ rfl rfl;cases hx;cases hy with
  | func _ _ _ f1 gg1 hf1 hg1 k1 k2 =>
   have:f1=#[]:=Array.eq_empty_of_size_eq_zero hf1.symm;subst this;have hg1:gg1.size=1:=hg1.symm;obtain ⟨z',rfl⟩:∃z',gg1=#[z']:=by
    match gg1,hg1 with
    | ⟨[z']⟩,_=>exact ⟨z',rfl⟩
   have hz:=k2 0 _ _ rfl rfl;cases hz with
   | ptr _ _ l1 hl1 =>
    rw [g1] at hl1;cases hl1;rw [e1]
 subst harg;obtain ⟨s',q1,q2⟩:=g3.cell 0 _ hs;rw [e1] at q1;have hbox:w.cell? ⟨l.blk,0,none⟩=some s':=by
  unfold World.cell?;simp only [g2];exact q1
 have hslice:∃l1 c2,φ blk=some l1∧s'=.slice (some ⟨l1.blk,l1.off+off,none⟩) zs.length c2:=by
  generalize hn:zs.length=nn at q2 h0;generalize hcc:cp=cc at q2;cases q2 with
  | slice _ _ _ _ l1 hl1 _=>exact ⟨l1,_,hl1,rfl⟩
  | sliceOpen _ _ _ _ l1 hl1 _ _=>exact ⟨l1,_,hl1,rfl⟩
  | sliceEnd=>omega
  | sliceZero=>omega
 obtain ⟨l1,c2,hl1,rfl⟩:=hslice;have hcell:∀j,j<zs.length→w.cell? ⟨l1.blk,l1.off+off+j,none⟩=some (.int .i64 (zs[j]?.getD 0)):=fun j hj=>by
  have:=hc j hj;rw [I5] at this;obtain ⟨b1,c1,e1',f1,k1,k2,_,k4⟩:=z9g this;obtain ⟨l2,c3,f3,m1,m2,m3⟩:=hi.cells k1 k2;rw [hl1] at m1;cases m1;obtain ⟨v',n1,n2⟩:=m3.cell _ _ k4;cases n2;unfold World.cell?;simp only [m2];rw [Nat.add_assoc];exact n1
 refine (hA l.blk l1.blk (l1.off+off) c2 w (hi.dom p l g1).2 hbox (hi.dom blk l1 hl1).2 hcell).mono fun en W hh=>?_;obtain ⟨v,rfl,hrow,hnil,hB⟩:=hh;rcases hrow.2 with ⟨_,hz⟩ | ⟨gb,cap,cur,rfl,hbase,hgb,r1,r2,r3,r4⟩
 ·omega
 ·have hlt:gb<W.heap.size:=(Array.getElem?_eq_some_iff.1 hgb).1
  let lo:Loc:=⟨gb,0,cap,1⟩
  have hor:OR (φ.upd H.next lo) lo (rowB e zs) W:=by
   refine ⟨cur,e,(0,0),hgb,⟨fun i v hv=>?_,by show cap≤cur.size; omega,fun _=>rfl,fun h=>(by cases h),fun _=>.inl (Nat.le_refl _),rfl⟩⟩;rw [zi] at hv;have hi':i<zs.length:=by
    by_cases h:i<zs.length
    ·exact h
    ·rw [List.getElem?_eq_none (by omega)] at hv; cases hv
   rw [List.getElem?_eq_getElem hi'] at hv;simp only [Option.map_some,Option.some.injEq] at hv;subst hv;refine ⟨.int .i64 zs[i],?_,.int _ _⟩;show cur[0+i]? = _;rw [Nat.zero_add];have:=congrArg (fun l:List Value=>l[i]?) r4;simp only [List.getElem?_map,List.getElem?_eq_getElem hi',Option.map_some,Nat.mul_one] at this;rw [List.getElem?_take_of_lt hi'] at this
   simpa using this
  exact ⟨_,_,rfl,.sliceOpen H.next 0 zs.length cap lo (Inj.upd_same _ _ _) r1 (by show 0+0+cap*1≤cap; omega),hi.pushAt hB hbase hlt hor,Step.pushAt hi hB hbase⟩
end Go.Abs
namespace Go.Abs.Eg
abbrev Lb:=Int×Int×Int×Bool
def US (fe:List Ed) (i j:Nat) (l:Lb):Prop:=fe[i]? = some ((j:Int),l)∨fe[j]? = some ((i:Int),l)
def Tagged (sd:List Sd) (t:Int) (i j:Nat):Prop:=∃s∈sd,s.2.2.2=false∧s.2.2.1=t∧(s.1=i∧s.2.1=j∨s.1=j∧s.2.1=i)
theorem Tagged.symm {sd:List Sd} {t:Int} {i j:Nat} (h:Tagged sd t i j):Tagged sd t j i:=by
 obtain ⟨s,h1,h2,h3,h4⟩:=h;exact ⟨s,h1,h2,h3,h4.symm⟩
theorem Tagged.mono {sd sd':List Sd} {t:Int} {i j:Nat} (h:Tagged sd t i j) (hs:∀s∈sd,s∈sd'):Tagged sd' t i j:=by
 obtain ⟨s,h1,h2⟩:=h;exact ⟨s,hs s h1,h2⟩
inductive Ju (N:List Nd) (sd:List Sd) (U:Nat→Nat→Lb→Prop):Nat→Nat→Prop
 | refl (i:Nat):Ju N sd U i i
 | symm {i j:Nat}:Ju N sd U i j→Ju N sd U j i
 | trans {i j k:Nat}:Ju N sd U i j→Ju N sd U j k→Ju N sd U i k
 | tag {i j:Nat} {t f o:Int}:U i j (t,f,o,false)→Tagged sd t i j→Ju N sd U i j
 | cong {i j a b:Nat} {t:Int} {x y:Nd}:U i j (t,(a:Int),(b:Int),true)→(i=a∧j=b∨i=b∧j=a)→N[a]? = some x→N[b]? = some y→x.value=y.value→x.sym=y.sym→x.args.length=y.args.length →
   (∀(k u v:Nat),x.args[k]? = some u→y.args[k]? = some v→Ju N sd U u v)→Ju N sd U i j
def LOK (N:List Nd) (sd:List Sd) (U:Nat→Nat→Lb→Prop) (i j:Nat) (l:Lb):Prop :=
 (l.2.2.2=false∧Tagged sd l.1 i j)∨(l.2.2.2=true∧∃(a b:Nat) (x y:Nd),l.2.1=a∧l.2.2.1=b∧(i=a∧j=b∨i=b∧j=a)∧N[a]? = some x∧N[b]? = some y∧x.value=y.value∧x.sym=y.sym∧x.args.length=y.args.length ∧
  ∀(k u v:Nat),x.args[k]? = some u→y.args[k]? = some v→Ju N sd U u v)
section
variable {N N':List Nd} {sd sd':List Sd} {U U':Nat→Nat→Lb→Prop} {i j:Nat} {l:Lb}
theorem Ju.of (hU:U i j l) (h:LOK N sd U i j l):Ju N sd U i j:=by
 obtain ⟨t,f,o,c⟩:=l;rcases h with ⟨rfl,h⟩ | ⟨rfl,a,b,x,y,rfl,rfl,h1,h2,h3,h4,h5,h6,h7⟩
 ·exact .tag hU h
 ·exact .cong hU h1 h2 h3 h4 h5 h6 h7
theorem Ju.mono (hN:∀(i:Nat) x,N[i]? = some x→N'[i]? = some x) (hs:∀s∈sd,s∈sd') (hU:∀i j l,U i j l→U' i j l) (h:Ju N sd U i j):Ju N' sd' U' i j:=by
 induction h with
 | refl i=>exact .refl i
 | symm _ ih=>exact .symm ih
 | trans _ _ h1 h2=>exact .trans h1 h2
 | tag h1 h2=>exact .tag (hU _ _ _ h1) (h2.mono hs)
 | cong h1 h2 h3 h4 h5 h6 h7 _ ih=>exact .cong (hU _ _ _ h1) h2 (hN _ _ h3) (hN _ _ h4) h5 h6 h7 ih
theorem LOK.symm (h:LOK N sd U i j l):LOK N sd U j i l:=by
 rcases h with ⟨h1,h2⟩ | ⟨h1,a,b,x,y,h2,h3,h4,h5⟩
 ·exact .inl ⟨h1,h2.symm⟩
 ·exact .inr ⟨h1,a,b,x,y,h2,h3,h4.symm.imp (fun h=>⟨h.2,h.1⟩) (fun h=>⟨h.2,h.1⟩),h5⟩
theorem LOK.mono (hN:∀(i:Nat) x,N[i]? = some x→N'[i]? = some x) (hs:∀s∈sd,s∈sd') (hU:∀i j l,U i j l→U' i j l) (h:LOK N sd U i j l):LOK N' sd' U' i j l:=by
 rcases h with ⟨h1,h2⟩ | ⟨h1,a,b,x,y,h2,h3,h4,h5,h6,h7,h8,h9,h10⟩
 ·exact .inl ⟨h1,h2.mono hs⟩
 ·exact .inr ⟨h1,a,b,x,y,h2,h3,h4,hN _ _ h5,hN _ _ h6,h7,h8,h9,fun k u v hu hv=>(h10 k u v hu hv).mono hN hs hU⟩
end
def LI (N:List Nd) (sd:List Sd) (fe:List Ed) (n:Nat) (o:Nat→Nat):Prop:=∀i j,i<n→j<n→o i=o j→Ju N sd (US fe) i j
theorem US.set {fe:List Ed} {a b:Nat} {l l0:Lb} (ha:fe[a]? = some (-1,l0)) (hb:a<fe.length) {i j:Nat} {l1:Lb} (h:US fe i j l1):US (fe.set a ((b:Int),l)) i j l1:=by
 have key:∀i j:Nat,fe[i]? = some ((j:Int),l1)→(fe.set a ((b:Int),l))[i]? = some ((j:Int),l1):=fun i j h=>by
  by_cases e:a=i
  ·subst e;rw [ha] at h;simp only [Option.some.injEq,Prod.mk.injEq] at h;omega
  ·rw [List.getElem?_set_ne e]; exact h
 rcases h with h | h
 ·exact .inl (key _ _ h)
 ·exact .inr (key _ _ h)
theorem US.new {fe:List Ed} {a b:Nat} {l:Lb} (hb:a<fe.length):US (fe.set a ((b:Int),l)) a b l:=.inl (by rw [List.getElem?_set_self hb])
theorem LI.join {N:List Nd} {sd:List Sd} {fe:List Ed} {n:Nat} {o:Nat→Nat} (h:LI N sd fe n o) {a b:Nat} {l l0:Lb} (han:a<n) (hbn:b<n) (ha:fe[a]? = some (-1,l0)) (hl:a<fe.length) (hk:LOK N sd (US fe) a b l)
  {o':Nat→Nat} (ho:∀i,i<n→o' i=re (o a) (o b) (o i)):LI N sd (fe.set a ((b:Int),l)) n o':=by
 have up:∀{i j},Ju N sd (US fe) i j→Ju N sd (US (fe.set a ((b:Int),l))) i j:=fun hj=>hj.mono (fun _ _ h=>h) (fun _ h=>h) fun _ _ _ hu=>hu.set ha hl;have hab:Ju N sd (US (fe.set a ((b:Int),l))) a b:=Ju.of (US.new hl) (hk.mono (fun _ _ h=>h) (fun _ h=>h) fun _ _ _ hu=>hu.set ha hl);intro i j hi hj e;rw [ho i hi,ho j hj] at e;have toB:∀i,i<n→(o i=o a∨o i=o b)→Ju N sd (US (fe.set a ((b:Int),l))) i b:=by
  rintro i hi (e | e)
  ·exact (up (h i a hi han e)).trans hab
  ·exact up (h i b hi hbn e)
 rcases (re_eq (o a) (o b) _ _).1 e with e | ⟨e1,e2⟩
 ·exact up (h i j hi hj e)
 ·exact (toB i hi e1).trans (toB j hj e2).symm
inductive Pa (fe:List Ed):Nat→List Nat→Prop
 | root {i:Nat} {l:Lb}:fe[i]? = some (-1,l)→Pa fe i [i]
 | step {i j:Nat} {l:Lb} {p:List Nat}:fe[i]? = some ((j:Int),l)→Pa fe j p→Pa fe i (i :: p)
section
variable {fe:List Ed} {i j:Nat} {p q:List Nat}
theorem Way.pa {fo:List Int} (h:Way fo i) (hf:fe.map (·.1)=fo):∃p,Pa fe i p:=by
 induction h with
 | root h =>
  rename_i i;rw [← hf,List.getElem?_map] at h;cases hx:fe[i]? with
  | none=>rw [hx] at h; cases h
  | some x =>
   rw [hx] at h;obtain ⟨t,l⟩:=x;simp only [Option.map_some,Option.some.injEq] at h;subst h;exact ⟨_,.root hx⟩
 | step h _ ih =>
  rename_i i j _;obtain ⟨p,hp⟩:=ih;rw [← hf,List.getElem?_map] at h;cases hx:fe[i]? with
  | none=>rw [hx] at h; cases h
  | some x =>
   rw [hx] at h;obtain ⟨t,l⟩:=x;simp only [Option.map_some,Option.some.injEq] at h;subst h;exact ⟨_,.step hx hp⟩
theorem Pa.uniq (h:Pa fe i p):∀{q},Pa fe i q→p=q:=by
 induction h with
 | root h =>
  intro q h';cases h' with
  | root _=>rfl
  | step h' _=>rw [h] at h'; simp only [Option.some.injEq,Prod.mk.injEq] at h'; omega
 | step h _ ih =>
  intro q h';cases h' with
  | root h'=>rw [h] at h'; simp only [Option.some.injEq,Prod.mk.injEq] at h'; omega
  | step h' hp =>
   rw [h] at h';simp only [Option.some.injEq,Prod.mk.injEq] at h';obtain rfl:_=_:=Int.ofNat.inj h'.1;rw [ih hp]
theorem Pa.mem (h:Pa fe i p) {n:Nat} (hn:n∈p):∃u r,p=u++r∧Pa fe n r:=by
 induction h with
 | root h =>
  rw [List.mem_singleton] at hn;subst hn;exact ⟨[],_,rfl,.root h⟩
 | step h hp ih =>
  rcases List.mem_cons.1 hn with e | e
  ·subst e;exact ⟨[],_,rfl,.step h hp⟩
  ·obtain ⟨u,r,h1,h2⟩:=ih e;exact ⟨_ :: u,r,by rw [h1]; rfl,h2⟩
theorem Pa.head (h:Pa fe i p):∃r,p=i :: r:=by
 cases h with
 | root h=>exact ⟨[],rfl⟩
 | step h hp=>exact ⟨_,rfl⟩
theorem Pa.nodup (h:Pa fe i p):p.Nodup:=by
 induction h with
 | root h=>simp
 | step h hp ih =>
  rename_i i j l p;refine List.nodup_cons.2 ⟨fun hm=>?_,ih⟩;obtain ⟨u,r,h1,h2⟩:=hp.mem hm;have:=(Pa.step h hp).uniq h2;have h3:=congrArg List.length h1;have h4:=congrArg List.length this;simp at h3 h4;omega
def Btw (p q:List Nat) (n:Nat):Prop:=(n∈p∧n ∉ q)∨(n∈q∧n ∉ p)
def Strip (p q x y:List Nat):Prop:=∃c,p=x++c∧q=y++c∧(x=[]∨y=[]∨x.getLast? ≠ y.getLast?)
theorem Strip.btw (hp:Pa fe i p) (hq:Pa fe j q) {x y:List Nat} (h:Strip p q x y) (n:Nat):n∈x++y↔Btw p q n:=by
 obtain ⟨c,rfl,rfl,hl⟩:=h;have nx:=hp.nodup;have ny:=hq.nodup;rw [List.nodup_append] at nx ny;have both:∀n,n∈x→n∈y→False:=by
  intro n h1 h2;obtain ⟨u,r,e1,r1⟩:=hp.mem (n:=n) (List.mem_append_left _ h1);obtain ⟨v,r',e2,r2⟩:=hq.mem (n:=n) (List.mem_append_left _ h2);obtain rfl:=r1.uniq r2;obtain ⟨r0,hr0⟩:=r1.head;have nr:n ∉ c:=fun hc=>(nx.2.2 n h1 n hc) rfl;have cut:∀(z w:List Nat),z++c=w++r→∃d,z=w++d∧r=d++c:=by
   intro z w e;rcases List.append_eq_append_iff.1 e with ⟨a,h1,h2⟩ | ⟨a,h1,h2⟩
   ·exfalso;apply nr;rw [h2,hr0];simp
   ·exact ⟨a,h1,h2⟩
  obtain ⟨d1,hx,hd1⟩:=cut _ _ e1;obtain ⟨d2,hy,hd2⟩:=cut _ _ e2;have hd:d1=d2:=List.append_cancel_right (hd1.symm.trans hd2);subst hd;have hne:d1≠[]:=fun e=>by
   rw [e,List.nil_append] at hd1;exact nr (by rw [← hd1,hr0]; simp)
  rcases hl with h | h | h
  ·rw [h] at h1; cases h1
  ·rw [h] at h2; cases h2
  ·apply h;rw [hx,hy,List.getLast?_append,List.getLast?_append];cases hq:d1.getLast? with
   | none=>exact absurd (List.getLast?_eq_none_iff.1 hq) hne
   | some z=>rfl
 unfold Btw;constructor
 ·intro h;rcases List.mem_append.1 h with h | h
  ·refine .inl ⟨List.mem_append_left _ h,fun hh=>?_⟩;rcases List.mem_append.1 hh with hh | hh
   ·exact both n h hh
   ·exact nx.2.2 n h n hh rfl
  ·refine .inr ⟨List.mem_append_left _ h,fun hh=>?_⟩;rcases List.mem_append.1 hh with hh | hh
   ·exact both n hh h
   ·exact ny.2.2 n h n hh rfl
 ·rintro (⟨h1,h2⟩ | ⟨h1,h2⟩)
  ·rcases List.mem_append.1 h1 with h1 | h1
   ·exact List.mem_append_left _ h1
   ·exact absurd (List.mem_append_right _ h1) h2
  ·rcases List.mem_append.1 h1 with h1 | h1
   ·exact List.mem_append_right _ h1
   ·exact absurd (List.mem_append_right _ h1) h2
theorem zan {p:List Nat} (h:p≠[]) (c:List Nat):p.dropLast++(p.getLast h :: c)=p++c:=by
 have:=List.dropLast_concat_getLast h;rw [show p.dropLast++(p.getLast h :: c)=(p.dropLast++[p.getLast h])++c by simp,this]
theorem Strip.exists:∀(p q:List Nat),∃x y,Strip p q x y:=by
 intro p q;generalize hn:p.length=n;have key:∀(n:Nat) (p q c:List Nat),p.length=n→∃x y,∃c',p++c=x++c'∧q++c=y++c'∧(x=[]∨y=[]∨x.getLast? ≠ y.getLast?):=by
  intro n;induction n with
  | zero =>
   intro p q c hp;obtain rfl:=List.length_eq_zero_iff.1 hp;exact ⟨[],q,c,rfl,rfl,.inl rfl⟩
  | succ n ih =>
   intro p q c hp;by_cases hq:q=[]
   ·subst hq; exact ⟨p,[],c,rfl,rfl,.inr (.inl rfl)⟩
   ·by_cases e:p.getLast? = q.getLast?
    ·have hpn:p≠[]:=fun e=>by rw [e] at hp; cases hp
     rw [List.getLast?_eq_some_getLast hpn,List.getLast?_eq_some_getLast hq] at e;have e:=Option.some.inj e;obtain ⟨x,y,c',h1,h2,h3⟩:=ih p.dropLast q.dropLast (p.getLast hpn :: c) (by rw [List.length_dropLast]; omega);refine ⟨x,y,c',?_,?_,h3⟩
     ·rw [← h1]; exact (zan hpn c).symm
     ·rw [← h2,e]; exact (zan hq c).symm
    ·exact ⟨p,q,c,rfl,rfl,.inr (.inr e)⟩
 obtain ⟨x,y,c,h1,h2,h3⟩:=key n p q [] hn;exact ⟨x,y,c,by simpa using h1,by simpa using h2,h3⟩
end
end Go.Abs.Eg
namespace Go.Abs.Eg
def withT (sd:List Sd) (T:Int→Prop) [DecidablePred T]:List Sd:=sd.filter fun s=>decide (T s.2.2.1)
section
variable {N:List Nd} {sd:List Sd} {fe:List Ed} {T:Int→Prop} [DecidablePred T]
theorem z8t {t:Int} {i j:Nat} (h:Tagged sd t i j) (ht:T t):Cong N (Mof (withT sd T)) i j:=by
 obtain ⟨s,h1,h2,h3,h4⟩:=h;have hm:(s.1.toNat,s.2.1.toNat)∈Mof (withT sd T):=by
  unfold Mof withT;refine List.mem_filterMap.2 ⟨s,List.mem_filter.2 ⟨h1,?_⟩,by simp [h2]⟩;rw [h3]
  simpa using ht
 rcases h4 with ⟨e1,e2⟩ | ⟨e1,e2⟩
 ·rw [e1,e2] at hm;exact .base (by simpa using hm)
 ·rw [e1,e2] at hm;exact .symm (.base (by simpa using hm))
structure Clo (N:List Nd) (fe:List Ed) (D:Nat→Prop) (T:Int→Prop):Prop where
 tag:∀n j t f o,D n→fe[n]? = some ((j:Int),t,f,o,false)→T t
 cong:∀(n j a b:Nat) (t:Int) (x y:Nd) (k u v:Nat) (p q:List Nat) (c:Nat),D n→fe[n]? = some ((j:Int),t,(a:Int),(b:Int),true)→N[a]? = some x→N[b]? = some y→x.args[k]? = some u→y.args[k]? = some v→Pa fe u p→Pa fe v q→Btw p q c→D c
def Good (N:List Nd) (sd:List Sd) (fe:List Ed) (D:Nat→Prop) (T:Int→Prop) [DecidablePred T] (n:Nat):Prop:=D n→∀(j:Nat) (l:Lb),fe[n]? = some ((j:Int),l)→Cong N (Mof (withT sd T)) n j
theorem zbr {p q r:List Nat} {n:Nat} (h:Btw p r n):Btw p q n∨Btw q r n:=by
 unfold Btw at *;by_cases hq:n∈q
 ·rcases h with ⟨h1,h2⟩ | ⟨h1,h2⟩
  ·exact .inr (.inl ⟨hq,h2⟩)
  ·exact .inl (.inr ⟨hq,h2⟩)
 ·rcases h with ⟨h1,h2⟩ | ⟨h1,h2⟩
  ·exact .inl (.inl ⟨h1,hq⟩)
  ·exact .inr (.inr ⟨h1,hq⟩)
theorem zde {p q:List Nat} {n:Nat} (h:Btw p q n):Btw q p n:=Or.symm h
theorem pa_lt {i:Nat} {p:List Nat} (h:Pa fe i p):i<fe.length:=by
 cases h with
 | root h=>exact (List.getElem?_eq_some_iff.1 h).1
 | step h _=>exact (List.getElem?_eq_some_iff.1 h).1
theorem z2s {i j:Nat} {l:Lb} {p q:List Nat} (hU:US fe i j l) (hp:Pa fe i p) (hq:Pa fe j q) {n:Nat} (h:Btw p q n):(n=i∧fe[i]? = some ((j:Int),l))∨(n=j∧fe[j]? = some ((i:Int),l)):=by
 rcases hU with hU | hU
 ·have:=hp.uniq (Pa.step hU hq);subst this;rcases h with ⟨h1,h2⟩ | ⟨h1,h2⟩
  ·rcases List.mem_cons.1 h1 with e | e
   ·exact .inl ⟨e,hU⟩
   ·exact absurd e h2
  ·exact absurd (List.mem_cons_of_mem _ h1) h2
 ·have:=hq.uniq (Pa.step hU hp);subst this;rcases h with ⟨h1,h2⟩ | ⟨h1,h2⟩
  ·exact absurd (List.mem_cons_of_mem _ h1) h2
  ·rcases List.mem_cons.1 h1 with e | e
   ·exact .inr ⟨e,hU⟩
   ·exact absurd e h2
theorem zhw {i j:Nat} {l:Lb} {p q:List Nat} (hU:US fe i j l) (hp:Pa fe i p) (hq:Pa fe j q):p.getLast? = q.getLast? := by
 rcases hU with hU | hU
 ·have:=hp.uniq (Pa.step hU hq);subst this;obtain ⟨r,rfl⟩:=hq.head;simp
 ·have:=hq.uniq (Pa.step hU hp);subst this;obtain ⟨r,rfl⟩:=hp.head;simp
theorem us_lt {i j:Nat} {l:Lb} (hall:∀i,i<fe.length→∃p,Pa fe i p) (hU:US fe i j l):(∃p,Pa fe i p)∧∃q,Pa fe j q:=by
 have one:∀{i j:Nat},fe[i]? = some ((j:Int),l)→(∃p,Pa fe i p)∧∃q,Pa fe j q:=fun {i j} h=>by
  obtain ⟨p,hp⟩:=hall i (List.getElem?_eq_some_iff.1 h).1;refine ⟨⟨p,hp⟩,?_⟩;cases hp with
  | root h'=>rw [h] at h'; simp only [Option.some.injEq,Prod.mk.injEq] at h'; omega
  | step h' hp =>
   rw [h] at h';simp only [Option.some.injEq,Prod.mk.injEq] at h';obtain rfl:_=_:=Int.ofNat.inj h'.1;exact ⟨_,hp⟩
 rcases hU with h | h
 ·exact one h
 ·exact (one h).symm
theorem zd (hall:∀i,i<fe.length→∃p,Pa fe i p) {i j:Nat} (h:Ju N sd (US fe) i j):(∀p q,Pa fe i p→Pa fe j q→p.getLast? = q.getLast?)∧((∃p,Pa fe i p)↔∃q,Pa fe j q):=by
 have edge:∀{i j l},US fe i j l→(∀p q,Pa fe i p→Pa fe j q→p.getLast? = q.getLast?)∧((∃p,Pa fe i p)↔∃q,Pa fe j q):=fun hU=>⟨fun p q hp hq=>zhw hU hp hq,by
  obtain ⟨h1,h2⟩:=us_lt hall hU;exact ⟨fun _=>h2,fun _=>h1⟩⟩
 induction h with
 | refl i=>exact ⟨fun p q hp hq=>by rw [hp.uniq hq],Iff.rfl⟩
 | symm _ ih=>exact ⟨fun p q hp hq=>(ih.1 q p hq hp).symm,ih.2.symm⟩
 | trans _ _ h1 h2 =>
  refine ⟨fun p q hp hq=>?_,h1.2.trans h2.2⟩;obtain ⟨r,hr⟩:=h1.2.1 ⟨p,hp⟩;exact (h1.1 p r hp hr).trans (h2.1 r q hr hq)
 | tag hU _=>exact edge hU
 | cong hU _ _ _ _ _ _ _ _=>exact edge hU
theorem along {C:Nat→Nat→Prop} (hr:∀i,C i i) (ht:∀i j k,C i j→C j k→C i k):∀(x:List Nat) {i:Nat} {c:List Nat} {z:Nat},Pa fe i (x++z :: c)→(∀n∈x,∀(j:Nat) (l:Lb),fe[n]? = some ((j:Int),l)→C n j)→C i z:=by
 intro x;induction x with
 | nil =>
  intro i c z hp _;obtain ⟨r,hr'⟩:=hp.head;simp only [List.nil_append,List.cons.injEq] at hr';rw [hr'.1];exact hr i
 | cons n x ih =>
  intro i c z hp hC;generalize hq:(n :: x)++z :: c=q at hp;cases hp with
  | root h=>simp at hq
  | step h hp =>
   simp only [List.cons_append,List.cons.injEq] at hq;obtain ⟨rfl,rfl⟩:=hq;exact ht _ _ _ (hC n List.mem_cons_self _ _ h) (ih hp fun m hm=>hC m (List.mem_cons_of_mem _ hm))
theorem zdh {i j:Nat} {p q:List Nat} (hp:Pa fe i p) (hq:Pa fe j q) (hl:p.getLast? = q.getLast?) {C:Nat→Nat→Prop} (hr:∀i,C i i) (hs:∀i j,C i j→C j i) (ht:∀i j k,C i j→C j k→C i k)
  (hC:∀n,Btw p q n→∀(j:Nat) (l:Lb),fe[n]? = some ((j:Int),l)→C n j):C i j:=by
 obtain ⟨x,y,hst⟩:=Strip.exists p q;have hb:=hst.btw hp hq;obtain ⟨c,rfl,rfl,hd⟩:=hst;cases c with
 | nil =>
  exfalso;simp only [List.append_nil] at hl hp hq;obtain ⟨r1,e1⟩:=hp.head;obtain ⟨r2,e2⟩:=hq.head;rcases hd with h | h | h
  ·rw [h] at e1; cases e1
  ·rw [h] at e2; cases e2
  ·exact h hl
 | cons z c =>
  have h1:=along hr ht x hp fun n hn j l hnj=>hC n ((hb n).1 (List.mem_append_left _ hn)) j l hnj;have h2:=along hr ht y hq fun n hn j l hnj=>hC n ((hb n).1 (List.mem_append_right _ hn)) j l hnj;exact ht _ _ _ h1 (hs _ _ h2)
theorem ju_out (hall:∀i,i<fe.length→∃p,Pa fe i p) {i j:Nat} (h:Ju N sd (US fe) i j) (hP:¬∃p,Pa fe i p):i=j:=by
 induction h with
 | refl i=>rfl
 | symm h ih=>exact (ih fun hh=>hP ((zd hall h).2.1 hh)).symm
 | trans h1 _ ih1 ih2=>exact (ih1 hP).trans (ih2 fun hh=>hP ((zd hall h1).2.2 hh))
 | tag hU _=>exact absurd (us_lt hall hU).1 hP
 | cong hU _ _ _ _ _ _ _ _=>exact absurd (us_lt hall hU).1 hP
theorem zl6 (hall:∀i,i<fe.length→∃p,Pa fe i p) {D:Nat→Prop} (hc:Clo N fe D T) {i j:Nat} (h:Ju N sd (US fe) i j):∀p q,Pa fe i p→Pa fe j q→∀n,Btw p q n→Good N sd fe D T n:=by
 induction h with
 | refl i =>
  intro p q hp hq n hn;rw [hp.uniq hq] at hn;rcases hn with ⟨h1,h2⟩ | ⟨h1,h2⟩ <;> exact absurd h1 h2
 | symm _ ih=>exact fun p q hp hq n hn=>ih q p hq hp n (zde hn)
 | trans h1 _ ih1 ih2 =>
  intro p q hp hq n hn;obtain ⟨r,hr⟩:=(zd hall h1).2.1 ⟨p,hp⟩;rcases zbr (q:=r) hn with h | h
  ·exact ih1 p r hp hr n h
  ·exact ih2 r q hr hq n h
 | tag hU ht =>
  rename_i i j t f o;intro p q hp hq n hn hD j' l' hnj;rcases z2s hU hp hq hn with ⟨rfl,h⟩ | ⟨rfl,h⟩
  ·rw [h] at hnj;simp only [Option.some.injEq,Prod.mk.injEq] at hnj;obtain rfl:_=_:=Int.ofNat.inj hnj.1;exact z8t ht (hc.tag n _ t f o hD h)
  ·rw [h] at hnj;simp only [Option.some.injEq,Prod.mk.injEq] at hnj;obtain rfl:_=_:=Int.ofNat.inj hnj.1;exact z8t ht.symm (hc.tag n _ t f o hD h)
 | cong hU hab ha hb h1 h2 h3 hj ih =>
  rename_i i j a b t x y;intro p q hp hq n hn hD j' l' hnj;have main:Cong N (Mof (withT sd T)) a b:=by
   refine .congr ha hb h1 h2 h3 fun k u v hu hv=>?_;have hju:=hj k u v hu hv;by_cases hP:∃p,Pa fe u p
   ·obtain ⟨pu,hpu⟩:=hP;obtain ⟨pv,hpv⟩:=(zd hall hju).2.1 ⟨pu,hpu⟩;refine zdh hpu hpv ((zd hall hju).1 _ _ hpu hpv) (fun i=>.refl i) (fun i j h=>h.symm) (fun i j k h1 h2=>h1.trans h2) fun c hbc=>?_;have hDc:D c:=by
     rcases z2s hU hp hq hn with ⟨rfl,h⟩ | ⟨rfl,h⟩
     ·exact hc.cong n _ a b t x y k u v pu pv c hD h ha hb hu hv hpu hpv hbc
     ·exact hc.cong n _ a b t x y k u v pu pv c hD h ha hb hu hv hpu hpv hbc
    exact ih k u v hu hv pu pv hpu hpv c hbc hDc
   ·
    have:u=v:=ju_out hall hju hP;rw [this]; exact .refl v
  rcases z2s hU hp hq hn with ⟨rfl,h⟩ | ⟨rfl,h⟩ <;>
  ·rw [h] at hnj;simp only [Option.some.injEq,Prod.mk.injEq] at hnj;obtain rfl:_=_:=Int.ofNat.inj hnj.1;rcases hab with ⟨rfl,rfl⟩ | ⟨rfl,rfl⟩
   ·first | exact main | exact main.symm
   ·first | exact main.symm | exact main
theorem why_ok (hall:∀i,i<fe.length→∃p,Pa fe i p) {D:Nat→Prop} (hc:Clo N fe D T) {i j:Nat} (h:Ju N sd (US fe) i j) {p q:List Nat} (hp:Pa fe i p) (hq:Pa fe j q) (hD:∀n,Btw p q n→D n):Cong N (Mof (withT sd T)) i j :=
 zdh hp hq ((zd hall h).1 p q hp hq) (fun i=>.refl i) (fun i j h=>h.symm) (fun i j k h1 h2=>h1.trans h2) fun n hn j l hnj=>zl6 hall hc h p q hp hq n hn (hD n hn) j l hnj
end
end Go.Abs.Eg
namespace Go.Abs.Eg
def USx (fe:List Ed) (c i j:Nat) (l:Lb):Prop:=(i≠c∧fe[i]? = some ((j:Int),l))∨(j≠c∧fe[j]? = some ((i:Int),l))
def Ed1 (c:Nat) (z:Ed) (i j:Nat) (l:Lb):Prop:=(i=c∧z=((j:Int),l))∨(j=c∧z=((i:Int),l))
theorem us_at {fe:List Ed} {c:Nat} (hc:c<fe.length) (i j:Nat) (l:Lb):US fe i j l↔USx fe c i j l∨Ed1 c fe[c] i j l:=by
 have one:∀i j:Nat,fe[i]? = some ((j:Int),l)↔(i≠c∧fe[i]? = some ((j:Int),l))∨(i=c∧fe[c]=((j:Int),l)):=fun i j=>by
  by_cases e:i=c
  ·subst e;rw [List.getElem?_eq_getElem hc];simp
  ·simp [e]
 unfold US USx Ed1;have h1:=one i j;have h2:=one j i;constructor
 ·rintro (h | h)
  ·exact (h1.1 h).elim (fun h=>.inl (.inl h)) fun h=>.inr (.inl h)
  ·exact (h2.1 h).elim (fun h=>.inl (.inr h)) fun h=>.inr (.inr h)
 ·rintro ((h | h) | (h | h))
  ·exact .inl h.2
  ·exact .inr h.2
  ·exact .inl (h1.2 (.inr h))
  ·exact .inr (h2.2 (.inr h))
theorem us_set {fe:List Ed} {c:Nat} (hc:c<fe.length) (z:Ed) (i j:Nat) (l:Lb):US (fe.set c z) i j l↔USx fe c i j l∨Ed1 c z i j l:=by
 rw [us_at (fe:=fe.set c z) (c:=c) (by simpa using hc)];have h1:USx (fe.set c z) c i j l↔USx fe c i j l:=by
  unfold USx;refine or_congr (and_congr_right fun h=>?_) (and_congr_right fun h=>?_)
  ·rw [List.getElem?_set_ne (fun e=>h e.symm)]
  ·rw [List.getElem?_set_ne (fun e=>h e.symm)]
 rw [h1];simp
def Fl (prev:Int) (c:Nat) (lb:Lb) (i j:Nat) (l:Lb):Prop:=∃p:Nat,prev=p∧l=lb∧(i=p∧j=c∨i=c∧j=p)
theorem ed1_fl (c:Nat) (prev:Int) (lb:Lb) (i j:Nat) (l:Lb):Ed1 c (if prev<0 then (-1,0,0,0,false) else (prev,lb)) i j l↔Fl prev c lb i j l:=by
 unfold Ed1 Fl;by_cases h:prev<0
 ·rw [if_pos h];constructor
  ·rintro (⟨_,h⟩ | ⟨_,h⟩)
   ·simp only [Prod.mk.injEq] at h; omega
   ·simp only [Prod.mk.injEq] at h; omega
  ·rintro ⟨p,hp,_⟩; omega
 ·rw [if_neg h];simp only [Prod.mk.injEq];constructor
  ·rintro (⟨h1,h2,h3⟩ | ⟨h1,h2,h3⟩)
   ·exact ⟨j,h2,h3.symm,.inr ⟨h1,rfl⟩⟩
   ·exact ⟨i,h2,h3.symm,.inl ⟨rfl,h1⟩⟩
  ·rintro ⟨p,hp,h3,⟨h1,h2⟩ | ⟨h1,h2⟩⟩
   ·exact .inr ⟨h2,by rw [h1]; exact hp,h3.symm⟩
   ·exact .inl ⟨h1,by rw [h2]; exact hp,h3.symm⟩
theorem zjb (c:Nat) (z:Ed) (i j:Nat) (l:Lb) (hz:∃n:Nat,z.1=n):Ed1 c z i j l↔Fl (c:Int) z.1.toNat z.2 i j l:=by
 obtain ⟨t,lb⟩:=z;obtain ⟨n,rfl⟩:=hz;unfold Ed1 Fl;simp only [Prod.mk.injEq,Int.toNat_natCast];constructor
 ·rintro (⟨h1,h2,h3⟩ | ⟨h1,h2,h3⟩)
  ·exact ⟨c,rfl,h3.symm,.inl ⟨h1,by omega⟩⟩
  ·exact ⟨c,rfl,h3.symm,.inr ⟨by omega,h1⟩⟩
 ·rintro ⟨p,hp,h3,⟨h1,h2⟩ | ⟨h1,h2⟩⟩
  ·exact .inl ⟨by omega,by omega,h3.symm⟩
  ·exact .inr ⟨by omega,by omega,h3.symm⟩
theorem zjd (c:Nat) (lb:Lb) (i j:Nat) (l:Lb):¬Ed1 c (-1,lb) i j l:=by
 rintro (⟨_,h⟩ | ⟨_,h⟩) <;> simp only [Prod.mk.injEq] at h <;> omega
theorem LI.us {N:List Nd} {sd:List Sd} {fe fe':List Ed} {n:Nat} {o:Nat→Nat} (h:LI N sd fe n o) (hU:∀i j l,US fe i j l→US fe' i j l):LI N sd fe' n o:=fun i j hi hj e=>(h i j hi hj e).mono (fun _ _ h=>h) (fun _ h=>h) hU
theorem zjr {g:St} {M q:List (Nat×Nat)} {s t:Nat} {fo:List Int} {a:Nat} (h:MI g M q) (ha:a<g.n) (hs:g.o a=s) (u k:Nat) (hm:(u,k)∈(joinSt g s t fo).2) :
  u<g.n∧k<g.n∧(joinSt g s t fo).1.sig u=(joinSt g s t fo).1.sig k:=by
 have uS:=h.uses a ha; rw [hs] at uS;have useLt:∀u∈(g.c s).uses,u<g.n:=fun u hu=>let ⟨x,hx,_⟩:=(uS u).1 hu; (List.getElem?_eq_some_iff.1 hx).1
 have stay:∀{i x},g.N[i]? = some x→i ∉ (g.c s).uses→(joinSt g s t fo).1.sig i=g.sig i:=by
  intro i x hx hu;rw [zdp h.len h.args hx,sig_of hx];exact zdz fun a ha e=>hu ((uS i).2 ⟨x,hx,a,ha,e⟩)
 have from_:=zbv (sg:=(joinSt g s t fo).1.sig) (g.c s).uses (delS g (g.c s).uses,[]);have hout:(joinSt g s t fo).2=(insS (joinSt g s t fo).1.sig (g.c s).uses (delS g (g.c s).uses,[])).2:=rfl;rw [hout] at hm;rcases from_.2 u k hm with hm | ⟨h1,h2⟩
 ·cases hm
 ·have hu:=useLt u h1;rcases h2 with h2 | ⟨h2,h3⟩
  ·have h2:delS g (g.c s).uses ((joinSt g s t fo).1.sig u)=some k:=h2;unfold delS at h2;cases hg:g.sigs ((joinSt g s t fo).1.sig u) with
   | none=>rw [hg] at h2; cases h2
   | some u' =>
    rw [hg] at h2;simp only at h2;split at h2
    ·cases h2
    ·rename_i hn;cases h2;obtain ⟨h4,h5⟩:=h.s1 _ _ hg;obtain ⟨x,hx⟩:=J6 h4;exact ⟨hu,h4,by rw [stay hx hn,h5]⟩
  ·exact ⟨hu,useLt k h2,h3.symm⟩
theorem zf8 {g:St} {sd:List Sd} {fe:List Ed} (ha:∀(i:Nat) x,g.N[i]? = some x→∀a∈x.args,a<i) (h:LI g.N sd fe g.n g.o) {u k:Nat} (hu:u<g.n) (hk:k<g.n) (hs:g.sig u=g.sig k) (t:Int):LOK g.N sd (US fe) u k (t,(u:Int),(k:Int),true):=by
 obtain ⟨x,hx⟩:=J6 hu;obtain ⟨y,hy⟩:=J6 hk;rw [sig_of hx,sig_of hy] at hs;obtain ⟨h1,h2,h3,h4⟩:=key_eq hs;refine .inr ⟨rfl,u,k,x,y,rfl,rfl,.inl ⟨rfl,rfl⟩,hx,hy,h1,h2,h3,fun n a b ha' hb'=>?_⟩;have h5:=ha u x hx a (List.mem_of_getElem? ha');have h6:=ha k y hy b (List.mem_of_getElem? hb');exact h a b (by omega) (by omega) (h4 n a b ha' hb')
theorem zkt {fe:List Ed} (z:Lb) {i j:Nat} {l:Lb} (h:US fe i j l):US (fe++[(-1,z)]) i j l:=by
 rcases h with h | h
 ·exact .inl (by rw [List.getElem?_append_left (List.getElem?_eq_some_iff.1 h).1]; exact h)
 ·exact .inr (by rw [List.getElem?_append_left (List.getElem?_eq_some_iff.1 h).1]; exact h)
theorem LI.beg {g:St} {sd:List Sd} {fe:List Ed} (h:LI g.N sd fe g.n g.o) (hl:g.of.length=g.n) (hc:∀i,i<g.n→g.o i<g.cls.length) (y:Nd) (z:Lb):LI (g.N++[y]) sd (fe++[(-1,z)]) (g.n+1) (begSt g y).o:=by
 intro i j hi hj e;by_cases hin:i=g.n
 ·by_cases hjn:j=g.n
  ·rw [hin,hjn]; exact .refl _
  ·exfalso;rw [hin,z5d hl,Z5 hl (by omega)] at e;have:=hc j (by omega);omega
 ·by_cases hjn:j=g.n
  ·exfalso;rw [hjn,z5d hl,Z5 hl (by omega)] at e;have:=hc i (by omega);omega
  ·rw [Z5 hl (by omega),Z5 hl (by omega)] at e;refine (h i j (by omega) (by omega) e).mono (fun k x hk=>?_) (fun _ h=>h) fun _ _ _ hu=>zkt z hu;rw [List.getElem?_append_left (List.getElem?_eq_some_iff.1 hk).1];exact hk
def nd (n:Nat):Nat:=if h:n<10 then 1 else nd (n / 10)+1
termination_by n
decreasing_by exact Nat.div_lt_self (by omega) (by omega)
theorem z31 {n:Nat} (h:n<10):nd n=1:=by rw [nd]; simp [h]
theorem nd_big {n:Nat} (h:¬n<10):nd n=nd (n / 10)+1:=by rw [nd]; simp [h]
theorem nd_pos (n:Nat):1≤nd n:=by
 by_cases h:n<10
 ·rw [z31 h]; exact Nat.le_refl _
 ·rw [nd_big h]; omega
theorem nd_lt:∀(n:Nat),n<10 ^ nd n:=by
 intro n;induction n using Nat.strongRecOn with
 | ind n ih =>
  by_cases h:n<10
  ·rw [z31 h]; omega
  ·rw [nd_big h,Nat.pow_succ];have:=ih (n / 10) (Nat.div_lt_self (by omega) (by omega));omega
theorem nd_le:∀(d n:Nat),n<10 ^ (d+1)→nd n≤d+1:=by
 intro d;induction d with
 | zero=>intro n h; rw [z31 (by simpa using h)]; exact Nat.le_refl _
 | succ d ih =>
  intro n h;by_cases h':n<10
  ·rw [z31 h']; omega
  ·rw [nd_big h'];have:=ih (n / 10) (by rw [Nat.pow_succ] at h; omega);omega
def decD:Nat→Nat→List Nat
 | 0,_=>[]
 | d+1,n=>decD d (n / 10)++[48+n % 10]
theorem z9c:∀(d n:Nat),(decD d n).length=d
 | 0,_=>rfl
 | d+1,n=>by simp [decD,z9c d]
def valD (l:List Nat):Nat:=l.foldl (fun a b=>a*10+(b - 48)) 0
theorem z9i:∀(d n:Nat),n<10 ^ d→valD (decD d n)=n
 | 0,n,h=>by simp at h; subst h; rfl
 | d+1,n,h=>by
  unfold decD valD;rw [List.foldl_append];have:=z9i d (n / 10) (by rw [Nat.pow_succ] at h; omega);unfold valD at this;rw [this];simp only [List.foldl_cons,List.foldl_nil];omega
theorem z94:∀(d n:Nat) (b:Nat),b∈decD d n→48≤b∧b≤57
 | 0,_,b,h=>by cases h
 | d+1,n,b,h=>by
  unfold decD at h;rcases List.mem_append.1 h with h | h
  ·exact z94 d _ b h
  ·rw [List.mem_singleton] at h; omega
def itoaL (a:Int):List Nat:=(if a<0 then [45] else [])++decD (nd a.natAbs) a.natAbs
theorem z7l (a:Int) (b:Nat) (h:b∈itoaL a):b=45∨48≤b∧b≤57:=by
 unfold itoaL at h;rcases List.mem_append.1 h with h | h
 ·split at h
  ·rw [List.mem_singleton] at h; exact .inl h
  ·cases h
 ·exact .inr (z94 _ _ _ h)
theorem zdw {n n':Nat} (h:decD (nd n) n=decD (nd n') n'):n=n':=by
 rw [← z9i _ _ (nd_lt n),h,z9i _ _ (nd_lt n')]
theorem zbt (n:Nat):∃b l,decD (nd n) n=b :: l∧48≤b:=by
 cases h:decD (nd n) n with
 | nil =>
  have:=congrArg List.length h;rw [z9c] at this;have:=nd_pos n;simp at *;omega
 | cons b l=>exact ⟨b,l,rfl,(z94 (nd n) n b (by rw [h]; simp)).1⟩
theorem zc2 {a b:Int} (h:itoaL a=itoaL b):a=b:=by
 unfold itoaL at h;obtain ⟨x,l,hx,hx48⟩:=zbt a.natAbs;obtain ⟨y,l',hy,hy48⟩:=zbt b.natAbs;by_cases ha:a<0 <;> by_cases hb:b<0
 ·rw [if_pos ha,if_pos hb] at h;have:=zdw (List.append_cancel_left h);omega
 ·rw [if_pos ha,if_neg hb,hy] at h;simp at h;omega
 ·rw [if_neg ha,if_pos hb,hx] at h;simp at h;omega
 ·rw [if_neg ha,if_neg hb] at h;have:=zdw (List.append_cancel_left h);omega
theorem zay:∀{l1 l2 r1 r2:List Nat},(∀b∈l1,b≠32)→(∀b∈l2,b≠32)→(r1=[]∨∃t,r1=32 :: t)→(r2=[]∨∃t,r2=32 :: t)→l1++r1=l2++r2→l1=l2∧r1=r2
 | [],[],r1,r2,_,_,_,_,h=>⟨rfl,by simpa using h⟩
 | [],b :: l2,r1,r2,_,h2,h3,_,h=>by
  exfalso;rcases h3 with rfl | ⟨t,rfl⟩
  ·simp at h
  ·simp at h;exact h2 b (by simp) h.1.symm
 | a :: l1,[],r1,r2,h1,_,_,h4,h=>by
  exfalso;rcases h4 with rfl | ⟨t,rfl⟩
  ·simp at h
  ·simp at h;exact h1 a (by simp) h.1
 | a :: l1,b :: l2,r1,r2,h1,h2,h3,h4,h=>by
  simp only [List.cons_append,List.cons.injEq] at h;obtain ⟨e1,e2⟩:=zay (fun c hc=>h1 c (List.mem_cons_of_mem _ hc)) (fun c hc=>h2 c (List.mem_cons_of_mem _ hc)) h3 h4 h.2;exact ⟨by rw [h.1,e1],e2⟩
def argsL (l:List Nat):List Nat:=l.flatMap fun (a:Nat)=>32 :: itoaL (a:Int)
theorem z2e (l:List Nat):argsL l=[]∨∃t,argsL l=32 :: t:=by
 cases l with
 | nil=>exact .inl rfl
 | cons a l=>exact .inr ⟨_,rfl⟩
theorem z83 (a:Int):∀b∈itoaL a,b≠32:=fun b hb=>by
 have:=z7l a b hb;omega
theorem zbk:∀{l l':List Nat},argsL l=argsL l'→l=l'
 | [],[],_=>rfl
 | [],a :: l,h=>by simp [argsL] at h
 | a :: l,[],h=>by simp [argsL] at h
 | a :: l,b :: l',h=>by
  have h:32 :: (itoaL (a:Int)++argsL l)=32 :: (itoaL (b:Int)++argsL l'):=h;simp only [List.cons.injEq,true_and] at h;obtain ⟨e1,e2⟩:=zay (z83 _) (z83 _) (z2e l) (z2e l') h;have e1:=zc2 e1;have e1:a=b:=by omega
  rw [e1,zbk e2]
def txL (k:Key):List Nat:=(if k.1 then 118 else 115) :: (itoaL k.2.1++argsL k.2.2)
theorem zl3 {k k':Key} (h:txL k=txL k'):k=k':=by
 obtain ⟨v,s,l⟩:=k;obtain ⟨v',s',l'⟩:=k';unfold txL at h;simp only [List.cons.injEq] at h;obtain ⟨h1,h2⟩:=h;have ev:v=v':=by cases v <;> cases v' <;> simp at h1 <;> rfl
 obtain ⟨e1,e2⟩:=zay (z83 _) (z83 _) (z2e l) (z2e l') h2;rw [ev,zc2 e1,zbk e2]
def bytesL (l:List Nat):ByteArray:=⟨(l.map Nat.toUInt8).toArray⟩
theorem za1:∀{l l':List Nat},(∀b∈l,b<256)→(∀b∈l',b<256)→l.map Nat.toUInt8=l'.map Nat.toUInt8→l=l'
 | [],[],_,_,_=>rfl
 | [],b :: l',_,_,h=>by simp at h
 | a :: l,[],_,_,h=>by simp at h
 | a :: l,b :: l',h1,h2,h=>by
  simp only [List.map_cons,List.cons.injEq] at h;have ha:=h1 a (by simp);have hb:=h2 b (by simp);have:a=b:=by
   have:=congrArg UInt8.toNat h.1
   simpa [Nat.toUInt8,Nat.mod_eq_of_lt ha,Nat.mod_eq_of_lt hb] using this
  rw [this,za1 (fun c hc=>h1 c (List.mem_cons_of_mem _ hc)) (fun c hc=>h2 c (List.mem_cons_of_mem _ hc)) h.2]
theorem zfq {l l':List Nat} (h1:∀b∈l,b<256) (h2:∀b∈l',b<256) (h:bytesL l=bytesL l'):l=l':=by
 unfold bytesL at h;simp only [ByteArray.mk.injEq] at h;exact za1 h1 h2 (by simpa using h)
theorem txL_lt (k:Key):∀b∈txL k,b<256:=by
 intro b hb;unfold txL at hb;rcases List.mem_cons.1 hb with h | h
 ·rw [h]; split <;> omega
 ·rcases List.mem_append.1 h with h | h
  ·have:=z7l _ _ h; omega
  ·unfold argsL at h;obtain ⟨a,_,ha⟩:=List.mem_flatMap.1 h;rcases List.mem_cons.1 ha with h | h
   ·omega
   ·have:=z7l _ _ h; omega
def txK (k:Key):ByteArray:=bytesL (txL k)
theorem zka (k k':Key) (h:txK k=txK k'):k=k':=zl3 (zfq (txL_lt k) (txL_lt k') h)
theorem zco (l l':List Nat):bytesL (l++l')=bytesL l++bytesL l':=by
 unfold bytesL;rw [List.map_append];apply ByteArray.ext;simp [ByteArray.data_append]
theorem z8w (l:List Nat):(bytesL l).size=l.length:=by
 show ((l.map Nat.toUInt8).toArray).size=_;simp
end Go.Abs.Eg
namespace Go.Abs
variable {P:Program}
def BornAt (H:AH) (id:Nat):Prop:=∃es n opn esz,H.get id=some { obj:=.map es n,opn:=opn,esz:=esz,ro:=false }∧(es.toList.map (·.born)).Nodup∧∀e∈es.toList,e.born<n
theorem BornAt.fr {W:Nat→Prop} {H H':AH} {id:Nat} (h:BornAt H id) (hf:Fm W H H') (hlt:id<H.next) (hw:¬W id):BornAt H' id:=by
 obtain ⟨es,n,opn,esz,h1,h2⟩:=h;exact ⟨es,n,opn,esz,hf.2 _ _ hlt hw h1,h2⟩
theorem BornAt.new {H:AH}:BornAt (H.push mapB) H.next:=⟨#[],0,false,0,by rw [AH.get_push_same]; rfl,by simp,by simp⟩
theorem BornAt.up {H H':AH} {id m:Nat} {t:TypeId} {k v:Value} (h:BornAt H id) (hu:upM P m t H (some id) k v=some H'):BornAt H' id:=by
 obtain ⟨es,n,opn,esz,hg,hnd,hlt⟩:=h;have hm:aMapAt m H (.map (some id))=bif Nat.ble m id then some (id,{ obj:=.map es n,opn:=opn,esz:=esz,ro:=false },es,n) else none:=by
  unfold aMapAt;simp only [hg]
 have aux:∀v' H1,aUpdate P m t (.map (some id)) k v H=some (v',H1)→BornAt H1 id:=by
  intro v' H1 ha;unfold aUpdate at ha;split at ha
  ·rename_i kt e hP;rw [hm] at ha;cases hb:Nat.ble m id with
   | false=>rw [hb] at ha; cases ha
   | true =>
    rw [hb] at ha;simp only [cond_true] at ha;split at ha
    ·rename_i i w hc hf;cases hs:Instr.sameBits 10000 (((es[i]?).map (·.key)).getD k) k with
     | false=>rw [hs] at ha; cases ha
     | true =>
      rw [hs] at ha;simp only [cond_true,Option.some.injEq,Prod.mk.injEq] at ha;obtain ⟨_,rfl⟩:=ha;have e1:(es.modify i fun e=>{ e with key:=k,val:=v }).toList.map (·.born)=es.toList.map (·.born):=by
       rw [Array.toList_modify];refine List.ext_getElem? fun j=>?_;simp only [List.getElem?_map,List.getElem?_modify];by_cases hij:i=j
       ·subst hij;cases es.toList[i]? <;> simp
       ·simp [hij]
      refine ⟨_,_,_,_,AH.get_put_same _ _ _,by rw [e1]; exact hnd,fun x hx=>?_⟩;have hx':x.born∈(es.modify i fun e=>{ e with key:=k,val:=v }).toList.map (·.born):=List.mem_map.2 ⟨x,hx,rfl⟩;rw [e1] at hx';obtain ⟨y,hy,he⟩:=List.mem_map.1 hx';rw [← he]; exact hlt y hy
    ·rename_i hc hf;simp only [Option.some.injEq,Prod.mk.injEq] at ha;obtain ⟨_,rfl⟩:=ha;refine ⟨_,_,_,_,AH.get_put_same _ _ _,?_,fun x hx=>?_⟩
     ·rw [Array.toList_push,List.map_append];refine List.nodup_append.2 ⟨hnd,by simp,fun a ha b hb he=>?_⟩;simp only [List.map_cons,List.map_nil,List.mem_singleton] at hb;obtain ⟨y,hy,rfl⟩:=List.mem_map.1 ha;have:=hlt y hy;omega
     ·rw [Array.toList_push] at hx;rcases List.mem_append.1 hx with hx | hx
      ·have:=hlt x hx; omega
      ·rw [List.mem_singleton] at hx;rw [hx];exact Nat.lt_succ_self n
    ·cases ha
  ·cases ha
 unfold upM at hu;split at hu
 ·rename_i cs H1 h1;split at hu
  ·cases hu;exact aux _ _ h1
  ·cases hu
 ·cases hu
structure MapB (H:AH) (id:Nat) (f:Int→Option Value):Prop where
 u:MapU (Value.int .i64) H id f
 b:BornAt H id
theorem MapB.fr {W:Nat→Prop} {H H':AH} {id:Nat} {f:Int→Option Value} (h:MapB H id f) (hf:Fm W H H') (hlt:id<H.next) (hw:¬W id):MapB H' id f:=⟨h.u.fr hf hlt hw,h.b.fr hf hlt hw⟩
theorem MapB.new {H:AH}:MapB (H.push mapB) H.next fun _=>none:=⟨MapU.new _,BornAt.new⟩
theorem MapB.up {t kt e:TypeId} (hK:KeyK P kt (Value.int .i64)) (ht:P.underlying t=some (.map kt e)) {m:Nat} {H:AH} {id:Nat} {f:Int→Option Value} (h:MapB H id f) (hm:m≤id) (k:Int) (v:Value) :
  ∃H',upM P m t H (some id) (.int .i64 k) v=some H'∧MapB H' id (fun k'=>if k'=k then some v else f k')∧Fm (fun i=>i=id) H H'∧H'.next=H.next:=by
 obtain ⟨H',h1,h2,h3,h4⟩:=z9b hK ht h.u hm k v;exact ⟨H',h1,⟨h2,h.b.up h1⟩,h3,h4⟩
theorem z4f:∀{l l':List Int},l.Nodup→(∀b∈l,b∈l')→l.length≤l'.length
 | [],_,_,_=>Nat.zero_le _
 | x :: l,l',hn,hs=>by
  rw [List.nodup_cons] at hn;have h1:=z4f hn.2 (l':=l'.erase x) fun b hb=>(List.mem_erase_of_ne (fun e:b=x=>hn.1 (by rw [← e]; exact hb))).2 (hs b (List.mem_cons_of_mem _ hb));have h2:=List.length_erase_of_mem (hs x List.mem_cons_self);have h3:=List.length_pos_of_mem (hs x List.mem_cons_self);simp only [List.length_cons];omega
theorem zek {l:List (Int×Value)} {k:Int}:(look l k).isSome=true↔k∈l.map (·.1):=by
 unfold look;rw [Option.isSome_map,List.find?_isSome];constructor
 ·rintro ⟨x,hx,he⟩
  exact List.mem_map.2 ⟨x,hx,by simpa using he⟩
 ·intro h;obtain ⟨x,hx,he⟩:=List.mem_map.1 h;exact ⟨x,hx,by simpa using he⟩
theorem z2t {l:List Int} (h:l.Nodup):(sortI l).Pairwise (·<·):=by
 have ht:∀a b c:Int,decide (a≤b)=true→decide (b≤c)=true→decide (a≤c)=true:=fun a b c h1 h2=>by simp at *; omega
 have hc:∀a b:Int,(decide (a≤b)||decide (b≤a))=true:=fun a b=>by simp; omega
 have h1:=List.pairwise_mergeSort ht hc l;have h2:(sortI l).Nodup:=(List.mergeSort_perm l _).nodup_iff.2 h;exact (h1.and h2).imp fun {a b} hh=>by
  have:=hh.1;simp at this;have:=hh.2;omega
theorem z7j {l:List Int} {z:Int}:z∈sortI l↔z∈l:=(List.mergeSort_perm l _).mem_iff
theorem zd7:∀{es:List MapEntry} {l:List (Int×Value)},Ents (Value.int .i64) es l→keysZ es=some (l.map (·.1))
 | [],[],_=>rfl
 | [],_ :: _,h=>by simp [Ents] at h
 | _ :: _,[],h=>by simp [Ents] at h
 | e :: es,x :: l,h=>by
  have h':=h;simp only [Ents,List.map_cons,List.cons.injEq,Prod.mk.injEq] at h';have h1:keyZ e=some x.1:=by unfold keyZ; rw [h'.1.1]
  simp only [keysZ,h1,zd7 (es:=es) (l:=l) h'.2,List.map_cons]
def RowI (e:TypeId) (m:Nat) (H:AH) (zs:List Int) (s:Sl3):Prop:=(s=Sl3.nil∧zs=[])∨∃id,m≤id∧id<H.next∧s=⟨some ⟨id,0,none⟩,zs.length,OPEN⟩∧H.get id=some (rowB e zs)∧zs≠[]
theorem zke (l:List Int):l.flatMap EZ.enc=l.map fun z=>Value.int .i64 z:=by
 induction l with
 | nil=>rfl
 | cons a l ih=>rw [List.flatMap_cons,ih]; rfl
theorem RowI.vec {e:TypeId} {m:Nat} {H:AH} {zs:List Int} {s:Sl3} (h:RowI e m H zs s):VecA EZ e m H zs s:=by
 rcases h with ⟨rfl,rfl⟩ | ⟨id,h1,h2,rfl,h4,h5⟩
 ·exact VecA.nil _ _ _ _
 ·refine VecV.opn id 0 (zcells zs) h1 h2 h4 (EZ.flat_len _) (EZ.flat_one _) fun i v hv=>?_;rw [zke] at hv;unfold zcells;rw [Nat.zero_add]
  simpa using hv
theorem RowI.sla {e:TypeId} {m:Nat} {H:AH} {zs:List Int} {s:Sl3} (h:RowI e m H zs s):SlA EZ e m H zs s:=.own h.vec
theorem RowI.push {e:TypeId} {m:Nat} {H H0:AH} {zs:List Int} {s:Sl3} (h:RowI e m H zs s) (t:Int) (hl:zs.length≤1073741824) (hm:m≤H.next) (hx:Ext H0 H) (hf:∀id,fpt s id→H0.next≤id) :
  ∃z H1 s' H',newR e 1 #[.int .i64 t] H=some (z,H1)∧appS m e 1 8 H1 s z=some (s',H')∧RowI e m H' (zs++[t]) s'∧Ext H0 H'∧∀id,fpt s' id→H0.next≤id:=by
 let B:Blk:={ obj:=.cells #[.int .i64 t] e (0,0),opn:=false,esz:=0,ro:=false }
 let H1:=H.push B
 have x1:Ext H H1:=Fm.push _ _ _;have hrow:rdCells H1 ⟨H.next,0,none⟩ 0 1=some [.int .i64 t]:=by
  have:H1.cell ((⟨H.next,0,none⟩:Addr).add 0)=some (.int .i64 t):=by
   rw [add_zero];unfold AH.cell;rw [show H1.get H.next=some B from AH.get_push_same _ _];rfl
  simp only [rdCells,this]
 have hone:([.int .i64 t]:List Value).all one=true:=rfl;have n1:H1.next=H.next+1:=rfl;have hn0:=hx.1;rcases h with ⟨rfl,rfl⟩ | ⟨id,h1,h2,rfl,h4,h5⟩
 ·refine ⟨⟨some ⟨H.next,0,none⟩,1,1⟩,H1,⟨some ⟨H1.next,0,none⟩,1,OPEN⟩,H1.push (rowB e [t]),rfl,?_,.inr ⟨H1.next,by omega,by simp,rfl,AH.get_push_same _ _,by simp⟩,(hx.trans x1).trans (Fm.push _ _ _),fun i hi=>?_⟩
  ·unfold appS;simp only [Nat.mul_one];rw [hrow];simp only [hone,if_true];unfold appL;rw [if_neg (by omega)];simp only [Sl3.nil,and_self,if_true];unfold grownS;rw [if_pos ⟨by omega,by omega⟩];rfl
  ·obtain ⟨_,a,ha,rfl⟩:=hi;cases ha;show H0.next≤H1.next;omega
 ·have hid:H1.get id=some (rowB e zs):=x1.2 _ _ h2 (fun h=>h) h4;have hrd:rdCells H1 ⟨id,0,none⟩ 0 zs.length=some (zs.map fun z=>Value.int .i64 z):=by
   have:=D7 (H:=H1) (a:=⟨id,0,none⟩) (zs.map fun z=>Value.int .i64 z) 0 fun i hi=>by
    rw [List.length_map] at hi;rw [Nat.zero_add,I5];unfold AH.cell;simp only [hid,rowB,Nat.zero_add];rw [zi,List.getElem?_eq_getElem hi,List.getElem_map];rfl
   rw [List.length_map] at this;exact this
  have hid0:H0.next≤id:=hf id ⟨by show OPEN≠0; unfold OPEN; omega,_,rfl,rfl⟩
  let H2:=H1.put id dead
  have n2:H2.next=H1.next:=rfl;refine ⟨⟨some ⟨H.next,0,none⟩,1,1⟩,H1,⟨some ⟨H2.next,0,none⟩,zs.length+1,OPEN⟩,H2.push (rowB e (zs++[t])),rfl,?_,.inr ⟨H2.next,by omega,by simp,by rw [List.length_append]; rfl,AH.get_push_same _ _,by simp⟩,?_,fun i hi=>?_⟩
  ·unfold appS;simp only [Nat.mul_one];rw [hrow];simp only [hone,if_true];unfold appL;rw [if_neg (by omega)];simp only [Nat.mul_one,hrd,if_true];have hob:ownedB m H1 ⟨id,0,none⟩ e 1=true:=by
    unfold ownedB;simp only [hid,rowB];rw [ble_of (by omega),Nat.beq_refl,Nat.beq_refl];rfl
   rw [if_pos ⟨hob,hone⟩];unfold grownS;rw [if_pos ⟨by omega,by omega⟩];have:(List.map (fun z=>Value.int .i64 z) zs++[Value.int .i64 t]).toArray=zcells (zs++[t]):=by unfold zcells; rw [List.map_append]; rfl
   rw [this];rfl
  ·exact Ext.trans (H1:=H2) ((hx.trans x1).comp (Fm.put (i:=id) (b:=dead)) fun j hj _ e=>by omega) (Fm.push _ _ _)
  ·obtain ⟨_,a,ha,rfl⟩:=hi;cases ha;show H0.next≤H2.next;omega
theorem zii {e:TypeId} {m:Nat} {H:AH} {r:Nat} {f:Int→Option Value} (h:MapB H r f) (hm:m≤H.next) {T:List Int} (hT:∀z,(f z).isSome=true→z∈T) (hl:T.length≤1073741824) :
  ∃zs s H',keysS e m H r=some (s,H')∧zs.Pairwise (·<·)∧(∀z,z∈zs↔(f z).isSome=true)∧RowI e m H' zs s∧Ext H H'∧∀id,fpt s id→H.next≤id:=by
 obtain ⟨l,⟨es,n,opn,esz,h1,h2⟩,h3,h4⟩:=h.u;obtain ⟨es',n',opn',esz',g1,g2,g3⟩:=h.b;rw [h1] at g1;cases g1;have hk:=zd7 h2;have hmem:∀z,z∈l.map (·.1)↔(f z).isSome=true:=fun z=>by rw [← h4 z,zek]
 have hlen:(l.map (·.1)).length≤1073741824:=Nat.le_trans (z4f h3 fun z hz=>hT z ((hmem z).1 hz)) hl;refine ⟨sortI (l.map (·.1)),(outS e H (l.map (·.1))).1,(outS e H (l.map (·.1))).2,?_,z2t h3,fun z=>by rw [z7j,hmem],?_⟩
 ·unfold keysS;rw [h1];simp only [hk];rw [if_pos ⟨g2,g3,hlen,hm⟩]
 ·generalize l.map (·.1)=zs at *;unfold outS;by_cases hz:zs=[]
  ·rw [if_pos hz,hz];refine ⟨?_,⟨Nat.le_succ _,fun id b _ _ hb=>hb⟩,fun id hid=>absurd hid U1⟩;have:sortI []=[]:=by unfold sortI; simp
   rw [this];exact .inl ⟨rfl,rfl⟩
  ·rw [if_neg hz];have hsl:(sortI zs).length=zs.length:=(List.mergeSort_perm zs _).length_eq;refine ⟨?_,⟨?_,fun id b hid _ hb=>?_⟩,fun id hid=>?_⟩
   ·exact .inr ⟨H.next+2*zs.length,by omega,(show H.next+2*zs.length<H.next+2*zs.length+1 by omega),by rw [hsl],AH.get_push_same _ _,fun e=>hz (by rw [e] at hsl; exact List.length_eq_zero_iff.1 hsl.symm)⟩
   ·show H.next≤H.next+2*zs.length+1;omega
   ·show (AH.push { H with next:=H.next+2*zs.length } (rowB e (sortI zs))).get id=some b;rw [AH.get_push_other _ _ (by show id≠H.next+2*zs.length; omega)];exact hb
   ·obtain ⟨_,a,ha,rfl⟩:=hid;cases ha;show H.next≤H.next+2*zs.length;omega
structure Vw (H:AH) (s:Sl3) (l:List Nat):Prop where
 n:s.n=l.length
 cap:(s.c=OPEN∧∀a,s.p=some a→∃b,H.get a.block=some b∧b.opn=true∧b.esz=1∧isCells b.obj=true)∨(s.n≤s.c∧s.c<OPEN∧0<s.c)
 p:∃a,s.p=some a∧a.spot=none∧a.block<H.next∧∀(i:Nat) (h:i<l.length),Cel H (a.add i) (.int .i64 (l[i]:Nat))
theorem Vw.of {e:TypeId} {m:Nat} {H:AH} {l:List Nat} {s:Sl3} (h:SlA EI e m H l s) (hl:l≠[]):Vw H s l:=by
 have hpos:0<l.length:=List.length_pos_iff.2 hl;obtain ⟨a,h1,_,h3,h4⟩:=h.at_ (by decide) hpos (v:=((0:Nat):Int)) rfl;have hcel:∀(i:Nat) (hi:i<l.length),Cel H (a.add i) (.int .i64 (l[i]:Nat)):=fun i hi=>by
  obtain ⟨a',g1,_,g3,g4⟩:=h.at_ (by decide) hi (v:=(i:Int)) rfl;rw [h1] at g1;cases g1;have:=g4 0 (.int .i64 (l[i]:Nat)) rfl;rw [z5e h3] at this;have e1:i*EI.sz+0=i:=Nat.mul_one i;rw [e1] at this;exact this
 refine ⟨h.cnt,?_,a,h1,h3,?_,hcel⟩
 ·unfold SlA at h;cases h with
  | own h =>
   cases h with
   | nil hn hv=>omega
   | zero a ha hn hv=>omega
   | opn id off cs hm hid hg hl ho hx =>
    exact .inl ⟨rfl,fun a ha=>by cases ha; exact ⟨_,hg,rfl,rfl,rfl⟩⟩
  | full id hm hid hg hl ho hn hN=>exact .inr ⟨Nat.le_refl _,hN,hn⟩
 ·have:=(hcel 0 hpos).2;rw [z3p] at this;exact this
theorem Vw.ext {H H':AH} {s:Sl3} {l:List Nat} (h:Vw H s l) (hf:Ext H H'):Vw H' s l:=by
 obtain ⟨h1,h2,a,h3,h4,h5,h6⟩:=h;refine ⟨h1,?_,a,h3,h4,Nat.lt_of_lt_of_le h5 hf.1,fun i hi=>(h6 i hi).ext hf⟩;rcases h2 with ⟨h2,h7⟩ | h2
 ·refine .inl ⟨h2,fun b hb=>?_⟩;obtain ⟨bb,h8,h9⟩:=h7 b hb;rw [h3] at hb;cases hb;exact ⟨bb,hf.2 _ _ h5 (fun h=>h) h8,h9⟩
 ·exact .inr h2
theorem Vw.at_ {H:AH} {s:Sl3} {l:List Nat} (h:Vw H s l) {i:Nat} (hi:i<l.length) {v:Int} (hv:v=i):∃q,idxA 1 s v=some q∧rd (deI .i64) H q=some (l[i]:Int):=by
 obtain ⟨h1,h2,a,h3,h4,h5,h6⟩:=h;refine ⟨a.add (i*1),z7u h3 hv (by rw [h1]; exact hi),?_⟩;rw [Nat.mul_one,(h6 i hi).rd];rfl
theorem Vw.init {H:AH} {s:Sl3} {l:List Nat} {k:Nat} (h:Vw H s (l.take (k+1))) (hk:k<l.length) {v:Int} (hv:v=k):∃s',slc 1 H s none (some v) none=some s'∧Vw H s' (l.take k):=by
 obtain ⟨h1,h2,a,h3,h4,h5,h6⟩:=h;subst hv;have hn:s.n=k+1:=by rw [h1,List.length_take]; omega
 have hlen:(l.take k).length=k:=by rw [List.length_take]; omega
 have hb:∀c,k+1≤c→slcB s.n c none (some (k:Int)) none=some (0,k,c):=by
  intro c hc;unfold slcB;simp only [boundI,Option.isSome_none,Bool.false_and,cond_false];rw [if_pos ⟨Int.natCast_nonneg k,Int.ofNat_le.2 (by omega)⟩];simp
 have hcel:∀(i:Nat) (hi:i<(l.take k).length),Cel H (a.add i) (.int .i64 ((l.take k)[i]:Nat)):=fun i hi=>by
  have:=h6 i (by rw [List.length_take] at *; omega);rw [List.getElem_take] at this ⊢;exact this
 rcases h2 with ⟨h2,h7⟩ | ⟨h2,h7,h8⟩
 ·obtain ⟨b,g1,g2⟩:=h7 a h3;refine ⟨⟨some a,k,OPEN⟩,?_,⟨hlen.symm,.inl ⟨rfl,fun a' ha'=>by cases ha'; exact ⟨b,g1,g2⟩⟩,a,rfl,h4,h5,hcel⟩⟩;unfold slc;simp only [h3];rw [if_pos h2,hb s.n (by omega)];simp only [g1];rw [if_pos g2,Nat.zero_mul,add_zero];rfl
 ·refine ⟨⟨some a,k,s.c⟩,?_,⟨hlen.symm,.inr ⟨by show k≤s.c; omega,h7,h8⟩,a,rfl,h4,h5,hcel⟩⟩;unfold slc;simp only [h3];rw [if_neg (by omega),hb s.c (by omega)];simp only;rw [if_pos ⟨h7,by omega⟩,if_neg (by omega),Nat.zero_mul,add_zero];rfl
theorem Vw.rdv {H:AH} {s:Sl3} {l:List Nat} (h:Vw H s l):RdV 1 H s l.length (l.flatMap EI.enc):=by
 obtain ⟨h1,h2,a,h3,h4,h5,h6⟩:=h;have hfm:∀l:List Nat,l.flatMap EI.enc=l.map fun (z:Nat)=>Value.int .i64 (z:Int):=fun l=>by induction l with
  | nil=>rfl
  | cons a l ih=>rw [List.flatMap_cons,ih]; rfl
 refine ⟨h1,fun hp=>(by rw [h3] at hp; cases hp),fun b hb=>?_,EI.flat_one l⟩;rw [h3] at hb;cases hb;have:=D7 (H:=H) (a:=a) (l.flatMap EI.enc) 0 fun i hi=>by
  simp only [hfm,List.length_map] at hi;simp only [hfm,List.getElem_map,Nat.zero_add];exact (h6 i hi).1
 rw [EI.flat_len] at this;exact this
end Go.Abs
namespace Go.Abs.Eg
section
variable {N:List Nd} {sd:List Sd} {fe:List Ed} {i j:Nat} {p q:List Nat}
theorem ju_lok (hall:∀i,i<fe.length→∃p,Pa fe i p) (h:Ju N sd (US fe) i j):∀p q,Pa fe i p→Pa fe j q→∀n,Btw p q n→∀(k:Nat) (l:Lb),fe[n]? = some ((k:Int),l)→LOK N sd (US fe) n k l:=by
 have same:∀{n k k':Nat} {l l':Lb},fe[n]? = some ((k:Int),l)→fe[n]? = some ((k':Int),l')→k=k'∧l=l':=fun h1 h2=>by
  rw [h1] at h2;simp only [Option.some.injEq,Prod.mk.injEq] at h2;exact ⟨Int.ofNat.inj h2.1,by ext <;> simp [h2]⟩
 induction h with
 | refl i =>
  intro p q hp hq n hn;rw [hp.uniq hq] at hn;rcases hn with ⟨h1,h2⟩ | ⟨h1,h2⟩ <;> exact absurd h1 h2
 | symm _ ih=>exact fun p q hp hq n hn=>ih q p hq hp n (zde hn)
 | trans h1 _ ih1 ih2 =>
  intro p q hp hq n hn;obtain ⟨r,hr⟩:=(zd hall h1).2.1 ⟨p,hp⟩;rcases zbr (q:=r) hn with h | h
  ·exact ih1 p r hp hr n h
  ·exact ih2 r q hr hq n h
 | tag hU ht =>
  intro p q hp hq n hn k l hk;rcases z2s hU hp hq hn with ⟨rfl,h⟩ | ⟨rfl,h⟩
  ·obtain ⟨rfl,rfl⟩:=same h hk;exact .inl ⟨rfl,ht⟩
  ·obtain ⟨rfl,rfl⟩:=same h hk;exact .inl ⟨rfl,ht.symm⟩
 | cong hU hab ha hb h1 h2 h3 hj ih =>
  intro p q hp hq n hn k l hk;rcases z2s hU hp hq hn with ⟨rfl,h⟩ | ⟨rfl,h⟩
  ·obtain ⟨rfl,rfl⟩:=same h hk;exact .inr ⟨rfl,_,_,_,_,rfl,rfl,hab,ha,hb,h1,h2,h3,hj⟩
  ·obtain ⟨rfl,rfl⟩:=same h hk;exact .inr ⟨rfl,_,_,_,_,rfl,rfl,hab.symm.imp (fun h=>⟨h.2,h.1⟩) (fun h=>⟨h.2,h.1⟩),ha,hb,h1,h2,h3,hj⟩
theorem zbf:∀(x:List Nat) {i:Nat} {c:List Nat},c≠[]→Pa fe i (x++c)→∀n∈x,∃(k:Nat) (l:Lb),fe[n]? = some ((k:Int),l)
 | [],_,_,_,_,n,hn=>by cases hn
 | y :: x,i,c,hc,hp,n,hn=>by
  generalize hw:(y :: x)++c=w at hp;cases hp with
  | root h =>
   have:=congrArg List.length hw;have h2:=List.length_pos_iff.2 hc;simp only [List.length_append,List.length_cons,List.length_nil] at this;omega
  | step h hp =>
   simp only [List.cons_append,List.cons.injEq] at hw;obtain ⟨rfl,rfl⟩:=hw;rcases List.mem_cons.1 hn with rfl | hn
   ·exact ⟨_,_,h⟩
   ·exact zbf x hc hp n hn
theorem pa_ne (h:Pa fe i p):p≠[]:=by
 obtain ⟨r,rfl⟩:=h.head;simp
theorem ziq (h:Pa fe i p) {n:Nat} (hn:n∈p):n<fe.length:=by
 obtain ⟨u,r,_,h2⟩:=h.mem hn;exact pa_lt h2
theorem pa_len (h:Pa fe i p):p.length≤fe.length:=B8 _ _ h.nodup fun n hn=>ziq h hn
theorem zh1 {x y:List Nat} (hp:Pa fe i p) (hq:Pa fe j q) (hl:p.getLast? = q.getLast?) (hst:Strip p q x y):(∀n∈x++y,∃(k:Nat) (l:Lb),fe[n]? = some ((k:Int),l)):=by
 obtain ⟨c,rfl,rfl,hd⟩:=hst;cases c with
 | nil =>
  exfalso;simp only [List.append_nil] at hl hp hq;rcases hd with h | h | h
  ·exact pa_ne hp h
  ·exact pa_ne hq h
  ·exact h hl
 | cons z c =>
  intro n hn;rcases List.mem_append.1 hn with hn | hn
  ·exact zbf x (by simp) hp n hn
  ·exact zbf y (by simp) hq n hn
theorem z90 {k l:Nat} (hk:k≤p.length) (hl:l≤q.length) (hd:p.drop k=q.drop l) (he:k=0∨l=0∨p[k - 1]? ≠ q[l - 1]?):Strip p q (p.take k) (q.take l):=by
 refine ⟨p.drop k,(List.take_append_drop k p).symm,by rw [hd]; exact (List.take_append_drop l q).symm,?_⟩;rcases he with rfl | rfl | h
 ·exact .inl rfl
 ·exact .inr (.inl rfl)
 ·by_cases h0:k=0
  ·subst h0; exact .inl rfl
  by_cases h1:l=0
  ·subst h1; exact .inr (.inl rfl)
  refine .inr (.inr ?_);rw [List.getLast?_eq_getElem?,List.getLast?_eq_getElem?,List.length_take,List.length_take,Nat.min_eq_left hk,Nat.min_eq_left hl,List.getElem?_take_of_lt (by omega),List.getElem?_take_of_lt (by omega)];exact h
def Dn (fe:List Ed) (D:Nat→Prop) (u v:Nat):Prop:=∀p q c,Pa fe u p→Pa fe v q→Btw p q c→D c
theorem Dn.mono {D D':Nat→Prop} {u v:Nat} (h:Dn fe D u v) (hd:∀n,D n→D' n):Dn fe D' u v:=fun p q c hp hq hc=>hd c (h p q c hp hq hc)
structure XI (N:List Nd) (sd:List Sd) (fe:List Ed) (a b:Nat) (q:List (Nat×Nat)) (D:List Nat) (T:List Int):Prop where
 dn:D.Nodup
 dl:∀n∈D,n<fe.length
 qj:∀w∈q,Ju N sd (US fe) w.1 w.2∧w.1<fe.length∧w.2<fe.length
 tag:∀n∈D,∀(j:Int) t f o,fe[n]? = some (j,t,f,o,false)→t∈T
 cong:∀n∈D,∀(j a b:Nat) (t:Int) (x y:Nd) (k u v:Nat),fe[n]? = some ((j:Int),t,(a:Int),(b:Int),true)→N[a]? = some x→N[b]? = some y→x.args[k]? = some u→y.args[k]? = some v→(u,v)∈q∨Dn fe (·∈D) u v
 goal:(a,b)∈q∨Dn fe (·∈D) a b
 tl:∀t∈T,∃s∈sd,s.2.2.2=false∧s.2.2.1=t
variable {a b:Nat} {Q:List (Nat×Nat)} {D:List Nat} {T:List Int}
theorem XI.start (h:Ju N sd (US fe) a b) (ha:a<fe.length) (hb:b<fe.length):XI N sd fe a b [(a,b)] [] [] :=
 ⟨by simp,(by intro n hn; cases hn),(by intro w hw; rw [List.mem_singleton] at hw; subst hw; exact ⟨h,ha,hb⟩),(by intro n hn; cases hn),(by intro n hn; cases hn),.inl (by simp),(by intro n hn; cases hn)⟩
theorem XI.le (h:XI N sd fe a b Q D T):D.length≤fe.length:=B8 _ _ h.dn h.dl
theorem XI.tagged (h:XI N sd fe a b Q D T) {n k:Nat} {t f o:Int} (hn:n ∉ D) (he:fe[n]? = some ((k:Int),t,f,o,false)) (ht:Tagged sd t n k):XI N sd fe a b Q (n :: D) (t :: T):=by
 have hmm:∀m,m∈D→m∈n :: D:=fun m hm=>List.mem_cons_of_mem _ hm;refine ⟨List.nodup_cons.2 ⟨hn,h.dn⟩,fun m hm=>?_,h.qj,fun m hm j t' f' o' he'=>?_,fun m hm j a' b' t' x y k' u v he' ha hb hu hv=>?_,h.goal.imp id fun h=>h.mono hmm,fun t' ht'=>?_⟩
 ·rcases List.mem_cons.1 hm with rfl | hm
  ·exact (List.getElem?_eq_some_iff.1 he).1
  ·exact h.dl m hm
 ·rcases List.mem_cons.1 hm with rfl | hm
  ·rw [he] at he';simp only [Option.some.injEq,Prod.mk.injEq] at he';rw [← he'.2.1];exact List.mem_cons_self
  ·exact List.mem_cons_of_mem _ (h.tag m hm j t' f' o' he')
 ·rcases List.mem_cons.1 hm with rfl | hm'
  ·rw [he] at he';simp at he'
  ·exact (h.cong m hm' j a' b' t' x y k' u v he' ha hb hu hv).imp id fun h=>h.mono hmm
 ·rcases List.mem_cons.1 ht' with rfl | ht'
  ·obtain ⟨s,h1,h2,h3,_⟩:=ht;exact ⟨s,h1,h2,h3⟩
  ·exact h.tl t' ht'
theorem zki {l l':List Nat} {k u v:Nat} (h1:l[k]? = some u) (h2:l'[k]? = some v):(u,v)∈l.zip l':=by
 refine List.mem_iff_getElem?.2 ⟨k,?_⟩;rw [List.getElem?_zip_eq_some];exact ⟨h1,h2⟩
theorem XI.congd (h:XI N sd fe a b Q D T) {n k a' b':Nat} {t:Int} {x y:Nd} (hn:n ∉ D) (he:fe[n]? = some ((k:Int),t,(a':Int),(b':Int),true)) (hx:N[a']? = some x) (hy:N[b']? = some y)
  (hj:∀(k u v:Nat),x.args[k]? = some u→y.args[k]? = some v→Ju N sd (US fe) u v∧u<fe.length∧v<fe.length):XI N sd fe a b (Q++x.args.zip y.args) (n :: D) T:=by
 have hmm:∀m,m∈D→m∈n :: D:=fun m hm=>List.mem_cons_of_mem _ hm;refine ⟨List.nodup_cons.2 ⟨hn,h.dn⟩,fun m hm=>?_,fun w hw=>?_,fun m hm j t' f' o' he'=>?_,fun m hm j a1 b1 t' x1 y1 k' u v he' ha hb hu hv=>?_,h.goal.imp (fun h=>List.mem_append_left _ h) fun h=>h.mono hmm,h.tl⟩
 ·rcases List.mem_cons.1 hm with rfl | hm
  ·exact (List.getElem?_eq_some_iff.1 he).1
  ·exact h.dl m hm
 ·rcases List.mem_append.1 hw with hw | hw
  ·exact h.qj w hw
  ·obtain ⟨k',hk'⟩:=List.mem_iff_getElem?.1 hw;rw [List.getElem?_zip_eq_some] at hk';exact hj k' _ _ hk'.1 hk'.2
 ·rcases List.mem_cons.1 hm with rfl | hm
  ·rw [he] at he';simp at he'
  ·exact h.tag m hm j t' f' o' he'
 ·rcases List.mem_cons.1 hm with rfl | hm'
  ·rw [he] at he';simp only [Option.some.injEq,Prod.mk.injEq] at he';obtain ⟨_,_,e1,e2,_⟩:=he';obtain rfl:a'=a1:=Int.ofNat.inj e1;obtain rfl:b'=b1:=Int.ofNat.inj e2;rw [hx] at ha; cases ha;rw [hy] at hb; cases hb;exact .inl (List.mem_append_right _ (zki hu hv))
  ·exact (h.cong m hm' j a1 b1 t' x1 y1 k' u v he' ha hb hu hv).imp (fun h=>List.mem_append_left _ h) fun h=>h.mono hmm
theorem XI.pop {w:Nat×Nat} (h:XI N sd fe a b (w :: Q) D T) (hd:Dn fe (·∈D) w.1 w.2):XI N sd fe a b Q D T:=by
 have key:∀u v,((u,v)∈w :: Q∨Dn fe (·∈D) u v)→(u,v)∈Q∨Dn fe (·∈D) u v:=by
  rintro u v (h | h)
  ·rcases List.mem_cons.1 h with e | h
   ·rw [← e] at hd; exact .inr hd
   ·exact .inl h
  ·exact .inr h
 exact ⟨h.dn,h.dl,fun w' hw=>h.qj w' (List.mem_cons_of_mem _ hw),h.tag,fun n hn j a' b' t x y k u v h1 h2 h3 h4 h5=>key _ _ (h.cong n hn j a' b' t x y k u v h1 h2 h3 h4 h5),key _ _ h.goal,h.tl⟩
theorem XI.done (hall:∀i,i<fe.length→∃p,Pa fe i p) (hj:Ju N sd (US fe) a b) (ha:a<fe.length) (hb:b<fe.length) (h:XI N sd fe a b [] D T) {zs:List Int} (hz:∀z,z∈zs↔z∈T):Cong N (Mof (withT sd (·∈zs))) a b:=by
 obtain ⟨p,hp⟩:=hall a ha;obtain ⟨q,hq⟩:=hall b hb;refine why_ok (T:=(·∈zs)) (D:=(·∈D)) hall ⟨fun n j t f o hn he=>(hz t).2 (h.tag n hn j t f o he),fun n j a' b' t x y k u v p q c hn he h1 h2 h3 h4 hp hq hc=>?_⟩ hj hp hq fun n hn=>?_
 ·rcases h.cong n hn j a' b' t x y k u v he h1 h2 h3 h4 with h | h
  ·cases h
  ·exact h p q c hp hq hc
 ·rcases h.goal with h | h
  ·cases h
  ·exact h p q n hp hq hn
end
end Go.Abs.Eg
namespace Go.Abs.Eg
structure RQ (N:List Nd) (M:List (Nat×Nat)) (n:Nat) (r:Nat→Nat):Prop where
 low:∀i,i<n→r i≤i
 idem:∀i,i<n→r (r i)=r i
 snd:∀i j,i<n→j<n→r i=r j→Cong N M i j
def jn (r:Nat→Nat) (x y:Nat) (i:Nat):Nat:=if r i=y then x else r i
def rts (n:Nat) (r:Nat→Nat):Nat:=((List.range n).filter fun i=>decide (r i=i)).length
theorem zd5:∀{l l':List Nat},l.Nodup→(∀b∈l,b∈l')→l.length≤l'.length
 | [],_,_,_=>Nat.zero_le _
 | x :: l,l',hn,hs=>by
  rw [List.nodup_cons] at hn;have h1:=zd5 hn.2 (l':=l'.erase x) fun b hb=>(List.mem_erase_of_ne (fun e:b=x=>hn.1 (by rw [← e]; exact hb))).2 (hs b (List.mem_cons_of_mem _ hb));have h2:=List.length_erase_of_mem (hs x List.mem_cons_self);have h3:=List.length_pos_of_mem (hs x List.mem_cons_self);simp only [List.length_cons];omega
section
variable {N:List Nd} {M:List (Nat×Nat)} {n:Nat} {r:Nat→Nat} {a b x y:Nat}
theorem RQ.id:RQ N M n fun i=>i:=⟨fun i _=>Nat.le_refl _,fun i _=>rfl,fun i j _ _ h=>by rw [show i=j from h]; exact .refl j⟩
theorem RQ.rlt (h:RQ N M n r) (ha:a<n):r a<n:=Nat.lt_of_le_of_lt (h.low a ha) ha
theorem RQ.join (h:RQ N M n r) (ha:a<n) (hb:b<n) (hc:Cong N M a b) (hxy:x≤y) (he:r a=x∧r b=y∨r a=y∧r b=x):RQ N M n (jn r x y)∧jn r x y a=jn r x y b∧(x≠y→rts n (jn r x y)<rts n r):=by
 have hx:r x=x:=by rcases he with ⟨e,_⟩ | ⟨_,e⟩ <;> (rw [← e]; exact h.idem _ ‹_›)
 have hy:r y=y:=by rcases he with ⟨_,e⟩ | ⟨e,_⟩ <;> (rw [← e]; exact h.idem _ ‹_›)
 have hyn:y<n:=by rcases he with ⟨_,e⟩ | ⟨e,_⟩ <;> (rw [← e]; exact h.rlt ‹_›)
 have hxn:x<n:=by omega
 have cxy:Cong N M x y:=by
  rcases he with ⟨e1,e2⟩ | ⟨e1,e2⟩
  ·exact ((h.snd x a hxn ha (by rw [hx,e1])).trans hc).trans (h.snd b y hb hyn (by rw [hy,e2]))
  ·exact ((h.snd x b hxn hb (by rw [hx,e2])).trans hc.symm).trans (h.snd a y ha hyn (by rw [hy,e1]))
 refine ⟨⟨fun i hi=>?_,fun i hi=>?_,fun i j hi hj hij=>?_⟩,?_,fun hne=>?_⟩
 ·unfold jn;have:=h.low i hi;split <;> omega
 ·have hjx:jn r x y x=x:=by unfold jn; rw [hx]; split <;> omega
  by_cases e:r i=y
  ·rw [show jn r x y i=x from if_pos e];exact hjx
  ·rw [show jn r x y i=r i from if_neg e];unfold jn;rw [h.idem i hi,if_neg e]
 ·have cy:∀i,i<n→r i=y→Cong N M i x:=fun i hi e=>(h.snd i y hi hyn (by rw [hy,e])).trans cxy.symm;unfold jn at hij;by_cases e1:r i=y
  ·by_cases e2:r j=y
   ·exact h.snd i j hi hj (by rw [e1,e2])
   ·rw [if_pos e1,if_neg e2] at hij;exact (cy i hi e1).trans (h.snd x j hxn hj (by rw [hx,hij]))
  ·by_cases e2:r j=y
   ·rw [if_neg e1,if_pos e2] at hij;exact (h.snd i x hi hxn (by rw [hx,hij])).trans (cy j hj e2).symm
   ·rw [if_neg e1,if_neg e2] at hij;exact h.snd i j hi hj hij
 ·unfold jn;rcases he with ⟨e1,e2⟩ | ⟨e1,e2⟩
  ·rw [e1,e2,if_pos rfl]; split <;> omega
  ·rw [e1,e2,if_pos rfl]; split <;> omega
 ·have hnd:((List.range n).filter fun i=>decide (jn r x y i=i)).Nodup:=List.nodup_range.filter _;have hmem:∀i,i∈(List.range n).filter (fun i=>decide (jn r x y i=i))→i∈(List.range n).filter (fun i=>decide (r i=i))∧i≠y:=by
   intro i hi;rw [List.mem_filter,List.mem_range] at hi;obtain ⟨h1,h2⟩:=hi;have h2:=of_decide_eq_true h2;unfold jn at h2;by_cases e:r i=y
   ·rw [if_pos e] at h2;subst h2;rw [hx] at e;exact absurd e hne
   ·rw [if_neg e] at h2;refine ⟨List.mem_filter.2 ⟨List.mem_range.2 h1,by simpa using h2⟩,fun e2=>e (by rw [h2,e2])⟩
  have:=zd5 (l:=y :: (List.range n).filter fun i=>decide (jn r x y i=i)) (l':=(List.range n).filter fun i=>decide (r i=i)) (List.nodup_cons.2 ⟨fun hm=>(hmem y hm).2 rfl,hnd⟩) fun i hi=>by
   rcases List.mem_cons.1 hi with rfl | hi
   ·exact List.mem_filter.2 ⟨List.mem_range.2 hyn,by simpa using hy⟩
   ·exact (hmem i hi).1
  unfold rts;rw [List.length_cons] at this;exact this
theorem zfm {i j:Nat} (h:r i=r j):jn r x y i=jn r x y j:=by unfold jn; rw [h]
def alk (r:Nat→Nat) (p q:Nd):Bool:=!p.value&&!q.value&&decide (p.sym=q.sym)&&decide (p.args.map r=q.args.map r)
theorem zk7 (h:RQ N M n r) {i k:Nat} {p q:Nd} (hp:N[i]? = some p) (hq:N[k]? = some q) (ha:∀a∈p.args,a<n) (hb:∀a∈q.args,a<n) (hk:alk r p q=true):Cong N M i k:=by
 unfold alk at hk;simp only [Bool.and_eq_true,Bool.not_eq_true',decide_eq_true_eq] at hk;obtain ⟨⟨⟨h1,h2⟩,h3⟩,h4⟩:=hk;have hl:p.args.length=q.args.length:=by have:=congrArg List.length h4; simpa using this
 refine .congr hp hq (by rw [h1,h2]) h3 hl fun j u v hu hv=>h.snd u v (ha u (List.mem_of_getElem? hu)) (hb v (List.mem_of_getElem? hv)) ?_;have:=congrArg (fun l:List Nat=>l[j]?) h4
 simpa [hu,hv] using this
theorem RQ.full (h:RQ N M n r) (hn:n=N.length) (hN:NOK N) (hM:∀i j,(i,j)∈M→r i=r j) (hA:∀i k p q,k<i→i<n→N[i]? = some p→N[k]? = some q→alk r p q=true→r i=r k) {i j:Nat} (hc:Cong N M i j):r i=r j:=by
 induction hc with
 | base h=>exact hM _ _ h
 | refl i=>rfl
 | symm _ ih=>exact ih.symm
 | trans _ _ h1 h2=>exact h1.trans h2
 | congr hp hq h1 h2 h3 _ ih =>
  rename_i i k p q _;have hi:i<n:=by rw [hn]; exact (List.getElem?_eq_some_iff.1 hp).1
  have hk:k<n:=by rw [hn]; exact (List.getElem?_eq_some_iff.1 hq).1
  have hm:p.args.map r=q.args.map r:=by
   refine List.ext_getElem? fun j=>?_;rw [List.getElem?_map,List.getElem?_map];by_cases hj:j<p.args.length
   ·rw [List.getElem?_eq_getElem hj,List.getElem?_eq_getElem (show j<q.args.length by omega)];simp only [Option.map_some];rw [ih j _ _ (List.getElem?_eq_getElem hj) (List.getElem?_eq_getElem (show j<q.args.length by omega))]
   ·rw [List.getElem?_eq_none (by omega),List.getElem?_eq_none (by omega)]
  by_cases hv:p.value=true
  ·
   have hv2:q.value=true:=by rw [← h1]; exact hv
   have e1:=hN.va p (List.mem_of_getElem? hp) hv;have e2:=hN.va q (List.mem_of_getElem? hq) hv2;have:p=q:=by
    cases p; cases q;simp only at h1 h2 e1 e2;rw [h1,h2,e1,e2]
   subst this;have h3:i=k:=(List.getElem?_inj (by rw [← hn]; exact hi) hN.nd).1 (hp.trans hq.symm);rw [h3]
  ·have hv:p.value=false:=by simpa using hv
   have hv2:q.value=false:=by rw [← h1]; exact hv
   have a1:alk r p q=true:=by unfold alk; simp [hv,hv2,h2,hm]
   have a2:alk r q p=true:=by unfold alk; simp [hv,hv2,h2,hm]
   rcases Nat.lt_trichotomy i k with e | e | e
   ·exact (hA k i q p e hk hq hp a2).symm
   ·rw [e]
   ·exact hA i k p q e hi hp hq a1
end
end Go.Abs.Eg
namespace Go.Proofs.YtgkhbmoidenjaaaDoor
open Go Go.Abs
set_option maxRecDepth 100000
def tabs:List Tab:=[(0,155,((zsOf Rows.laid_internal_strconv_uint64pow10).map fun z=>Value.int .u64 z).toArray)]
theorem zkc:tabsB Tryd.prog tabs=true:=by kernel_rfl
theorem globalsN:Tryd.prog.globals.size=3:=by kernel_rfl
theorem z2z:0<Tryd.prog.globals.size:=by rw [globalsN]; omega
def HasT (H:AH):Prop:=∀x∈tabs,H.get x.1=some (tabBlk x)∧x.1<H.next
theorem HasT.ext {H H':AH} (h:HasT H) (hf:Ext H H'):HasT H':=fun x hx=>⟨hf.2 _ _ (h x hx).2 (fun h=>h) (h x hx).1,Nat.lt_of_lt_of_le (h x hx).2 hf.1⟩
end Go.Proofs.YtgkhbmoidenjaaaDoor
namespace Go.Proofs.YtgkhbmoidenjaaaDoor
open Go Go.Abs Go.ChangeShapes Go.WideShapes
set_option maxRecDepth 100000
theorem own:ownKnob Tryd.prog.godebug=none:=by kernel_rfl
theorem laidOut:laidOutB Tryd.prog=true:=by kernel_rfl
theorem zh2:globalsB Tryd.prog=true:=by kernel_rfl
theorem sane:Sane Tryd.prog (NE.plain 1000):=zko (fun _ _ _ _=>rfl) (by kernel_rfl) (by kernel_rfl) (by kernel_rfl)
theorem zjc (os:Os) (args:Array Value):laidMet Tryd.prog Rows.egraphOrderUptoRow.laid ((laidW2 Tryd.prog Rows.egraphOrderUptoRow.laid os).forCall (fun _ _=>0) ⟨#[],args,[]⟩).memory :=
 laidMet_of_run3 8 (by kernel_rfl) (by kernel_rfl) (by kernel_rfl)
theorem zji (W:World) (hL:laidMet Tryd.prog Rows.egraphOrderUptoRow.laid W) (hsh:W.ShapedOpen Tryd.prog):∀x∈tabs,∃fr,W.heap[x.1]? = some (.cells x.2.2 x.2.1 fr):=by
 intro x hx;simp only [tabs,List.mem_cons,List.not_mem_nil,or_false] at hx;subst hx;exact zl4 (name := "internal/strconv.uint64pow10") (te:=138) (n:=20) (t:=155) hL (by kernel_rfl) (by kernel_rfl) (by kernel_rfl) (by kernel_rfl) (by kernel_rfl) (by kernel_rfl) (by kernel_rfl) (of_decide_eq_true (by kernel_rfl)) (by kernel_rfl) hsh
noncomputable def H0:AH:=startH Tryd.prog tabs
theorem zgk:HasT H0:=by
 intro x hx;simp only [tabs,List.mem_cons,List.not_mem_nil,or_false] at hx;subst hx; exact ⟨by kernel_rfl,by rw [show H0.next=Tryd.prog.globals.size from z8p tabs,globalsN]; decide⟩
theorem zk0 {W:World} (hg:Tryd.prog.globals.size≤W.heap.size) (hL:laidMet Tryd.prog Rows.egraphOrderUptoRow.laid W) (hsh:W.ShapedOpen Tryd.prog):Imp Tryd.prog (φg Tryd.prog) H0 W :=
 Imp.startT hg zkc (zji W hL hsh)
namespace bulks
theorem one_le {H:Type} (d:DataW H):1≤Rows.uptoBulk d:=by
 cases d with
 | lit l=>cases l <;> simp [Rows.uptoBulk]
 | nil=>simp [Rows.uptoBulk]
 | ptr d=>simp [Rows.uptoBulk]
 | slice elems spare=>simp [Rows.uptoBulk]
 | agg parts=>simp [Rows.uptoBulk]
 | iface t d=>simp [Rows.uptoBulk]
 | map entries=>simp [Rows.uptoBulk]
 | held h=>simp [Rows.uptoBulk]
theorem bound {H:Type} {l:List (DataW H)} (hk:Rows.uptoSmall H l=true):Rows.uptoBulkAll l≤1048576:=of_decide_eq_true hk
end bulks
section
variable {H:Type} {enc:TypeId×Value→H} {W:World} {φ:Inj}
theorem ar1 {a a':Value} (h:VR φ a a'):AR φ #[a] #[a']:=by
 refine ⟨rfl,fun i x y hx hy=>?_⟩
 match i,hx,hy with
 | 0,hx,hy=>simp at hx hy; subst hx hy; exact h
 | i+1,hx,_=>simp at hx
theorem wf_i64 {n:Int} (h:(Lit.int .i64 n).wf=true):-9223372036854775808≤n∧n<9223372036854775808:=by
 have e1:IntKind.i64.min=-9223372036854775808:=by decide
 have e2:IntKind.i64.max=9223372036854775807:=by decide
 simp only [Lit.wf,Bool.and_eq_true,decide_eq_true_eq,e1,e2] at h;omega
end
end Go.Proofs.YtgkhbmoidenjaaaDoor
namespace Go.Proofs.YtgkhbmoidenjaaaDoor
open Go Go.Abs Go.Abs.Eg Go.ChangeShapes Go.WideShapes
set_option maxRecDepth 100000
theorem cells55:Tryd.prog.cellsOf 55=6:=by kernel_rfl
theorem cells3:Tryd.prog.cellsOf 3=1:=by kernel_rfl
theorem cells27:Tryd.prog.cellsOf 27=1:=by kernel_rfl
section
variable {H:Type} {enc:TypeId×Value→H} {W:World}
theorem z4p {P:Program} {e:TypeId}:∀{l:List (DataW H)} {d:DataW H},d∈l→∀n∈d.weights P e,n∈DataW.weightsAll P e l
 | x :: l,d,hd,n,hn=>by
  simp only [DataW.weightsAll,List.mem_append];rcases List.mem_cons.1 hd with rfl | hd
  ·exact .inl hn
  ·exact .inr (z4p hd n hn)
theorem lr1 {φ:Inj} {a a':Value} (h:VR φ a a'):LR φ [a] [a']:=.cons h .nil
theorem zbw {β:Type} {w:β→Nat}:∀(bs:List β) (es:List (DataW H)),bs.length=es.length→(∀(i:Nat) b y,bs[i]? = some b→es[i]? = some y→w b≤Rows.uptoBulk y)→(bs.map w).sum≤Rows.uptoBulkAll es
 | [],[],_,_=>Nat.le_refl _
 | [],_ :: _,h,_=>by cases h
 | _ :: _,[],h,_=>by cases h
 | b :: bs,y :: es,h,hw=>by
  have h1:=zbw bs es (by simpa using h) fun i b' y' hb hy=>hw (i+1) b' y' (by simpa using hb) (by simpa using hy);have h2:=hw 0 b y rfl rfl;simp only [List.map_cons,List.sum_cons,Rows.uptoBulkAll];omega
theorem z6p {t e:TypeId} {sz:Nat} (ht:Tryd.prog.underlying t=some (.slice e)) (hc:Tryd.prog.cellsOf e=sz) (hsz:0<sz) {β:Type} {R:AH→List Value→β→Prop} {w:β→Nat} (hR:∀H H' cs b,Ext H H'→R H cs b→R H' cs b)
  {fuel:Nat} {cs:List Value} {x:DataW H×List MemPlace} (elem:∀n,n<fuel→∀cs y,DataW.trod enc Tryd.prog W 0 (fun _=>true) true n e cs=some y→(y.1.weights Tryd.prog e).all (·≤reachBytes)=true→ElemK Tryd.prog W sz R (fun b=>w b≤Rows.uptoBulk y.1) cs)
  (hx:DataW.trod enc Tryd.prog W 0 (fun _=>true) true fuel t cs=some x) (hw:(x.1.weights Tryd.prog t).all (·≤reachBytes)=true) {φ:Inj} {H0:AH} (h:Imp Tryd.prog φ H0 W) :
  ∃v φ' H' s bs,cs=[v]∧Imp Tryd.prog φ' H' W∧φ.le φ'∧Ext H0 H'∧VR φ' (Sl3.v s) v∧SlL (Stands sz R) sz H' s (bs:List β)∧(bs.map w).sum≤Rows.uptoBulk x.1:=by
 rcases DataW.trod_slice ht hx with ⟨rfl,rfl⟩ | ⟨a,len,cap,elems,rest,n,rfl,rfl,rfl,hb,hl,hm,hlen,hel,hsp,_⟩
 ·obtain ⟨φ',H',s,bs,h1,h2,h3,h4,h5,h6,_,_⟩:=Imp.sliceK (n:=0) (c:=0) (A:=none) (K:=fun _ _=>True) hsz hR h z2z (Nat.le_refl _) (Nat.zero_le _) (fun _=>rfl) (C:=fun _=>[]) (fun i hi=>absurd hi (Nat.not_lt_zero _)) (fun a ha=>by cases ha) (fun a ha=>by cases ha);have:bs=[]:=List.length_eq_zero_iff.1 h6;subst this;exact ⟨_,φ',H',s,[],rfl,h1,h2,h3,h4,h5,Nat.zero_le _⟩
 ·have get:∀i (hi:i<len),∃cs',W.cells? 0 (a.add (i*sz)) sz=some cs'∧DataW.trod enc Tryd.prog W 0 (fun _=>true) true n e cs'=some (elems[i]'(by omega)):=by
   intro i hi;have:=hel i hi;rw [hc,List.getElem?_eq_getElem (by omega)] at this;obtain ⟨cs',h1,h2⟩:=Option.bind_eq_some_iff.1 this;exact ⟨cs',h1,h2⟩
  have hww:∀y∈elems,(y.1.weights Tryd.prog e).all (·≤reachBytes)=true:=by
   intro y hy;rw [List.all_eq_true];intro w' hw';rw [List.all_eq_true] at hw;refine hw w' ?_;simp only [DataW.weights,ht,List.mem_cons,List.mem_append];exact .inr (.inl (z4p (List.mem_map.2 ⟨y,hy,rfl⟩) w' hw'))
  obtain ⟨φ',H',s,bs,h1,h2,h3,h4,h5,h6,_,h8⟩:=Imp.sliceK (n:=len) (c:=cap) (A:=some a) (K:=fun i b=>∀y,(elems.map (·.1))[i]? = some y→w b≤Rows.uptoBulk y) hsz hR h z2z hl hm (fun h=>by cases h) (C:=fun i=>(W.cells? 0 (a.add (i*sz)) sz).getD []) (fun i hi=>by
    obtain ⟨cs',g1,g2⟩:=get i hi;simp only [g1,Option.getD_some];intro φ0 H0 hi0;obtain ⟨φ',H',cs2,b,q1,q2,q3,q4,q5,q6,q7,q8⟩:=elem n (Nat.lt_succ_self n) cs' _ g2 (hww _ (List.getElem_mem _)) φ0 H0 hi0;refine ⟨φ',H',cs2,b,q1,q2,q3,q4,q5,q6,q7,fun y hy=>?_⟩;rw [List.getElem?_map,List.getElem?_eq_getElem (by omega),Option.map_some] at hy;cases hy;exact q8) (fun a' ha' hpos=>by
    cases ha';by_cases h0:0<len
    ·obtain ⟨cs',g1,g2⟩:=get 0 h0;obtain ⟨_,k2,k3⟩:=World.cells?_some g1;have:=k3 0 hsz;rw [Nat.zero_mul,add_zero,add_zero] at this;exact ⟨_,this.trans (List.getElem?_eq_getElem (by omega))⟩
    ·obtain rfl:len=0:=by omega
     obtain ⟨q1,q2⟩:=hsp rfl;have:=q2 0 (by omega);rw [hc,List.getElem?_eq_getElem (by omega)] at this;obtain ⟨cs',g1,g2⟩:=Option.bind_eq_some_iff.1 this;obtain ⟨_,k2,k3⟩:=World.cells?_some g1;have:=k3 0 hsz;rw [Nat.zero_add,Nat.zero_mul,add_zero,add_zero] at this;exact ⟨_,this.trans (List.getElem?_eq_getElem (by omega))⟩) (fun a' ha' i hi j hj=>by
    cases ha';obtain ⟨cs',g1,g2⟩:=get i hi;obtain ⟨_,k2,k3⟩:=World.cells?_some g1;have:=k3 j hj;simp only [g1,Option.getD_some];rw [← this];have hsp:a.spot=none:=by
     obtain ⟨cs0,g1,g2⟩:=get 0 (by omega);obtain ⟨_,k2,k3⟩:=World.cells?_some g1;have k0:=k3 0 hsz;rw [Nat.zero_mul,add_zero,add_zero] at k0;obtain ⟨_,_,_,_,hs,_⟩:=z2i (k0.trans (List.getElem?_eq_getElem (by omega)));exact hs
    rw [z5e hsp])
  refine ⟨_,φ',H',s,bs,rfl,h1,h2,h3,h4,h5,?_⟩;have:=zbw bs (elems.map (·.1)) (by rw [List.length_map]; omega) fun i b y hb hy=>h8 i b hb y hy;simp only [Rows.uptoBulk];omega
structure ZV (H:AH) (cs:List Value) (b:Int):Prop where
 ex:cs=[.int .i64 b]
theorem ZV.ext (H H':AH) (cs:List Value) (b:Int) (hf:Ext H H') (h:ZV H cs b):ZV H' cs b:=⟨h.ex⟩
theorem fl_EZ:∀l:List Int,l.flatMap EZ.enc=l.map fun n=>Value.int .i64 n
 | []=>rfl
 | x :: l=>by rw [List.flatMap_cons,List.map_cons,fl_EZ l]; rfl
theorem ar_of {H:AH} {s:Sl3} {l:List Int} (h:SlL (Stands 1 ZV) 1 H s l):AR H s l:=by
 have cell:∀(i:Nat) (hi:i<l.length),∃a,s.p=some a∧Cel H (a.add i) (.int .i64 l[i]):=fun i hi=>by
  obtain ⟨a,h1,cs,h2,h3,h4⟩:=h.at_.get i hi;obtain rfl:=h4.ex;have:=h3 0 _ rfl;rw [add_zero,Nat.mul_one,Nat.zero_add] at this;exact ⟨a,h1,this⟩
 have fl:=fl_EZ l;refine ⟨h.n,⟨h.n,fun hp=>?_,fun a ha=>?_,?_⟩,fun i hi=>?_⟩
 ·cases l with
  | nil=>exact ⟨rfl,rfl⟩
  | cons x l=>obtain ⟨a,h1,_⟩:=cell 0 (by simp); rw [hp] at h1; cases h1
 ·rw [fl,Nat.mul_one];have:=D7 (H:=H) (a:=a) (l.map fun n=>Value.int .i64 n) 0 fun i hi=>by
   rw [List.length_map] at hi;obtain ⟨a',h1,h2⟩:=cell i hi;rw [ha] at h1;cases h1;rw [Nat.zero_add,List.getElem_map];exact h2.1
  rw [List.length_map] at this;exact this
 ·rw [fl,List.all_eq_true];intro v hv;obtain ⟨n,_,rfl⟩:=List.mem_map.1 hv;rfl
 ·obtain ⟨a,h1,h2⟩:=cell i hi;refine ⟨a.add (i*1),?_,?_⟩
  ·unfold idxA;rw [h1];simp only [h.n,if_pos (show (0:Int)≤(i:Int)∧(i:Int)<((l.length:Nat):Int) by omega),Int.toNat_natCast]
  ·rw [Nat.mul_one,h2.rd]; rfl
structure OpV (H:AH) (cs:List Value) (o:OpD):Prop where
 ex:∃s:Sl3,cs=[.int .i64 o.kd,.int .i64 o.sy,s.v,.int .i64 o.a,.int .i64 o.b,.int .i64 o.tg]∧∀H',Ext H H'→AR H' s o.aa
 ok:-9223372036854775808≤o.sy∧o.sy<9223372036854775808
theorem OpV.ext (H H':AH) (cs:List Value) (o:OpD) (hf:Ext H H') (h:OpV H cs o):OpV H' cs o:=⟨let ⟨s,h1,h2⟩:=h.ex; ⟨s,h1,fun H2 hx=>h2 H2 (hf.trans hx)⟩,h.ok⟩
theorem SlZ.ext {H H':AH} {s:Sl3} {l:List Int} (h:SlL (Stands 1 ZV) 1 H s l) (hf:Ext H H'):SlL (Stands 1 ZV) 1 H' s l :=
 ⟨h.n,h.cap,h.top,fun a ha=>⟨Nat.lt_of_lt_of_le (h.low a ha).1 hf.1,(h.low a ha).2⟩,h.at_.imp fun a x hx=>let ⟨cs,h1,h2,h3⟩:=hx; ⟨cs,h1,fun j v hj=>(h2 j v hj).ext hf,⟨h3.ex⟩⟩⟩
theorem zit (fuel:Nat) (cs:List Value) (x:DataW H×List MemPlace) (hx:DataW.trod enc Tryd.prog W 0 (fun _=>true) true fuel 55 cs=some x) (hw:(x.1.weights Tryd.prog 55).all (·≤reachBytes)=true):ElemK Tryd.prog W 6 OpV (fun o=>o.aa.length+1≤Rows.uptoBulk x.1) cs:=by
 intro φ H0 h;obtain ⟨xs,n,rfl,rfl,hl,hlen,hf⟩:=DataW.trod_struct Tryd.underlying55 hx;rw [cells55] at hl
 match xs,hlen with
 | [y0,y1,y2,y3,y4,y5],_ =>
  match cs,hl with
  | [c0,c1,c2,c3,c4,c5],_ =>
   have f0:DataW.trod enc Tryd.prog W 0 (fun _=>true) true n 3 (([c0,c1,c2,c3,c4,c5].drop 0).take (Tryd.prog.cellsOf 3))=some y0:=hf 0 _ rfl;rw [cells3] at f0;change DataW.trod enc Tryd.prog W 0 (fun _=>true) true n 3 [c0]=some y0 at f0;have f1:DataW.trod enc Tryd.prog W 0 (fun _=>true) true n 3 (([c0,c1,c2,c3,c4,c5].drop 1).take (Tryd.prog.cellsOf 3))=some y1:=hf 1 _ rfl;rw [cells3] at f1;change DataW.trod enc Tryd.prog W 0 (fun _=>true) true n 3 [c1]=some y1 at f1;have f2:DataW.trod enc Tryd.prog W 0 (fun _=>true) true n 27 (([c0,c1,c2,c3,c4,c5].drop 2).take (Tryd.prog.cellsOf 27))=some y2:=hf 2 _ rfl;rw [cells27] at f2;change DataW.trod enc Tryd.prog W 0 (fun _=>true) true n 27 [c2]=some y2 at f2;have f3:DataW.trod enc Tryd.prog W 0 (fun _=>true) true n 3 (([c0,c1,c2,c3,c4,c5].drop 3).take (Tryd.prog.cellsOf 3))=some y3:=hf 3 _ rfl;rw [cells3] at f3;change DataW.trod enc Tryd.prog W 0 (fun _=>true) true n 3 [c3]=some y3 at f3;have f4:DataW.trod enc Tryd.prog W 0 (fun _=>true) true n 3 (([c0,c1,c2,c3,c4,c5].drop 4).take (Tryd.prog.cellsOf 3))=some y4:=hf 4 _ rfl;rw [cells3] at f4;change DataW.trod enc Tryd.prog W 0 (fun _=>true) true n 3 [c4]=some y4 at f4;have f5:DataW.trod enc Tryd.prog W 0 (fun _=>true) true n 3 (([c0,c1,c2,c3,c4,c5].drop 5).take (Tryd.prog.cellsOf 3))=some y5:=hf 5 _ rfl;rw [cells3] at f5;change DataW.trod enc Tryd.prog W 0 (fun _=>true) true n 3 [c5]=some y5 at f5;simp only [DataW.weights,Tryd.underlying55,List.map_cons,List.map_nil,DataW.weightsEach,List.append_nil,List.all_append,Bool.and_eq_true] at hw;obtain ⟨n0,e0,d0,w0⟩:=DataW.trod_int Tryd.underlying3 f0;obtain ⟨n1,e1,d1,w1⟩:=DataW.trod_int Tryd.underlying3 f1;obtain ⟨n3,e3,d3,w3⟩:=DataW.trod_int Tryd.underlying3 f3;obtain ⟨n4,e4,d4,w4⟩:=DataW.trod_int Tryd.underlying3 f4;obtain ⟨n5,e5,d5,w5⟩:=DataW.trod_int Tryd.underlying3 f5;obtain ⟨v,φ',H',s,bs,e2,g1,g2,g3,g4,g5,g7⟩:=z6p (enc:=enc) (w:=fun _:Int=>1) Tryd.underlying27 cells3 (by omega) ZV.ext (fun m hm cs x q1 q2=>fun φ0 H1 h1=>by
    obtain ⟨z,rfl,_,_⟩:=DataW.trod_int Tryd.underlying3 q1;exact ⟨φ0,H1,[.int .i64 z],z,h1,Inj.le_refl _,Fm.refl _ _,rfl,rfl,lr1 (.int _ _),⟨rfl⟩,bulks.one_le _⟩) f2 hw.2.2.1 h
   have g8:(bs.map fun _:Int=>1).sum=bs.length:=by clear g7 g5; induction bs with
    | nil=>rfl
    | cons b bs ih=>rw [List.map_cons,List.sum_cons,ih,List.length_cons]; omega
   simp only [List.cons.injEq,and_true] at e0 e1 e2 e3 e4 e5;subst e0 e1 e2 e3 e4 e5;refine ⟨φ',H',[.int .i64 n0,.int .i64 n1,Sl3.v s,.int .i64 n3,.int .i64 n4,.int .i64 n5],⟨n0,n1,bs,n3,n4,n5⟩,g1,g2,g3,rfl,rfl,.cons (.int _ _) (.cons (.int _ _) (.cons g4 (.cons (.int _ _) (.cons (.int _ _) (.cons (.int _ _) .nil))))),⟨⟨s,rfl,fun H2 hx=>ar_of (SlZ.ext g5 hx)⟩,?_⟩,?_⟩
   ·exact wf_i64 w1
   ·simp only [Rows.uptoBulk,Rows.uptoBulkAll,List.map_cons];show bs.length+1≤_;omega
theorem ops_of {H:AH} {s:Sl3} {l:List OpD} (h:SlL (Stands 6 OpV) 6 H s l):OpsR H s l:=by
 refine ⟨h.n,fun i hi=>?_⟩;obtain ⟨a,h1,cs,h2,h3,h4⟩:=h.at_.get i hi;obtain ⟨sl,rfl,h5⟩:=h4.ex;rw [Nat.zero_add] at h3;refine ⟨a.add (i*6),?_,⟨h3 0 _ rfl,h3 1 _ rfl,⟨sl,h3 2 _ rfl,h5⟩,h3 3 _ rfl,h3 4 _ rfl,h3 5 _ rfl,h4.ok⟩⟩;unfold idxA;rw [h1];simp only [h.n,if_pos (show (0:Int)≤(i:Int)∧(i:Int)<((l.length:Nat):Int) by omega),Int.toNat_natCast]
theorem zfd:∀ops:List OpD,bulkO ops=(ops.map fun o=>o.aa.length+1).sum
 | []=>rfl
 | o :: ops=>by
  have:=zfd ops;unfold bulkO at this ⊢;simp only [List.length_cons,List.map_cons,List.sum_cons];omega
theorem zfz {φ:Inj} {H0:AH} (h:Imp Tryd.prog φ H0 W) {v:Value} {d:DataW H} {ps:List MemPlace} (hd:DataW.Trod enc Tryd.prog W 0 (fun _=>true) true 22 v d ps) {base:Nat} (hv:Value.okWide Tryd.prog W .any base 22 v) (hw:(d.weights Tryd.prog 22).all (·≤reachBytes)=true) :
  ∃φ' H' s ops,Imp Tryd.prog φ' H' W∧φ.le φ'∧Ext H0 H'∧VR φ' (Sl3.v s) v∧OpsR H' s ops∧bulkO ops≤Rows.uptoBulk d:=by
 obtain ⟨A,Ln,C,rfl⟩:=okWide_slice Tryd.underlying22 hv;obtain ⟨fuel,hf⟩:=hd;change DataW.trod enc Tryd.prog W 0 (fun _=>true) true fuel 22 [.slice A Ln C]=some (d,ps) at hf;obtain ⟨v',φ',H',s,bs,e,h1,h2,h3,h4,h5,h6⟩:=z6p (enc:=enc) (w:=fun o:OpD=>o.aa.length+1) Tryd.underlying22 cells55 (by omega) OpV.ext (fun m hm cs x q1 q2=>zit m cs x q1 q2) hf hw h;simp only [List.cons.injEq,and_true] at e;subst e;exact ⟨φ',H',s,bs,h1,h2,h3,h4,ops_of h5,Nat.le_trans (Nat.le_of_eq (zfd bs)) h6⟩
end
end Go.Proofs.YtgkhbmoidenjaaaDoor
namespace Go.Proofs.YtgkhbmoidenjaaaDoor
open Go Go.Abs
set_option maxRecDepth 100000
def sortRen:Go.Shelf.Ren:=⟨fun | 5=>55 | 8=>69 | 7=>68 | 19=>87 | 20=>88 | 10=>78 | 11=>79 | 12=>80 | 13=>81 | 14=>82 | 15=>83 | 16=>84 | 17=>85 | 18=>86 | 30=>90 | 31=>91 | 32=>92 | 33=>93 | 34=>94 | 35=>95 | 40=>97 | n=>n,fun | 23=>27 | 25=>3 | 3=>3 | 32=>118 | 22=>27 | 0=>0 | 44=>136 | 46=>138 | 4=>4 | 36=>130 | 35=>129 | 41=>38 | 5=>5 | 9=>9 | 53=>140 | 57=>144 | 63=>147 | 64=>94 | n=>n,fun n=>n⟩
theorem sortLays:Go.Proofs.SlLaysM.n5 Tryd.prog sortRen:={
 mixed:=by kernel_rfl,
 f5:=⟨Tryd.f55.name,by decide,Tryd.func55.trans (congrArg some (by kernel_rfl))⟩,
 f7:=⟨Tryd.f68.name,by decide,Tryd.func68.trans (congrArg some (by kernel_rfl))⟩,
 f8:=Tryd.func69.trans (congrArg some (by kernel_rfl)),
 f10:=⟨Tryd.f78.name,by decide,Tryd.func78.trans (congrArg some (by kernel_rfl))⟩,
 f11:=⟨Tryd.f79.name,by decide,Tryd.func79.trans (congrArg some (by kernel_rfl))⟩,
 f12:=⟨Tryd.f80.name,by decide,Tryd.func80.trans (congrArg some (by kernel_rfl))⟩,
 f13:=⟨Tryd.f81.name,by decide,Tryd.func81.trans (congrArg some (by kernel_rfl))⟩,
 f14:=⟨Tryd.f82.name,by decide,Tryd.func82.trans (congrArg some (by kernel_rfl))⟩,
 f15:=⟨Tryd.f83.name,by decide,Tryd.func83.trans (congrArg some (by kernel_rfl))⟩,
 f16:=⟨Tryd.f84.name,by decide,Tryd.func84.trans (congrArg some (by kernel_rfl))⟩,
 f17:=⟨Tryd.f85.name,by decide,Tryd.func85.trans (congrArg some (by kernel_rfl))⟩,
 f18:=⟨Tryd.f86.name,by decide,Tryd.func86.trans (congrArg some (by kernel_rfl))⟩,
 f19:=Tryd.func87.trans (congrArg some (by kernel_rfl)),
 f20:=Tryd.func88.trans (congrArg some (by kernel_rfl)),
 f30:=⟨Tryd.f90.name,by decide,Tryd.func90.trans (congrArg some (by kernel_rfl))⟩,
 f31:=Tryd.func91.trans (congrArg some (by kernel_rfl)),
 f32:=Tryd.func92.trans (congrArg some (by kernel_rfl)),
 f33:=⟨Tryd.f93.name,by decide,Tryd.func93.trans (congrArg some (by kernel_rfl))⟩,
 f34:=⟨Tryd.f94.name,by decide,Tryd.func94.trans (congrArg some (by kernel_rfl))⟩,
 f35:=⟨Tryd.f95.name,by decide,Tryd.func95.trans (congrArg some (by kernel_rfl))⟩,
 f40:=⟨Tryd.f97.name,by decide,Tryd.func97.trans (congrArg some (by kernel_rfl))⟩,
 t0:=by kernel_rfl,
 a0:=fun _=>by kernel_rfl,
 z0:=fun _=>by kernel_rfl,
 v0:=fun _=>by kernel_rfl,
 t3:=by kernel_rfl,
 a3:=fun _=>by kernel_rfl,
 z3:=fun _=>by kernel_rfl,
 v3:=fun _=>by kernel_rfl,
 t4:=by kernel_rfl,
 a4:=fun _=>by kernel_rfl,
 z4:=fun _=>by kernel_rfl,
 v4:=fun _=>by kernel_rfl,
 t5:=by kernel_rfl,
 a5:=fun _=>by kernel_rfl,
 z5:=fun _=>by kernel_rfl,
 v5:=fun _=>by kernel_rfl,
 t9:=by kernel_rfl,
 a9:=fun _=>by kernel_rfl,
 z9:=fun _=>by kernel_rfl,
 v9:=fun _=>by kernel_rfl,
 t22:=by kernel_rfl,
 a22:=fun _=>by kernel_rfl,
 z22:=fun _=>by kernel_rfl,
 v22:=fun _=>by kernel_rfl,
 t23:=by kernel_rfl,
 a23:=fun _=>by kernel_rfl,
 z23:=fun _=>by kernel_rfl,
 v23:=fun _=>by kernel_rfl,
 t25:=by kernel_rfl,
 a25:=fun _=>by kernel_rfl,
 z25:=fun _=>by kernel_rfl,
 v25:=fun _=>by kernel_rfl,
 t32:=by kernel_rfl,
 a32:=fun _=>by kernel_rfl,
 z32:=fun _=>by kernel_rfl,
 v32:=fun _=>by kernel_rfl,
 t35:=by kernel_rfl,
 a35:=fun _=>by kernel_rfl,
 z35:=fun _=>by kernel_rfl,
 v35:=fun _=>by kernel_rfl,
 t36:=by kernel_rfl,
 a36:=fun _=>by kernel_rfl,
 z36:=fun _=>by kernel_rfl,
 v36:=fun _=>by kernel_rfl,
 t41:=by kernel_rfl,
 a41:=fun _=>by kernel_rfl,
 z41:=fun _=>by kernel_rfl,
 v41:=fun _=>by kernel_rfl,
 t44:=by kernel_rfl,
 a44:=fun _=>by kernel_rfl,
 z44:=fun _=>by kernel_rfl,
 v44:=fun _=>by kernel_rfl,
 t46:=by kernel_rfl,
 a46:=fun _=>by kernel_rfl,
 z46:=fun _=>by kernel_rfl,
 v46:=fun _=>by kernel_rfl,
 t53:=by kernel_rfl,
 a53:=fun _=>by kernel_rfl,
 z53:=fun _=>by kernel_rfl,
 v53:=fun _=>by kernel_rfl,
 t57:=by kernel_rfl,
 a57:=fun _=>by kernel_rfl,
 z57:=fun _=>by kernel_rfl,
 v57:=fun _=>by kernel_rfl,
 t63:=by kernel_rfl,
 a63:=fun _=>by kernel_rfl,
 z63:=fun _=>by kernel_rfl,
 v63:=fun _=>by kernel_rfl,
 t64:=by kernel_rfl,
 a64:=fun _=>by kernel_rfl,
 z64:=fun _=>by kernel_rfl,
 v64:=fun _=>by kernel_rfl }
theorem z3l:∃fn c,Tryd.prog.funcs[sortRen.f 5]? = some fn∧fn.body=some c:=⟨Tryd.f55,(Tryd.f55.body).getD .skip,Tryd.func55,by kernel_rfl⟩
def intsZ:List Value→Option (List Int)
 | []=>some []
 | .int .i64 z :: l=>(intsZ l).map (z :: ·)
 | _=>none
theorem z9h:∀{l:List Value} {zs:List Int},intsZ l=some zs→l=zs.map fun z=>Value.int .i64 z
 | [],zs,h=>by cases h; rfl
 | v :: l,zs,h=>by
  unfold intsZ at h;split at h
  ·rename_i h1; cases h1
  ·rename_i z r h1;simp only [List.cons.injEq] at h1;obtain ⟨rfl,rfl⟩:=h1;cases hq:intsZ l with
   | none=>rw [hq] at h; cases h
   | some q =>
    rw [hq] at h;cases h;rw [List.map_cons,z9h hq]
  ·cases h
theorem z3g:∀zs:List Int,intsZ (zs.map fun z=>Value.int .i64 z)=some zs
 | []=>rfl
 | z :: zs=>by rw [List.map_cons,intsZ,z3g zs]; rfl
noncomputable def O5 (_L:LC) (m:Nat) (H:AH) (a0:Sl3):Option AH :=
 match a0.p with
 | none=>if a0.n=0∧a0.c=0 then some H else none
 | some a=>match H.get a.block with
  | some { obj:=.cells c e (0,0),opn,esz,ro:=false }=>match intsZ c.toList with
   | some zs=>if a=⟨a.block,0,none⟩∧a0.n=zs.length∧0<zs.length∧zs.length≤1099511627776∧m≤a.block then some (H.put a.block { obj:=.cells (zcells (sortI zs)) e (0,0),opn:=opn,esz:=esz,ro:=false }) else none
   | none=>none
  | _=>none
def zad:AH→Value
 | _=>(Value.tuple #[])
def zbd (_:AH):AH→AH:=fun r=>r
theorem z4n {L:LC} {m:Nat} {H:AH} {a0:Sl3} {r:AH} (h:O5 L m H a0=some r):CallS Tryd.prog (NE.plain 1000) m 55 #[(Sl3.v a0)] H (zad r) (zbd H r):=by
 obtain ⟨p,n,c⟩:=a0;unfold O5 at h;cases p with
 | none =>
  simp only at h;split at h
  ·rename_i hh;obtain ⟨rfl,rfl⟩:=hh;cases h;exact ze0 sortLays z3l
  ·cases h
 | some a =>
  simp only at h;split at h
  ·rename_i cs e opn esz hb;split at h
   ·rename_i zs hz;split at h
    ·rename_i hh;obtain ⟨h1,rfl,h3,h4,h5⟩:=hh;cases h;have hc:cs=zcells zs:=by
      have:=z9h hz;unfold zcells;rw [← this]
     subst hc;have:=zbu (m:=m) (ne:=NE.plain 1000) (c:=c) sortLays z3l hb h5 h3 (by omega);rw [← h1] at this;exact this
    ·cases h
   ·cases h
  ·cases h
end Go.Proofs.YtgkhbmoidenjaaaDoor
