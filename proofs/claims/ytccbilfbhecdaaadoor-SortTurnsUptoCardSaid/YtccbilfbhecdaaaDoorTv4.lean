/- Parts of the proof: an abstract interpreter of the loaded program and its soundness, printed functions, the law's own texts; part 4. No condition. -/
import Derived.Test.YtccbilfbhecdaaaDoorTv3
namespace Go.Proofs.YtccbilfbhecdaaaDoor
open Go Go.Abs
set_option maxRecDepth 100000
theorem zg7 {x:Int} (h0:-1000000≤x) (h1:x≤1000000):IntKind.i64.wrap x=x:=z3p (by omega) (by omega)
theorem pF_eq:∀(f:Fo) (d n:Nat),1≤d→d≤16→n≤256 →
  (pF (d:Int) f (n:Int)).2=decide (d+f.dep≤16∧n+f.size≤256)∧((pF (d:Int) f (n:Int)).2=true→(pF (d:Int) f (n:Int)).1=((n+f.size:Nat):Int)):=by
 intro f
 induction f with
 | nil =>
  intro d n h1 h2 h3
  simp only [pF,Fo.dep,Fo.size]
  exact ⟨(decide_eq_true (show d+0≤16∧n+0≤256 by omega)).symm,fun _=>by simp⟩
 | cons k w nm a r iha ihr =>
  intro d n h1 h2 h3
  have e:IntKind.i64.wrap ((d:Int)+1)=((d+1:Nat):Int):=by rw [zg7 (by omega) (by omega)]; omega
  have hp:pF (d:Int) (.cons k w nm a r) (n:Int)=if (!(pS (IntKind.i64.wrap ((d:Int)+1)) a).2||decide (IntKind.i64.wrap ((n:Int)+(pS (IntKind.i64.wrap ((d:Int)+1)) a).1) > 256))=true then (IntKind.i64.wrap ((n:Int)+(pS (IntKind.i64.wrap ((d:Int)+1)) a).1),false) else pF (d:Int) r (IntKind.i64.wrap ((n:Int)+(pS (IntKind.i64.wrap ((d:Int)+1)) a).1)):=rfl
  rw [hp,e]
  have hq:(pS ((d+1:Nat):Int) a).2=decide (d+1+a.dep≤16∧1+a.size≤256)∧((pS ((d+1:Nat):Int) a).2=true→(pS ((d+1:Nat):Int) a).1=((1+a.size:Nat):Int)):=by
   unfold pS
   by_cases hd:d+1≤16
   ·rw [if_neg (show ¬(((d+1:Nat):Int) > 16) by omega)]
    exact iha (d+1) 1 (by omega) hd (by omega)
   ·rw [if_pos (show (((d+1:Nat):Int) > 16) by omega)]
    exact ⟨(decide_eq_false (by omega)).symm,fun h=>by cases h⟩
  generalize pS ((d+1:Nat):Int) a=q at hq ⊢
  obtain ⟨q1,q2⟩:=hq
  simp only [Fo.dep,Fo.size]
  by_cases hc:d+1+a.dep≤16∧1+a.size≤256
  ·have q1':q.2=true:=by rw [q1]; exact decide_eq_true hc
   have q2':=q2 q1'
   have e2:IntKind.i64.wrap ((n:Int)+q.1)=((n+(1+a.size):Nat):Int):=by rw [q2',zg7 (by omega) (by omega)]; omega
   rw [e2,q1']
   by_cases h5:n+(1+a.size)≤256
   ·have:¬(((n+(1+a.size):Nat):Int) > 256):=by omega
    simp only [Bool.not_true,decide_eq_false this,Bool.or_self,Bool.false_eq_true,if_false]
    obtain ⟨p1,p2⟩:=ihr d (n+(1+a.size)) h1 h2 h5
    refine ⟨?_,fun hh=>?_⟩
    ·rw [p1]
     congr 1
     apply propext
     constructor <;> intro hh <;> omega
    ·rw [p2 hh]; omega
   ·have:((n+(1+a.size):Nat):Int) > 256:=by omega
    simp only [decide_eq_true this,Bool.or_true,if_true]
    exact ⟨(decide_eq_false (by omega)).symm,fun h=>by cases h⟩
  ·have q1':q.2=false:=by rw [q1]; exact decide_eq_false hc
   rw [q1']
   simp only [Bool.not_false,Bool.true_or,if_true]
   exact ⟨(decide_eq_false (by omega)).symm,fun h=>by cases h⟩
def fewS (a:Fo):Bool:=decide (1+a.dep≤16∧1+a.size≤256)
theorem pS_few (a:Fo):(pS 1 a).2=fewS a:=by
 unfold pS fewS
 rw [if_neg (by omega)]
 exact (pF_eq a 1 1 (by omega) (by omega) (by omega)).1
def emptyT:ByteArray:=⟨#[]⟩
def headS (k w:Int) (n:ByteArray) (l:Nat):Bool :=
 if k=1∨k=2 then decide (w=0)&&(n.toList == emptyT.toList)&&decide (l=0)
 else if k=3 then decide (w≥1)&&decide (w≤4096)&&(n.toList == emptyT.toList)&&decide (l=0)
 else if k=4 then decide (w=0)&&(n.toList == emptyT.toList)&&decide (l=2)
 else if k=5∨k=6 then decide (w=0)&&nameS n&&decide (l=0)
 else false
def shF:Fo→Bool
 | .nil=>true
 | .cons k w n a r=>headS k w n a.len&&shF a&&shF r
def shS (k w:Int) (n:ByteArray) (a:Fo):Bool:=headS k w n a.len&&shF a
theorem zhc {n:ByteArray} (h:n.size≤maxS):n.size≤maxN:=by rw [z1r]; unfold maxS at h; omega
theorem zkr (c:Nat) {H:AH}:∀(f:Fo),(∀(fuel:Nat) (k w:Int) (n:ByteArray) (s:Sl3) (a:Fo),SlF H s a→n.size≤maxS→a.dep≤fuel→a.dep<f.dep→z2a (LCo c) (fuel+1) H k w n s=some (shS k w n a)) →
  ∀(s:Sl3) (i:Nat) (b:Bool) (fuel:Nat) (x0 x1:Int) (x2:ByteArray),FoA H s.p i f→s.n=i+f.len→s.n≤maxN→f.dep≤fuel →
  ∃j,loopO (z2s (LCo c) (z2a (LCo c) fuel) H x0 x1 x2 s) (b,(i:Int))=some (.inl (b&&shF f,j)):=by
 intro f
 induction f with
 | nil =>
  intro hrec s i b fuel x0 x1 x2 h hn hm hd
  refine ⟨(i:Int),zy (s':=(b&&shF .nil,(i:Int))) ?_⟩
  simp only [Fo.len,Nat.add_zero] at hn
  unfold z2s
  simp only [if_neg (show ¬((i:Int)<(s.n:Int)) by omega),shF,Bool.and_true]
 | cons k' w' n' a r iha ihr =>
  intro hrec s i b fuel x0 x1 x2 h hn hm hd
  simp only [Fo.len] at hn
  simp only [Fo.dep] at hd hrec
  obtain ⟨q,s',r1,r2,r3,r4,r5,r6,r8,r7⟩:=h.rd (by omega)
  obtain ⟨g,rfl⟩:∃g,fuel=g+1:=⟨fuel - 1,by omega⟩
  have hr:=hrec g k' w' n' s' a r6 r8 (by omega) (by omega)
  have hb:z2s (LCo c) (z2a (LCo c) (g+1)) H x0 x1 x2 s (b,(i:Int))=some (.next (b&&shS k' w' n' a,IntKind.i64.wrap ((i:Int)+1))):=by
   unfold z2s
   simp only [if_pos (show (i:Int)<(s.n:Int) by omega),r1,r2,r3,r4,r5,Option.bind_some,hr]
   cases b <;> rfl
  obtain ⟨j,hj⟩:=ihr (fun fuel k w n s a h1 h2 h3 h4=>hrec fuel k w n s a h1 h2 h3 (by omega)) s (i+1) (b&&shS k' w' n' a) (g+1) x0 x1 x2 r7 (by omega) hm (by omega)
  refine ⟨j,?_⟩
  rw [zl hb,zi (n:=s.n) (by omega) hm,hj]
  simp only [shF,shS,Bool.and_assoc]
theorem zl2 (c:Nat) {k w:Int} {n:ByteArray} {l:Nat} (hn:n.size≤maxS) :
  (Option.bind (α:=Bool) (if k=1 then some true else some (decide (k=2))) fun v8_2 =>
  if v8_2=true then
   if w=0 then if (n.toList == (⟨#[]⟩:ByteArray).toList)=true then some (decide ((l:Int)=0)) else some false else some false
  else
   if k=3 then
    if w≥1 then if w≤4096 then if (n.toList == (⟨#[]⟩:ByteArray).toList)=true then some (decide ((l:Int)=0)) else some false else some false else some false
   else
    if k=4 then
     if w=0 then if (n.toList == (⟨#[]⟩:ByteArray).toList)=true then some (decide ((l:Int)=2)) else some false else some false
    else
     Option.bind (α:=Bool) (if k=5 then some true else some (decide (k=6))) fun v62_3 =>
     if v62_3=true then
      if w=0 then Option.bind (z5v (LCo c) n) fun x4=>if x4=true then some (decide ((l:Int)=0)) else some false else some false
     else some false)=some (headS k w n l):=by
 have hN:=zhy c (zhc hn)
 have e0:decide ((l:Int)=0)=decide (l=0):=by congr 1; apply propext; omega
 have e2:decide ((l:Int)=2)=decide (l=2):=by congr 1; apply propext; omega
 rw [e0,e2]
 unfold headS emptyT
 generalize (n.toList == (⟨#[]⟩:ByteArray).toList)=bn
 by_cases h1:k=1
 ·subst h1
  by_cases hw:w=0 <;> cases bn <;> simp [hw]
 ·by_cases h2:k=2
  ·subst h2
   by_cases hw:w=0 <;> cases bn <;> simp [hw]
  ·by_cases h3:k=3
   ·subst h3
    by_cases hw:w≥1 <;> by_cases hw2:w≤4096 <;> cases bn <;> simp [hw,hw2]
   ·by_cases h4:k=4
    ·subst h4
     by_cases hw:w=0 <;> cases bn <;> simp [hw]
    ·by_cases h5:k=5
     ·subst h5
      by_cases hw:w=0
      ·simp only [hw,hN,Option.bind_some]
       cases nameS n <;> simp
      ·simp [hw]
     ·by_cases h6:k=6
      ·subst h6
       by_cases hw:w=0
       ·simp only [hw,hN,Option.bind_some]
        cases nameS n <;> simp
       ·simp [hw]
      ·simp [h1,h2,h3,h4,h5,h6]
theorem zkp (c:Nat) {H:AH}:∀(d:Nat) (fuel:Nat) (k w:Int) (n:ByteArray) (s:Sl3) (a:Fo),SlF H s a→n.size≤maxS→a.dep≤fuel→a.dep<d→z2a (LCo c) (fuel+1) H k w n s=some (shS k w n a):=by
 intro d
 induction d with
 | zero=>intro fuel k w n s a _ _ _ h; omega
 | succ d ih =>
  intro fuel k w n s a h hn hd hlt
  show z4h (LCo c) (z2a (LCo c) fuel) H k w n s=_
  unfold z4h
  have hh:=zl2 c (k:=k) (w:=w) (n:=n) (l:=s.n) hn
  obtain ⟨j,hj⟩:=zkr c a (fun fuel k w n s a' h1 h2 h3 h4=>ih fuel k w n s a' h1 h2 h3 (by omega)) s 0 (headS k w n s.n) fuel k w n h.2.2 (by rw [h.1]; omega) h.2.1 hd
  rw [hh]
  simp only [Option.bind_some]
  show Option.bind (loopO (z2s (LCo c) (z2a (LCo c) fuel) H k w n s) (headS k w n s.n,((0:Nat):Int))) _=_
  rw [hj,h.1]
  rfl
def wrongS (k w:Int) (n:ByteArray) (a:Fo):Int:=if fewS a=true then if shS k w n a=true then 0 else 40 else 3
theorem zmv (L0 fuel:Nat) (hF:L0=fuel+1) {H:AH} {k w:Int} {n:ByteArray} {s:Sl3} {a:Fo} (h:SlF H s a) (hn:n.size≤maxS) (hd:a.dep≤fuel):z7n (LCo L0) H k w n s=some (wrongS k w n a):=by
 subst hF
 unfold z7n zcf zaz wrongS
 have e1:(LCo (fuel+1)).fuel=fuel+1:=rfl
 rw [e1,znc (fuel+1) fuel h hd k w n 1,zkp (fuel+1) (a.dep+1) fuel k w n s a h hn hd (by omega)]
 simp only [Option.bind_some]
 have:=pS_few a
 generalize pS 1 a=q at this
 obtain ⟨x,b⟩:=q
 simp only at this
 subst this
 simp only
 cases fewS a <;> cases shS k w n a <;> rfl
theorem z6x {k w:Int} {n:ByteArray} {a:Fo} (h:shS k w n a=true) :
  (a=.nil∧(k=1∨k=2∨(k=3∧1≤w∧w≤4096)∨((k=5∨k=6)∧nameS n=true))) ∨
  (k=4∧∃k1 w1 n1 a1 k2 w2 n2 a2,a=.cons k1 w1 n1 a1 (.cons k2 w2 n2 a2 .nil)∧shS k1 w1 n1 a1=true∧shS k2 w2 n2 a2=true):=by
 simp only [shS,Bool.and_eq_true] at h
 obtain ⟨h1,h2⟩:=h
 have nil0:a.len=0→a=.nil:=by
  intro h0
  cases a with
  | nil=>rfl
  | cons=>simp [Fo.len] at h0
 unfold headS at h1
 split at h1
 ·rename_i hk
  simp only [Bool.and_eq_true,decide_eq_true_eq] at h1
  refine .inl ⟨nil0 h1.2,?_⟩
  omega
 ·split at h1
  ·rename_i hk
   simp only [Bool.and_eq_true,decide_eq_true_eq] at h1
   refine .inl ⟨nil0 h1.2,?_⟩
   omega
  ·split at h1
   ·rename_i hk
    simp only [Bool.and_eq_true,decide_eq_true_eq] at h1
    refine .inr ⟨hk,?_⟩
    have hl:=h1.2
    cases a with
    | nil=>simp [Fo.len] at hl
    | cons k1 w1 n1 a1 r1 =>
     cases r1 with
     | nil=>simp [Fo.len] at hl
     | cons k2 w2 n2 a2 r2 =>
      have hr2:r2=.nil:=by
       cases r2 with
       | nil=>rfl
       | cons=>simp [Fo.len] at hl
      subst hr2
      simp only [shF,Bool.and_eq_true] at h2
      refine ⟨_,_,_,_,_,_,_,_,rfl,?_,?_⟩
      ·simp only [shS,Bool.and_eq_true]; exact h2.1
      ·simp only [shS,Bool.and_eq_true]; exact h2.2.1
   ·split at h1
    ·rename_i hk
     simp only [Bool.and_eq_true,decide_eq_true_eq] at h1
     refine .inl ⟨nil0 h1.2,?_⟩
     have:=h1.1.2
     rcases hk with rfl | rfl <;> simp [this]
    ·cases h1
theorem zgo {k w:Int} {n:ByteArray} {a:Fo} (h:shS k w n a=true) (hk:k=5∨k=6):a=.nil:=by
 rcases z6x h with ⟨h1,_⟩ | ⟨h1,_⟩
 ·exact h1
 ·omega
theorem zg6 {k w:Int} {n:ByteArray} {a:Fo} (h:wrongS k w n a=0):shS k w n a=true∧1+a.dep≤16∧1+a.size≤256:=by
 unfold wrongS fewS at h
 split at h
 ·rename_i h1
  split at h
  ·rename_i h2
   exact ⟨h2,of_decide_eq_true h1⟩
  ·cases h
 ·cases h
end Go.Proofs.YtccbilfbhecdaaaDoor
namespace Go.Proofs.YtccbilfbhecdaaaDoor
open Go Go.Abs
set_option maxRecDepth 100000
theorem pe_int (a b:Int):peval Tryd.prog (Op.equalIn 9999 25 (.int .i64 a) (.int .i64 b))=some (a == b):=by kernel_rfl
theorem pe_str (s t:ByteArray):peval Tryd.prog (Op.equalIn 9999 9 (.string s) (.string t))=some (s == t):=by kernel_rfl
noncomputable def keyFs:Array Field:=match Tryd.prog.underlying 98 with | some (.struct fs)=>fs | _=>#[]
theorem zjb:Tryd.prog.underlying 98=some (.struct keyFs):=by kernel_rfl
theorem zp6:keyFs=#[keyFs[0]!,keyFs[1]!]:=by kernel_rfl
theorem z5a {P:Program} {α β:Type} (s:Sem α) (k:α→Sem β):peval P (Sem.bind s k)=(peval P s).bind fun a=>peval P (k a):=by
 have:=znb (P:=P) s k
 refine this.trans ?_
 cases peval P s <;> rfl
theorem key_eq (a b:Int) (s t:ByteArray):peval Tryd.prog (Op.equal 98 (.agg #[.int .i64 a,.string s]) (.agg #[.int .i64 b,.string t]))=some ((a == b)&&(s == t)):=by
 show peval Tryd.prog (Op.equalIn (9999+1) 98 _ _)=_
 rw [Op.equalIn]
 have hst:Tryd.prog.stoodInHeld 98=false:=by kernel_rfl
 have t0:keyFs[0]!.type=25:=by kernel_rfl
 have t1:keyFs[1]!.type=9:=by kernel_rfl
 have n0:keyFs[0]!.name = "kind":=by kernel_rfl
 have n1:keyFs[1]!.name = "name":=by kernel_rfl
 have p0:∀(v w:Value),peval Tryd.prog (part 25 #[v,w] keyFs[0]!.offset)=some v:=by intro v w; kernel_rfl
 have p1:∀(v w:Value),peval Tryd.prog (part 9 #[v,w] keyFs[1]!.offset)=some w:=by intro v w; kernel_rfl
 simp only [Go.underlying,Go.program,bind,peval,zjb,Pure.pure,Sem.bind,hst,Bool.false_eq_true,if_false]
 rw [zp6]
 simp [t0,t1,n0,n1,bind,pure]
 rw [z5a,z5a,z5a,p0]
 simp only [Option.bind_some]
 rw [z5a,p0]
 simp only [Option.bind_some]
 rw [z5a,pe_int]
 simp only [Option.bind_some]
 cases a == b with
 | false=>rfl
 | true =>
  simp only [Bool.true_eq_false,if_false,peval,Option.bind_some,Bool.true_and]
  rw [z5a,z5a,p1]
  simp only [Option.bind_some]
  rw [z5a,p1]
  simp only [Option.bind_some]
  rw [z5a,pe_str]
  simp only [Option.bind_some]
  cases s == t <;> rfl
def keyV (x:Int×ByteArray):Value:=.agg #[.int .i64 x.1,.string x.2]
theorem keyK:KeyK Tryd.prog 98 keyV:=by
 refine ⟨⟨_,zjb,.inr ⟨fun a b=>rfl,fun a b=>?_⟩⟩,fun a b=>by kernel_rfl,fun a=>?_⟩
 ·refine (key_eq a.1 b.1 a.2 b.2).trans ?_
  rw [ba_beq]
  obtain ⟨a1,a2⟩:=a
  obtain ⟨b1,b2⟩:=b
  congr 1
  rw [Bool.eq_iff_iff]
  simp
 ·obtain ⟨a1,a2⟩:=a
  have h:(a2 == a2)=true:=by rw [ba_beq]; simp
  have h1:(a1 == a1)=true:=by simp
  show ((#[Value.int .i64 a1,.string a2]:Array Value).size == (#[Value.int .i64 a1,.string a2]:Array Value).size&&(([(Value.int .i64 a1,Value.int .i64 a1),(.string a2,.string a2)]).all fun (x,y)=>Instr.sameBits 9999 x y))=true
  simp [Instr.sameBits,h]
theorem und94:Tryd.prog.underlying 94=some (.map 98 3):=by kernel_rfl
theorem zero3:(Tryd.prog.info? 3).bind (·.zero)=some (.int .i64 0):=by kernel_rfl
end Go.Proofs.YtccbilfbhecdaaaDoor
namespace Go.Proofs.YtccbilfbhecdaaaDoor
open Go Go.Abs
set_option maxRecDepth 100000
structure Sel where
 n:ByteArray
 k:Int
 w:Int
 sn:ByteArray
 a:Fo
structure Con where
 n:ByteArray
 sels:List Sel
structure Dat where
 n:ByteArray
 cons:List Con
structure Fnc where
 n:ByteArray
 args:Fo
 k:Int
 w:Int
 sn:ByteArray
 a:Fo
structure Sg where
 users:List ByteArray
 datas:List Dat
 funs:List Fnc
structure SgB (g:Sg):Prop where
 u:g.users.length≤maxS
 d:g.datas.length≤maxS
 f:g.funs.length≤maxS
def StrM (H:AH) (q:Addr) (s:ByteArray):Prop:=StrA H q s∧s.size≤maxS
structure SelA (H:AH) (q:Addr) (x:Sel):Prop where
 n:Cel H (q.add 0) (.string x.n)
 nm:x.n.size≤maxS
 ex:∃s,Cel H (q.add 1) (.int .i64 x.k)∧Cel H (q.add 2) (.int .i64 x.w)∧Cel H (q.add 3) (.string x.sn)∧Cel H (q.add 4) (Sl3.v s)∧x.sn.size≤maxS∧SlF H s x.a
structure ConA (H:AH) (q:Addr) (x:Con):Prop where
 n:Cel H (q.add 0) (.string x.n)
 nm:x.n.size≤maxS
 ex:∃s,Cel H (q.add 1) (Sl3.v s)∧SlL SelA 5 H s x.sels
structure DatA (H:AH) (q:Addr) (x:Dat):Prop where
 n:Cel H (q.add 0) (.string x.n)
 nm:x.n.size≤maxS
 ex:∃s,Cel H (q.add 1) (Sl3.v s)∧SlL ConA 2 H s x.cons
structure FncA (H:AH) (q:Addr) (x:Fnc):Prop where
 n:Cel H (q.add 0) (.string x.n)
 nm:x.n.size≤maxS
 ar:∃s,Cel H (q.add 1) (Sl3.v s)∧SlF H s x.args
 ex:∃s,Cel H (q.add 2) (.int .i64 x.k)∧Cel H (q.add 3) (.int .i64 x.w)∧Cel H (q.add 4) (.string x.sn)∧Cel H (q.add 5) (Sl3.v s)∧x.sn.size≤maxS∧SlF H s x.a
structure SigA (H:AH) (s1 s2 s3:Sl3) (g:Sg):Prop where
 u:SlL StrM 1 H s1 g.users
 d:SlL DatA 2 H s2 g.datas
 f:SlL FncA 6 H s3 g.funs
theorem StrM.ext {H H':AH} (hf:Ext H H') {q:Addr} {x:ByteArray} (h:StrM H q x):StrM H' q x:=⟨Cel.ext h.1 hf,h.2⟩
theorem SelA.ext {H H':AH} (hf:Ext H H') {q:Addr} {x:Sel} (h:SelA H q x):SelA H' q x :=
 ⟨h.n.ext hf,h.nm,let ⟨s,a,b,c,d,e,f⟩:=h.ex; ⟨s,a.ext hf,b.ext hf,c.ext hf,d.ext hf,e,f.ext hf⟩⟩
theorem ConA.ext {H H':AH} (hf:Ext H H') {q:Addr} {x:Con} (h:ConA H q x):ConA H' q x :=
 ⟨h.n.ext hf,h.nm,let ⟨s,a,b⟩:=h.ex; ⟨s,a.ext hf,b.ext hf fun _ _ h=>h.ext hf⟩⟩
theorem DatA.ext {H H':AH} (hf:Ext H H') {q:Addr} {x:Dat} (h:DatA H q x):DatA H' q x :=
 ⟨h.n.ext hf,h.nm,let ⟨s,a,b⟩:=h.ex; ⟨s,a.ext hf,b.ext hf fun _ _ h=>h.ext hf⟩⟩
theorem FncA.ext {H H':AH} (hf:Ext H H') {q:Addr} {x:Fnc} (h:FncA H q x):FncA H' q x :=
 ⟨h.n.ext hf,h.nm,let ⟨s,a,b⟩:=h.ar; ⟨s,a.ext hf,b.ext hf⟩,let ⟨s,a,b,c,d,e,f⟩:=h.ex; ⟨s,a.ext hf,b.ext hf,c.ext hf,d.ext hf,e,f.ext hf⟩⟩
theorem SigA.ext {H H':AH} (hf:Ext H H') {s1 s2 s3:Sl3} {g:Sg} (h:SigA H s1 s2 s3 g):SigA H' s1 s2 s3 g :=
 ⟨h.u.ext hf fun _ _ h=>h.ext hf,h.d.ext hf fun _ _ h=>h.ext hf,h.f.ext hf fun _ _ h=>h.ext hf⟩
def dataIx (l:List Dat) (n:ByteArray):Option Nat:=l.findIdx? fun d=>decide (d.n=n)
def hasU (us:List ByteArray) (n:ByteArray):Bool:=us.any fun u=>decide (u=n)
def bookF (us:List ByteArray) (ds:List Dat) (x:Int×ByteArray):Option Value :=
 if x.1=5 then if hasU us x.2=true then some (.int .i64 0) else none
 else if x.1=6 then (dataIx ds x.2).map fun (i:Nat)=>Value.int .i64 (i:Int)
 else none
structure Book (H:AH) (p:Addr) (s1 s2 s3:Sl3) (g:Sg):Prop where
 c1:Cel H (p.add 0) s1.v
 c2:Cel H (p.add 1) s2.v
 c3:Cel H (p.add 2) s3.v
 ex:∃id,Cel H (p.add 3) (.map (some id))∧id<H.next∧MapA keyV H id (bookF g.users g.datas)
theorem Book.ext {H H':AH} (hf:Ext H H') {p:Addr} {s1 s2 s3:Sl3} {g:Sg} (h:Book H p s1 s2 s3 g):Book H' p s1 s2 s3 g :=
 ⟨h.c1.ext hf,h.c2.ext hf,h.c3.ext hf,let ⟨id,a,b,c⟩:=h.ex; ⟨id,a.ext hf,Nat.lt_of_lt_of_le b hf.1,c.fr hf b fun h=>h⟩⟩
theorem MapA.congr {H:AH} {id:Nat} {f f':Int×ByteArray→Option Value} (h:MapA keyV H id f) (e:∀x,f x=f' x):MapA keyV H id f':=by
 have:f=f':=funext e
 rw [← this]; exact h
theorem zhh {us:List ByteArray} {i:Nat} (hi:i<us.length) (n:ByteArray):hasU (us.take (i+1)) n=(hasU (us.take i) n||decide (us[i]=n)):=by
 unfold hasU
 rw [List.take_succ_eq_append_getElem hi,List.any_append,List.any_cons,List.any_nil,Bool.or_false]
theorem zrx (c m:Nat) {H4:AH} {s1 s2 s3:Sl3} {us:List ByteArray} {p3:Addr} {id:Nat} (hu:SlL StrM 1 H4 s1 us) (hc:Cel H4 (p3.add 3) (.map (some id))) (hp:p3.block≠id)
  (hub:∀a,s1.p=some a→a.block≠id) (hid:id<H4.next) (hm:m≤id) (hM:MapA keyV H4 id fun _=>none) :
  ∃H5,loopO (z3t (LCo c) m s1 s2 s3 p3) (H4,0)=some (.inl (H5,(s1.n:Int)))∧Fm (fun i=>i=id) H4 H5∧H5.next=H4.next∧MapA keyV H5 id (bookF us []):=by
 obtain ⟨o,h1,h2⟩:=zci (body:=z3t (LCo c) m s1 s2 s3 p3) us
  (fun i st=>st.2=(i:Int)∧Fm (fun j=>j=id) H4 st.1∧st.1.next=H4.next∧MapA keyV st.1 id (bookF (us.take i) []))
  (fun o=>∃H5,o=.inl (H5,(s1.n:Int))∧Fm (fun i=>i=id) H4 H5∧H5.next=H4.next∧MapA keyV H5 id (bookF us []))
  (fun i st hi h=>by
   obtain ⟨H5,v⟩:=st
   obtain ⟨h1,h2,h3,h4⟩:=h
   simp only at h1 h2 h3 h4
   subst h1 hi
   refine ⟨(H5,(us.length:Int)),?_,H5,by rw [hu.n],h2,h3,by rw [List.take_length] at h4; exact h4⟩
   unfold z3t
   have:=hu.n
   simp only [if_neg (show ¬((us.length:Int)<(s1.n:Int)) by omega)])
  (fun i hi st h=>by
   obtain ⟨H5,v⟩:=st
   obtain ⟨h1,h2,h3,h4⟩:=h
   simp only at h1 h2 h3 h4
   subst h1
   have hn:=hu.n
   obtain ⟨a,g1,g2⟩:=hu.at_.get i hi
   rw [Nat.zero_add] at g2
   have hne:(a.add (i*1)).block≠id:=by rw [z1u]; exact hub a g1
   have r1:rd deS H5 (a.add (i*1))=some us[i]:=by
    rw [(Cel.fr g2.1 h2 hne).rd]; rfl
   have r2:rd deM H5 (p3.add 3)=some (some id):=by
    rw [(Cel.fr hc h2 (by rw [z1u]; exact hp)).rd]; rfl
   obtain ⟨H',u1,u2,u3,u4⟩:=z99 keyK und94 h4 hm (5,us[i]) (.int .i64 0)
   refine .inr ⟨(H',((i+1:Nat):Int)),?_,rfl,h2.comp u3 fun _ _ h=>h,u4.trans h3,MapA.congr u2 fun x=>?_⟩
   ·unfold z3t
    simp only [if_pos (show (i:Int)<(s1.n:Int) by omega),z46 g1 rfl (show i<s1.n by omega),Option.bind_some,r1,r2]
    have u1':upM Tryd.prog m 94 H5 (some id) (Value.agg #[(Value.int .i64 5),(Value.string us[i])]) (Value.int .i64 0)=some H':=u1
    rw [u1',zi hi hu.len]
    rfl
   ·obtain ⟨xk,xn⟩:=x
    simp only [bookF,zhh hi,Prod.mk.injEq]
    generalize hasU (us.take i) xn=b
    by_cases e1:xk=5
    ·by_cases e2:xn=us[i]
     ·subst e2; cases b <;> simp [e1]
     ·have e2':¬us[i]=xn:=fun h=>e2 h.symm
      cases b <;> simp [e1,e2,e2']
    ·simp [e1])
  (s:=(H4,0)) ⟨rfl,Fm.refl _ _,rfl,MapA.congr hM fun x=>by simp [bookF,dataIx,hasU]⟩
 obtain ⟨H5,rfl,h3⟩:=h2
 exact ⟨H5,h1,h3⟩
theorem zek {ds:List Dat} {i:Nat} (hi:i<ds.length) (n:ByteArray):dataIx (ds.take (i+1)) n=match dataIx (ds.take i) n with | some j=>some j | none=>if ds[i].n=n then some i else none:=by
 unfold dataIx
 rw [List.take_succ_eq_append_getElem hi,List.findIdx?_append]
 cases (ds.take i).findIdx? fun d=>decide (d.n=n) with
 | some j=>rfl
 | none =>
  have:(ds.take i).length=i:=by simp; omega
  by_cases h:ds[i].n=n <;> simp [h,this]
theorem zrv (c m:Nat) {H4:AH} {s1 s2 s3:Sl3} {us:List ByteArray} {ds:List Dat} {p3:Addr} {id:Nat} (hd:SlL DatA 2 H4 s2 ds) (hc:Cel H4 (p3.add 3) (.map (some id))) (hp:p3.block≠id)
  (hdb:∀a,s2.p=some a→a.block≠id) (hid:id<H4.next) (hm:m≤id) (hM:MapA keyV H4 id (bookF us [])) :
  ∃H5,loopO (z35 (LCo c) m s1 s2 s3 p3) (H4,0)=some (.inl (H5,(s2.n:Int)))∧Fm (fun i=>i=id) H4 H5∧H5.next=H4.next∧MapA keyV H5 id (bookF us ds):=by
 obtain ⟨o,h1,h2⟩:=zci (body:=z35 (LCo c) m s1 s2 s3 p3) ds
  (fun i st=>st.2=(i:Int)∧Fm (fun j=>j=id) H4 st.1∧st.1.next=H4.next∧MapA keyV st.1 id (bookF us (ds.take i)))
  (fun o=>∃H5,o=.inl (H5,(s2.n:Int))∧Fm (fun i=>i=id) H4 H5∧H5.next=H4.next∧MapA keyV H5 id (bookF us ds))
  (fun i st hi h=>by
   obtain ⟨H5,v⟩:=st
   obtain ⟨h1,h2,h3,h4⟩:=h
   simp only at h1 h2 h3 h4
   subst h1 hi
   refine ⟨(H5,(ds.length:Int)),?_,H5,by rw [hd.n],h2,h3,by rw [List.take_length] at h4; exact h4⟩
   unfold z35
   have:=hd.n
   simp only [if_neg (show ¬((ds.length:Int)<(s2.n:Int)) by omega)])
  (fun i hi st h=>by
   obtain ⟨H5,v⟩:=st
   obtain ⟨h1,h2,h3,h4⟩:=h
   simp only at h1 h2 h3 h4
   subst h1
   have hn:=hd.n
   obtain ⟨a,g1,g2⟩:=hd.at_.get i hi
   rw [Nat.zero_add] at g2
   obtain ⟨sc,g3,_⟩:=g2.ex
   have hne:∀j,((a.add (i*2)).add j).block≠id:=fun j=>by rw [z1u,z1u]; exact hdb a g1
   have r1:rd deS H5 ((a.add (i*2)).add 0)=some ds[i].n:=by
    rw [(Cel.fr g2.n h2 (hne 0)).rd]; rfl
   have r3:rd deSl H5 ((a.add (i*2)).add 1)=some sc:=by
    rw [(Cel.fr g3 h2 (hne 1)).rd]; rfl
   have r2:rd deM H5 (p3.add 3)=some (some id):=by
    rw [(Cel.fr hc h2 (by rw [z1u]; exact hp)).rd]; rfl
   have hl:=zc2 keyK und94 zero3 rfl h4 (6,ds[i].n) (deI .i64)
   have hl':lkM Tryd.prog 94 (deI .i64) H5 (some id) (Value.agg #[(Value.int .i64 6),(Value.string ds[i].n)])=some ((deI .i64 ((bookF us (ds.take i) (6,ds[i].n)).getD (.int .i64 0))).getD 0,(bookF us (ds.take i) (6,ds[i].n)).isSome):=by
    refine hl.trans ?_
    simp only [bookF,if_neg (show ¬((6:Int)=5) by omega),if_pos (show (6:Int)=6 from rfl)]
    cases dataIx (ds.take i) ds[i].n <;> rfl
   cases hq:dataIx (ds.take i) ds[i].n with
   | some j =>
    refine .inr ⟨(H5,((i+1:Nat):Int)),?_,rfl,h2,h3,MapA.congr h4 fun x=>?_⟩
    ·unfold z35
     simp only [if_pos (show (i:Int)<(s2.n:Int) by omega),z46 g1 rfl (show i<s2.n by omega),Option.bind_some,r1,r2,r3,hl']
     simp only [bookF,if_neg (show ¬((6:Int)=5) by omega),if_pos (show (6:Int)=6 from rfl),hq,Option.map_some,Option.isSome_some,if_true,Option.bind_some]
     rw [zi hi hd.len]
    ·obtain ⟨xk,xn⟩:=x
     simp only [bookF]
     by_cases e1:xk=5
     ·simp [e1]
     ·by_cases e2:xk=6
      ·simp only [if_neg e1,if_pos e2,zek hi xn]
       cases hr:dataIx (ds.take i) xn with
       | some _=>rfl
       | none =>
        by_cases e3:ds[i].n=xn
        ·subst e3; rw [hq] at hr; cases hr
        ·simp [e3]
      ·simp [e1,e2]
   | none =>
    obtain ⟨H',u1,u2,u3,u4⟩:=z99 keyK und94 h4 hm (6,ds[i].n) (.int .i64 (i:Int))
    refine .inr ⟨(H',((i+1:Nat):Int)),?_,rfl,h2.comp u3 fun _ _ h=>h,u4.trans h3,MapA.congr u2 fun x=>?_⟩
    ·unfold z35
     have u1':upM Tryd.prog m 94 H5 (some id) (Value.agg #[(Value.int .i64 6),(Value.string ds[i].n)]) (Value.int .i64 (i:Int))=some H':=u1
     simp only [if_pos (show (i:Int)<(s2.n:Int) by omega),z46 g1 rfl (show i<s2.n by omega),Option.bind_some,r1,r2,r3,hl']
     simp only [bookF,if_neg (show ¬((6:Int)=5) by omega),if_pos (show (6:Int)=6 from rfl),hq,Option.map_none,Option.isSome_none,Bool.false_eq_true,if_false,Option.bind_some,u1']
     rw [zi hi hd.len]
     rfl
    ·obtain ⟨xk,xn⟩:=x
     simp only [bookF,Prod.mk.injEq]
     by_cases e1:xk=5
     ·simp [e1]
     ·by_cases e2:xk=6
      ·simp only [if_neg e1,if_pos e2,zek hi xn,e2,true_and]
       by_cases e3:xn=ds[i].n
       ·subst e3; simp [hq]
       ·have e3':¬ds[i].n=xn:=fun h=>e3 h.symm
        simp only [if_neg e3,if_neg e3']
        cases dataIx (ds.take i) xn <;> rfl
      ·simp [e1,e2])
  (s:=(H4,0)) ⟨rfl,Fm.refl _ _,rfl,MapA.congr hM fun x=>by simp [bookF,dataIx]⟩
 obtain ⟨H5,rfl,h3⟩:=h2
 exact ⟨H5,h1,h3⟩
theorem zag (c m:Nat) {H:AH} {s1 s2 s3:Sl3} {g:Sg} (h:SigA H s1 s2 s3 g) (hm:m≤H.next) :
  ∃p H',z58 (LCo c) m H s1 s2 s3=some (some p,H')∧Ext H H'∧Book H' p s1 s2 s3 g∧p.block<H'.next∧H.next≤p.block:=by
 have x2:Ext H (H.push mapB):=Fm.push _ _ _
 have x4:Ext (H.push mapB) ((H.push mapB).push (pubB 96 [Sl3.v s1,Sl3.v s2,Sl3.v s3,.map (some H.next)])):=Fm.push _ _ _
 generalize hH4:(H.push mapB).push (pubB 96 [Sl3.v s1,Sl3.v s2,Sl3.v s3,.map (some H.next)])=H4 at x4
 have xx:Ext H H4:=x2.trans x4
 have n4:H4.next=H.next+2:=by rw [← hH4]; simp
 have cel:∀(i:Nat) (v:Value),[Sl3.v s1,Sl3.v s2,Sl3.v s3,.map (some H.next)][i]? = some v→Cel H4 ((⟨H.next+1,0,none⟩:Addr).add i) v:=by
  intro i v hv
  rw [z3i,Nat.zero_add,← hH4]
  have:=Cel.push (H:=H.push mapB) (b:=pubB 96 [Sl3.v s1,Sl3.v s2,Sl3.v s3,.map (some H.next)]) (c:=[Sl3.v s1,Sl3.v s2,Sl3.v s3,.map (some H.next)].toArray) (e:=96) (f:=(0,0)) rfl (i:=i) (v:=v) (by simpa using hv)
  exact this
 have hM4:MapA keyV H4 H.next fun _=>none:=(MapA.new keyV (H:=H)).fr x4 (by simp) fun h=>h
 have sg:=h.ext xx
 obtain ⟨H5,l1,f1,n1,M1⟩:=zrx c m (s2:=s2) (s3:=s3) sg.u (cel 3 _ rfl) (by simp) (fun a ha=>by have:=(h.u.low a ha).1; omega) (by omega) hm hM4
 have keep:∀{α:Type} {R:AH→Addr→α→Prop} {sz:Nat} {s:Sl3} {xs:List α},SlL R sz H s xs→True:=fun _=>trivial
 have x5:Ext H H5:=by
  refine xx.comp f1 fun i hi _=>?_
  omega
 obtain ⟨H6,l2,f2,n2,M2⟩:=zrv c m (s1:=s1) (s3:=s3) (us:=g.users) (h.d.ext x5 fun _ _ h=>h.ext x5) (Cel.fr (cel 3 _ rfl) f1 (by rw [z1u]; simp)) (by simp) (fun a ha=>by have:=(h.d.low a ha).1; omega) (by omega) hm M1
 have x6:Ext H H6:=by
  refine x5.comp f2 fun i hi _=>?_
  omega
 have cel6:∀(i:Nat) (v:Value),[Sl3.v s1,Sl3.v s2,Sl3.v s3,.map (some H.next)][i]? = some v→Cel H6 ((⟨H.next+1,0,none⟩:Addr).add i) v:=fun i v hv =>
  Cel.fr (Cel.fr (cel i v hv) f1 (by rw [z1u]; simp)) f2 (by rw [z1u]; simp)
 refine ⟨⟨H.next+1,0,none⟩,H6,?_,x6,⟨cel6 0 _ rfl,cel6 1 _ rfl,cel6 2 _ rfl,H.next,cel6 3 _ rfl,by omega,M2⟩,by simp; omega,by simp⟩
 unfold z58 newM newB
 simp only [Option.bind_some,AH.next_push]
 rw [hH4]
 show Option.bind (loopO (z3t (LCo c) m s1 s2 s3 ⟨H.next+1,0,none⟩) (H4,0)) _=_
 rw [l1]
 simp only [Option.bind_some]
 show Option.bind (loopO (z35 (LCo c) m s1 s2 s3 ⟨H.next+1,0,none⟩) (H5,0)) _=_
 rw [l2]
 rfl
def knF (us:List ByteArray) (ds:List Dat):Fo→Bool
 | .nil=>true
 | .cons k _ n a r=>(if k=5 then hasU us n else if k=6 then (dataIx ds n).isSome else knF us ds a)&&knF us ds r
def knS (us:List ByteArray) (ds:List Dat) (k:Int) (n:ByteArray) (a:Fo):Bool:=if k=5 then hasU us n else if k=6 then (dataIx ds n).isSome else knF us ds a
theorem zqf {H:AH} {body:Int→Option (Lp Int Bool)} (ok:Int→Int→ByteArray→Fo→Bool) (all:Fo→Bool) (h0:all .nil=true) (h1:∀k w n a r,all (.cons k w n a r)=(ok k w n a&&all r)):∀(f:Fo) (s:Sl3) (i:Nat),FoA H s.p i f→s.n=i+f.len→s.n≤maxN →
  (∀(j:Nat),j<s.n→∀k w n a r,FoA H s.p j (.cons k w n a r)→a.dep<f.dep→body (j:Int)=some (if ok k w n a=true then .next (IntKind.i64.wrap ((j:Int)+1)) else .ret false)) →
  (body (s.n:Int)=some (.brk (s.n:Int)))→loopO body (i:Int)=some (if all f=true then .inl (s.n:Int) else .inr false):=by
 intro f
 induction f with
 | nil =>
  intro s i h hn hm hb he
  simp only [Fo.len,Nat.add_zero] at hn
  subst hn
  rw [h0]
  exact zy he
 | cons k w n a r iha ihr =>
  intro s i h hn hm hb he
  simp only [Fo.len] at hn
  have hbi:=hb i (by omega) k w n a r h (by simp only [Fo.dep]; omega)
  rw [h1]
  cases hq:ok k w n a with
  | false=>rw [hq] at hbi; exact z45 hbi
  | true =>
   rw [hq] at hbi
   simp only [if_true] at hbi
   rw [zl hbi,zi (n:=s.n) (by omega) hm,Bool.true_and]
   exact ihr s (i+1) h.2 (by omega) hm (fun j hj k w n a r2 g1 g2=>hb j hj k w n a r2 g1 (by simp only [Fo.dep]; omega)) he
theorem zmb (c:Nat) {H:AH} {p:Addr} {s1 s2 s3:Sl3} {g:Sg} (hB:Book H p s1 s2 s3 g):∀(d fuel:Nat) (k w:Int) (n:ByteArray) (s:Sl3) (a:Fo),SlF H s a→a.dep≤fuel→a.dep<d →
  z3e (LCo c) (fuel+1) H (some p) k w n s=some (knS g.users g.datas k n a):=by
 intro d
 induction d with
 | zero=>intro fuel k w n s a _ _ h; omega
 | succ d ih =>
  intro fuel k w n s a h hf hd
  show z30 (LCo c) (z3e (LCo c) fuel) H (some p) k w n s=_
  unfold z30 knS
  obtain ⟨id,q1,q2,q3⟩:=hB.ex
  have r1:rd deM H (p.add 3)=some (some id):=by rw [q1.rd]; rfl
  have hl:=zc2 keyK und94 zero3 rfl q3 (k,n) (deI .i64)
  by_cases e5:k=5
  ·subst e5
   have hl':lkM Tryd.prog 94 (deI .i64) H (some id) (Value.agg #[(Value.int .i64 5),(Value.string n)])=some (0,hasU g.users n):=by
    refine hl.trans ?_
    simp only [bookF]
    cases hasU g.users n <;> rfl
   simp only [if_true,Option.bind_some,r1,hl']
  ·by_cases e6:k=6
   ·subst e6
    have hl':lkM Tryd.prog 94 (deI .i64) H (some id) (Value.agg #[(Value.int .i64 6),(Value.string n)])=some (((dataIx g.datas n).map fun (i:Nat)=>(i:Int)).getD 0,(dataIx g.datas n).isSome):=by
     refine hl.trans ?_
     simp only [bookF]
     cases dataIx g.datas n <;> rfl
    simp only [if_neg (show ¬((6:Int)=5) by omega),Option.bind_some,decide_true,if_true,r1,hl']
   ·simp only [if_neg e5,if_neg e6,decide_eq_false e6,Option.bind_some,Bool.false_eq_true,if_false]
    show Option.bind (loopO (z2r (LCo c) (z3e (LCo c) fuel) H (some p) k w n s) ((0:Nat):Int)) _=_
    rw [zqf (fun k w n a=>knS g.users g.datas k n a) (knF g.users g.datas) rfl (fun _ _ _ _ _=>rfl) a s 0 h.2.2 (by rw [h.1]; omega) h.2.1 ?_ ?_]
    ·cases knF g.users g.datas a <;> rfl
    ·intro j hj k1 w1 n1 a1 r f1 f3
     unfold z2r
     obtain ⟨q1,t1,p1,p2,p3,p4,p5,p6,p7,p8⟩:=f1.rd hj
     obtain ⟨g',rfl⟩:∃g',fuel=g'+1:=⟨fuel - 1,by omega⟩
     have hr:=ih g' k1 w1 n1 t1 a1 p6 (by omega) (by omega)
     simp only [if_pos (show (j:Int)<(s.n:Int) by omega),p1,p2,p3,p4,p5,Option.bind_some,hr]
     cases knS g.users g.datas k1 n1 a1 <;> rfl
    ·unfold z2r
     rw [if_neg (by omega)]
theorem SigA.str {H:AH} {s1 s2 s3:Sl3} {g:Sg} (h:SigA H s1 s2 s3 g):SlL StrA 1 H s1 g.users:=h.u.imp (Nat.le_refl _) fun _ _ h=>h.1
def checkS (g:Sg) (k w:Int) (n:ByteArray) (a:Fo):Int:=if wrongS k w n a=0 then if knS g.users g.datas k n a=true then 0 else 40 else wrongS k w n a
theorem zbt (L0 fuel:Nat) (hF:L0=fuel+1) {H:AH} {p:Addr} {s1 s2 s3:Sl3} {g:Sg} (hB:Book H p s1 s2 s3 g) {k w:Int} {n:ByteArray} {s:Sl3} {a:Fo} (h:SlF H s a) (hn:n.size≤maxS) (hd:a.dep≤fuel) :
  z32 (LCo L0) H (some p) k w n s=some (checkS g k w n a):=by
 unfold z32 checkS
 rw [zmv L0 fuel hF h hn hd]
 simp only [Option.bind_some]
 unfold z7e
 have e1:(LCo L0).fuel=fuel+1:=hF
 rw [e1,zmb L0 hB (a.dep+1) fuel k w n s a h hd (by omega)]
 simp only [Option.bind_some]
 by_cases hw:wrongS k w n a=0
 ·rw [if_pos hw,if_pos hw]
  cases knS g.users g.datas k n a <;> rfl
 ·rw [if_neg hw,if_neg hw]
theorem zgk (L0 fuel:Nat) (hF:L0=fuel+1) {m:Nat} {H:AH} {s1 s2 s3:Sl3} {g:Sg} (hS:SigA H s1 s2 s3 g) (hm:m≤H.next) {k w:Int} {n:ByteArray} {s:Sl3} {a:Fo} (h:SlF H s a) (hn:n.size≤maxS) (hd:a.dep≤fuel) :
  ∃H',z6a (LCo L0) m H k w n s s1 s2 s3=some (checkS g k w n a,H')∧Ext H H':=by
 unfold z6a
 obtain ⟨p,H',h1,h2,h3,h4,_⟩:=zag L0 (Nat.max m H.next) hS (Nat.max_le.2 ⟨hm,Nat.le_refl _⟩)
 rw [h1]
 simp only [Option.bind_some]
 rw [zbt L0 fuel hF h3 (h.ext h2) hn hd]
 exact ⟨H',rfl,h2⟩
end Go.Proofs.YtccbilfbhecdaaaDoor
namespace Go.Proofs.YtccbilfbhecdaaaDoor
open Go Go.Abs Go.ChangeShapes Go.WideShapes
set_option maxRecDepth 100000
theorem cells52:Tryd.prog.cellsOf 52=5:=by kernel_rfl
theorem cells50:Tryd.prog.cellsOf 50=2:=by kernel_rfl
theorem cells46:Tryd.prog.cellsOf 46=2:=by kernel_rfl
theorem cells89:Tryd.prog.cellsOf 89=6:=by kernel_rfl
theorem cells33:Tryd.prog.cellsOf 33=3:=by kernel_rfl
theorem cells48:Tryd.prog.cellsOf 48=1:=by kernel_rfl
theorem cells44:Tryd.prog.cellsOf 44=1:=by kernel_rfl
theorem cells29:Tryd.prog.cellsOf 29=1:=by kernel_rfl
theorem cells30:Tryd.prog.cellsOf 30=1:=by kernel_rfl
theorem cells31:Tryd.prog.cellsOf 31=1:=by kernel_rfl
theorem bytes9:Tryd.prog.bytesOf 9=16:=by kernel_rfl
theorem bytes46:Tryd.prog.bytesOf 46=40:=by kernel_rfl
theorem bytes89:Tryd.prog.bytesOf 89=96:=by kernel_rfl
structure StrV (H:AH) (cs:List Value) (b:ByteArray):Prop where
 ex:cs=[.string b]∧b.size≤maxS
structure SelV (H:AH) (cs:List Value) (b:Sel):Prop where
 ex:∃s,cs=[.string b.n,.int .i64 b.k,.int .i64 b.w,.string b.sn,Sl3.v s]∧b.n.size≤maxS∧b.sn.size≤maxS∧SlF H s b.a
structure ConV (H:AH) (cs:List Value) (b:Con):Prop where
 ex:∃s,cs=[.string b.n,Sl3.v s]∧b.n.size≤maxS∧SlL (Stands 5 SelV) 5 H s b.sels
structure DatV (H:AH) (cs:List Value) (b:Dat):Prop where
 ex:∃s,cs=[.string b.n,Sl3.v s]∧b.n.size≤maxS∧SlL (Stands 2 ConV) 2 H s b.cons
 len:b.cons.length≤1048576
structure SgL (g:Sg):Prop where
 u:g.users.length≤1048576
 d:g.datas.length≤1048576
 f:g.funs.length≤1048576
 c:∀d∈g.datas,d.cons.length≤1048576
structure FncV (H:AH) (cs:List Value) (b:Fnc):Prop where
 ex:∃s s',cs=[.string b.n,Sl3.v s,.int .i64 b.k,.int .i64 b.w,.string b.sn,Sl3.v s']∧b.n.size≤maxS∧SlF H s b.args∧b.sn.size≤maxS∧SlF H s' b.a
theorem Stands.ext {β:Type} {sz:Nat} {R:AH→List Value→β→Prop} (hR:∀H H' cs b,Ext H H'→R H cs b→R H' cs b) {H H':AH} (hf:Ext H H') {q:Addr} {b:β} (h:Stands sz R H q b):Stands sz R H' q b:=by
 obtain ⟨cs,h1,h2,h3⟩:=h
 exact ⟨cs,h1,fun j v hv=>(h2 j v hv).ext hf,hR _ _ _ _ hf h3⟩
theorem StrV.ext (H H':AH) (cs:List Value) (b:ByteArray) (hf:Ext H H') (h:StrV H cs b):StrV H' cs b:=⟨h.ex⟩
theorem SelV.ext (H H':AH) (cs:List Value) (b:Sel) (hf:Ext H H') (h:SelV H cs b):SelV H' cs b:=⟨let ⟨s,a,b,c,d⟩:=h.ex; ⟨s,a,b,c,d.ext hf⟩⟩
theorem ConV.ext (H H':AH) (cs:List Value) (b:Con) (hf:Ext H H') (h:ConV H cs b):ConV H' cs b:=⟨let ⟨s,a,b,c⟩:=h.ex; ⟨s,a,b,c.ext hf fun _ _ h=>Stands.ext SelV.ext hf h⟩⟩
theorem DatV.ext (H H':AH) (cs:List Value) (b:Dat) (hf:Ext H H') (h:DatV H cs b):DatV H' cs b:=⟨let ⟨s,a,b,c⟩:=h.ex; ⟨s,a,b,c.ext hf fun _ _ h=>Stands.ext ConV.ext hf h⟩,h.len⟩
theorem FncV.ext (H H':AH) (cs:List Value) (b:Fnc) (hf:Ext H H') (h:FncV H cs b):FncV H' cs b:=⟨let ⟨s,s',a,b,c,d,e⟩:=h.ex; ⟨s,s',a,b,c.ext hf,d,e.ext hf⟩⟩
theorem str_of {H:AH} {q:Addr} {b:ByteArray} (h:Stands 1 StrV H q b):StrM H q b:=by
 obtain ⟨cs,h1,h2,h3⟩:=h
 obtain ⟨rfl,h4⟩:=h3.ex
 exact ⟨h2 0 _ rfl,h4⟩
theorem sel_of {H:AH} {q:Addr} {b:Sel} (h:Stands 5 SelV H q b):SelA H q b:=by
 obtain ⟨cs,h1,h2,h3⟩:=h
 obtain ⟨s,rfl,h4,h5,h6⟩:=h3.ex
 exact ⟨h2 0 _ rfl,h4,s,h2 1 _ rfl,h2 2 _ rfl,h2 3 _ rfl,h2 4 _ rfl,h5,h6⟩
theorem con_of {H:AH} {q:Addr} {b:Con} (h:Stands 2 ConV H q b):ConA H q b:=by
 obtain ⟨cs,h1,h2,h3⟩:=h
 obtain ⟨s,rfl,h4,h5⟩:=h3.ex
 exact ⟨h2 0 _ rfl,h4,s,h2 1 _ rfl,h5.imp (Nat.le_refl _) fun _ _ h=>sel_of h⟩
theorem dat_of {H:AH} {q:Addr} {b:Dat} (h:Stands 2 DatV H q b):DatA H q b:=by
 obtain ⟨cs,h1,h2,h3⟩:=h
 obtain ⟨s,rfl,h4,h5⟩:=h3.ex
 exact ⟨h2 0 _ rfl,h4,s,h2 1 _ rfl,h5.imp (Nat.le_refl _) fun _ _ h=>con_of h⟩
theorem fnc_of {H:AH} {q:Addr} {b:Fnc} (h:Stands 6 FncV H q b):FncA H q b:=by
 obtain ⟨cs,h1,h2,h3⟩:=h
 obtain ⟨s,s',rfl,h4,h5,h6,h7⟩:=h3.ex
 exact ⟨h2 0 _ rfl,h4,⟨s,h2 1 _ rfl,h5⟩,s',h2 2 _ rfl,h2 3 _ rfl,h2 4 _ rfl,h2 5 _ rfl,h6,h7⟩
section
variable {H:Type} {enc:TypeId×Value→H} {W:World}
theorem zk5 (fuel:Nat) (cs:List Value) (x:DataW H×List MemPlace) (hx:DataW.trod enc Tryd.prog W 0 (fun _=>true) true fuel 9 cs=some x) (hw:(x.1.weights Tryd.prog 9).all (·≤reachBytes)=true):ElemIn Tryd.prog W 1 StrV cs:=by
 intro φ H0 h
 obtain ⟨s,rfl,hs⟩:=z9r Tryd.underlying9 hx hw
 exact ⟨φ,H0,[.string s],s,h,Inj.le_refl _,Fm.refl _ _,rfl,rfl,.cons (.string _) .nil,⟨rfl,hs⟩⟩
theorem zl9 (fuel:Nat) (cs:List Value) (x:DataW H×List MemPlace) (hx:DataW.trod enc Tryd.prog W 0 (fun _=>true) true fuel 52 cs=some x) (hw:(x.1.weights Tryd.prog 52).all (·≤reachBytes)=true):ElemIn Tryd.prog W 5 SelV cs:=by
 intro φ H0 h
 obtain ⟨xs,n,rfl,rfl,hl,hlen,hf⟩:=DataW.trod_struct Tryd.underlying52 hx
 rw [cells52] at hl
 match xs,hlen with
 | [y0,y1],_ =>
  match cs,hl with
  | [c0,c1,c2,c3,c4],_ =>
   have f0:DataW.trod enc Tryd.prog W 0 (fun _=>true) true n 9 (([c0,c1,c2,c3,c4].drop 0).take (Tryd.prog.cellsOf 9))=some y0:=hf 0 _ rfl
   rw [cells9] at f0
   change DataW.trod enc Tryd.prog W 0 (fun _=>true) true n 9 [c0]=some y0 at f0
   have f1:DataW.trod enc Tryd.prog W 0 (fun _=>true) true n 28 (([c0,c1,c2,c3,c4].drop 1).take (Tryd.prog.cellsOf 28))=some y1:=hf 1 _ rfl
   rw [cells28] at f1
   change DataW.trod enc Tryd.prog W 0 (fun _=>true) true n 28 [c1,c2,c3,c4]=some y1 at f1
   simp only [DataW.weights,Tryd.underlying52,List.map_cons,List.map_nil,DataW.weightsEach,List.append_nil,List.all_append,Bool.and_eq_true] at hw
   obtain ⟨s0,e0,hs0⟩:=z9r Tryd.underlying9 f0 hw.1
   simp only [List.cons.injEq,and_true] at e0
   subst e0
   obtain ⟨φ',H',cs',b,g1,g2,g3,g4,g5,g6,g7⟩:=z7f n _ _ f1 hw.2 φ H0 h
   obtain ⟨s,rfl,h8,h9⟩:=g7.ex
   exact ⟨φ',H',[.string s0,.int .i64 b.1,.int .i64 b.2.1,.string b.2.2.1,Sl3.v s],⟨s0,b.1,b.2.1,b.2.2.1,b.2.2.2⟩,g1,g2,g3,rfl,rfl,.cons (.string _) g6,⟨s,rfl,hs0,h8,h9⟩⟩
theorem zdq {t u e:TypeId} {f0 f1:Field} (ht:Tryd.prog.underlying t=some (.struct #[f0,f1])) (hf0:f0.type=9∧f0.offset=0) (hf1:f1.type=u∧f1.offset=1) (hc:Tryd.prog.cellsOf t=2) (hu:Tryd.prog.cellsOf u=1) (hus:Tryd.prog.underlying u=some (.slice e))
  {sz:Nat} (hce:Tryd.prog.cellsOf e=sz) (hsz:0<sz) {β:Type} {R:AH→List Value→β→Prop} (hR:∀H H' cs b,Ext H H'→R H cs b→R H' cs b)
  (elem:∀n cs y,DataW.trod enc Tryd.prog W 0 (fun _=>true) true n e cs=some y→(y.1.weights Tryd.prog e).all (·≤reachBytes)=true→ElemIn Tryd.prog W sz R cs)
  {fuel:Nat} {cs:List Value} {x:DataW H×List MemPlace} (hx:DataW.trod enc Tryd.prog W 0 (fun _=>true) true fuel t cs=some x) (hw:(x.1.weights Tryd.prog t).all (·≤reachBytes)=true) {φ:Inj} {H0:AH} (h:Imp Tryd.prog φ H0 W) :
  ∃φ' H' nm s bs,Imp Tryd.prog φ' H' W∧φ.le φ'∧Ext H0 H'∧cs.length=2∧LR φ' [.string nm,Sl3.v s] cs∧nm.size≤maxS∧SlL (Stands sz R) sz H' s (bs:List β)∧bs.length≤Rows.uptoBulk x.1:=by
 obtain ⟨xs,n,rfl,rfl,hl,hlen,hf⟩:=DataW.trod_struct ht hx
 rw [hc] at hl
 match xs,hlen with
 | [y0,y1],_ =>
  match cs,hl with
  | [c0,c1],_ =>
   have g0:DataW.trod enc Tryd.prog W 0 (fun _=>true) true n f0.type (([c0,c1].drop f0.offset).take (Tryd.prog.cellsOf f0.type))=some y0:=hf 0 _ rfl
   rw [hf0.1,hf0.2,cells9] at g0
   change DataW.trod enc Tryd.prog W 0 (fun _=>true) true n 9 [c0]=some y0 at g0
   have g1:DataW.trod enc Tryd.prog W 0 (fun _=>true) true n f1.type (([c0,c1].drop f1.offset).take (Tryd.prog.cellsOf f1.type))=some y1:=hf 1 _ rfl
   rw [hf1.1,hf1.2,hu] at g1
   change DataW.trod enc Tryd.prog W 0 (fun _=>true) true n u [c1]=some y1 at g1
   simp only [DataW.weights,ht,List.map_cons,List.map_nil,DataW.weightsEach,List.append_nil,List.all_append,Bool.and_eq_true,hf0.1,hf1.1] at hw
   obtain ⟨s0,e0,hs0⟩:=z9r Tryd.underlying9 g0 hw.1
   obtain ⟨v,φ',H',s,bs,e3,k1,k2,k3,k4,k5,_,k6⟩:=z50 (enc:=enc) hus hce hsz hR (fun m hm cs x q1 q2 _=>elem m cs x q1 q2) g1 hw.2 h
   simp only [List.cons.injEq,and_true] at e0 e3
   subst e0 e3
   exact ⟨φ',H',s0,s,bs,k1,k2,k3,rfl,.cons (.string _) (.cons k4 .nil),hs0,k5,by simp only [List.map_cons,List.map_nil,Rows.uptoBulk,Rows.uptoBulkAll]; omega⟩
theorem zkk (fuel:Nat) (cs:List Value) (x:DataW H×List MemPlace) (hx:DataW.trod enc Tryd.prog W 0 (fun _=>true) true fuel 50 cs=some x) (hw:(x.1.weights Tryd.prog 50).all (·≤reachBytes)=true):ElemIn Tryd.prog W 2 ConV cs:=by
 intro φ H0 h
 obtain ⟨φ',H',nm,s,bs,h1,h2,h3,h4,h5,h6,h7,_⟩:=zdq Tryd.underlying50 ⟨rfl,rfl⟩ ⟨rfl,rfl⟩ cells50 cells48 Tryd.underlying48 cells52 (by omega) SelV.ext zl9 hx hw h
 exact ⟨φ',H',_,⟨nm,bs⟩,h1,h2,h3,rfl,h4,h5,⟨s,rfl,h6,h7⟩⟩
theorem zk4 (fuel:Nat) (cs:List Value) (x:DataW H×List MemPlace) (hx:DataW.trod enc Tryd.prog W 0 (fun _=>true) true fuel 46 cs=some x) (hw:(x.1.weights Tryd.prog 46).all (·≤reachBytes)=true) (hK:Rows.uptoBulk x.1≤1048576):ElemIn Tryd.prog W 2 DatV cs:=by
 intro φ H0 h
 obtain ⟨φ',H',nm,s,bs,h1,h2,h3,h4,h5,h6,h7,h8⟩:=zdq Tryd.underlying46 ⟨rfl,rfl⟩ ⟨rfl,rfl⟩ cells46 cells44 Tryd.underlying44 cells50 (by omega) ConV.ext zkk hx hw h
 exact ⟨φ',H',_,⟨nm,bs⟩,h1,h2,h3,rfl,h4,h5,⟨s,rfl,h6,h7⟩,by show bs.length≤_; omega⟩
theorem zki (fuel:Nat) (cs:List Value) (x:DataW H×List MemPlace) (hx:DataW.trod enc Tryd.prog W 0 (fun _=>true) true fuel 89 cs=some x) (hw:(x.1.weights Tryd.prog 89).all (·≤reachBytes)=true):ElemIn Tryd.prog W 6 FncV cs:=by
 intro φ H0 h
 obtain ⟨xs,n,rfl,rfl,hl,hlen,hf⟩:=DataW.trod_struct Tryd.underlying89 hx
 rw [cells89] at hl
 match xs,hlen with
 | [y0,y1,y2],_ =>
  match cs,hl with
  | [c0,c1,c2,c3,c4,c5],_ =>
   have f0:DataW.trod enc Tryd.prog W 0 (fun _=>true) true n 9 (([c0,c1,c2,c3,c4,c5].drop 0).take (Tryd.prog.cellsOf 9))=some y0:=hf 0 _ rfl
   rw [cells9] at f0
   change DataW.trod enc Tryd.prog W 0 (fun _=>true) true n 9 [c0]=some y0 at f0
   have f1:DataW.trod enc Tryd.prog W 0 (fun _=>true) true n 26 (([c0,c1,c2,c3,c4,c5].drop 1).take (Tryd.prog.cellsOf 26))=some y1:=hf 1 _ rfl
   rw [cells26] at f1
   change DataW.trod enc Tryd.prog W 0 (fun _=>true) true n 26 [c1]=some y1 at f1
   have f2:DataW.trod enc Tryd.prog W 0 (fun _=>true) true n 28 (([c0,c1,c2,c3,c4,c5].drop 2).take (Tryd.prog.cellsOf 28))=some y2:=hf 2 _ rfl
   rw [cells28] at f2
   change DataW.trod enc Tryd.prog W 0 (fun _=>true) true n 28 [c2,c3,c4,c5]=some y2 at f2
   simp only [DataW.weights,Tryd.underlying89,List.map_cons,List.map_nil,DataW.weightsEach,List.append_nil,List.all_append,Bool.and_eq_true] at hw
   obtain ⟨s0,e0,hs0⟩:=z9r Tryd.underlying9 f0 hw.1
   obtain ⟨v,φ1,H1,s1,bs,e3,k1,k2,k3,k4,k5,_⟩:=z50 (enc:=enc) Tryd.underlying26 cells28 (by omega) SortV.ext (fun m hm cs x q1 q2 _=>z7f m cs x q1 q2) f1 hw.2.1 h
   simp only [List.cons.injEq,and_true] at e0 e3
   subst e0 e3
   obtain ⟨φ',H',cs',b,g1,g2,g3,g4,g5,g6,g7⟩:=z7f n _ _ f2 hw.2.2 φ1 H1 k1
   obtain ⟨s,rfl,h8,h9⟩:=g7.ex
   exact ⟨φ',H',[.string s0,Sl3.v s1,.int .i64 b.1,.int .i64 b.2.1,.string b.2.2.1,Sl3.v s],⟨s0,foOf bs,b.1,b.2.1,b.2.2.1,b.2.2.2⟩,g1,Inj.le_trans k2 g2,k3.trans g3,rfl,rfl,.cons (.string _) (.cons (k4.mono g2) g6),⟨s1,s,rfl,hs0,(slF_of k5).ext g3,h8,h9⟩⟩
theorem zm4 {φ:Inj} {H0:AH} (h:Imp Tryd.prog φ H0 W) {v:Value} {d:DataW H} {ps:List MemPlace} {base:Nat} (hd:DataW.Trod enc Tryd.prog W 0 (fun _=>true) true 33 v d ps) (hv:Value.okWide Tryd.prog W .any base 33 v)
  (hw:(d.weights Tryd.prog 33).all (·≤reachBytes)=true) (hK:Rows.uptoBulk d≤1048576):∃φ' H' s1 s2 s3 g,Imp Tryd.prog φ' H' W∧φ.le φ'∧Ext H0 H'∧VR φ' (.agg #[Sl3.v s1,Sl3.v s2,Sl3.v s3]) v∧SigA H' s1 s2 s3 g∧SgB g∧SgL g:=by
 obtain ⟨fuel,hx⟩:=hd
 have hvv:=hv
 simp only [Value.okWide,Tryd.underlying33] at hvv
 obtain ⟨cs,rfl,hs,_⟩:=hvv
 change DataW.trod enc Tryd.prog W 0 (fun _=>true) true fuel 33 cs.toList=some (d,ps) at hx
 obtain ⟨xs,n,rfl,he,hl,hlen,hf⟩:=DataW.trod_struct Tryd.underlying33 hx
 simp only [Prod.mk.injEq] at he
 obtain ⟨rfl,_⟩:=he
 rw [cells33] at hl
 obtain ⟨cs⟩:=cs
 match xs,hlen with
 | [y0,y1,y2],_ =>
  match cs,hl with
  | [c0,c1,c2],_ =>
   have f0:DataW.trod enc Tryd.prog W 0 (fun _=>true) true n 29 (([c0,c1,c2].drop 0).take (Tryd.prog.cellsOf 29))=some y0:=hf 0 _ rfl
   rw [cells29] at f0
   change DataW.trod enc Tryd.prog W 0 (fun _=>true) true n 29 [c0]=some y0 at f0
   have f1:DataW.trod enc Tryd.prog W 0 (fun _=>true) true n 30 (([c0,c1,c2].drop 1).take (Tryd.prog.cellsOf 30))=some y1:=hf 1 _ rfl
   rw [cells30] at f1
   change DataW.trod enc Tryd.prog W 0 (fun _=>true) true n 30 [c1]=some y1 at f1
   have f2:DataW.trod enc Tryd.prog W 0 (fun _=>true) true n 31 (([c0,c1,c2].drop 2).take (Tryd.prog.cellsOf 31))=some y2:=hf 2 _ rfl
   rw [cells31] at f2
   change DataW.trod enc Tryd.prog W 0 (fun _=>true) true n 31 [c2]=some y2 at f2
   simp only [DataW.weights,Tryd.underlying33,List.map_cons,List.map_nil,DataW.weightsEach,List.append_nil,List.all_append,Bool.and_eq_true] at hw
   simp only [List.map_cons,List.map_nil,Rows.uptoBulk,Rows.uptoBulkAll] at hK
   obtain ⟨v0,φ1,H1,s1,us,e0,k1,k2,k3,k4,k5,k6⟩:=z50 (enc:=enc) Tryd.underlying29 cells9 (by omega) StrV.ext (fun m hm cs x q1 q2 _=>zk5 m cs x q1 q2) f0 hw.1 h
   obtain ⟨v1,φ2,H2,s2,ds,e1,l1,l2,l3,l4,l5,l6⟩:=z50 (enc:=enc) Tryd.underlying30 cells46 (by omega) DatV.ext (fun m hm cs x q1 q2 q3=>zk4 m cs x q1 q2 (by omega)) f1 hw.2.1 k1
   obtain ⟨v2,φ3,H3,s3,fs,e2,m1,m2,m3,m4,m5,m6⟩:=z50 (enc:=enc) Tryd.underlying31 cells89 (by omega) FncV.ext (fun m hm cs x q1 q2 _=>zki m cs x q1 q2) f2 hw.2.2 l1
   simp only [List.cons.injEq,and_true] at e0 e1 e2
   subst e0 e1 e2
   refine ⟨φ3,H3,s1,s2,s3,⟨us,ds,fs⟩,m1,Inj.le_trans k2 (Inj.le_trans l2 m2),(k3.trans l3).trans m3,?_,⟨?_,?_,?_⟩,⟨k6.1 (by rw [bytes9]; omega),l6.1 (by rw [bytes46]; omega),m6.1 (by rw [bytes89]; omega)⟩,⟨?_,?_,?_,?_⟩⟩
   ·have hg:=z48 (show LR φ3 [Sl3.v s1,Sl3.v s2,Sl3.v s3] [c0,c1,c2] from .cons (k4.mono (Inj.le_trans l2 m2)) (.cons (l4.mono m2) (.cons m4 .nil)))
    exact .agg _ _ rfl fun i x y hx hy=>hg.2 i x y (by simpa using hx) (by simpa using hy)
   ·exact (k5.imp (Nat.le_refl _) fun _ _ h=>str_of h).ext (l3.trans m3) fun _ _ h=>h.ext (l3.trans m3)
   ·exact (l5.imp (Nat.le_refl _) fun _ _ h=>dat_of h).ext m3 fun _ _ h=>h.ext m3
   ·exact m5.imp (Nat.le_refl _) fun _ _ h=>fnc_of h
   ·have:=k6.2; show us.length≤_; omega
   ·have:=l6.2; show ds.length≤_; omega
   ·have:=m6.2; show fs.length≤_; omega
   ·intro x hx
    obtain ⟨i,hi,rfl⟩:=List.getElem_of_mem (show x∈ds from hx)
    obtain ⟨a,_,q⟩:=l5.at_.get i hi
    obtain ⟨cs,_,_,q⟩:=q
    exact q.len
end
end Go.Proofs.YtccbilfbhecdaaaDoor
namespace Go.Proofs.YtccbilfbhecdaaaDoor
open Go Go.Abs
set_option maxRecDepth 100000
def z1t:(Int×AH)→Value
 | (r0,_)=>(Value.int .i64 r0)
def z1w (_:AH):(Int×AH)→AH:=fun r=>r.2
noncomputable def B44:Code:=(Tryd.f44.body).getD .skip
noncomputable def z1b (L:LC) (H:AH) (q1:Addr) (_x2:Sl3) (_v21_3:Int) (_x5_0:ByteArray) (_x5_1:Sl3) (_v28_6:Int) (_x8_0:ByteArray) (x8_1:Sl3):Int→Option (Lp Int (Int×AH)):=fun v35_9 =>
 if v35_9<(x8_1.n:Int) then
  Option.bind (idxA 5 x8_1 v35_9) fun p10 =>
  Option.bind (rd deS H (Addr.add p10 0)) fun _ =>
  Option.bind (rd (deI .i64) H (Addr.add p10 1)) fun x11_1 =>
  Option.bind (rd (deI .i64) H (Addr.add p10 2)) fun x11_2 =>
  Option.bind (rd deS H (Addr.add p10 3)) fun x11_3 =>
  Option.bind (rd deSl H (Addr.add p10 4)) fun x11_4 =>
  Option.bind (z32 L H (some q1) x11_1 x11_2 x11_3 x11_4) fun x12 =>
  if x12=0 then
   some (.next (IntKind.i64.wrap (v35_9+1)))
  else
   some (.ret (x12,H))
 else
  some (.brk v35_9)
def z9p (_L:LC) (_H:AH) (q1:Addr) (x2:Sl3) (v21_3:Int) (x5_0:ByteArray) (x5_1:Sl3) (v28_6:Int) (x8_0:ByteArray) (x8_1:Sl3):Int→KN×Lcs:=fun v35_9=>([kI 35 v35_9,kP 0 q1,kS 19 x2,kI 20 (x2.n:Int),kI 21 v21_3,kS 26 x5_1,kI 27 (x5_1.n:Int),kI 28 v28_6,kS 33 x8_1,kI 34 (x8_1.n:Int)],[some (46,[(Value.string x5_0),(Sl3.v x5_1)]),some (50,[(Value.string x8_0),(Sl3.v x8_1)])])
noncomputable def z1e (L:LC) (H:AH) (q1:Addr) (x2:Sl3) (v21_3:Int) (x5_0:ByteArray) (x5_1:Sl3):Int→Option (Lp Int (Int×AH)):=fun v28_6 =>
 if v28_6<(x5_1.n:Int) then
  Option.bind (idxA 2 x5_1 v28_6) fun p7 =>
  Option.bind (rd deS H (Addr.add p7 0)) fun x8_0 =>
  Option.bind (rd deSl H (Addr.add p7 1)) fun x8_1 =>
  Option.bind (L.run (z1b L H q1 x2 v21_3 x5_0 x5_1 v28_6 x8_0 x8_1) 0) fun o=>match o with
  | .inl _ =>
   some (.next (IntKind.i64.wrap (v28_6+1)))
  | .inr r=>some (.ret r)
 else
  some (.brk v28_6)
def z97 (_L:LC) (_H:AH) (q1:Addr) (x2:Sl3) (v21_3:Int) (x5_0:ByteArray) (x5_1:Sl3):Int→KN×Lcs:=fun v28_6=>([kI 28 v28_6,kP 0 q1,kS 19 x2,kI 20 (x2.n:Int),kI 21 v21_3,kS 26 x5_1,kI 27 (x5_1.n:Int)],[some (46,[(Value.string x5_0),(Sl3.v x5_1)])])
noncomputable def z1g (L:LC) (H:AH) (q1:Addr) (x2:Sl3):Int→Option (Lp Int (Int×AH)):=fun v21_3 =>
 if v21_3<(x2.n:Int) then
  Option.bind (idxA 2 x2 v21_3) fun p4 =>
  Option.bind (rd deS H (Addr.add p4 0)) fun x5_0 =>
  Option.bind (rd deSl H (Addr.add p4 1)) fun x5_1 =>
  Option.bind (L.run (z1e L H q1 x2 v21_3 x5_0 x5_1) 0) fun o=>match o with
  | .inl _ =>
   some (.next (IntKind.i64.wrap (v21_3+1)))
  | .inr r=>some (.ret r)
 else
  some (.brk v21_3)
def z9n (_L:LC) (_H:AH) (q1:Addr) (x2:Sl3):Int→KN×Lcs:=fun v21_3=>([kI 21 v21_3,kP 0 q1,kS 19 x2,kI 20 (x2.n:Int)],[])
noncomputable def z1h (L:LC) (q1:Addr) (_x16:Sl3) (_v55_18:Int) (_x20_0:ByteArray) (_x20_1:Sl3) (_x20_2 _x20_3:Int) (_x20_4:ByteArray) (_x20_5 s25:Sl3) (H26:AH):Int→Option (Lp Int (Int×AH)):=fun v67_27 =>
 if v67_27<(s25.n:Int) then
  Option.bind (idxA 4 s25 v67_27) fun p28 =>
  Option.bind (rd (deI .i64) H26 (Addr.add p28 0)) fun x29_0 =>
  Option.bind (rd (deI .i64) H26 (Addr.add p28 1)) fun x29_1 =>
  Option.bind (rd deS H26 (Addr.add p28 2)) fun x29_2 =>
  Option.bind (rd deSl H26 (Addr.add p28 3)) fun x29_3 =>
  Option.bind (z32 L H26 (some q1) x29_0 x29_1 x29_2 x29_3) fun x30 =>
  if x30=0 then
   some (.next (IntKind.i64.wrap (v67_27+1)))
  else
   some (.ret (x30,H26))
 else
  some (.brk v67_27)
def z9e (_L:LC) (q1:Addr) (x16:Sl3) (v55_18:Int) (x20_0:ByteArray) (x20_1:Sl3) (x20_2 x20_3:Int) (x20_4:ByteArray) (x20_5 s25:Sl3) (_H26:AH):Int→KN×Lcs:=fun v67_27=>([kI 67 v67_27,kP 0 q1,kS 53 x16,kI 54 (x16.n:Int),kI 55 v55_18,kS 65 s25,kI 66 (s25.n:Int)],[some (89,[(Value.string x20_0),(Sl3.v x20_1),(Value.int .i64 x20_2),(Value.int .i64 x20_3),(Value.string x20_4),(Sl3.v x20_5)]),none])
noncomputable def z1c (L:LC) (m:Nat) (q1:Addr) (x16:Sl3):(AH×Int)→Option (Lp (AH×Int) (Int×AH)):=fun (H17,v55_18) =>
 if v55_18<(x16.n:Int) then
  Option.bind (idxA 6 x16 v55_18) fun p19 =>
  Option.bind (rd deS H17 (Addr.add p19 0)) fun x20_0 =>
  Option.bind (rd deSl H17 (Addr.add p19 1)) fun x20_1 =>
  Option.bind (rd (deI .i64) H17 (Addr.add p19 2)) fun x20_2 =>
  Option.bind (rd (deI .i64) H17 (Addr.add p19 3)) fun x20_3 =>
  Option.bind (rd deS H17 (Addr.add p19 4)) fun x20_4 =>
  Option.bind (rd deSl H17 (Addr.add p19 5)) fun x20_5 =>
  Option.bind (z4s L (Nat.max m H17.next) H17 x20_1) fun (x21,H22) =>
  Option.bind (newS 28 [(Value.int .i64 x20_2),(Value.int .i64 x20_3),(Value.string x20_4),(Sl3.v x20_5)] H22) fun (k23,H24) =>
  Option.bind (appS m 28 4 56 H24 x21 (⟨some ⟨k23,0,none⟩,1,1⟩:Sl3)) fun (s25,H26) =>
  Option.bind (L.run (z1h L q1 x16 v55_18 x20_0 x20_1 x20_2 x20_3 x20_4 x20_5 s25 H26) 0) fun o=>match o with
  | .inl _ =>
   some (.next (H26,(IntKind.i64.wrap (v55_18+1))))
  | .inr r=>some (.ret r)
 else
  some (.brk (H17,v55_18))
def z9w (_L:LC) (_m:Nat) (q1:Addr) (x16:Sl3):(AH×Int)→KN×Lcs:=fun (_,v55_18)=>([kI 55 v55_18,kP 0 q1,kS 53 x16,kI 54 (x16.n:Int)],[])
noncomputable def z3q (L:LC) (m:Nat) (H:AH) (a0:Option Addr):Option (Int×AH) :=
 Option.bind a0 fun q1 =>
 Option.bind (rd deSl H (Addr.add (Addr.add q1 0) 1)) fun x2 =>
 Option.bind (L.run (z1g L H q1 x2) 0) fun o=>match o with
 | .inl _ =>
  Option.bind (rd deSl H (Addr.add (Addr.add q1 0) 2)) fun x16 =>
  Option.bind (L.run (z1c L m q1 x16) (H,0)) fun o=>match o with
  | .inl (H32,_) =>
   some (0,H32)
  | .inr r=>some r
 | .inr r=>some r
theorem z65 {E m L H q1 x2 v21_3 x5_0 x5_1 v28_6 x8_0 x8_1} :LoopF Tryd.prog (NE.plain 1000) m E Tryd.f44 ((cfst (csnd (csnd (cfst (cfst (csnd (csnd (cfst (cfst (csnd (csnd (cfst (cfst (csnd (csnd (cfst (cfst (csnd (cfst (csnd B44))))))))))))))))))))) (z9p L H q1 x2 v21_3 x5_0 x5_1 v28_6 x8_0 x8_1) (fun _=>H) 4 z1t (z1w H) (z1b L H q1 x2 v21_3 x5_0 x5_1 v28_6 x8_0 x8_1):=by
 rintro v35_9 o h
 unfold z1b at h
 try dsimp only at h
 refine WS.sq (WS.rg (RS.mS 1 [kB 36 (decide (v35_9<(x8_1.n:Int)))] (RS.dn (WS.nxt (WS.sq ?_)))))
 rcases z8 h with ⟨hp,h⟩ | ⟨hp,h⟩
 ·refine WS.fx 36 true (decide_eq_true hp) (WS.cT (WS.sk (WS.nxt (WS.sq (WS.bk 5 (WS.sq (WS.rg ?_)))))))
  obtain ⟨p10,hx,h⟩:=bind_some h
  refine RS.ix 37 48 52 (.tmp 33) (.tmp 35) hx ?_
  obtain ⟨x11_0,hx0,h⟩:=bind_some h
  obtain ⟨x11_1,hx1,h⟩:=bind_some h
  obtain ⟨x11_2,hx2,h⟩:=bind_some h
  obtain ⟨x11_3,hx3,h⟩:=bind_some h
  obtain ⟨x11_4,hx4,h⟩:=bind_some h
  refine RS.la 38 52 (.tmp 37) 5 (z7 (z0 hx0 zd) (z7 (z0 hx1 z9) (z7 (z0 hx2 z9) (z7 (z0 hx3 zd) (z7 (z0 hx4 za) zf))))) (RS.mL 2 [kL 8 2 0] ([some (46,[(Value.string x5_0),(Sl3.v x5_1)]),some (50,[(Value.string x8_0),(Sl3.v x8_1)]),some (52,[(Value.string x11_0),(Value.int .i64 x11_1),(Value.int .i64 x11_2),(Value.string x11_3),(Sl3.v x11_4)])]) (RS.dn (WS.nxt (WS.sq (WS.rg (RS.mS 3 [kA 41 #[(Value.int .i64 x11_1),(Value.int .i64 x11_2),(Value.string x11_3),(Sl3.v x11_4)],kL 40 2 1,kP 39 q1] ?_))))))
  obtain ⟨x12,hx,h⟩:=bind_some h
  refine RS.cl (some 42) (v:=(Value.int .i64 x12)) 37 #[(Value.pointer (some q1)),(Value.agg #[(Value.int .i64 x11_1),(Value.int .i64 x11_2),(Value.string x11_3),(Sl3.v x11_4)])] (z64 hx) (RS.mS 1 [kI 9 x12] (RS.dn (WS.nxt (WS.sq (WS.rg (RS.mS 2 [kB 44 (!decide (x12=0)),kI 43 x12] (RS.dn (WS.nxt ?_))))))))
  rcases z8 h with ⟨hp,h⟩ | ⟨hp,h⟩
  ·refine WS.fx 44 false (z6w hp) (WS.cF (WS.sk ?_))
   refine fun a w hs=>bkN ((WS.nxt ?_ a w hs))
   refine WS.rg (RS.mS 2 [kI 35 (IntKind.i64.wrap (v35_9+1)),kI 46 (IntKind.i64.wrap (v35_9+1))] (RS.dn ?_))
   cases h
   exact fun a w hs=>lsN rfl (hs.sb 2)
  ·refine WS.fx 44 true (z5u hp) (WS.cT (WS.sq (WS.rg (RS.mS 2 [kI 2 x12,kI 45 x12] (RS.dn (WS.nxt (WS.rt ?_)))))))
   cases h
   exact fun a w hs=>bkR (sqR (lsR rfl (rS hs)))
 ·refine WS.fx 36 false (decide_eq_false hp) (WS.cF (WS.ex 4 ?_))
  cases h
  exact fun a w hs=>sqE (lsB rfl (hs.sb 2))
theorem z5z {E m L H q1 x2 v21_3 x5_0 x5_1} :LoopF Tryd.prog (NE.plain 1000) m E Tryd.f44 ((cfst (csnd (csnd (cfst (cfst (csnd (csnd (cfst (cfst (csnd (cfst (csnd B44))))))))))))) (z97 L H q1 x2 v21_3 x5_0 x5_1) (fun _=>H) 2 z1t (z1w H) (z1e L H q1 x2 v21_3 x5_0 x5_1):=by
 rintro v28_6 o h
 unfold z1e at h
 try dsimp only at h
 refine WS.sq (WS.rg (RS.mS 1 [kB 29 (decide (v28_6<(x5_1.n:Int)))] (RS.dn (WS.nxt (WS.sq ?_)))))
 rcases z8 h with ⟨hp,h⟩ | ⟨hp,h⟩
 ·refine WS.fx 29 true (decide_eq_true hp) (WS.cT (WS.sk (WS.nxt (WS.sq (WS.bk 3 (WS.sq (WS.rg ?_)))))))
  obtain ⟨p7,hx,h⟩:=bind_some h
  refine RS.ix 30 44 50 (.tmp 26) (.tmp 28) hx ?_
  obtain ⟨x8_0,hx0,h⟩:=bind_some h
  obtain ⟨x8_1,hx1,h⟩:=bind_some h
  refine RS.la 31 50 (.tmp 30) 2 (z7 (z0 hx0 zd) (z7 (z0 hx1 za) zf)) (RS.mL 2 [kL 6 1 0] ([some (46,[(Value.string x5_0),(Sl3.v x5_1)]),some (50,[(Value.string x8_0),(Sl3.v x8_1)])]) (RS.dn (WS.nxt (WS.sq (WS.rg (RS.mS 4 [kI 35 0,kI 34 (x8_1.n:Int),kS 33 x8_1,kL 32 1 1] (RS.dn (WS.nxt (WS.bk 4 ?_)))))))))
  obtain ⟨o,hl,h⟩:=bind_some h
  rcases o with v35_13 | r
  ·try dsimp only at h
   refine WS.lI (z65 (L:=L) (E:=E) (m:=m) (H:=H)) (L.ok hl) 2 ?_
   clear hl
   refine fun a w hs=>bkE (bkN ((WS.nxt ?_ a w hs)))
   refine WS.rg (RS.mS 2 [kI 28 (IntKind.i64.wrap (v28_6+1)),kI 47 (IntKind.i64.wrap (v28_6+1))] (RS.dn ?_))
   cases h
   exact fun a w hs=>lsN rfl (hs.sb 1)
  ·try dsimp only at h
   refine WS.lR (z65 (L:=L) (E:=E) (m:=m) (H:=H)) (L.ok hl) 2 ?_
   cases h
   exact fun a w hq=>bkR (bkR (sqR (lsR rfl hq)))
 ·refine WS.fx 29 false (decide_eq_false hp) (WS.cF (WS.ex 2 ?_))
  cases h
  exact fun a w hs=>sqE (lsB rfl (hs.sb 1))
theorem z60 {E m L H q1 x2} :LoopF Tryd.prog (NE.plain 1000) m E Tryd.f44 ((cfst (csnd (cfst (csnd B44))))) (z9n L H q1 x2) (fun _=>H) 0 z1t (z1w H) (z1g L H q1 x2):=by
 rintro v21_3 o h
 unfold z1g at h
 try dsimp only at h
 refine WS.sq (WS.rg (RS.mS 1 [kB 22 (decide (v21_3<(x2.n:Int)))] (RS.dn (WS.nxt (WS.sq ?_)))))
 rcases z8 h with ⟨hp,h⟩ | ⟨hp,h⟩
 ·refine WS.fx 22 true (decide_eq_true hp) (WS.cT (WS.sk (WS.nxt (WS.sq (WS.bk 1 (WS.sq (WS.rg ?_)))))))
  obtain ⟨p4,hx,h⟩:=bind_some h
  refine RS.ix 23 30 46 (.tmp 19) (.tmp 21) hx ?_
  obtain ⟨x5_0,hx0,h⟩:=bind_some h
  obtain ⟨x5_1,hx1,h⟩:=bind_some h
  refine RS.la 24 46 (.tmp 23) 2 (z7 (z0 hx0 zd) (z7 (z0 hx1 za) zf)) (RS.mL 2 [kL 4 0 0] ([some (46,[(Value.string x5_0),(Sl3.v x5_1)])]) (RS.dn (WS.nxt (WS.sq (WS.rg (RS.mS 4 [kI 28 0,kI 27 (x5_1.n:Int),kS 26 x5_1,kL 25 0 1] (RS.dn (WS.nxt (WS.bk 2 ?_)))))))))
  obtain ⟨o,hl,h⟩:=bind_some h
  rcases o with v28_14 | r
  ·try dsimp only at h
   refine WS.lI (z5z (L:=L) (E:=E) (m:=m) (H:=H)) (L.ok hl) 1 ?_
   clear hl
   refine fun a w hs=>bkE (bkN ((WS.nxt ?_ a w hs)))
   refine WS.rg (RS.mS 2 [kI 21 (IntKind.i64.wrap (v21_3+1)),kI 48 (IntKind.i64.wrap (v21_3+1))] (RS.dn ?_))
   cases h
   exact fun a w hs=>lsN rfl (hs.sb 0)
  ·try dsimp only at h
   refine WS.lR (z5z (L:=L) (E:=E) (m:=m) (H:=H)) (L.ok hl) 1 ?_
   cases h
   exact fun a w hq=>bkR (bkR (sqR (lsR rfl hq)))
 ·refine WS.fx 22 false (decide_eq_false hp) (WS.cF (WS.ex 0 ?_))
  cases h
  exact fun a w hs=>sqE (lsB rfl (hs.sb 0))
theorem z61 {E m H L q1 x16 v55_18 x20_0 x20_1 x20_2 x20_3 x20_4 x20_5 s25 H26} :LoopF Tryd.prog (NE.plain 1000) m E Tryd.f44 ((cfst (csnd (csnd (cfst (cfst (csnd (csnd (cfst (cfst (csnd (cfst (csnd (csnd B44)))))))))))))) (z9e L q1 x16 v55_18 x20_0 x20_1 x20_2 x20_3 x20_4 x20_5 s25 H26) (fun _=>H26) 8 z1t (z1w H) (z1h L q1 x16 v55_18 x20_0 x20_1 x20_2 x20_3 x20_4 x20_5 s25 H26):=by
 rintro v67_27 o h
 unfold z1h at h
 try dsimp only at h
 refine WS.sq (WS.rg (RS.mS 1 [kB 68 (decide (v67_27<(s25.n:Int)))] (RS.dn (WS.nxt (WS.sq ?_)))))
 rcases z8 h with ⟨hp,h⟩ | ⟨hp,h⟩
 ·refine WS.fx 68 true (decide_eq_true hp) (WS.cT (WS.sk (WS.nxt (WS.sq (WS.bk 9 (WS.sq (WS.rg ?_)))))))
  obtain ⟨p28,hx,h⟩:=bind_some h
  refine RS.ix 69 26 28 (.tmp 65) (.tmp 67) hx ?_
  obtain ⟨x29_0,hx0,h⟩:=bind_some h
  obtain ⟨x29_1,hx1,h⟩:=bind_some h
  obtain ⟨x29_2,hx2,h⟩:=bind_some h
  obtain ⟨x29_3,hx3,h⟩:=bind_some h
  refine RS.la 70 28 (.tmp 69) 4 (z7 (z0 hx0 z9) (z7 (z0 hx1 z9) (z7 (z0 hx2 zd) (z7 (z0 hx3 za) zf)))) (RS.mL 2 [kL 13 2 0] ([some (89,[(Value.string x20_0),(Sl3.v x20_1),(Value.int .i64 x20_2),(Value.int .i64 x20_3),(Value.string x20_4),(Sl3.v x20_5)]),none,some (28,[(Value.int .i64 x29_0),(Value.int .i64 x29_1),(Value.string x29_2),(Sl3.v x29_3)])]) (RS.dn (WS.nxt (WS.sq (WS.rg (RS.mS 2 [kA 72 #[(Value.int .i64 x29_0),(Value.int .i64 x29_1),(Value.string x29_2),(Sl3.v x29_3)],kP 71 q1] ?_))))))
  obtain ⟨x30,hx,h⟩:=bind_some h
  refine RS.cl (some 73) (v:=(Value.int .i64 x30)) 37 #[(Value.pointer (some q1)),(Value.agg #[(Value.int .i64 x29_0),(Value.int .i64 x29_1),(Value.string x29_2),(Sl3.v x29_3)])] (z64 hx) (RS.mS 1 [kI 14 x30] (RS.dn (WS.nxt (WS.sq (WS.rg (RS.mS 2 [kB 75 (!decide (x30=0)),kI 74 x30] (RS.dn (WS.nxt ?_))))))))
  rcases z8 h with ⟨hp,h⟩ | ⟨hp,h⟩
  ·refine WS.fx 75 false (z6w hp) (WS.cF (WS.sk ?_))
   refine fun a w hs=>bkN ((WS.nxt ?_ a w hs))
   refine WS.rg (RS.mS 2 [kI 67 (IntKind.i64.wrap (v67_27+1)),kI 77 (IntKind.i64.wrap (v67_27+1))] (RS.dn ?_))
   cases h
   exact fun a w hs=>lsN rfl (hs.sb 2)
  ·refine WS.fx 75 true (z5u hp) (WS.cT (WS.sq (WS.rg (RS.mS 2 [kI 2 x30,kI 76 x30] (RS.dn (WS.nxt (WS.rt ?_)))))))
   cases h
   exact fun a w hs=>bkR (sqR (lsR rfl (rS hs)))
 ·refine WS.fx 68 false (decide_eq_false hp) (WS.cF (WS.ex 8 ?_))
  cases h
  exact fun a w hs=>sqE (lsB rfl (hs.sb 2))
theorem z5p {E H L m q1 x16} :LoopF Tryd.prog (NE.plain 1000) m E Tryd.f44 ((cfst (csnd (cfst (csnd (csnd B44)))))) (z9w L m q1 x16) (fun s=>s.1) 6 z1t (z1w H) (z1c L m q1 x16):=by
 rintro ⟨H17,v55_18⟩ o h
 unfold z1c at h
 try dsimp only at h
 refine WS.sq (WS.rg (RS.mS 1 [kB 56 (decide (v55_18<(x16.n:Int)))] (RS.dn (WS.nxt (WS.sq ?_)))))
 rcases z8 h with ⟨hp,h⟩ | ⟨hp,h⟩
 ·refine WS.fx 56 true (decide_eq_true hp) (WS.cT (WS.sk (WS.nxt (WS.sq (WS.bk 7 (WS.sq (WS.rg ?_)))))))
  obtain ⟨p19,hx,h⟩:=bind_some h
  refine RS.ix 57 31 89 (.tmp 53) (.tmp 55) hx ?_
  obtain ⟨x20_0,hx0,h⟩:=bind_some h
  obtain ⟨x20_1,hx1,h⟩:=bind_some h
  obtain ⟨x20_2,hx2,h⟩:=bind_some h
  obtain ⟨x20_3,hx3,h⟩:=bind_some h
  obtain ⟨x20_4,hx4,h⟩:=bind_some h
  obtain ⟨x20_5,hx5,h⟩:=bind_some h
  refine RS.la 58 89 (.tmp 57) 6 (z7 (z0 hx0 zd) (z7 (z0 hx1 za) (z7 (z0 hx2 z9) (z7 (z0 hx3 z9) (z7 (z0 hx4 zd) (z7 (z0 hx5 za) zf)))))) (RS.mL 2 [kL 11 0 0] ([some (89,[(Value.string x20_0),(Sl3.v x20_1),(Value.int .i64 x20_2),(Value.int .i64 x20_3),(Value.string x20_4),(Sl3.v x20_5)])]) (RS.dn (WS.nxt (WS.sq ?_))))
  obtain ⟨⟨x21,H22⟩,hx_2,h⟩:=bind_some h
  try dsimp only at h
  obtain ⟨⟨k23,H24⟩,hx_k23,h⟩:=bind_some h
  try dsimp only at h
  obtain ⟨⟨s25,H26⟩,hx_6,h⟩:=bind_some h
  try dsimp only at h
  refine WS.toone ([kP 0 q1,kS 53 x16,kI 54 (x16.n:Int),kI 55 v55_18,kS 65 s25,kI 66 (s25.n:Int),kI 67 0]) ([some (89,[(Value.string x20_0),(Sl3.v x20_1),(Value.int .i64 x20_2),(Value.int .i64 x20_3),(Value.string x20_4),(Sl3.v x20_5)]),none]) H26 ?_ ?_
  ·clear h
   refine WS.dr [0,1] [0,1,3,0,8,24,63,127,0] 9 (fun hcl=>?_)
   refine DA.tL 0 (some 59) (.loc 0 1) (DA.tL 1 (some 60) (.val (Sl3.v x20_1)) (DA.tP 8 (some 67) (Value.int .i64 0) (DA.restart [0,1,3] (by kernel_rfl) (DA.tL 3 (some 62) (.loc 0 2) ?_))))
   refine DA.two 2 4 (by kernel_rfl) ?_ ?_
   ·refine DA.aCk 2 (some 61) true (v:=(Sl3.v x21)) 73 #[(Sl3.v x20_1)] (z5s hx_2) (DA.on 4 (DA.aL 4 (some 63) (.val (Value.agg #[(Value.int .i64 x20_2),(Value.int .i64 x20_3),(Value.string x20_4),(Sl3.v x20_5)])) ([some (89,[(Value.string x20_0),(Sl3.v x20_1),(Value.int .i64 x20_2),(Value.int .i64 x20_3),(Value.string x20_4),(Sl3.v x20_5)])]) true (DA.on 5 (DA.actS 5 (some 64) (.sli 1 1) ([some (89,[(Value.string x20_0),(Sl3.v x20_1),(Value.int .i64 x20_2),(Value.int .i64 x20_3),(Value.string x20_4),(Sl3.v x20_5)]),some (28,[(Value.int .i64 x20_2),(Value.int .i64 x20_3),(Value.string x20_4),(Sl3.v x20_5)])]) (by kernel_rfl) (by kernel_rfl) (by kernel_rfl) hcl (by kernel_rfl) (by kernel_rfl) (by kernel_rfl) (DA.on 6 (DA.pubK 1 _ _ hx_k23 (by kernel_rfl) rfl rfl (DA.aH (H':=H26) 6 (some 65) (Sl3.v s25) (Abs.run_app (x:=.tmp 61) (y:=.tmp 64) (ts:=#[26,26]) (s:=x21) (z:=(⟨some ⟨k23,0,none⟩,1,1⟩:Sl3)) (by kernel_rfl) (by kernel_rfl) (by kernel_rfl) (by kernel_rfl) hx_6) (DA.tP 7 (some 66) (Value.int .i64 (s25.n:Int)) (DA.dn ?_)))))))))
    exact fun a w hs=>jsN (hs.sb 2)
   ·refine DA.aL 4 (some 63) (.val (Value.agg #[(Value.int .i64 x20_2),(Value.int .i64 x20_3),(Value.string x20_4),(Sl3.v x20_5)])) ([some (89,[(Value.string x20_0),(Sl3.v x20_1),(Value.int .i64 x20_2),(Value.int .i64 x20_3),(Value.string x20_4),(Sl3.v x20_5)])]) true ?_
    refine DA.two 2 5 (by kernel_rfl) ?_ ?_
    ·refine DA.aCk 2 (some 61) true (v:=(Sl3.v x21)) 73 #[(Sl3.v x20_1)] (z5s hx_2) (DA.on 5 (DA.actS 5 (some 64) (.sli 1 1) ([some (89,[(Value.string x20_0),(Sl3.v x20_1),(Value.int .i64 x20_2),(Value.int .i64 x20_3),(Value.string x20_4),(Sl3.v x20_5)]),some (28,[(Value.int .i64 x20_2),(Value.int .i64 x20_3),(Value.string x20_4),(Sl3.v x20_5)])]) (by kernel_rfl) (by kernel_rfl) (by kernel_rfl) hcl (by kernel_rfl) (by kernel_rfl) (by kernel_rfl) (DA.on 6 (DA.pubK 1 _ _ hx_k23 (by kernel_rfl) rfl rfl (DA.aH (H':=H26) 6 (some 65) (Sl3.v s25) (Abs.run_app (x:=.tmp 61) (y:=.tmp 64) (ts:=#[26,26]) (s:=x21) (z:=(⟨some ⟨k23,0,none⟩,1,1⟩:Sl3)) (by kernel_rfl) (by kernel_rfl) (by kernel_rfl) (by kernel_rfl) hx_6) (DA.tP 7 (some 66) (Value.int .i64 (s25.n:Int)) (DA.dn ?_)))))))
     exact fun a w hs=>jsN (hs.sb 2)
    ·refine DA.actS 5 (some 64) (.sli 1 1) ([some (89,[(Value.string x20_0),(Sl3.v x20_1),(Value.int .i64 x20_2),(Value.int .i64 x20_3),(Value.string x20_4),(Sl3.v x20_5)]),some (28,[(Value.int .i64 x20_2),(Value.int .i64 x20_3),(Value.string x20_4),(Sl3.v x20_5)])]) (by kernel_rfl) (by kernel_rfl) (by kernel_rfl) hcl (by kernel_rfl) (by kernel_rfl) (by kernel_rfl) (DA.on 2 (DA.aCk 2 (some 61) false (v:=(Sl3.v x21)) 73 #[(Sl3.v x20_1)] (z5s hx_2) (DA.on 6 (DA.pubK 1 _ _ hx_k23 (by kernel_rfl) rfl rfl (DA.aH (H':=H26) 6 (some 65) (Sl3.v s25) (Abs.run_app (x:=.tmp 61) (y:=.tmp 64) (ts:=#[26,26]) (s:=x21) (z:=(⟨some ⟨k23,0,none⟩,1,1⟩:Sl3)) (by kernel_rfl) (by kernel_rfl) (by kernel_rfl) (by kernel_rfl) hx_6) (DA.tP 7 (some 66) (Value.int .i64 (s25.n:Int)) (DA.dn ?_)))))))
     exact fun a w hs=>jsN (hs.sb 2)
  ·refine WS.nxt (WS.bk 8 ?_)
   obtain ⟨o,hl,h⟩:=bind_some h
   rcases o with v67_31 | r
   ·try dsimp only at h
    refine WS.lI (z61 (L:=L) (E:=E) (m:=m) (H:=H)) (L.ok hl) 2 ?_
    clear hl
    refine fun a w hs=>bkE (bkN ((WS.nxt ?_ a w hs)))
    refine WS.rg (RS.mS 2 [kI 55 (IntKind.i64.wrap (v55_18+1)),kI 78 (IntKind.i64.wrap (v55_18+1))] (RS.dn ?_))
    cases h
    exact fun a w hs=>lsN rfl (hs.sb 0)
   ·try dsimp only at h
    refine WS.lR (z61 (L:=L) (E:=E) (m:=m) (H:=H)) (L.ok hl) 2 ?_
    cases h
    exact fun a w hq=>bkR (bkR (sqR (lsR rfl hq)))
 ·refine WS.fx 56 false (decide_eq_false hp) (WS.cF (WS.ex 6 ?_))
  cases h
  exact fun a w hs=>sqE (lsB rfl (hs.sb 0))
theorem zbs {L:LC} {m:Nat} {H:AH} {a0:Option Addr} {r:(Int×AH)} (h:z3q L m H a0=some r) :
  CallS Tryd.prog (NE.plain 1000) m 44 #[(Value.pointer a0)] H (z1t r) (z1w H r):=by
 refine CallS.mk (args:=[(Value.pointer a0)]) Tryd.func44 (B:=B44) (by kernel_rfl) (fun E _=>?_)
 unfold z3q at h
 refine WS.sq (WS.rg (RS.mS 1 [kI 2 0] (RS.dn (WS.nxt (WS.sq (WS.sq (WS.rg (RS.mS 1 [(15,.val (Value.pointer a0))] ?_))))))))
 obtain ⟨q1,hx,hq1⟩:=bind_some h
 subst hx
 have h:=hq1
 refine RS.mS 3 [(18,.val (Value.pointer (some (Addr.add (Addr.add q1 0) 1)))),(17,.val (Value.pointer (some (Addr.add q1 0)))),kP 16 q1] ?_
 obtain ⟨x2,hx,h⟩:=bind_some h
 refine RS.ld 19 30 (.tmp 18) (z0 hx za) (RS.mS 2 [kI 21 0,kI 20 (x2.n:Int)] (RS.dn (WS.nxt (WS.bk 0 ?_))))
 obtain ⟨o,hl,h⟩:=bind_some h
 rcases o with v21_15 | r
 ·try dsimp only at h
  refine WS.lI (z60 (L:=L) (E:=E) (m:=m) (H:=H)) (L.ok hl) 0 ?_
  clear hl
  refine fun a w hs=>bkE ((WS.nxt ?_ a w hs))
  refine WS.sq (WS.sq (WS.rg (RS.mS 4 [(52,.val (Value.pointer (some (Addr.add (Addr.add q1 0) 2)))),(51,.val (Value.pointer (some (Addr.add q1 0)))),kP 50 q1,kP 49 q1] ?_)))
  obtain ⟨x16,hx,h⟩:=bind_some h
  refine RS.ld 53 31 (.tmp 52) (z0 hx za) (RS.mS 2 [kI 55 0,kI 54 (x16.n:Int)] (RS.dn (WS.nxt (WS.bk 6 ?_))))
  obtain ⟨o,hl,h⟩:=bind_some h
  rcases o with ⟨H32,v55_33⟩ | r
  ·try dsimp only at h
   refine WS.lI (z5p (L:=L) (E:=E) (m:=m) (H:=H)) (L.ok hl) 0 ?_
   clear hl
   refine fun a w hs=>bkE ((WS.nxt ?_ a w hs))
   refine WS.sq (WS.rg (RS.mS 1 [kI 2 0] (RS.dn (WS.nxt (WS.rt ?_)))))
   cases h
   exact fun a w hs=>rtR (rS hs)
  ·try dsimp only at h
   refine WS.lR (z5p (L:=L) (E:=E) (m:=m) (H:=H)) (L.ok hl) 0 ?_
   cases h
   exact fun a w hq=>bkR (sqR (rtR hq))
 ·try dsimp only at h
  refine WS.lR (z60 (L:=L) (E:=E) (m:=m) (H:=H)) (L.ok hl) 0 ?_
  cases h
  exact fun a w hq=>bkR (sqR (rtR hq))
def z2g:(Sl3×AH)→Value
 | (r0,_)=>(Sl3.v r0)
def z2p (_:AH):(Sl3×AH)→AH:=fun r=>r.2
noncomputable def B74:Code:=(Tryd.f74.body).getD .skip
noncomputable def z1o (_L:LC) (rec_sort_book_datas:Nat→AH→(Option Addr)→Int→Int→ByteArray→Sl3→Bool→Option (Sl3×AH)) (m:Nat) (a0:Option Addr) (_a1_0 _a1_1:Int) (_a1_2:ByteArray) (a1_3:Sl3):(AH×Sl3×Int)→Option (Lp (AH×Sl3×Int) (Sl3×AH)):=fun (H7,v7_8,v31_9) =>
 if v31_9<(a1_3.n:Int) then
  Option.bind (idxA 4 a1_3 v31_9) fun p10 =>
  Option.bind (rd (deI .i64) H7 (Addr.add p10 0)) fun x11_0 =>
  Option.bind (rd (deI .i64) H7 (Addr.add p10 1)) fun x11_1 =>
  Option.bind (rd deS H7 (Addr.add p10 2)) fun x11_2 =>
  Option.bind (rd deSl H7 (Addr.add p10 3)) fun x11_3 =>
  Option.bind (rec_sort_book_datas m H7 a0 x11_0 x11_1 x11_2 x11_3 false) fun (x12,H13) =>
  Option.bind (appS m 3 1 8 H13 v7_8 x12) fun (s14,H15) =>
  some (.next (H15,s14,(IntKind.i64.wrap (v31_9+1))))
 else
  some (.brk (H7,v7_8,v31_9))
def zb6 (_L:LC) (_rec_sort_book_datas:Nat→AH→(Option Addr)→Int→Int→ByteArray→Sl3→Bool→Option (Sl3×AH)) (_m:Nat) (a0:Option Addr) (a1_0 a1_1:Int) (a1_2:ByteArray) (a1_3:Sl3):(AH×Sl3×Int)→KN×Lcs:=fun (_,v7_8,v31_9)=>([kS 7 v7_8,kI 31 v31_9,(0,.val (Value.pointer a0)),kS 29 a1_3,kI 30 (a1_3.n:Int)],[some (28,[(Value.int .i64 a1_0),(Value.int .i64 a1_1),(Value.string a1_2),(Sl3.v a1_3)])])
noncomputable def z2w (L:LC) (rec_sort_book_datas:Nat→AH→(Option Addr)→Int→Int→ByteArray→Sl3→Bool→Option (Sl3×AH)) (m:Nat) (H:AH) (a0:Option Addr) (a1_0 a1_1:Int) (a1_2:ByteArray) (a1_3:Sl3) (a2:Bool):Option (Sl3×AH) :=
 Option.bind (α:=Bool) (
  if a1_0=6 then
   some (!a2)
  else
   some false) fun v16_1 =>
 if v16_1=true then
  Option.bind a0 fun q2 =>
  Option.bind (rd deM H (Addr.add q2 3)) fun x3 =>
  Option.bind (lk1 Tryd.prog 94 (deI .i64) H x3 (Value.agg #[(Value.int .i64 a1_0),(Value.string a1_2)])) fun x4 =>
  Option.bind (newR 3 1 #[(Value.int .i64 x4)] H) fun (s5,H6) =>
  some (s5,H6)
 else
  Option.bind (L.run (z1o L rec_sort_book_datas m a0 a1_0 a1_1 a1_2 a1_3) (H,Sl3.nil,0)) fun o=>match o with
  | .inl (H16,v7_17,_) =>
   some (v7_17,H16)
  | .inr r=>some r
noncomputable def z1v (L:LC) (n:Nat):(Nat→AH→(Option Addr)→Int→Int→ByteArray→Sl3→Bool→Option (Sl3×AH)):=Nat.rec (motive:=fun _=>(Nat→AH→(Option Addr)→Int→Int→ByteArray→Sl3→Bool→Option (Sl3×AH))) (fun _ _ _ _ _ _ _ _=>none) (fun _ p=>z2w L p) n
noncomputable def z4r (L:LC) (m:Nat) (H:AH) (a0:Option Addr) (a1_0 a1_1:Int) (a1_2:ByteArray) (a1_3:Sl3) (a2:Bool):Option (Sl3×AH):=(z1v L L.fuel) m H a0 a1_0 a1_1 a1_2 a1_3 a2
theorem z73 {E H L rec_sort_book_datas m a0 a1_0 a1_1 a1_2 a1_3} (hrec_sort_book_datas:∀(m:Nat) (H:AH) (a0:Option Addr) (a1_0 a1_1:Int) (a1_2:ByteArray) (a1_3:Sl3) (a2:Bool) (r:(Sl3×AH)),rec_sort_book_datas m H a0 a1_0 a1_1 a1_2 a1_3 a2=some r→CallS Tryd.prog (NE.plain 1000) m 74 #[(Value.pointer a0),(Value.agg #[(Value.int .i64 a1_0),(Value.int .i64 a1_1),(Value.string a1_2),(Sl3.v a1_3)]),(Value.bool a2)] H (z2g r) (z2p H r)):LoopF Tryd.prog (NE.plain 1000) m E Tryd.f74 ((cfst (csnd (cfst (csnd (csnd (csnd B74))))))) (zb6 L rec_sort_book_datas m a0 a1_0 a1_1 a1_2 a1_3) (fun s=>s.1) 0 z2g (z2p H) (z1o L rec_sort_book_datas m a0 a1_0 a1_1 a1_2 a1_3):=by
 rintro ⟨H7,v7_8,v31_9⟩ o h
 unfold z1o at h
 try dsimp only at h
 refine WS.sq (WS.rg (RS.mS 1 [kB 32 (decide (v31_9<(a1_3.n:Int)))] (RS.dn (WS.nxt (WS.sq ?_)))))
 rcases z8 h with ⟨hp,h⟩ | ⟨hp,h⟩
 ·refine WS.fx 32 true (decide_eq_true hp) (WS.cT (WS.sk (WS.nxt (WS.sq (WS.bk 1 (WS.sq (WS.rg ?_)))))))
  obtain ⟨p10,hx,h⟩:=bind_some h
  refine RS.ix 33 26 28 (.tmp 29) (.tmp 31) hx ?_
  obtain ⟨x11_0,hx0,h⟩:=bind_some h
  obtain ⟨x11_1,hx1,h⟩:=bind_some h
  obtain ⟨x11_2,hx2,h⟩:=bind_some h
  obtain ⟨x11_3,hx3,h⟩:=bind_some h
  refine RS.la 34 28 (.tmp 33) 4 (z7 (z0 hx0 z9) (z7 (z0 hx1 z9) (z7 (z0 hx2 zd) (z7 (z0 hx3 za) zf)))) (RS.mL 2 [kL 9 1 0] ([some (28,[(Value.int .i64 a1_0),(Value.int .i64 a1_1),(Value.string a1_2),(Sl3.v a1_3)]),some (28,[(Value.int .i64 x11_0),(Value.int .i64 x11_1),(Value.string x11_2),(Sl3.v x11_3)])]) (RS.dn (WS.nxt (WS.rg (RS.mS 3 [kA 37 #[(Value.int .i64 x11_0),(Value.int .i64 x11_1),(Value.string x11_2),(Sl3.v x11_3)],(36,.val (Value.pointer a0)),kS 35 v7_8] ?_)))))
  obtain ⟨⟨x12,H13⟩,hx,h⟩:=bind_some h
  try dsimp only at h
  refine RS.cl (some 38) (v:=(Sl3.v x12)) 74 #[(Value.pointer a0),(Value.agg #[(Value.int .i64 x11_0),(Value.int .i64 x11_1),(Value.string x11_2),(Sl3.v x11_3)]),(Value.bool false)] (hrec_sort_book_datas _ _ _ _ _ _ _ _ _ hx) ?_
  obtain ⟨⟨s14,H15⟩,hx,h⟩:=bind_some h
  try dsimp only at h
  refine RS.o (H':=H15) (some 39) (Sl3.v s14) (Abs.run_app (x:=.tmp 35) (y:=.tmp 38) (ts:=#[104,104]) (s:=v7_8) (z:=x12) (by kernel_rfl) (by kernel_rfl) (by kernel_rfl) (by kernel_rfl) hx) (RS.mS 1 [kS 7 s14] (RS.dn ?_))
  refine fun a w hs=>bkN ((WS.nxt ?_ a w hs))
  refine WS.rg (RS.mS 2 [kI 31 (IntKind.i64.wrap (v31_9+1)),kI 40 (IntKind.i64.wrap (v31_9+1))] (RS.dn ?_))
  cases h
  exact fun a w hs=>lsN rfl (hs.sb 1)
 ·refine WS.fx 32 false (decide_eq_false hp) (WS.cF (WS.ex 0 ?_))
  cases h
  exact fun a w hs=>sqE (lsB rfl (hs.sb 1))
theorem za1 {L:LC} {rec_sort_book_datas:Nat→AH→(Option Addr)→Int→Int→ByteArray→Sl3→Bool→Option (Sl3×AH)} (hrec_sort_book_datas:∀(m:Nat) (H:AH) (a0:Option Addr) (a1_0 a1_1:Int) (a1_2:ByteArray) (a1_3:Sl3) (a2:Bool) (r:(Sl3×AH)),rec_sort_book_datas m H a0 a1_0 a1_1 a1_2 a1_3 a2=some r→CallS Tryd.prog (NE.plain 1000) m 74 #[(Value.pointer a0),(Value.agg #[(Value.int .i64 a1_0),(Value.int .i64 a1_1),(Value.string a1_2),(Sl3.v a1_3)]),(Value.bool a2)] H (z2g r) (z2p H r)) {m:Nat} {H:AH} {a0:Option Addr} {a1_0 a1_1:Int} {a1_2:ByteArray} {a1_3:Sl3} {a2:Bool} {r:(Sl3×AH)} (h:z2w L rec_sort_book_datas m H a0 a1_0 a1_1 a1_2 a1_3 a2=some r) :
  CallS Tryd.prog (NE.plain 1000) m 74 #[(Value.pointer a0),(Value.agg #[(Value.int .i64 a1_0),(Value.int .i64 a1_1),(Value.string a1_2),(Sl3.v a1_3)]),(Value.bool a2)] H (z2g r) (z2p H r):=by
 refine CallS.mk (args:=[(Value.pointer a0),(Value.agg #[(Value.int .i64 a1_0),(Value.int .i64 a1_1),(Value.string a1_2),(Sl3.v a1_3)]),(Value.bool a2)]) Tryd.func74 (B:=B74) (by kernel_rfl) (fun E _=>?_)
 unfold z2w at h
 refine WS.sq (WS.rg (RS.mL 2 [kS 6 Sl3.nil,kL 4 0 0] ([some (28,[(Value.int .i64 a1_0),(Value.int .i64 a1_1),(Value.string a1_2),(Sl3.v a1_3)])]) (RS.dn (WS.nxt (WS.sq ?_)))))
 obtain ⟨v16_1,hx,h⟩:=bind_some h
 refine WS.sq ?_
 refine WS.join ([kB 16 v16_1,(0,.val (Value.pointer a0)),kL 4 0 0]) ([some (28,[(Value.int .i64 a1_0),(Value.int .i64 a1_1),(Value.string a1_2),(Sl3.v a1_3)])]) H ?_ (fun a w hs=>WS.nxt ?_ a w hs)
 ·clear h; rename _=>h
  refine WS.rg (RS.mS 4 [kB 13 (decide (a1_0=6)),kB 12 (decide (a1_0=6)),kI 11 a1_0,kL 10 0 0] ?_)
  rcases z8 h with ⟨hp,h⟩ | ⟨hp,h⟩
  ·refine RS.fx 13 true (decide_eq_true hp) (RS.mS 3 [kB 16 (!a2),kB 15 (!a2),kB 14 a2] (RS.dn ?_))
   cases h
   exact fun a w hs=>(jsN (hs.sb 1))
  ·refine RS.fx 13 false (decide_eq_false hp) (RS.mS 3 [kB 16 false,kU 15,kU 14] (RS.dn ?_))
   cases h
   exact fun a w hs=>(jsN (hs.sb 1))
 ·clear hx
  rcases z8 h with ⟨hp,h⟩ | ⟨hp,h⟩
  ·refine WS.fx 16 true hp (WS.cT (WS.sq ?_))
   refine WS.dr [0,1,2,3,4,5,6,7,8,9] [0,1,3,7,0,16,0,64,240,511,1023,2047] 12 (fun hcl=>?_)
   refine DA.tK 0 (some 17) (Value.pointer a0) ?_
   obtain ⟨q2,hx,hq2⟩:=bind_some h
   subst hx
   have h:=hq2
   refine DA.tK 1 (some 18) (Value.pointer (some q2)) (DA.tK 2 (some 19) (Value.pointer (some (Addr.add q2 3))) ?_)
   obtain ⟨x3,hx,h⟩:=bind_some h
   refine DA.tD 3 (some 20) (Value.map x3) (Abs.det_load (t:=94) (x:=.tmp 19) (a:=(Addr.add q2 3)) (by kernel_rfl) (by kernel_rfl) (by kernel_rfl) (by kernel_rfl) (z0 hx z3h)) (DA.tL 4 (some 21) (.loc 0 0) (DA.tL 5 (some 22) (.val (Value.int .i64 a1_0)) (DA.tL 6 (some 23) (.loc 0 2) (DA.tL 7 (some 24) (.val (Value.string a1_2)) (DA.tK 8 (some 25) (Value.agg #[(Value.int .i64 a1_0),(Value.string a1_2)]) ?_)))))
   obtain ⟨x4,hx,h⟩:=bind_some h
   refine DA.tD 9 (some 26) (Value.int .i64 x4) (Abs.det_look (t:=94) (x:=.tmp 20) (y:=.tmp 25) (mm:=x3) (k:=(Value.agg #[(Value.int .i64 a1_0),(Value.string a1_2)])) (by kernel_rfl) (by kernel_rfl) (by kernel_rfl) (by kernel_rfl) (lk1_eq hx z9)) ?_
   obtain ⟨⟨s5,H6⟩,hx,h⟩:=bind_some h
   try dsimp only at h
   refine DA.on 10 (DA.aH (H':=H6) 10 (some 27) (Sl3.v s5) (Abs.run_newR (by kernel_rfl) (by kernel_rfl) hx) (DA.tP 11 (some 6) (Sl3.v s5) (DA.dn (WS.nxt (WS.rt ?_)))))
   cases h
   exact fun a w hs=>sqR (rtR (rS hs))
  ·refine WS.fx 16 false (b_not hp) (WS.cF (WS.sk (WS.nxt (WS.sq (WS.rg (RS.mS 1 [kS 7 Sl3.nil] (RS.dn (WS.nxt (WS.sq ?_)))))))))
   refine WS.sq (WS.rg (RS.mS 4 [kI 31 0,kI 30 (a1_3.n:Int),kS 29 a1_3,kL 28 0 3] (RS.dn (WS.nxt (WS.bk 0 ?_)))))
   obtain ⟨o,hl,h⟩:=bind_some h
   rcases o with ⟨H16,v7_17,v31_18⟩ | r
   ·try dsimp only at h
    refine WS.lI (z73 (L:=L) (E:=E) (m:=m) (H:=H) hrec_sort_book_datas) (L.ok hl) 1 ?_
    clear hl
    refine fun a w hs=>bkE ((WS.nxt ?_ a w hs))
    refine WS.sq (WS.rg (RS.mS 2 [kS 6 v7_17,kS 41 v7_17] (RS.dn (WS.nxt (WS.rt ?_)))))
    cases h
    exact fun a w hs=>rtR (rS hs)
   ·try dsimp only at h
    refine WS.lR (z73 (L:=L) (E:=E) (m:=m) (H:=H) hrec_sort_book_datas) (L.ok hl) 1 ?_
    cases h
    exact fun a w hq=>bkR (sqR (rtR hq))
theorem zan {L:LC}:∀n,(∀(m:Nat) (H:AH) (a0:Option Addr) (a1_0 a1_1:Int) (a1_2:ByteArray) (a1_3:Sl3) (a2:Bool) (r:(Sl3×AH)),((z1v L n)) m H a0 a1_0 a1_1 a1_2 a1_3 a2=some r→CallS Tryd.prog (NE.plain 1000) m 74 #[(Value.pointer a0),(Value.agg #[(Value.int .i64 a1_0),(Value.int .i64 a1_1),(Value.string a1_2),(Sl3.v a1_3)]),(Value.bool a2)] H (z2g r) (z2p H r)):=by
 intro n
 induction n with
 | zero=>exact (fun _ _ _ _ _ _ _ _ _ h=>(Option.some_ne_none _ h.symm).elim)
 | succ n ih=>exact (fun _ _ _ _ _ _ _ _ _ h=>za1 (L:=L) ih h)
theorem z86 {L:LC} {m:Nat} {H:AH} {a0:Option Addr} {a1_0 a1_1:Int} {a1_2:ByteArray} {a1_3:Sl3} {a2:Bool} {r:(Sl3×AH)} (h:z4r L m H a0 a1_0 a1_1 a1_2 a1_3 a2=some r) :
  CallS Tryd.prog (NE.plain 1000) m 74 #[(Value.pointer a0),(Value.agg #[(Value.int .i64 a1_0),(Value.int .i64 a1_1),(Value.string a1_2),(Sl3.v a1_3)]),(Value.bool a2)] H (z2g r) (z2p H r) :=
 (zan _) _ _ _ _ _ _ _ _ _ h
def z33:(Bool×AH)→Value
 | (r0,_)=>(Value.bool r0)
def z3d (_:AH):(Bool×AH)→AH:=fun r=>r.2
noncomputable def B45:Code:=(Tryd.f45.body).getD .skip
noncomputable def z1l (_L:LC) (a1:Sl3) (_q1:Addr) (_x2:Sl3) (v19_4:Int) (_x6_0:ByteArray) (_x6_1:Sl3) (_v27_8:Int) (_x10_0:ByteArray) (_x10_1:Sl3) (_v34_12:Int) (_x14_0:ByteArray) (_x14_1 _x14_2:Int) (_x14_3:ByteArray) (_x14_4 x15:Sl3) (H16:AH):Int→Option (Lp Int (Bool×AH)):=fun v43_17 =>
 if v43_17<(x15.n:Int) then
  Option.bind (idxA 1 x15 v43_17) fun p18 =>
  Option.bind (rd (deI .i64) H16 p18) fun x19 =>
  Option.bind (α:=Bool) (
   if x19=v19_4 then
    some true
   else
    Option.bind (idxA 1 a1 x19) fun p21 =>
    Option.bind (rd deSl H16 p21) fun x22 =>
    Option.bind (idxA 1 x22 v19_4) fun p23 =>
    Option.bind (rd deB H16 p23) fun x24 =>
    some x24) fun v58_20 =>
  if v58_20=true then
   some (.ret (true,H16))
  else
   some (.next (IntKind.i64.wrap (v43_17+1)))
 else
  some (.brk v43_17)
def zaw (_L:LC) (a1:Sl3) (q1:Addr) (x2:Sl3) (v19_4:Int) (x6_0:ByteArray) (x6_1:Sl3) (v27_8:Int) (x10_0:ByteArray) (x10_1:Sl3) (v34_12:Int) (x14_0:ByteArray) (x14_1 x14_2:Int) (x14_3:ByteArray) (x14_4 x15:Sl3) (_H16:AH):Int→KN×Lcs:=fun v43_17=>([kI 43 v43_17,kP 0 q1,kS 1 a1,kI 5 v19_4,kS 17 x2,kI 18 (x2.n:Int),kI 19 v19_4,kS 25 x6_1,kI 26 (x6_1.n:Int),kI 27 v27_8,kS 32 x10_1,kI 33 (x10_1.n:Int),kI 34 v34_12,kS 41 x15,kI 42 (x15.n:Int)],[some (46,[(Value.string x6_0),(Sl3.v x6_1)]),some (50,[(Value.string x10_0),(Sl3.v x10_1)]),some (52,[(Value.string x14_0),(Value.int .i64 x14_1),(Value.int .i64 x14_2),(Value.string x14_3),(Sl3.v x14_4)])])
noncomputable def zx (L:LC) (m:Nat) (a1:Sl3) (q1:Addr) (x2:Sl3) (v19_4:Int) (x6_0:ByteArray) (x6_1:Sl3) (v27_8:Int) (x10_0:ByteArray) (x10_1:Sl3):(AH×Int)→Option (Lp (AH×Int) (Bool×AH)):=fun (H11,v34_12) =>
 if v34_12<(x10_1.n:Int) then
  Option.bind (idxA 5 x10_1 v34_12) fun p13 =>
  Option.bind (rd deS H11 (Addr.add p13 0)) fun x14_0 =>
  Option.bind (rd (deI .i64) H11 (Addr.add p13 1)) fun x14_1 =>
  Option.bind (rd (deI .i64) H11 (Addr.add p13 2)) fun x14_2 =>
  Option.bind (rd deS H11 (Addr.add p13 3)) fun x14_3 =>
  Option.bind (rd deSl H11 (Addr.add p13 4)) fun x14_4 =>
  Option.bind (z4r L m H11 (some q1) x14_1 x14_2 x14_3 x14_4 true) fun (x15,H16) =>
  Option.bind (L.run (z1l L a1 q1 x2 v19_4 x6_0 x6_1 v27_8 x10_0 x10_1 v34_12 x14_0 x14_1 x14_2 x14_3 x14_4 x15 H16) 0) fun o=>match o with
  | .inl _ =>
   some (.next (H16,(IntKind.i64.wrap (v34_12+1))))
  | .inr r=>some (.ret r)
 else
  some (.brk (H11,v34_12))
def zar (_L:LC) (_m:Nat) (a1:Sl3) (q1:Addr) (x2:Sl3) (v19_4:Int) (x6_0:ByteArray) (x6_1:Sl3) (v27_8:Int) (x10_0:ByteArray) (x10_1:Sl3):(AH×Int)→KN×Lcs:=fun (_,v34_12)=>([kI 34 v34_12,kP 0 q1,kS 1 a1,kI 5 v19_4,kS 17 x2,kI 18 (x2.n:Int),kI 19 v19_4,kS 25 x6_1,kI 26 (x6_1.n:Int),kI 27 v27_8,kS 32 x10_1,kI 33 (x10_1.n:Int)],[some (46,[(Value.string x6_0),(Sl3.v x6_1)]),some (50,[(Value.string x10_0),(Sl3.v x10_1)])])
noncomputable def zw (L:LC) (m:Nat) (a1:Sl3) (q1:Addr) (x2:Sl3) (v19_4:Int) (x6_0:ByteArray) (x6_1:Sl3):(AH×Int)→Option (Lp (AH×Int) (Bool×AH)):=fun (H7,v27_8) =>
 if v27_8<(x6_1.n:Int) then
  Option.bind (idxA 2 x6_1 v27_8) fun p9 =>
  Option.bind (rd deS H7 (Addr.add p9 0)) fun x10_0 =>
  Option.bind (rd deSl H7 (Addr.add p9 1)) fun x10_1 =>
  Option.bind (L.run (zx L m a1 q1 x2 v19_4 x6_0 x6_1 v27_8 x10_0 x10_1) (H7,0)) fun o=>match o with
  | .inl (H26,_) =>
   some (.next (H26,(IntKind.i64.wrap (v27_8+1))))
  | .inr r=>some (.ret r)
 else
  some (.brk (H7,v27_8))
def zau (_L:LC) (_m:Nat) (a1:Sl3) (q1:Addr) (x2:Sl3) (v19_4:Int) (x6_0:ByteArray) (x6_1:Sl3):(AH×Int)→KN×Lcs:=fun (_,v27_8)=>([kI 27 v27_8,kP 0 q1,kS 1 a1,kI 5 v19_4,kS 17 x2,kI 18 (x2.n:Int),kI 19 v19_4,kS 25 x6_1,kI 26 (x6_1.n:Int)],[some (46,[(Value.string x6_0),(Sl3.v x6_1)])])
noncomputable def z1m (L:LC) (m:Nat) (a1:Sl3) (q1:Addr) (x2:Sl3):(AH×Int)→Option (Lp (AH×Int) (Bool×AH)):=fun (H3,v19_4) =>
 if v19_4<(x2.n:Int) then
  Option.bind (idxA 2 x2 v19_4) fun p5 =>
  Option.bind (rd deS H3 (Addr.add p5 0)) fun x6_0 =>
  Option.bind (rd deSl H3 (Addr.add p5 1)) fun x6_1 =>
  Option.bind (L.run (zw L m a1 q1 x2 v19_4 x6_0 x6_1) (H3,0)) fun o=>match o with
  | .inl (H28,_) =>
   some (.next (H28,(IntKind.i64.wrap (v19_4+1))))
  | .inr r=>some (.ret r)
 else
  some (.brk (H3,v19_4))
def zav (_L:LC) (_m:Nat) (a1:Sl3) (q1:Addr) (x2:Sl3):(AH×Int)→KN×Lcs:=fun (_,v19_4)=>([kI 19 v19_4,kP 0 q1,kS 1 a1,kS 17 x2,kI 18 (x2.n:Int)],[])
noncomputable def z4g (L:LC) (m:Nat) (H:AH) (a0:Option Addr) (a1:Sl3):Option (Bool×AH) :=
 Option.bind a0 fun q1 =>
 Option.bind (rd deSl H (Addr.add (Addr.add q1 0) 1)) fun x2 =>
 Option.bind (L.run (z1m L m a1 q1 x2) (H,0)) fun o=>match o with
 | .inl (H30,_) =>
  some (false,H30)
 | .inr r=>some r
theorem z6p {E m H L a1 q1 x2 v19_4 x6_0 x6_1 v27_8 x10_0 x10_1 v34_12 x14_0 x14_1 x14_2 x14_3 x14_4 x15 H16} :LoopF Tryd.prog (NE.plain 1000) m E Tryd.f45 ((cfst (csnd (csnd (cfst (cfst (csnd (csnd (cfst (cfst (csnd (csnd (cfst (cfst (csnd (csnd (cfst (cfst (csnd (csnd (cfst (cfst (csnd (csnd (cfst (cfst (csnd (cfst (csnd B45))))))))))))))))))))))))))))) (zaw L a1 q1 x2 v19_4 x6_0 x6_1 v27_8 x10_0 x10_1 v34_12 x14_0 x14_1 x14_2 x14_3 x14_4 x15 H16) (fun _=>H16) 6 z33 (z3d H) (z1l L a1 q1 x2 v19_4 x6_0 x6_1 v27_8 x10_0 x10_1 v34_12 x14_0 x14_1 x14_2 x14_3 x14_4 x15 H16):=by
 rintro v43_17 o h
 unfold z1l at h
 try dsimp only at h
 refine WS.sq (WS.rg (RS.mS 1 [kB 44 (decide (v43_17<(x15.n:Int)))] (RS.dn (WS.nxt (WS.sq ?_)))))
 rcases z8 h with ⟨hp,h⟩ | ⟨hp,h⟩
 ·refine WS.fx 44 true (decide_eq_true hp) (WS.cT (WS.sk (WS.nxt (WS.sq (WS.bk 7 (WS.sq (WS.rg ?_)))))))
  obtain ⟨p18,hx,h⟩:=bind_some h
  refine RS.ix 45 104 3 (.tmp 41) (.tmp 43) hx ?_
  obtain ⟨x19,hx,h⟩:=bind_some h
  refine RS.ld 46 3 (.tmp 45) (z0 hx z9) (RS.mS 1 [kI 12 x19] (RS.dn (WS.nxt ?_)))
  obtain ⟨v58_20,hx,h⟩:=bind_some h
  refine WS.sq ?_
  refine WS.join ([kB 58 v58_20,kP 0 q1,kS 1 a1,kI 5 v19_4,kS 17 x2,kI 18 (x2.n:Int),kI 19 v19_4,kS 25 x6_1,kI 26 (x6_1.n:Int),kI 27 v27_8,kS 32 x10_1,kI 33 (x10_1.n:Int),kI 34 v34_12,kS 41 x15,kI 42 (x15.n:Int),kI 43 v43_17]) ([some (46,[(Value.string x6_0),(Sl3.v x6_1)]),some (50,[(Value.string x10_0),(Sl3.v x10_1)]),some (52,[(Value.string x14_0),(Value.int .i64 x14_1),(Value.int .i64 x14_2),(Value.string x14_3),(Sl3.v x14_4)])]) H16 ?_ (fun a w hs=>WS.nxt ?_ a w hs)
  ·clear h; rename _=>h
   refine WS.rg (RS.mS 4 [kB 50 (decide (x19=v19_4)),kB 49 (decide (x19=v19_4)),kI 48 v19_4,kI 47 x19] ?_)
   rcases z8 h with ⟨hp,h⟩ | ⟨hp,h⟩
   ·refine RS.fx 50 true (decide_eq_true hp) (RS.mS 8 [kB 58 true,kU 57,kU 56,kU 55,kU 54,kU 53,kU 52,kU 51] (RS.dn ?_))
    cases h
    exact fun a w hs=>(jsN (hs.sb 3))
   ·refine RS.fx 50 false (decide_eq_false hp) (RS.mS 2 [kI 52 x19,kS 51 a1] ?_)
    obtain ⟨p21,hx,h⟩:=bind_some h
    refine RS.ix 53 76 56 (.tmp 51) (.tmp 52) hx ?_
    obtain ⟨x22,hx,h⟩:=bind_some h
    refine RS.ld 54 56 (.tmp 53) (z0 hx za) (RS.mS 1 [kI 55 v19_4] ?_)
    obtain ⟨p23,hx,h⟩:=bind_some h
    refine RS.ix 56 56 4 (.tmp 54) (.tmp 55) hx ?_
    obtain ⟨x24,hx,h⟩:=bind_some h
    refine RS.ld 57 4 (.tmp 56) (z0 hx z55) (RS.mS 1 [kB 58 x24] (RS.dn ?_))
    cases h
    exact fun a w hs=>(jsN (hs.sb 3))
  ·clear hx
   rcases z8 h with ⟨hp,h⟩ | ⟨hp,h⟩
   ·refine WS.fx 58 true hp (WS.cT (WS.sq (WS.rg (RS.mS 1 [kB 4 true] (RS.dn (WS.nxt (WS.rt ?_)))))))
    cases h
    exact fun a w hs=>bkR (sqR (lsR rfl (rS hs)))
   ·refine WS.fx 58 false (b_not hp) (WS.cF (WS.sk ?_))
    refine fun a w hs=>bkN ((WS.nxt ?_ a w hs))
    refine WS.rg (RS.mS 2 [kI 43 (IntKind.i64.wrap (v43_17+1)),kI 59 (IntKind.i64.wrap (v43_17+1))] (RS.dn ?_))
    cases h
    exact fun a w hs=>lsN rfl (hs.sb 3)
 ·refine WS.fx 44 false (decide_eq_false hp) (WS.cF (WS.ex 6 ?_))
  cases h
  exact fun a w hs=>sqE (lsB rfl (hs.sb 3))
theorem z6i {E H L m a1 q1 x2 v19_4 x6_0 x6_1 v27_8 x10_0 x10_1} :LoopF Tryd.prog (NE.plain 1000) m E Tryd.f45 ((cfst (csnd (csnd (cfst (cfst (csnd (csnd (cfst (cfst (csnd (csnd (cfst (cfst (csnd (csnd (cfst (cfst (csnd (cfst (csnd B45))))))))))))))))))))) (zar L m a1 q1 x2 v19_4 x6_0 x6_1 v27_8 x10_0 x10_1) (fun s=>s.1) 4 z33 (z3d H) (zx L m a1 q1 x2 v19_4 x6_0 x6_1 v27_8 x10_0 x10_1):=by
 rintro ⟨H11,v34_12⟩ o h
 unfold zx at h
 try dsimp only at h
 refine WS.sq (WS.rg (RS.mS 1 [kB 35 (decide (v34_12<(x10_1.n:Int)))] (RS.dn (WS.nxt (WS.sq ?_)))))
 rcases z8 h with ⟨hp,h⟩ | ⟨hp,h⟩
 ·refine WS.fx 35 true (decide_eq_true hp) (WS.cT (WS.sk (WS.nxt (WS.sq (WS.bk 5 (WS.sq (WS.rg ?_)))))))
  obtain ⟨p13,hx,h⟩:=bind_some h
  refine RS.ix 36 48 52 (.tmp 32) (.tmp 34) hx ?_
  obtain ⟨x14_0,hx0,h⟩:=bind_some h
  obtain ⟨x14_1,hx1,h⟩:=bind_some h
  obtain ⟨x14_2,hx2,h⟩:=bind_some h
  obtain ⟨x14_3,hx3,h⟩:=bind_some h
  obtain ⟨x14_4,hx4,h⟩:=bind_some h
  refine RS.la 37 52 (.tmp 36) 5 (z7 (z0 hx0 zd) (z7 (z0 hx1 z9) (z7 (z0 hx2 z9) (z7 (z0 hx3 zd) (z7 (z0 hx4 za) zf))))) (RS.mL 2 [kL 10 2 0] ([some (46,[(Value.string x6_0),(Sl3.v x6_1)]),some (50,[(Value.string x10_0),(Sl3.v x10_1)]),some (52,[(Value.string x14_0),(Value.int .i64 x14_1),(Value.int .i64 x14_2),(Value.string x14_3),(Sl3.v x14_4)])]) (RS.dn (WS.nxt (WS.sq (WS.rg (RS.mS 3 [kA 40 #[(Value.int .i64 x14_1),(Value.int .i64 x14_2),(Value.string x14_3),(Sl3.v x14_4)],kL 39 2 1,kP 38 q1] ?_))))))
  obtain ⟨⟨x15,H16⟩,hx,h⟩:=bind_some h
  try dsimp only at h
  refine RS.cl (some 41) (v:=(Sl3.v x15)) 74 #[(Value.pointer (some q1)),(Value.agg #[(Value.int .i64 x14_1),(Value.int .i64 x14_2),(Value.string x14_3),(Sl3.v x14_4)]),(Value.bool true)] (z86 hx) (RS.mS 2 [kI 43 0,kI 42 (x15.n:Int)] (RS.dn (WS.nxt (WS.bk 6 ?_))))
  obtain ⟨o,hl,h⟩:=bind_some h
  rcases o with v43_25 | r
  ·try dsimp only at h
   refine WS.lI (z6p (L:=L) (E:=E) (m:=m) (H:=H)) (L.ok hl) 3 ?_
   clear hl
   refine fun a w hs=>bkE (bkN ((WS.nxt ?_ a w hs)))
   refine WS.rg (RS.mS 2 [kI 34 (IntKind.i64.wrap (v34_12+1)),kI 60 (IntKind.i64.wrap (v34_12+1))] (RS.dn ?_))
   cases h
   exact fun a w hs=>lsN rfl (hs.sb 2)
  ·try dsimp only at h
   refine WS.lR (z6p (L:=L) (E:=E) (m:=m) (H:=H)) (L.ok hl) 3 ?_
   cases h
   exact fun a w hq=>bkR (bkR (sqR (lsR rfl hq)))
 ·refine WS.fx 35 false (decide_eq_false hp) (WS.cF (WS.ex 4 ?_))
  cases h
  exact fun a w hs=>sqE (lsB rfl (hs.sb 2))
theorem z6l {E H L m a1 q1 x2 v19_4 x6_0 x6_1} :LoopF Tryd.prog (NE.plain 1000) m E Tryd.f45 ((cfst (csnd (csnd (cfst (cfst (csnd (csnd (cfst (cfst (csnd (cfst (csnd B45))))))))))))) (zau L m a1 q1 x2 v19_4 x6_0 x6_1) (fun s=>s.1) 2 z33 (z3d H) (zw L m a1 q1 x2 v19_4 x6_0 x6_1):=by
 rintro ⟨H7,v27_8⟩ o h
 unfold zw at h
 try dsimp only at h
 refine WS.sq (WS.rg (RS.mS 1 [kB 28 (decide (v27_8<(x6_1.n:Int)))] (RS.dn (WS.nxt (WS.sq ?_)))))
 rcases z8 h with ⟨hp,h⟩ | ⟨hp,h⟩
 ·refine WS.fx 28 true (decide_eq_true hp) (WS.cT (WS.sk (WS.nxt (WS.sq (WS.bk 3 (WS.sq (WS.rg ?_)))))))
  obtain ⟨p9,hx,h⟩:=bind_some h
  refine RS.ix 29 44 50 (.tmp 25) (.tmp 27) hx ?_
  obtain ⟨x10_0,hx0,h⟩:=bind_some h
  obtain ⟨x10_1,hx1,h⟩:=bind_some h
  refine RS.la 30 50 (.tmp 29) 2 (z7 (z0 hx0 zd) (z7 (z0 hx1 za) zf)) (RS.mL 2 [kL 8 1 0] ([some (46,[(Value.string x6_0),(Sl3.v x6_1)]),some (50,[(Value.string x10_0),(Sl3.v x10_1)])]) (RS.dn (WS.nxt (WS.sq (WS.rg (RS.mS 4 [kI 34 0,kI 33 (x10_1.n:Int),kS 32 x10_1,kL 31 1 1] (RS.dn (WS.nxt (WS.bk 4 ?_)))))))))
  obtain ⟨o,hl,h⟩:=bind_some h
  rcases o with ⟨H26,v34_27⟩ | r
  ·try dsimp only at h
   refine WS.lI (z6i (L:=L) (E:=E) (m:=m) (H:=H)) (L.ok hl) 2 ?_
   clear hl
   refine fun a w hs=>bkE (bkN ((WS.nxt ?_ a w hs)))
   refine WS.rg (RS.mS 2 [kI 27 (IntKind.i64.wrap (v27_8+1)),kI 61 (IntKind.i64.wrap (v27_8+1))] (RS.dn ?_))
   cases h
   exact fun a w hs=>lsN rfl (hs.sb 1)
  ·try dsimp only at h
   refine WS.lR (z6i (L:=L) (E:=E) (m:=m) (H:=H)) (L.ok hl) 2 ?_
   cases h
   exact fun a w hq=>bkR (bkR (sqR (lsR rfl hq)))
 ·refine WS.fx 28 false (decide_eq_false hp) (WS.cF (WS.ex 2 ?_))
  cases h
  exact fun a w hs=>sqE (lsB rfl (hs.sb 1))
theorem z6j {E H L m a1 q1 x2} :LoopF Tryd.prog (NE.plain 1000) m E Tryd.f45 ((cfst (csnd (cfst (csnd B45))))) (zav L m a1 q1 x2) (fun s=>s.1) 0 z33 (z3d H) (z1m L m a1 q1 x2):=by
 rintro ⟨H3,v19_4⟩ o h
 unfold z1m at h
 try dsimp only at h
 refine WS.sq (WS.rg (RS.mS 1 [kB 20 (decide (v19_4<(x2.n:Int)))] (RS.dn (WS.nxt (WS.sq ?_)))))
 rcases z8 h with ⟨hp,h⟩ | ⟨hp,h⟩
 ·refine WS.fx 20 true (decide_eq_true hp) (WS.cT (WS.sk (WS.nxt (WS.sq (WS.bk 1 (WS.sq (WS.rg (RS.mS 1 [kI 21 v19_4] ?_))))))))
  obtain ⟨p5,hx,h⟩:=bind_some h
  refine RS.ix 22 30 46 (.tmp 17) (.tmp 19) hx ?_
  obtain ⟨x6_0,hx0,h⟩:=bind_some h
  obtain ⟨x6_1,hx1,h⟩:=bind_some h
  refine RS.la 23 46 (.tmp 22) 2 (z7 (z0 hx0 zd) (z7 (z0 hx1 za) zf)) (RS.mL 3 [kI 5 v19_4,kL 6 0 0] ([some (46,[(Value.string x6_0),(Sl3.v x6_1)])]) (RS.dn (WS.nxt (WS.sq (WS.rg (RS.mS 4 [kI 27 0,kI 26 (x6_1.n:Int),kS 25 x6_1,kL 24 0 1] (RS.dn (WS.nxt (WS.bk 2 ?_)))))))))
  obtain ⟨o,hl,h⟩:=bind_some h
  rcases o with ⟨H28,v27_29⟩ | r
  ·try dsimp only at h
   refine WS.lI (z6l (L:=L) (E:=E) (m:=m) (H:=H)) (L.ok hl) 1 ?_
   clear hl
   refine fun a w hs=>bkE (bkN ((WS.nxt ?_ a w hs)))
   refine WS.rg (RS.mS 2 [kI 19 (IntKind.i64.wrap (v19_4+1)),kI 62 (IntKind.i64.wrap (v19_4+1))] (RS.dn ?_))
   cases h
   exact fun a w hs=>lsN rfl (hs.sb 0)
  ·try dsimp only at h
   refine WS.lR (z6l (L:=L) (E:=E) (m:=m) (H:=H)) (L.ok hl) 1 ?_
   cases h
   exact fun a w hq=>bkR (bkR (sqR (lsR rfl hq)))
 ·refine WS.fx 20 false (decide_eq_false hp) (WS.cF (WS.ex 0 ?_))
  cases h
  exact fun a w hs=>sqE (lsB rfl (hs.sb 0))
theorem zd3 {L:LC} {m:Nat} {H:AH} {a0:Option Addr} {a1:Sl3} {r:(Bool×AH)} (h:z4g L m H a0 a1=some r) :
  CallS Tryd.prog (NE.plain 1000) m 45 #[(Value.pointer a0),(Sl3.v a1)] H (z33 r) (z3d H r):=by
 refine CallS.mk (args:=[(Value.pointer a0),(Sl3.v a1)]) Tryd.func45 (B:=B45) (by kernel_rfl) (fun E _=>?_)
 unfold z4g at h
 refine WS.sq (WS.rg (RS.mS 1 [kB 4 false] (RS.dn (WS.nxt (WS.sq (WS.sq (WS.rg (RS.mS 1 [(13,.val (Value.pointer a0))] ?_))))))))
 obtain ⟨q1,hx,hq1⟩:=bind_some h
 subst hx
 have h:=hq1
 refine RS.mS 3 [(16,.val (Value.pointer (some (Addr.add (Addr.add q1 0) 1)))),(15,.val (Value.pointer (some (Addr.add q1 0)))),kP 14 q1] ?_
 obtain ⟨x2,hx,h⟩:=bind_some h
 refine RS.ld 17 30 (.tmp 16) (z0 hx za) (RS.mS 2 [kI 19 0,kI 18 (x2.n:Int)] (RS.dn (WS.nxt (WS.bk 0 ?_))))
 obtain ⟨o,hl,h⟩:=bind_some h
 rcases o with ⟨H30,v19_31⟩ | r
 ·try dsimp only at h
  refine WS.lI (z6j (L:=L) (E:=E) (m:=m) (H:=H)) (L.ok hl) 0 ?_
  clear hl
  refine fun a w hs=>bkE ((WS.nxt ?_ a w hs))
  refine WS.sq (WS.rg (RS.mS 1 [kB 4 false] (RS.dn (WS.nxt (WS.rt ?_)))))
  cases h
  exact fun a w hs=>rtR (rS hs)
 ·try dsimp only at h
  refine WS.lR (z6j (L:=L) (E:=E) (m:=m) (H:=H)) (L.ok hl) 0 ?_
  cases h
  exact fun a w hq=>bkR (sqR (rtR hq))
end Go.Proofs.YtccbilfbhecdaaaDoor
namespace Go.Proofs.YtccbilfbhecdaaaDoor
open Go Go.Abs
set_option maxRecDepth 100000
def z4z:(Sl3×AH)→Value
 | (r0,_)=>(Sl3.v r0)
def z53 (_:AH):(Sl3×AH)→AH:=fun r=>r.2
noncomputable def B75:Code:=(Tryd.f75.body).getD .skip
noncomputable def z1a (L:LC) (m:Nat) (q1:Addr) (_x4:Sl3) (_v20_7:Int) (_x9_0:ByteArray) (x9_1:Sl3):(AH×Sl3×Int)→Option (Lp (AH×Sl3×Int) (Sl3×AH)):=fun (H10,v5_11,v27_12) =>
 if v27_12<(x9_1.n:Int) then
  Option.bind (idxA 5 x9_1 v27_12) fun p13 =>
  Option.bind (rd deS H10 (Addr.add p13 0)) fun _ =>
  Option.bind (rd (deI .i64) H10 (Addr.add p13 1)) fun x14_1 =>
  Option.bind (rd (deI .i64) H10 (Addr.add p13 2)) fun x14_2 =>
  Option.bind (rd deS H10 (Addr.add p13 3)) fun x14_3 =>
  Option.bind (rd deSl H10 (Addr.add p13 4)) fun x14_4 =>
  Option.bind (z4r L m H10 (some q1) x14_1 x14_2 x14_3 x14_4 false) fun (x15,H16) =>
  Option.bind (appS m 3 1 8 H16 v5_11 x15) fun (s17,H18) =>
  some (.next (H18,s17,(IntKind.i64.wrap (v27_12+1))))
 else
  some (.brk (H10,v5_11,v27_12))
def z9x (_L:LC) (_m:Nat) (q1:Addr) (x4:Sl3) (v20_7:Int) (x9_0:ByteArray) (x9_1:Sl3):(AH×Sl3×Int)→KN×Lcs:=fun (_,v5_11,v27_12)=>([kS 5 v5_11,kI 27 v27_12,kP 0 q1,kS 18 x4,kI 19 (x4.n:Int),kI 20 v20_7,kS 25 x9_1,kI 26 (x9_1.n:Int)],[some (50,[(Value.string x9_0),(Sl3.v x9_1)])])
noncomputable def z1f (L:LC) (m:Nat) (q1:Addr) (x4:Sl3):(AH×Sl3×Int)→Option (Lp (AH×Sl3×Int) (Sl3×AH)):=fun (H5,v5_6,v20_7) =>
 if v20_7<(x4.n:Int) then
  Option.bind (idxA 2 x4 v20_7) fun p8 =>
  Option.bind (rd deS H5 (Addr.add p8 0)) fun x9_0 =>
  Option.bind (rd deSl H5 (Addr.add p8 1)) fun x9_1 =>
  Option.bind (L.run (z1a L m q1 x4 v20_7 x9_0 x9_1) (H5,v5_6,0)) fun o=>match o with
  | .inl (H19,v5_20,_) =>
   some (.next (H19,v5_20,(IntKind.i64.wrap (v20_7+1))))
  | .inr r=>some (.ret r)
 else
  some (.brk (H5,v5_6,v20_7))
def z95 (_L:LC) (_m:Nat) (q1:Addr) (x4:Sl3):(AH×Sl3×Int)→KN×Lcs:=fun (_,v5_6,v20_7)=>([kS 5 v5_6,kI 20 v20_7,kP 0 q1,kS 18 x4,kI 19 (x4.n:Int)],[])
noncomputable def z2q (L:LC) (m:Nat) (H:AH) (a0:Option Addr) (a1:Int):Option (Sl3×AH) :=
 Option.bind a0 fun q1 =>
 Option.bind (rd deSl H (Addr.add (Addr.add q1 0) 1)) fun x2 =>
 Option.bind (idxA 2 x2 a1) fun p3 =>
 Option.bind (rd deSl H (Addr.add p3 1)) fun x4 =>
 Option.bind (L.run (z1f L m q1 x4) (H,Sl3.nil,0)) fun o=>match o with
 | .inl (H22,v5_23,_) =>
  some (v5_23,H22)
 | .inr r=>some r
theorem z5o {E H L m q1 x4 v20_7 x9_0 x9_1} :LoopF Tryd.prog (NE.plain 1000) m E Tryd.f75 ((cfst (csnd (csnd (cfst (cfst (csnd (csnd (cfst (cfst (csnd (cfst (csnd (csnd B75)))))))))))))) (z9x L m q1 x4 v20_7 x9_0 x9_1) (fun s=>s.1) 2 z4z (z53 H) (z1a L m q1 x4 v20_7 x9_0 x9_1):=by
 rintro ⟨H10,v5_11,v27_12⟩ o h
 unfold z1a at h
 try dsimp only at h
 refine WS.sq (WS.rg (RS.mS 1 [kB 28 (decide (v27_12<(x9_1.n:Int)))] (RS.dn (WS.nxt (WS.sq ?_)))))
 rcases z8 h with ⟨hp,h⟩ | ⟨hp,h⟩
 ·refine WS.fx 28 true (decide_eq_true hp) (WS.cT (WS.sk (WS.nxt (WS.sq (WS.bk 3 (WS.sq (WS.rg ?_)))))))
  obtain ⟨p13,hx,h⟩:=bind_some h
  refine RS.ix 29 48 52 (.tmp 25) (.tmp 27) hx ?_
  obtain ⟨x14_0,hx0,h⟩:=bind_some h
  obtain ⟨x14_1,hx1,h⟩:=bind_some h
  obtain ⟨x14_2,hx2,h⟩:=bind_some h
  obtain ⟨x14_3,hx3,h⟩:=bind_some h
  obtain ⟨x14_4,hx4,h⟩:=bind_some h
  refine RS.la 30 52 (.tmp 29) 5 (z7 (z0 hx0 zd) (z7 (z0 hx1 z9) (z7 (z0 hx2 z9) (z7 (z0 hx3 zd) (z7 (z0 hx4 za) zf))))) (RS.mL 2 [kL 9 1 0] ([some (50,[(Value.string x9_0),(Sl3.v x9_1)]),some (52,[(Value.string x14_0),(Value.int .i64 x14_1),(Value.int .i64 x14_2),(Value.string x14_3),(Sl3.v x14_4)])]) (RS.dn (WS.nxt (WS.rg (RS.mS 4 [kA 34 #[(Value.int .i64 x14_1),(Value.int .i64 x14_2),(Value.string x14_3),(Sl3.v x14_4)],kL 33 1 1,kP 32 q1,kS 31 v5_11] ?_)))))
  obtain ⟨⟨x15,H16⟩,hx,h⟩:=bind_some h
  try dsimp only at h
  refine RS.cl (some 35) (v:=(Sl3.v x15)) 74 #[(Value.pointer (some q1)),(Value.agg #[(Value.int .i64 x14_1),(Value.int .i64 x14_2),(Value.string x14_3),(Sl3.v x14_4)]),(Value.bool false)] (z86 hx) ?_
  obtain ⟨⟨s17,H18⟩,hx,h⟩:=bind_some h
  try dsimp only at h
  refine RS.o (H':=H18) (some 36) (Sl3.v s17) (Abs.run_app (x:=.tmp 31) (y:=.tmp 35) (ts:=#[104,104]) (s:=v5_11) (z:=x15) (by kernel_rfl) (by kernel_rfl) (by kernel_rfl) (by kernel_rfl) hx) (RS.mS 1 [kS 5 s17] (RS.dn ?_))
  refine fun a w hs=>bkN ((WS.nxt ?_ a w hs))
  refine WS.rg (RS.mS 2 [kI 27 (IntKind.i64.wrap (v27_12+1)),kI 37 (IntKind.i64.wrap (v27_12+1))] (RS.dn ?_))
  cases h
  exact fun a w hs=>lsN rfl (hs.sb 1)
 ·refine WS.fx 28 false (decide_eq_false hp) (WS.cF (WS.ex 2 ?_))
  cases h
  exact fun a w hs=>sqE (lsB rfl (hs.sb 1))
theorem z5n {E H L m q1 x4} :LoopF Tryd.prog (NE.plain 1000) m E Tryd.f75 ((cfst (csnd (cfst (csnd (csnd B75)))))) (z95 L m q1 x4) (fun s=>s.1) 0 z4z (z53 H) (z1f L m q1 x4):=by
 rintro ⟨H5,v5_6,v20_7⟩ o h
 unfold z1f at h
 try dsimp only at h
 refine WS.sq (WS.rg (RS.mS 1 [kB 21 (decide (v20_7<(x4.n:Int)))] (RS.dn (WS.nxt (WS.sq ?_)))))
 rcases z8 h with ⟨hp,h⟩ | ⟨hp,h⟩
 ·refine WS.fx 21 true (decide_eq_true hp) (WS.cT (WS.sk (WS.nxt (WS.sq (WS.bk 1 (WS.sq (WS.rg ?_)))))))
  obtain ⟨p8,hx,h⟩:=bind_some h
  refine RS.ix 22 44 50 (.tmp 18) (.tmp 20) hx ?_
  obtain ⟨x9_0,hx0,h⟩:=bind_some h
  obtain ⟨x9_1,hx1,h⟩:=bind_some h
  refine RS.la 23 50 (.tmp 22) 2 (z7 (z0 hx0 zd) (z7 (z0 hx1 za) zf)) (RS.mL 2 [kL 7 0 0] ([some (50,[(Value.string x9_0),(Sl3.v x9_1)])]) (RS.dn (WS.nxt (WS.sq (WS.rg (RS.mS 4 [kI 27 0,kI 26 (x9_1.n:Int),kS 25 x9_1,kL 24 0 1] (RS.dn (WS.nxt (WS.bk 2 ?_)))))))))
  obtain ⟨o,hl,h⟩:=bind_some h
  rcases o with ⟨H19,v5_20,v27_21⟩ | r
  ·try dsimp only at h
   refine WS.lI (z5o (L:=L) (E:=E) (m:=m) (H:=H)) (L.ok hl) 1 ?_
   clear hl
   refine fun a w hs=>bkE (bkN ((WS.nxt ?_ a w hs)))
   refine WS.rg (RS.mS 2 [kI 20 (IntKind.i64.wrap (v20_7+1)),kI 38 (IntKind.i64.wrap (v20_7+1))] (RS.dn ?_))
   cases h
   exact fun a w hs=>lsN rfl (hs.sb 0)
  ·try dsimp only at h
   refine WS.lR (z5o (L:=L) (E:=E) (m:=m) (H:=H)) (L.ok hl) 1 ?_
   cases h
   exact fun a w hq=>bkR (bkR (sqR (lsR rfl hq)))
 ·refine WS.fx 21 false (decide_eq_false hp) (WS.cF (WS.ex 0 ?_))
  cases h
  exact fun a w hs=>sqE (lsB rfl (hs.sb 0))
theorem z72 {L:LC} {m:Nat} {H:AH} {a0:Option Addr} {a1:Int} {r:(Sl3×AH)} (h:z2q L m H a0 a1=some r) :
  CallS Tryd.prog (NE.plain 1000) m 75 #[(Value.pointer a0),(Value.int .i64 a1)] H (z4z r) (z53 H r):=by
 refine CallS.mk (args:=[(Value.pointer a0),(Value.int .i64 a1)]) Tryd.func75 (B:=B75) (by kernel_rfl) (fun E _=>?_)
 unfold z2q at h
 refine WS.sq (WS.rg (RS.mS 1 [kS 4 Sl3.nil] (RS.dn (WS.nxt (WS.sq (WS.rg (RS.mS 1 [kS 5 Sl3.nil] (RS.dn (WS.nxt ?_)))))))))
 refine WS.sq (WS.sq (WS.rg (RS.mS 1 [(10,.val (Value.pointer a0))] ?_)))
 obtain ⟨q1,hx,hq1⟩:=bind_some h
 subst hx
 have h:=hq1
 refine RS.mS 3 [(13,.val (Value.pointer (some (Addr.add (Addr.add q1 0) 1)))),(12,.val (Value.pointer (some (Addr.add q1 0)))),kP 11 q1] ?_
 obtain ⟨x2,hx,h⟩:=bind_some h
 refine RS.ld 14 30 (.tmp 13) (z0 hx za) (RS.mS 1 [kI 15 a1] ?_)
 obtain ⟨p3,hx,h⟩:=bind_some h
 refine RS.ix 16 30 46 (.tmp 14) (.tmp 15) hx (RS.mS 1 [(17,.val (Value.pointer (some (Addr.add p3 1))))] ?_)
 obtain ⟨x4,hx,h⟩:=bind_some h
 refine RS.ld 18 44 (.tmp 17) (z0 hx za) (RS.mS 2 [kI 20 0,kI 19 (x4.n:Int)] (RS.dn (WS.nxt (WS.bk 0 ?_))))
 obtain ⟨o,hl,h⟩:=bind_some h
 rcases o with ⟨H22,v5_23,v20_24⟩ | r
 ·try dsimp only at h
  refine WS.lI (z5n (L:=L) (E:=E) (m:=m) (H:=H)) (L.ok hl) 0 ?_
  clear hl
  refine fun a w hs=>bkE ((WS.nxt ?_ a w hs))
  refine WS.sq (WS.rg (RS.mS 2 [kS 4 v5_23,kS 39 v5_23] (RS.dn (WS.nxt (WS.rt ?_)))))
  cases h
  exact fun a w hs=>rtR (rS hs)
 ·try dsimp only at h
  refine WS.lR (z5n (L:=L) (E:=E) (m:=m) (H:=H)) (L.ok hl) 0 ?_
  cases h
  exact fun a w hq=>bkR (sqR (rtR hq))
def z5i:(Sl3×AH)→Value
 | (r0,_)=>(Sl3.v r0)
def z5x (_:AH):(Sl3×AH)→AH:=fun r=>r.2
noncomputable def B46:Code:=(Tryd.f46.body).getD .skip
noncomputable def z16 (L:LC) (m:Nat) (q1:Addr) (_x2 s3:Sl3) (v17_6:Int):(AH×Sl3)→Option (Lp (AH×Sl3) (Sl3×AH)):=fun (H13,v6_14) =>
 if (v6_14.n:Int) > 0 then
  Option.bind (idxA 1 v6_14 0) fun p15 =>
  Option.bind (rd (deI .i64) H13 p15) fun x16 =>
  Option.bind (slc 1 H13 v6_14 (some 1) none none) fun s17 =>
  Option.bind (idxA 1 s3 v17_6) fun p18 =>
  Option.bind (rd deSl H13 p18) fun x19 =>
  Option.bind (idxA 1 x19 x16) fun p20 =>
  Option.bind (rd deB H13 p20) fun x21 =>
  if x21=true then
   some (.next (H13,s17))
  else
   Option.bind (idxA 1 s3 v17_6) fun p22 =>
   Option.bind (rd deSl H13 p22) fun x23 =>
   Option.bind (idxA 1 x23 x16) fun p24 =>
   Option.bind (H13.setCell m p24 (Value.bool true)) fun H25 =>
   Option.bind (z2q L m H25 (some q1) x16) fun (x26,H27) =>
   Option.bind (appS m 3 1 8 H27 s17 x26) fun (s28,H29) =>
   some (.next (H29,s28))
 else
  some (.brk (H13,v6_14))
def zb1 (_L:LC) (_m:Nat) (q1:Addr) (x2 s3:Sl3) (v17_6:Int):(AH×Sl3)→KN×Lcs:=fun (_,v6_14)=>([kS 6 v6_14,kP 0 q1,kI 3 (x2.n:Int),kS 4 s3,kI 5 v17_6,kI 16 (x2.n:Int),kI 17 v17_6],[])
noncomputable def z1p (L:LC) (m:Nat) (q1:Addr) (x2 s3:Sl3):(AH×Int)→Option (Lp (AH×Int) (Sl3×AH)):=fun (H5,v17_6) =>
 if v17_6<(x2.n:Int) then
  Option.bind (mkS 4 1 1 #[(Value.bool false)] H5 (x2.n:Int) (x2.n:Int)) fun (s7,H8) =>
  Option.bind (idxA 1 s3 v17_6) fun p9 =>
  Option.bind (H8.setCell m p9 (Sl3.v s7)) fun H10 =>
  Option.bind (z2q L m H10 (some q1) v17_6) fun (x11,H12) =>
  Option.bind (L.run (z16 L m q1 x2 s3 v17_6) (H12,x11)) fun o=>match o with
  | .inl (H30,_) =>
   some (.next (H30,(IntKind.i64.wrap (v17_6+1))))
  | .inr r=>some (.ret r)
 else
  some (.brk (H5,v17_6))
def zbf (_L:LC) (_m:Nat) (q1:Addr) (x2 s3:Sl3):(AH×Int)→KN×Lcs:=fun (_,v17_6)=>([kI 17 v17_6,kP 0 q1,kI 3 (x2.n:Int),kS 4 s3,kI 16 (x2.n:Int)],[])
noncomputable def z3x (L:LC) (m:Nat) (H:AH) (a0:Option Addr):Option (Sl3×AH) :=
 Option.bind a0 fun q1 =>
 Option.bind (rd deSl H (Addr.add (Addr.add q1 0) 1)) fun x2 =>
 Option.bind (mkS 56 1 24 #[(Sl3.v Sl3.nil)] H (x2.n:Int) (x2.n:Int)) fun (s3,H4) =>
 Option.bind (L.run (z1p L m q1 x2 s3) (H4,0)) fun o=>match o with
 | .inl (H32,_) =>
  some (s3,H32)
 | .inr r=>some r
theorem z74 {E H L m q1 x2 s3 v17_6} :LoopF Tryd.prog (NE.plain 1000) m E Tryd.f46 ((cfst (csnd (csnd (csnd (cfst (cfst (csnd (csnd (cfst (cfst (csnd (cfst (csnd (csnd (csnd B46)))))))))))))))) (zb1 L m q1 x2 s3 v17_6) (fun s=>s.1) 2 z5i (z5x H) (z16 L m q1 x2 s3 v17_6):=by
 rintro ⟨H13,v6_14⟩ o h
 unfold z16 at h
 try dsimp only at h
 refine WS.sq (WS.sq (WS.rg (RS.mS 3 [kB 30 (decide ((v6_14.n:Int) > 0)),kI 29 (v6_14.n:Int),kS 28 v6_14] (RS.dn (WS.nxt ?_)))))
 rcases z8 h with ⟨hp,h⟩ | ⟨hp,h⟩
 ·refine WS.fx 30 true (decide_eq_true hp) (WS.cT (WS.sk (WS.nxt (WS.bk 3 (WS.sq (WS.rg (RS.mS 1 [kS 31 v6_14] ?_)))))))
  obtain ⟨p15,hx,h⟩:=bind_some h
  refine RS.ix 32 104 3 (.tmp 31) (.const (Value.int .i64 0)) hx ?_
  obtain ⟨x16,hx,h⟩:=bind_some h
  refine RS.ld 33 3 (.tmp 32) (z0 hx z9) (RS.mS 1 [kI 7 x16] (RS.dn (WS.nxt (WS.sq (WS.rg (RS.mS 1 [kS 34 v6_14] ?_))))))
  obtain ⟨s17,hx,h⟩:=bind_some h
  refine RS.o (H':=H13) (some 35) (Sl3.v s17) (Abs.run_slice (t:=104) (e:=3) (x:=.tmp 34) (lo:=(some (.const (Value.int .i64 1)))) (hi:=none) (mx:=none) (s:=v6_14) (k1:=.i64) (k2:=.i64) (k3:=.i64) (by kernel_rfl) (by kernel_rfl) (by kernel_rfl) (by kernel_rfl) (by kernel_rfl) (by kernel_rfl) (by kernel_rfl) hx) (RS.mS 1 [kS 6 s17] (RS.dn (WS.nxt (WS.sq (WS.rg (RS.mS 2 [kI 37 v17_6,kS 36 s3] ?_))))))
  obtain ⟨p18,hx,h⟩:=bind_some h
  refine RS.ix 38 76 56 (.tmp 36) (.tmp 37) hx ?_
  obtain ⟨x19,hx,h⟩:=bind_some h
  refine RS.ld 39 56 (.tmp 38) (z0 hx za) (RS.mS 1 [kI 40 x16] ?_)
  obtain ⟨p20,hx,h⟩:=bind_some h
  refine RS.ix 41 56 4 (.tmp 39) (.tmp 40) hx ?_
  obtain ⟨x21,hx,h⟩:=bind_some h
  refine RS.ld 42 4 (.tmp 41) (z0 hx z55) (RS.mS 1 [kB 43 (!x21)] (RS.dn (WS.nxt ?_)))
  rcases z8 h with ⟨hp,h⟩ | ⟨hp,h⟩
  ·refine WS.fx 43 false (nb_not hp) (WS.cF (WS.sk ?_))
   cases h
   exact fun a w hs=>bkN (lsN rfl (hs.sb 0))
  ·refine WS.fx 43 true (z2i hp) (WS.cT (WS.sq (WS.rg (RS.mS 2 [kI 45 v17_6,kS 44 s3] ?_))))
   obtain ⟨p22,hx,h⟩:=bind_some h
   refine RS.ix 46 76 56 (.tmp 44) (.tmp 45) hx ?_
   obtain ⟨x23,hx,h⟩:=bind_some h
   refine RS.ld 47 56 (.tmp 46) (z0 hx za) (RS.mS 1 [kI 48 x16] ?_)
   obtain ⟨p24,hx,h⟩:=bind_some h
   refine RS.ix 49 56 4 (.tmp 47) (.tmp 48) hx ?_
   obtain ⟨H25,hx,h⟩:=bind_some h
   refine RS.o (H':=H25) none undef (Abs.run_store1 (t:=4) (x:=.tmp 49) (y:=.const (Value.bool true)) (a:=p24) (v:=(Value.bool true)) (by kernel_rfl) (by kernel_rfl) (by kernel_rfl) (by kernel_rfl) (by kernel_rfl) hx) (RS.dn (WS.nxt (WS.rg (RS.mS 3 [kI 52 x16,kP 51 q1,kS 50 s17] ?_))))
   obtain ⟨⟨x26,H27⟩,hx,h⟩:=bind_some h
   try dsimp only at h
   refine RS.cl (some 53) (v:=(Sl3.v x26)) 75 #[(Value.pointer (some q1)),(Value.int .i64 x16)] (z72 hx) ?_
   obtain ⟨⟨s28,H29⟩,hx,h⟩:=bind_some h
   try dsimp only at h
   refine RS.o (H':=H29) (some 54) (Sl3.v s28) (Abs.run_app (x:=.tmp 50) (y:=.tmp 53) (ts:=#[104,104]) (s:=s17) (z:=x26) (by kernel_rfl) (by kernel_rfl) (by kernel_rfl) (by kernel_rfl) hx) (RS.mS 1 [kS 6 s28] (RS.dn ?_))
   cases h
   exact fun a w hs=>bkN (lsN rfl (hs.sb 0))
 ·refine WS.fx 30 false (decide_eq_false hp) (WS.cF (WS.ex 2 ?_))
  cases h
  exact fun a w hs=>sqE (lsB rfl (hs.sb 0))
theorem z75 {E H L m q1 x2 s3} :LoopF Tryd.prog (NE.plain 1000) m E Tryd.f46 ((cfst (csnd (cfst (csnd (csnd (csnd B46))))))) (zbf L m q1 x2 s3) (fun s=>s.1) 0 z5i (z5x H) (z1p L m q1 x2 s3):=by
 rintro ⟨H5,v17_6⟩ o h
 unfold z1p at h
 try dsimp only at h
 refine WS.sq (WS.rg (RS.mS 1 [kB 18 (decide (v17_6<(x2.n:Int)))] (RS.dn (WS.nxt (WS.sq ?_)))))
 rcases z8 h with ⟨hp,h⟩ | ⟨hp,h⟩
 ·refine WS.fx 18 true (decide_eq_true hp) (WS.cT (WS.sk (WS.nxt (WS.sq (WS.bk 1 (WS.sq (WS.rg (RS.mS 2 [kI 5 v17_6,kI 19 v17_6] (RS.dn ?_)))))))))
  refine WS.nxt (WS.sq (WS.rg (RS.mS 3 [kI 22 (x2.n:Int),kI 21 v17_6,kS 20 s3] ?_)))
  obtain ⟨⟨s7,H8⟩,hx,h⟩:=bind_some h
  try dsimp only at h
  refine RS.o (H':=H8) (some 23) (Sl3.v s7) (Abs.run_mk (t:=56) (x:=.tmp 22) (y:=.tmp 22) (k1:=.i64) (k2:=.i64) (by kernel_rfl) (by kernel_rfl) (by kernel_rfl) (by kernel_rfl) hx) ?_
  obtain ⟨p9,hx,h⟩:=bind_some h
  refine RS.ix 24 76 56 (.tmp 20) (.tmp 21) hx ?_
  obtain ⟨H10,hx,h⟩:=bind_some h
  refine RS.o (H':=H10) none undef (Abs.run_store1 (t:=56) (x:=.tmp 24) (y:=.tmp 23) (a:=p9) (v:=(Sl3.v s7)) (by kernel_rfl) (by kernel_rfl) (by kernel_rfl) (by kernel_rfl) (by kernel_rfl) hx) (RS.dn (WS.nxt (WS.sq (WS.rg (RS.mS 2 [kI 26 v17_6,kP 25 q1] ?_)))))
  obtain ⟨⟨x11,H12⟩,hx,h⟩:=bind_some h
  try dsimp only at h
  refine RS.cl (some 27) (v:=(Sl3.v x11)) 75 #[(Value.pointer (some q1)),(Value.int .i64 v17_6)] (z72 hx) (RS.mS 1 [kS 6 x11] (RS.dn (WS.nxt (WS.bk 2 ?_))))
  obtain ⟨o,hl,h⟩:=bind_some h
  rcases o with ⟨H30,v6_31⟩ | r
  ·try dsimp only at h
   refine WS.lI (z74 (L:=L) (E:=E) (m:=m) (H:=H)) (L.ok hl) 0 ?_
   clear hl
   refine fun a w hs=>bkE (bkN ((WS.nxt ?_ a w hs)))
   refine WS.rg (RS.mS 2 [kI 17 (IntKind.i64.wrap (v17_6+1)),kI 55 (IntKind.i64.wrap (v17_6+1))] (RS.dn ?_))
   cases h
   exact fun a w hs=>lsN rfl (hs.sb 0)
  ·try dsimp only at h
   refine WS.lR (z74 (L:=L) (E:=E) (m:=m) (H:=H)) (L.ok hl) 0 ?_
   cases h
   exact fun a w hq=>bkR (bkR (sqR (lsR rfl hq)))
 ·refine WS.fx 18 false (decide_eq_false hp) (WS.cF (WS.ex 0 ?_))
  cases h
  exact fun a w hs=>sqE (lsB rfl (hs.sb 0))
theorem z85 {L:LC} {m:Nat} {H:AH} {a0:Option Addr} {r:(Sl3×AH)} (h:z3x L m H a0=some r) :
  CallS Tryd.prog (NE.plain 1000) m 46 #[(Value.pointer a0)] H (z5i r) (z5x H r):=by
 refine CallS.mk (args:=[(Value.pointer a0)]) Tryd.func46 (B:=B46) (by kernel_rfl) (fun E _=>?_)
 unfold z3x at h
 refine WS.sq (WS.rg (RS.mS 1 [kS 2 Sl3.nil] (RS.dn (WS.nxt (WS.sq (WS.rg (RS.mS 1 [(8,.val (Value.pointer a0))] ?_)))))))
 obtain ⟨q1,hx,hq1⟩:=bind_some h
 subst hx
 have h:=hq1
 refine RS.mS 3 [(11,.val (Value.pointer (some (Addr.add (Addr.add q1 0) 1)))),(10,.val (Value.pointer (some (Addr.add q1 0)))),kP 9 q1] ?_
 obtain ⟨x2,hx,h⟩:=bind_some h
 refine RS.ld 12 30 (.tmp 11) (z0 hx za) (RS.mS 2 [kI 3 (x2.n:Int),kI 13 (x2.n:Int)] (RS.dn (WS.nxt (WS.sq (WS.rg (RS.mS 1 [kI 14 (x2.n:Int)] ?_))))))
 obtain ⟨⟨s3,H4⟩,hx,h⟩:=bind_some h
 try dsimp only at h
 refine RS.o (H':=H4) (some 15) (Sl3.v s3) (Abs.run_mk (t:=76) (x:=.tmp 14) (y:=.tmp 14) (k1:=.i64) (k2:=.i64) (by kernel_rfl) (by kernel_rfl) (by kernel_rfl) (by kernel_rfl) hx) (RS.mS 1 [kS 4 s3] (RS.dn (WS.nxt (WS.sq (WS.sq (WS.rg (RS.mS 2 [kI 17 0,kI 16 (x2.n:Int)] (RS.dn (WS.nxt ?_)))))))))
 refine WS.bk 0 ?_
 obtain ⟨o,hl,h⟩:=bind_some h
 rcases o with ⟨H32,v17_33⟩ | r
 ·try dsimp only at h
  refine WS.lI (z75 (L:=L) (E:=E) (m:=m) (H:=H)) (L.ok hl) 0 ?_
  clear hl
  refine fun a w hs=>bkE ((WS.nxt ?_ a w hs))
  refine WS.sq (WS.rg (RS.mS 2 [kS 2 s3,kS 56 s3] (RS.dn (WS.nxt (WS.rt ?_)))))
  cases h
  exact fun a w hs=>rtR (rS hs)
 ·try dsimp only at h
  refine WS.lR (z75 (L:=L) (E:=E) (m:=m) (H:=H)) (L.ok hl) 0 ?_
  cases h
  exact fun a w hq=>bkR (sqR (rtR hq))
def z9h:Int→Value
 | r0=>(Value.int .i64 r0)
def zae (H:AH):Int→AH:=fun _=>H
noncomputable def B76:Code:=(Tryd.f76.body).getD .skip
noncomputable def z34 (_L:LC) (H:AH) (a0:Sl3) (a1:Bool):Int→Option (Lp Int Int):=fun v8_1 =>
 if v8_1<(a0.n:Int) then
  Option.bind (idxA 1 a0 v8_1) fun p2 =>
  Option.bind (rd deB H p2) fun x3 =>
  if (a1 == x3)=true then
   some (.ret v8_1)
  else
   some (.next (IntKind.i64.wrap (v8_1+1)))
 else
  some (.brk v8_1)
def zdx (_L:LC) (_H:AH) (a0:Sl3) (a1:Bool):Int→KN×Lcs:=fun v8_1=>([kI 8 v8_1,kS 0 a0,kB 1 a1,kI 7 (a0.n:Int)],[])
noncomputable def z77 (L:LC) (H:AH) (a0:Sl3) (a1:Bool):Option Int :=
 Option.bind (L.run (z34 L H a0 a1) 0) fun o=>match o with
 | .inl _ =>
  some (-1)
 | .inr r=>some r
theorem z8f {E m L H a0 a1} :LoopF Tryd.prog (NE.plain 1000) m E Tryd.f76 ((cfst (csnd (cfst (csnd B76))))) (zdx L H a0 a1) (fun _=>H) 0 z9h (zae H) (z34 L H a0 a1):=by
 rintro v8_1 o h
 unfold z34 at h
 try dsimp only at h
 refine WS.sq (WS.rg (RS.mS 1 [kB 9 (decide (v8_1<(a0.n:Int)))] (RS.dn (WS.nxt (WS.sq ?_)))))
 rcases z8 h with ⟨hp,h⟩ | ⟨hp,h⟩
 ·refine WS.fx 9 true (decide_eq_true hp) (WS.cT (WS.sk (WS.nxt (WS.sq (WS.bk 1 (WS.sq (WS.rg (RS.mS 2 [kI 5 v8_1,kI 10 v8_1] (RS.dn ?_)))))))))
  refine WS.nxt (WS.sq (WS.rg (RS.mS 3 [kI 13 v8_1,kS 12 a0,kB 11 a1] ?_)))
  obtain ⟨p2,hx,h⟩:=bind_some h
  refine RS.ix 14 56 4 (.tmp 12) (.tmp 13) hx ?_
  obtain ⟨x3,hx,h⟩:=bind_some h
  refine RS.ld 15 4 (.tmp 14) (z0 hx z55) (RS.mS 1 [kB 16 (a1 == x3)] (RS.dn (WS.nxt ?_)))
  rcases z8 h with ⟨hp,h⟩ | ⟨hp,h⟩
  ·refine WS.fx 16 true hp (WS.cT (WS.sq (WS.rg (RS.mS 2 [kI 4 v8_1,kI 17 v8_1] (RS.dn (WS.nxt (WS.rt ?_)))))))
   cases h
   exact fun a w hs=>bkR (sqR (lsR rfl (rS hs)))
  ·refine WS.fx 16 false (b_not hp) (WS.cF (WS.sk ?_))
   refine fun a w hs=>bkN ((WS.nxt ?_ a w hs))
   refine WS.rg (RS.mS 2 [kI 8 (IntKind.i64.wrap (v8_1+1)),kI 18 (IntKind.i64.wrap (v8_1+1))] (RS.dn ?_))
   cases h
   exact fun a w hs=>lsN rfl (hs.sb 0)
 ·refine WS.fx 9 false (decide_eq_false hp) (WS.cF (WS.ex 0 ?_))
  cases h
  exact fun a w hs=>sqE (lsB rfl (hs.sb 0))
theorem zfp {L:LC} {m:Nat} {H:AH} {a0:Sl3} {a1:Bool} {r:Int} (h:z77 L H a0 a1=some r) :
  CallS Tryd.prog (NE.plain 1000) m 76 #[(Sl3.v a0),(Value.bool a1)] H (z9h r) (zae H r):=by
 refine CallS.mk (args:=[(Sl3.v a0),(Value.bool a1)]) Tryd.func76 (B:=B76) (by kernel_rfl) (fun E _=>?_)
 unfold z77 at h
 refine WS.sq (WS.rg (RS.mS 1 [kI 4 0] (RS.dn (WS.nxt (WS.sq (WS.sq (WS.rg (RS.mS 3 [kI 8 0,kI 7 (a0.n:Int),kS 6 a0] (RS.dn ?_)))))))))
 refine WS.nxt (WS.bk 0 ?_)
 obtain ⟨o,hl,h⟩:=bind_some h
 rcases o with v8_4 | r
 ·try dsimp only at h
  refine WS.lI (z8f (L:=L) (E:=E) (m:=m) (H:=H)) (L.ok hl) 0 ?_
  clear hl
  refine fun a w hs=>bkE ((WS.nxt ?_ a w hs))
  refine WS.sq (WS.rg (RS.mS 1 [kI 4 (-1)] (RS.dn (WS.nxt (WS.rt ?_)))))
  cases h
  exact fun a w hs=>rtR (rS hs)
 ·try dsimp only at h
  refine WS.lR (z8f (L:=L) (E:=E) (m:=m) (H:=H)) (L.ok hl) 0 ?_
  cases h
  exact fun a w hq=>bkR (sqR (rtR hq))
def zd2:Bool→Value
 | r0=>(Value.bool r0)
def zdn (H:AH):Bool→AH:=fun _=>H
noncomputable def B47:Code:=(Tryd.f47.body).getD .skip
noncomputable def z4o (L:LC) (H:AH) (a0:Sl3) (a1:Bool):Option Bool :=
 Option.bind (z77 L H a0 a1) fun x1 =>
 some (decide (x1≥0))
theorem zdm {L:LC} {m:Nat} {H:AH} {a0:Sl3} {a1 r:Bool} (h:z4o L H a0 a1=some r) :
  CallS Tryd.prog (NE.plain 1000) m 47 #[(Sl3.v a0),(Value.bool a1)] H (zd2 r) (zdn H r):=by
 refine CallS.mk (args:=[(Sl3.v a0),(Value.bool a1)]) Tryd.func47 (B:=B47) (by kernel_rfl) (fun E _=>?_)
 unfold z4o at h
 refine WS.sq (WS.rg (RS.mS 1 [kB 4 false] (RS.dn (WS.nxt (WS.sq (WS.rg (RS.mS 2 [kB 6 a1,kS 5 a0] ?_)))))))
 obtain ⟨x1,hx,h⟩:=bind_some h
 refine RS.cl (some 7) (v:=(Value.int .i64 x1)) 76 #[(Sl3.v a0),(Value.bool a1)] (zfp hx) (RS.mS 2 [kB 4 (decide (x1≥0)),kB 8 (decide (x1≥0))] (RS.dn (WS.nxt (WS.rt ?_))))
 cases h
 exact fun a w hs=>rtR (rS hs)
def z3l:Bool→Value
 | r0=>(Value.bool r0)
def z3v (H:AH):Bool→AH:=fun _=>H
noncomputable def B79:Code:=(Tryd.f79.body).getD .skip
noncomputable def z23 (_L:LC) (rec_sort_book_grounded:AH→(Option Addr)→Int→Int→ByteArray→Sl3→Sl3→Option Bool) (H:AH) (a0:Option Addr) (a1_0 _a1_1:Int) (a1_2:ByteArray) (a1_3 a2:Sl3):Option Bool :=
 if a1_0=6 then
  Option.bind a0 fun q1 =>
  Option.bind (rd deM H (Addr.add q1 3)) fun x2 =>
  Option.bind (lk1 Tryd.prog 94 (deI .i64) H x2 (Value.agg #[(Value.int .i64 a1_0),(Value.string a1_2)])) fun x3 =>
  Option.bind (idxA 1 a2 x3) fun p4 =>
  Option.bind (rd deB H p4) fun x5 =>
  some x5
 else
  if a1_0=4 then
   Option.bind (idxA 4 a1_3 1) fun p6 =>
   Option.bind (rd (deI .i64) H (Addr.add p6 0)) fun x7_0 =>
   Option.bind (rd (deI .i64) H (Addr.add p6 1)) fun x7_1 =>
   Option.bind (rd deS H (Addr.add p6 2)) fun x7_2 =>
   Option.bind (rd deSl H (Addr.add p6 3)) fun x7_3 =>
   Option.bind (rec_sort_book_grounded H a0 x7_0 x7_1 x7_2 x7_3 a2) fun x8 =>
   some x8
  else
   some true
noncomputable def z3k (L:LC) (n:Nat):(AH→(Option Addr)→Int→Int→ByteArray→Sl3→Sl3→Option Bool):=Nat.rec (motive:=fun _=>(AH→(Option Addr)→Int→Int→ByteArray→Sl3→Sl3→Option Bool)) (fun _ _ _ _ _ _ _=>none) (fun _ p=>z23 L p) n
noncomputable def z63 (L:LC) (H:AH) (a0:Option Addr) (a1_0 a1_1:Int) (a1_2:ByteArray) (a1_3 a2:Sl3):Option Bool:=(z3k L L.fuel) H a0 a1_0 a1_1 a1_2 a1_3 a2
theorem z8h {L:LC} {rec_sort_book_grounded:AH→(Option Addr)→Int→Int→ByteArray→Sl3→Sl3→Option Bool} (hrec_sort_book_grounded:∀(m:Nat) (H:AH) (a0:Option Addr) (a1_0 a1_1:Int) (a1_2:ByteArray) (a1_3 a2:Sl3) (r:Bool),rec_sort_book_grounded H a0 a1_0 a1_1 a1_2 a1_3 a2=some r→CallS Tryd.prog (NE.plain 1000) m 79 #[(Value.pointer a0),(Value.agg #[(Value.int .i64 a1_0),(Value.int .i64 a1_1),(Value.string a1_2),(Sl3.v a1_3)]),(Sl3.v a2)] H (z3l r) (z3v H r)) {m:Nat} {H:AH} {a0:Option Addr} {a1_0 a1_1:Int} {a1_2:ByteArray} {a1_3 a2:Sl3} {r:Bool} (h:z23 L rec_sort_book_grounded H a0 a1_0 a1_1 a1_2 a1_3 a2=some r) :
  CallS Tryd.prog (NE.plain 1000) m 79 #[(Value.pointer a0),(Value.agg #[(Value.int .i64 a1_0),(Value.int .i64 a1_1),(Value.string a1_2),(Sl3.v a1_3)]),(Sl3.v a2)] H (z3l r) (z3v H r):=by
 refine CallS.mk (args:=[(Value.pointer a0),(Value.agg #[(Value.int .i64 a1_0),(Value.int .i64 a1_1),(Value.string a1_2),(Sl3.v a1_3)]),(Sl3.v a2)]) Tryd.func79 (B:=B79) (by kernel_rfl) (fun E _=>?_)
 unfold z23 at h
 refine WS.sq (WS.rg (RS.mL 2 [kB 6 false,kL 4 0 0] ([some (28,[(Value.int .i64 a1_0),(Value.int .i64 a1_1),(Value.string a1_2),(Sl3.v a1_3)])]) (RS.dn (WS.nxt (WS.sq (WS.sq (WS.rg (RS.mS 2 [kI 8 a1_0,kL 7 0 0] (RS.dn ?_)))))))))
 refine WS.nxt (WS.bk 0 (WS.sq (WS.rg (RS.mS 2 [kB 9 (decide (a1_0=6)),kB 10 (decide (a1_0=6))] (RS.dn (WS.nxt ?_))))))
 rcases z8 h with ⟨hp,h⟩ | ⟨hp,h⟩
 ·refine WS.fx 9 true (decide_eq_true hp) (WS.cT (WS.sq ?_))
  refine WS.dr [0,1,2,3,4,5,6,7,8,9,10,11,12] [0,0,2,6,14,0,32,0,128,480,1022,2047,4095,8191] 14 (fun hcl=>?_)
  refine DA.tK 0 (some 11) (Sl3.v a2) (DA.tK 1 (some 12) (Value.pointer a0) ?_)
  obtain ⟨q1,hx,hq1⟩:=bind_some h
  subst hx
  have h:=hq1
  refine DA.tK 2 (some 13) (Value.pointer (some q1)) (DA.tK 3 (some 14) (Value.pointer (some (Addr.add q1 3))) ?_)
  obtain ⟨x2,hx,h⟩:=bind_some h
  refine DA.tD 4 (some 15) (Value.map x2) (Abs.det_load (t:=94) (x:=.tmp 14) (a:=(Addr.add q1 3)) (by kernel_rfl) (by kernel_rfl) (by kernel_rfl) (by kernel_rfl) (z0 hx z3h)) (DA.tL 5 (some 16) (.loc 0 0) (DA.tL 6 (some 17) (.val (Value.int .i64 a1_0)) (DA.tL 7 (some 18) (.loc 0 2) (DA.tL 8 (some 19) (.val (Value.string a1_2)) (DA.tK 9 (some 20) (Value.agg #[(Value.int .i64 a1_0),(Value.string a1_2)]) ?_)))))
  obtain ⟨x3,hx,h⟩:=bind_some h
  refine DA.tD 10 (some 21) (Value.int .i64 x3) (Abs.det_look (t:=94) (x:=.tmp 15) (y:=.tmp 20) (mm:=x2) (k:=(Value.agg #[(Value.int .i64 a1_0),(Value.string a1_2)])) (by kernel_rfl) (by kernel_rfl) (by kernel_rfl) (by kernel_rfl) (lk1_eq hx z9)) ?_
  obtain ⟨p4,hx,h⟩:=bind_some h
  refine DA.tD 11 (some 22) (Value.pointer (some p4)) (Abs.det_idx (s:=a2) (k:=.i64) (t:=56) (e:=4) (x:=.tmp 11) (y:=.tmp 21) (by kernel_rfl) (by kernel_rfl) (by kernel_rfl) (by kernel_rfl) (by kernel_rfl) hx) ?_
  obtain ⟨x5,hx,h⟩:=bind_some h
  refine DA.tD 12 (some 23) (Value.bool x5) (Abs.det_load (t:=4) (x:=.tmp 22) (a:=p4) (by kernel_rfl) (by kernel_rfl) (by kernel_rfl) (by kernel_rfl) (z0 hx z55)) (DA.tP 13 (some 6) (Value.bool x5) (DA.dn (WS.nxt (WS.rt ?_))))
  cases h
  exact fun a w hs=>bkR (sqR (rtR (rS hs)))
 ·refine WS.fx 9 false (decide_eq_false hp) (WS.cF (WS.sq (WS.rg (RS.mS 2 [kB 24 (decide (a1_0=4)),kB 25 (decide (a1_0=4))] (RS.dn (WS.nxt ?_))))))
  rcases z8 h with ⟨hp,h⟩ | ⟨hp,h⟩
  ·refine WS.fx 24 true (decide_eq_true hp) (WS.cT (WS.sq (WS.rg (RS.mS 3 [kS 28 a1_3,kL 27 0 3,(26,.val (Value.pointer a0))] ?_))))
   obtain ⟨p6,hx,h⟩:=bind_some h
   refine RS.ix 29 26 28 (.tmp 28) (.const (Value.int .i64 1)) hx ?_
   obtain ⟨x7_0,hx0,h⟩:=bind_some h
   obtain ⟨x7_1,hx1,h⟩:=bind_some h
   obtain ⟨x7_2,hx2,h⟩:=bind_some h
   obtain ⟨x7_3,hx3,h⟩:=bind_some h
   refine RS.la 30 28 (.tmp 29) 4 (z7 (z0 hx0 z9) (z7 (z0 hx1 z9) (z7 (z0 hx2 zd) (z7 (z0 hx3 za) zf)))) (RS.mS 1 [kS 31 a2] ?_)
   obtain ⟨x8,hx,h⟩:=bind_some h
   refine RS.cl (some 32) (v:=(Value.bool x8)) 79 #[(Value.pointer a0),(Value.agg #[(Value.int .i64 x7_0),(Value.int .i64 x7_1),(Value.string x7_2),(Sl3.v x7_3)]),(Sl3.v a2)] (hrec_sort_book_grounded _ _ _ _ _ _ _ _ _ hx) (RS.mS 1 [kB 6 x8] (RS.dn (WS.nxt (WS.rt ?_))))
   cases h
   exact fun a w hs=>bkR (sqR (rtR (rS hs)))
  ·refine WS.fx 24 false (decide_eq_false hp) (WS.cF (WS.sk ?_))
   refine fun a w hs=>bkN ((WS.nxt ?_ a w hs))
   refine WS.sq (WS.rg (RS.mS 1 [kB 6 true] (RS.dn (WS.nxt (WS.rt ?_)))))
   cases h
   exact fun a w hs=>rtR (rS hs)
theorem z91 {L:LC}:∀n,(∀(m:Nat) (H:AH) (a0:Option Addr) (a1_0 a1_1:Int) (a1_2:ByteArray) (a1_3 a2:Sl3) (r:Bool),((z3k L n)) H a0 a1_0 a1_1 a1_2 a1_3 a2=some r→CallS Tryd.prog (NE.plain 1000) m 79 #[(Value.pointer a0),(Value.agg #[(Value.int .i64 a1_0),(Value.int .i64 a1_1),(Value.string a1_2),(Sl3.v a1_3)]),(Sl3.v a2)] H (z3l r) (z3v H r)):=by
 intro n
 induction n with
 | zero=>exact (fun _ _ _ _ _ _ _ _ _ h=>(Option.some_ne_none _ h.symm).elim)
 | succ n ih=>exact (fun _ _ _ _ _ _ _ _ _ h=>z8h (L:=L) ih h)
theorem zbb {L:LC} {m:Nat} {H:AH} {a0:Option Addr} {a1_0 a1_1:Int} {a1_2:ByteArray} {a1_3 a2:Sl3} {r:Bool} (h:z63 L H a0 a1_0 a1_1 a1_2 a1_3 a2=some r) :
  CallS Tryd.prog (NE.plain 1000) m 79 #[(Value.pointer a0),(Value.agg #[(Value.int .i64 a1_0),(Value.int .i64 a1_1),(Value.string a1_2),(Sl3.v a1_3)]),(Sl3.v a2)] H (z3l r) (z3v H r) :=
 (z91 _) _ _ _ _ _ _ _ _ _ h
def zaq:Bool→Value
 | r0=>(Value.bool r0)
def zb4 (H:AH):Bool→AH:=fun _=>H
noncomputable def B78:Code:=(Tryd.f78.body).getD .skip
noncomputable def z4t (L:LC) (H:AH) (_a0_0:ByteArray) (a0_1 a0_2:Int) (a0_3:ByteArray) (a0_4:Sl3) (a1 a2:Option Addr):Option Bool :=
 Option.bind a1 fun q1 =>
 Option.bind (rd deP H q1) fun x2 =>
 Option.bind a2 fun q3 =>
 Option.bind (rd deSl H q3) fun x4 =>
 Option.bind (z63 L H x2 a0_1 a0_2 a0_3 a0_4 x4) fun x5 =>
 some (!x5)
theorem zbg {L:LC} {m:Nat} {H:AH} {a0_0:ByteArray} {a0_1 a0_2:Int} {a0_3:ByteArray} {a0_4:Sl3} {a1 a2:Option Addr} {r:Bool} (h:z4t L H a0_0 a0_1 a0_2 a0_3 a0_4 a1 a2=some r) :
  CallS Tryd.prog (NE.plain 1000) m 78 #[(Value.agg #[(Value.string a0_0),(Value.int .i64 a0_1),(Value.int .i64 a0_2),(Value.string a0_3),(Sl3.v a0_4)]),(Value.pointer a1),(Value.pointer a2)] H (zaq r) (zb4 H r):=by
 refine CallS.mk (args:=[(Value.agg #[(Value.string a0_0),(Value.int .i64 a0_1),(Value.int .i64 a0_2),(Value.string a0_3),(Sl3.v a0_4)]),(Value.pointer a1),(Value.pointer a2)]) Tryd.func78 (B:=B78) (by kernel_rfl) (fun E _=>?_)
 unfold z4t at h
 refine WS.sq (WS.rg (RS.mL 2 [kB 4 false,kL 3 0 0] ([some (52,[(Value.string a0_0),(Value.int .i64 a0_1),(Value.int .i64 a0_2),(Value.string a0_3),(Sl3.v a0_4)])]) (RS.dn (WS.nxt (WS.sq (WS.rg ?_))))))
 obtain ⟨q1,hx,hq1⟩:=bind_some h
 subst hx
 have h:=hq1
 obtain ⟨x2,hx,h⟩:=bind_some h
 refine RS.ld 5 66 (.tmp 1) (z0 hx z4m) (RS.mS 2 [kA 7 #[(Value.int .i64 a0_1),(Value.int .i64 a0_2),(Value.string a0_3),(Sl3.v a0_4)],kL 6 0 1] ?_)
 obtain ⟨q3,hx,hq3⟩:=bind_some h
 subst hx
 have h:=hq3
 obtain ⟨x4,hx,h⟩:=bind_some h
 refine RS.ld 8 56 (.tmp 2) (z0 hx za) ?_
 obtain ⟨x5,hx,h⟩:=bind_some h
 refine RS.cl (some 9) (v:=(Value.bool x5)) 79 #[(Value.pointer x2),(Value.agg #[(Value.int .i64 a0_1),(Value.int .i64 a0_2),(Value.string a0_3),(Sl3.v a0_4)]),(Sl3.v x4)] (zbb hx) (RS.mS 2 [kB 4 (!x5),kB 10 (!x5)] (RS.dn (WS.nxt (WS.rt ?_))))
 cases h
 exact fun a w hs=>rtR (rS hs)
def z5y:Int→Value
 | r0=>(Value.int .i64 r0)
def z6g (H:AH):Int→AH:=fun _=>H
noncomputable def B96:Code:=(Tryd.f96.body).getD .skip
noncomputable def z1i (L:LC) (H:AH) (a0:Sl3) (a1_0 a1_1:Option Addr):Int→Option (Lp Int Int):=fun v8_1 =>
 if v8_1<(a0.n:Int) then
  Option.bind (idxA 5 a0 v8_1) fun p2 =>
  Option.bind (rd deS H (Addr.add p2 0)) fun x3_0 =>
  Option.bind (rd (deI .i64) H (Addr.add p2 1)) fun x3_1 =>
  Option.bind (rd (deI .i64) H (Addr.add p2 2)) fun x3_2 =>
  Option.bind (rd deS H (Addr.add p2 3)) fun x3_3 =>
  Option.bind (rd deSl H (Addr.add p2 4)) fun x3_4 =>
  Option.bind (z4t L H x3_0 x3_1 x3_2 x3_3 x3_4 a1_0 a1_1) fun x4 =>
  if x4=true then
   some (.ret v8_1)
  else
   some (.next (IntKind.i64.wrap (v8_1+1)))
 else
  some (.brk v8_1)
def z8o (_L:LC) (_H:AH) (a0:Sl3) (a1_0 a1_1:Option Addr):Int→KN×Lcs:=fun v8_1=>([kI 8 v8_1,kS 0 a0,(1,.val (Value.func (.func 78) #[] #[(Value.pointer a1_0),(Value.pointer a1_1)])),kI 7 (a0.n:Int)],[])
noncomputable def z44 (L:LC) (H:AH) (a0:Sl3) (a1_0 a1_1:Option Addr):Option Int :=
 Option.bind (L.run (z1i L H a0 a1_0 a1_1) 0) fun o=>match o with
 | .inl _ =>
  some (-1)
 | .inr r=>some r
theorem z5e {E m L H a0 a1_0 a1_1} :LoopF Tryd.prog (NE.plain 1000) m E Tryd.f96 ((cfst (csnd (cfst (csnd B96))))) (z8o L H a0 a1_0 a1_1) (fun _=>H) 0 z5y (z6g H) (z1i L H a0 a1_0 a1_1):=by
 rintro v8_1 o h
 unfold z1i at h
 try dsimp only at h
 refine WS.sq (WS.rg (RS.mS 1 [kB 9 (decide (v8_1<(a0.n:Int)))] (RS.dn (WS.nxt (WS.sq ?_)))))
 rcases z8 h with ⟨hp,h⟩ | ⟨hp,h⟩
 ·refine WS.fx 9 true (decide_eq_true hp) (WS.cT (WS.sk (WS.nxt (WS.sq (WS.bk 1 (WS.sq (WS.rg (RS.mS 2 [kI 5 v8_1,kI 10 v8_1] (RS.dn ?_)))))))))
  refine WS.nxt (WS.sq (WS.rg (RS.mS 3 [kI 13 v8_1,kS 12 a0,(11,.val (Value.func (.func 78) #[] #[(Value.pointer a1_0),(Value.pointer a1_1)]))] ?_)))
  obtain ⟨p2,hx,h⟩:=bind_some h
  refine RS.ix 14 48 52 (.tmp 12) (.tmp 13) hx ?_
  obtain ⟨x3_0,hx0,h⟩:=bind_some h
  obtain ⟨x3_1,hx1,h⟩:=bind_some h
  obtain ⟨x3_2,hx2,h⟩:=bind_some h
  obtain ⟨x3_3,hx3,h⟩:=bind_some h
  obtain ⟨x3_4,hx4,h⟩:=bind_some h
  refine RS.la 15 52 (.tmp 14) 5 (z7 (z0 hx0 zd) (z7 (z0 hx1 z9) (z7 (z0 hx2 z9) (z7 (z0 hx3 zd) (z7 (z0 hx4 za) zf))))) ?_
  obtain ⟨x4,hx,h⟩:=bind_some h
  refine RS.cl (some 16) (v:=(Value.bool x4)) 78 #[(Value.agg #[(Value.string x3_0),(Value.int .i64 x3_1),(Value.int .i64 x3_2),(Value.string x3_3),(Sl3.v x3_4)]),(Value.pointer a1_0),(Value.pointer a1_1)] (zbg hx) (RS.dn (WS.nxt ?_))
  rcases z8 h with ⟨hp,h⟩ | ⟨hp,h⟩
  ·refine WS.fx 16 true hp (WS.cT (WS.sq (WS.rg (RS.mS 2 [kI 4 v8_1,kI 17 v8_1] (RS.dn (WS.nxt (WS.rt ?_)))))))
   cases h
   exact fun a w hs=>bkR (sqR (lsR rfl (rS hs)))
  ·refine WS.fx 16 false (b_not hp) (WS.cF (WS.sk ?_))
   refine fun a w hs=>bkN ((WS.nxt ?_ a w hs))
   refine WS.rg (RS.mS 2 [kI 8 (IntKind.i64.wrap (v8_1+1)),kI 18 (IntKind.i64.wrap (v8_1+1))] (RS.dn ?_))
   cases h
   exact fun a w hs=>lsN rfl (hs.sb 0)
 ·refine WS.fx 9 false (decide_eq_false hp) (WS.cF (WS.ex 0 ?_))
  cases h
  exact fun a w hs=>sqE (lsB rfl (hs.sb 0))
theorem z9y {L:LC} {m:Nat} {H:AH} {a0:Sl3} {a1_0 a1_1:Option Addr} {r:Int} (h:z44 L H a0 a1_0 a1_1=some r) :
  CallS Tryd.prog (NE.plain 1000) m 96 #[(Sl3.v a0),(Value.func (.func 78) #[] #[(Value.pointer a1_0),(Value.pointer a1_1)])] H (z5y r) (z6g H r):=by
 refine CallS.mk (args:=[(Sl3.v a0),(Value.func (.func 78) #[] #[(Value.pointer a1_0),(Value.pointer a1_1)])]) Tryd.func96 (B:=B96) (by kernel_rfl) (fun E _=>?_)
 unfold z44 at h
 refine WS.sq (WS.rg (RS.mS 1 [kI 4 0] (RS.dn (WS.nxt (WS.sq (WS.sq (WS.rg (RS.mS 3 [kI 8 0,kI 7 (a0.n:Int),kS 6 a0] (RS.dn ?_)))))))))
 refine WS.nxt (WS.bk 0 ?_)
 obtain ⟨o,hl,h⟩:=bind_some h
 rcases o with v8_5 | r
 ·try dsimp only at h
  refine WS.lI (z5e (L:=L) (E:=E) (m:=m) (H:=H)) (L.ok hl) 0 ?_
  clear hl
  refine fun a w hs=>bkE ((WS.nxt ?_ a w hs))
  refine WS.sq (WS.rg (RS.mS 1 [kI 4 (-1)] (RS.dn (WS.nxt (WS.rt ?_)))))
  cases h
  exact fun a w hs=>rtR (rS hs)
 ·try dsimp only at h
  refine WS.lR (z5e (L:=L) (E:=E) (m:=m) (H:=H)) (L.ok hl) 0 ?_
  cases h
  exact fun a w hq=>bkR (sqR (rtR hq))
def z84:Bool→Value
 | r0=>(Value.bool r0)
def z8i (H:AH):Bool→AH:=fun _=>H
noncomputable def B77:Code:=(Tryd.f77.body).getD .skip
noncomputable def z21 (L:LC) (H:AH) (a0:Sl3) (a1_0 a1_1:Option Addr):Option Bool :=
 Option.bind (z44 L H a0 a1_0 a1_1) fun x1 =>
 some (decide (x1≥0))
theorem z8m {L:LC} {m:Nat} {H:AH} {a0:Sl3} {a1_0 a1_1:Option Addr} {r:Bool} (h:z21 L H a0 a1_0 a1_1=some r) :
  CallS Tryd.prog (NE.plain 1000) m 77 #[(Sl3.v a0),(Value.func (.func 78) #[] #[(Value.pointer a1_0),(Value.pointer a1_1)])] H (z84 r) (z8i H r):=by
 refine CallS.mk (args:=[(Sl3.v a0),(Value.func (.func 78) #[] #[(Value.pointer a1_0),(Value.pointer a1_1)])]) Tryd.func77 (B:=B77) (by kernel_rfl) (fun E _=>?_)
 unfold z21 at h
 refine WS.sq (WS.rg (RS.mS 1 [kB 4 false] (RS.dn (WS.nxt (WS.sq (WS.rg (RS.mS 2 [(6,.val (Value.func (.func 78) #[] #[(Value.pointer a1_0),(Value.pointer a1_1)])),kS 5 a0] ?_)))))))
 obtain ⟨x1,hx,h⟩:=bind_some h
 refine RS.cl (some 7) (v:=(Value.int .i64 x1)) 96 #[(Sl3.v a0),(Value.func (.func 78) #[] #[(Value.pointer a1_0),(Value.pointer a1_1)])] (z9y hx) (RS.mS 2 [kB 4 (decide (x1≥0)),kB 8 (decide (x1≥0))] (RS.dn (WS.nxt (WS.rt ?_))))
 cases h
 exact fun a w hs=>rtR (rS hs)
end Go.Proofs.YtccbilfbhecdaaaDoor
namespace Go.Proofs.YtccbilfbhecdaaaDoor
open Go Go.Abs
set_option maxRecDepth 100000
def z43:(Sl3×AH)→Value
 | (r0,_)=>(Sl3.v r0)
def z4i (_:AH):(Sl3×AH)→AH:=fun r=>r.2
noncomputable def B48:Code:=(Tryd.f48.body).getD .skip
noncomputable def z14 (L:LC) (m:Nat) (p1 p8:Addr) (_x14:Sl3) (v21_17:Int) (_x19_0:ByteArray) (x19_1:Sl3):(AH×Int)→Option (Lp (AH×Int) ((Sl3×AH)⊕AH)):=fun (H24,v33_25) =>
 if v33_25<(x19_1.n:Int) then
  Option.bind (idxA 2 x19_1 v33_25) fun p26 =>
  Option.bind (rd deS H24 (Addr.add p26 0)) fun _ =>
  Option.bind (rd deSl H24 (Addr.add p26 1)) fun x27_1 =>
  Option.bind (z21 L H24 x27_1 (some p1) (some p8)) fun x28 =>
  if x28=true then
   some (.next (H24,(IntKind.i64.wrap (v33_25+1))))
  else
   Option.bind (rd deSl H24 p8) fun x29 =>
   Option.bind (idxA 1 x29 v21_17) fun p30 =>
   Option.bind (H24.setCell m p30 (Value.bool true)) fun H31 =>
   some (.ret (.inr H31))
 else
  some (.brk (H24,v33_25))
def z6o (_L:LC) (_m:Nat) (p1 p8:Addr) (x14:Sl3) (v21_17:Int) (_x19_0:ByteArray) (x19_1:Sl3):(AH×Int)→KN:=fun (_,v33_25)=>[kI 33 v33_25,kP 1 p1,kP 3 p8,kI 4 v21_17,kS 19 x14,kI 20 (x14.n:Int),kI 21 v21_17,kS 31 x19_1,kI 32 (x19_1.n:Int)]
def z6r (_L:LC) (_m:Nat) (_p1 _p8:Addr) (_x14:Sl3) (_v21_17:Int) (x19_0:ByteArray) (x19_1:Sl3):(AH×Int)→Lcs:=fun (_,_)=>[some (46,[(Value.string x19_0),(Sl3.v x19_1)])]
def za2 (_L:LC) (_m:Nat) (p1 p8:Addr) (_x14:Sl3) (_v21_17:Int) (_x19_0:ByteArray) (_x19_1:Sl3):AH→KN:=fun _=>[kP 1 p1,kP 3 p8]
def za7 (_L:LC) (_m:Nat) (_p1 _p8:Addr) (_x14:Sl3) (_v21_17:Int) (x19_0:ByteArray) (x19_1:Sl3):AH→Lcs:=fun _=>[some (46,[(Value.string x19_0),(Sl3.v x19_1)])]
noncomputable def zo (L:LC) (m:Nat) (p1 p8:Addr) (x14:Sl3):(AH×Int)→Option (Lp (AH×Int) ((Sl3×AH)⊕AH)):=fun (H16,v21_17) =>
 if v21_17<(x14.n:Int) then
  Option.bind (idxA 2 x14 v21_17) fun p18 =>
  Option.bind (rd deS H16 (Addr.add p18 0)) fun x19_0 =>
  Option.bind (rd deSl H16 (Addr.add p18 1)) fun x19_1 =>
  Option.bind (rd deSl H16 p8) fun x20 =>
  Option.bind (idxA 1 x20 v21_17) fun p21 =>
  Option.bind (rd deB H16 p21) fun x22 =>
  if x22=true then
   some (.next (H16,(IntKind.i64.wrap (v21_17+1))))
  else
   Option.bind (L.run (z14 L m p1 p8 x14 v21_17 x19_0 x19_1) (H16,0)) fun o=>match o with
   | .inl (H32,_) =>
    some (.next (H32,(IntKind.i64.wrap (v21_17+1))))
   | .inr (.inl r)=>some (.ret (.inl r))
   | .inr (.inr H34) =>
    some (.ret (.inr H34))
 else
  some (.brk (H16,v21_17))
def z6k (_L:LC) (_m:Nat) (p1 p8:Addr) (x14:Sl3):(AH×Int)→KN:=fun (_,v21_17)=>[kI 21 v21_17,kP 1 p1,kP 3 p8,kS 19 x14,kI 20 (x14.n:Int)]
def z6q (_L:LC) (_m:Nat) (_p1 _p8:Addr) (_x14:Sl3):(AH×Int)→Lcs:=fun (_,_)=>[]
def za3 (_L:LC) (_m:Nat) (p1 p8:Addr) (_x14:Sl3):AH→KN:=fun _=>[kP 1 p1,kP 3 p8]
def za6 (_L:LC) (_m:Nat) (_p1 _p8:Addr) (_x14:Sl3):AH→Lcs:=fun _=>[]
noncomputable def z19 (L:LC) (m:Nat) (p1 p8:Addr):AH→Option (Lp AH (Sl3×AH)):=fun H11 =>
 Option.bind (rd deP H11 p1) fun x12 =>
 Option.bind x12 fun q13 =>
 Option.bind (rd deSl H11 (Addr.add (Addr.add q13 0) 1)) fun x14 =>
 Option.bind (L.run (zo L m p1 p8 x14) (H11,0)) fun o=>match o with
 | .inl (H35,_) =>
  some (.brk H35)
 | .inr (.inl r)=>some (.ret r)
 | .inr (.inr H37) =>
  some (.next H37)
def zam (_L:LC) (_m:Nat) (p1 p8:Addr):AH→KN×Lcs:=fun _=>([kP 1 p1,kP 3 p8],[])
noncomputable def z3j (L:LC) (m:Nat) (H:AH) (a0:Option Addr):Option (Sl3×AH) :=
 Option.bind (newB 66 [(Value.pointer a0)] H) fun (p1,H2) =>
 Option.bind (rd deP H2 p1) fun x3 =>
 Option.bind x3 fun q4 =>
 Option.bind (rd deSl H2 (Addr.add (Addr.add q4 0) 1)) fun x5 =>
 Option.bind (mkS 4 1 1 #[(Value.bool false)] H2 (x5.n:Int) (x5.n:Int)) fun (s6,H7) =>
 Option.bind (newB 56 [(Sl3.v Sl3.nil)] H7) fun (p8,H9) =>
 Option.bind (H9.setCell m p8 (Sl3.v s6)) fun H10 =>
 Option.bind (L.run (z19 L m p1 p8) H10) fun o=>match o with
 | .inl H38 =>
  Option.bind (rd deSl H38 p8) fun x39 =>
  some (x39,H38)
 | .inr r=>some r
theorem z4v {E:Ent} {H:AH} {L:LC} {m:Nat} {p1 p8:Addr} {x14:Sl3} {v21_17:Int} {x19_0:ByteArray} {x19_1:Sl3} :∀s o,z14 L m p1 p8 x14 v21_17 x19_0 x19_1 s=some o →
  WS Tryd.prog (NE.plain 1000) m E Tryd.f48.ntmps (cfst (cfst (csnd (csnd (csnd (cfst (cfst (csnd (csnd (cfst (cfst (csnd (cfst (cfst (cfst (cfst (cfst (csnd (csnd (cfst (csnd B48))))))))))))))))))))) (z6o L m p1 p8 x14 v21_17 x19_0 x19_1 s) (z6r L m p1 p8 x14 v21_17 x19_0 x19_1 s) ((fun s=>s.1) s) (lpX Tryd.prog (NE.plain 1000) m E Tryd.f48.ntmps (z6o L m p1 p8 x14 v21_17 x19_0 x19_1) (z6r L m p1 p8 x14 v21_17 x19_0 x19_1) (fun s=>s.1) 4 (fun r e a w=>match r with | .inl r=>e=.ret∧RT Tryd.prog (NE.plain 1000) m E Tryd.f48 (z43 r) (z4i H r) a w | .inr x=>e=.exit 1∧SS Tryd.prog (NE.plain 1000) m E Tryd.f48.ntmps (za2 L m p1 p8 x14 v21_17 x19_0 x19_1 x) (za7 L m p1 p8 x14 v21_17 x19_0 x19_1 x) ((fun s=>s) x) a w) o):=by
 rintro ⟨H24,v33_25⟩ o h
 unfold z14 at h
 try dsimp only at h
 refine WS.sq (WS.rg (RS.mS 1 [kB 34 (decide (v33_25<(x19_1.n:Int)))] (RS.dn (WS.nxt (WS.sq ?_)))))
 rcases z8 h with ⟨hp,h⟩ | ⟨hp,h⟩
 ·refine WS.fx 34 true (decide_eq_true hp) (WS.cT (WS.sk (WS.nxt (WS.sq (WS.bk 5 (WS.sq (WS.rg ?_)))))))
  obtain ⟨p26,hx,h⟩:=bind_some h
  refine RS.ix 35 44 50 (.tmp 31) (.tmp 33) hx ?_
  obtain ⟨x27_0,hx0,h⟩:=bind_some h
  obtain ⟨x27_1,hx1,h⟩:=bind_some h
  refine RS.la 36 50 (.tmp 35) 2 (z7 (z0 hx0 zd) (z7 (z0 hx1 za) zf)) (RS.mL 2 [kL 7 1 0] ([some (46,[(Value.string x19_0),(Sl3.v x19_1)]),some (50,[(Value.string x27_0),(Sl3.v x27_1)])]) (RS.dn (WS.nxt (WS.sq (WS.rg (RS.mS 3 [(39,.val (Value.func (.func 78) #[] #[(Value.pointer (some p1)),(Value.pointer (some p8))])),kS 38 x27_1,kL 37 1 1] ?_))))))
  obtain ⟨x28,hx,h⟩:=bind_some h
  refine RS.cl (some 40) (v:=(Value.bool x28)) 77 #[(Sl3.v x27_1),(Value.func (.func 78) #[] #[(Value.pointer (some p1)),(Value.pointer (some p8))])] (z8m hx) (RS.mS 1 [kB 41 (!x28)] (RS.dn (WS.nxt ?_)))
  rcases z8 h with ⟨hp,h⟩ | ⟨hp,h⟩
  ·refine WS.fx 41 false (nb_not hp) (WS.cF (WS.sk ?_))
   refine fun a w hs=>bkN ((WS.nxt ?_ a w hs))
   refine WS.rg (RS.mS 2 [kI 33 (IntKind.i64.wrap (v33_25+1)),kI 45 (IntKind.i64.wrap (v33_25+1))] (RS.dn ?_))
   cases h
   exact fun a w hs=>lxN rfl (hs.sb 1)
  ·refine WS.fx 41 true (z2i hp) (WS.cT (WS.sq (WS.rg ?_)))
   obtain ⟨x29,hx,h⟩:=bind_some h
   refine RS.ld 42 56 (.tmp 3) (z0 hx za) (RS.mS 1 [kI 43 v21_17] ?_)
   obtain ⟨p30,hx,h⟩:=bind_some h
   refine RS.ix 44 56 4 (.tmp 42) (.tmp 43) hx ?_
   obtain ⟨H31,hx,h⟩:=bind_some h
   refine RS.o (H':=H31) none undef (Abs.run_store1 (t:=4) (x:=.tmp 44) (y:=.const (Value.bool true)) (a:=p30) (v:=(Value.bool true)) (by kernel_rfl) (by kernel_rfl) (by kernel_rfl) (by kernel_rfl) (by kernel_rfl) hx) (RS.dn (WS.nxt (WS.ex 1 ?_)))
   cases h
   exact fun a w hs=>bkX (by kernel_rfl) (sqE (lxE rfl ⟨rfl,(hs.sb 1)⟩))
 ·refine WS.fx 34 false (decide_eq_false hp) (WS.cF (WS.ex 4 ?_))
  cases h
  exact fun a w hs=>sqE (lxB rfl (hs.sb 1))
theorem z4x {E:Ent} {H:AH} {L:LC} {m:Nat} {p1 p8:Addr} {x14:Sl3} :∀s o,zo L m p1 p8 x14 s=some o →
  WS Tryd.prog (NE.plain 1000) m E Tryd.f48.ntmps (cfst (cfst (csnd (cfst (cfst (cfst (cfst (cfst (csnd (csnd (cfst (csnd B48)))))))))))) (z6k L m p1 p8 x14 s) (z6q L m p1 p8 x14 s) ((fun s=>s.1) s) (lpX Tryd.prog (NE.plain 1000) m E Tryd.f48.ntmps (z6k L m p1 p8 x14) (z6q L m p1 p8 x14) (fun s=>s.1) 2 (fun r e a w=>match r with | .inl r=>e=.ret∧RT Tryd.prog (NE.plain 1000) m E Tryd.f48 (z43 r) (z4i H r) a w | .inr x=>e=.exit 1∧SS Tryd.prog (NE.plain 1000) m E Tryd.f48.ntmps (za3 L m p1 p8 x14 x) (za6 L m p1 p8 x14 x) ((fun s=>s) x) a w) o):=by
 rintro ⟨H16,v21_17⟩ o h
 unfold zo at h
 try dsimp only at h
 refine WS.sq (WS.rg (RS.mS 1 [kB 22 (decide (v21_17<(x14.n:Int)))] (RS.dn (WS.nxt (WS.sq ?_)))))
 rcases z8 h with ⟨hp,h⟩ | ⟨hp,h⟩
 ·refine WS.fx 22 true (decide_eq_true hp) (WS.cT (WS.sk (WS.nxt (WS.sq (WS.bk 3 (WS.sq (WS.rg (RS.mS 1 [kI 23 v21_17] ?_))))))))
  obtain ⟨p18,hx,h⟩:=bind_some h
  refine RS.ix 24 30 46 (.tmp 19) (.tmp 21) hx ?_
  obtain ⟨x19_0,hx0,h⟩:=bind_some h
  obtain ⟨x19_1,hx1,h⟩:=bind_some h
  refine RS.la 25 46 (.tmp 24) 2 (z7 (z0 hx0 zd) (z7 (z0 hx1 za) zf)) (RS.mL 3 [kI 4 v21_17,kL 5 0 0] ([some (46,[(Value.string x19_0),(Sl3.v x19_1)])]) (RS.dn (WS.nxt (WS.sq (WS.sq (WS.rg ?_))))))
  obtain ⟨x20,hx,h⟩:=bind_some h
  refine RS.ld 26 56 (.tmp 3) (z0 hx za) (RS.mS 1 [kI 27 v21_17] ?_)
  obtain ⟨p21,hx,h⟩:=bind_some h
  refine RS.ix 28 56 4 (.tmp 26) (.tmp 27) hx ?_
  obtain ⟨x22,hx,h⟩:=bind_some h
  refine RS.ld 29 4 (.tmp 28) (z0 hx z55) (RS.dn (WS.nxt ?_))
  rcases z8 h with ⟨hp,h⟩ | ⟨hp,h⟩
  ·refine WS.fx 29 true hp (WS.cT (WS.ex 3 ?_))
   refine fun a w hs=>sqE (bkE ((WS.nxt ?_ a w hs)))
   refine WS.rg (RS.mS 2 [kI 21 (IntKind.i64.wrap (v21_17+1)),kI 46 (IntKind.i64.wrap (v21_17+1))] (RS.dn ?_))
   cases h
   exact fun a w hs=>lxN rfl (hs.sb 0)
  ·refine WS.fx 29 false (b_not hp) (WS.cF (WS.sk (WS.nxt (WS.sq (WS.rg (RS.mS 4 [kI 33 0,kI 32 (x19_1.n:Int),kS 31 x19_1,kL 30 0 1] (RS.dn (WS.nxt (WS.bk 4 ?_)))))))))
   obtain ⟨o,hl,h⟩:=bind_some h
   rcases o with ⟨H32,v33_33⟩ | (r | H34)
   ·try dsimp only at h
    refine WS.lXI (z4v (L:=L) (E:=E) (m:=m) (H:=H)) (L.ok hl) 1 ?_
    clear hl
    refine fun a w hs=>bkE (bkN ((WS.nxt ?_ a w hs)))
    refine WS.rg (RS.mS 2 [kI 21 (IntKind.i64.wrap (v21_17+1)),kI 46 (IntKind.i64.wrap (v21_17+1))] (RS.dn ?_))
    cases h
    exact fun a w hs=>lxN rfl (hs.sb 0)
   ·try dsimp only at h
    refine WS.lXR (z4v (L:=L) (E:=E) (m:=m) (H:=H)) (L.ok hl) 1 ?_
    cases h
    refine fun e a w hq=>?_
    obtain ⟨rfl,hq⟩:=hq
    exact bkR (bkR (sqR (lxR rfl ⟨rfl,hq⟩)))
   ·try dsimp only at h
    refine WS.lXR (z4v (L:=L) (E:=E) (m:=m) (H:=H)) (L.ok hl) 1 ?_
    clear hl
    refine fun e a w hs=>?_
    obtain ⟨rfl,hs⟩:=hs
    revert hs
    revert w
    revert a
    cases h
    exact fun a w hs=>bkX (by kernel_rfl) (bkX (by kernel_rfl) (sqE (lxE rfl ⟨rfl,(hs.sb 0)⟩)))
 ·refine WS.fx 22 false (decide_eq_false hp) (WS.cF (WS.ex 2 ?_))
  cases h
  exact fun a w hs=>sqE (lxB rfl (hs.sb 0))
theorem z6n {E H L m p1 p8} :LoopF Tryd.prog (NE.plain 1000) m E Tryd.f48 ((cfst (cfst (csnd (csnd (cfst (csnd B48))))))) (zam L m p1 p8) (fun s=>s) 0 z43 (z4i H) (z19 L m p1 p8):=by
 rintro H11 o h
 unfold z19 at h
 try dsimp only at h
 refine WS.bk 1 (WS.sq (WS.sq (WS.rg ?_)))
 obtain ⟨x12,hx,h⟩:=bind_some h
 refine RS.ld 15 66 (.tmp 1) (z0 hx z4m) ?_
 obtain ⟨q13,hx,hq13⟩:=bind_some h
 subst hx
 have h:=hq13
 refine RS.mS 3 [(18,.val (Value.pointer (some (Addr.add (Addr.add q13 0) 1)))),(17,.val (Value.pointer (some (Addr.add q13 0)))),kP 16 q13] ?_
 obtain ⟨x14,hx,h⟩:=bind_some h
 refine RS.ld 19 30 (.tmp 18) (z0 hx za) (RS.mS 2 [kI 21 0,kI 20 (x14.n:Int)] (RS.dn (WS.nxt (WS.bk 2 ?_))))
 obtain ⟨o,hl,h⟩:=bind_some h
 rcases o with ⟨H35,v21_36⟩ | (r | H37)
 ·try dsimp only at h
  refine WS.lXI (z4x (L:=L) (E:=E) (m:=m) (H:=H)) (L.ok hl) 0 ?_
  clear hl
  refine fun a w hs=>bkE ((WS.nxt ?_ a w hs))
  refine WS.ex 0 ?_
  cases h
  exact fun a w hs=>bkX (by kernel_rfl) (lsB rfl (hs.sb 0))
 ·try dsimp only at h
  refine WS.lXR (z4x (L:=L) (E:=E) (m:=m) (H:=H)) (L.ok hl) 0 ?_
  cases h
  refine fun e a w hq=>?_
  obtain ⟨rfl,hq⟩:=hq
  exact bkR (sqR (bkR (lsR rfl hq)))
 ·try dsimp only at h
  refine WS.lXR (z4x (L:=L) (E:=E) (m:=m) (H:=H)) (L.ok hl) 0 ?_
  clear hl
  refine fun e a w hs=>?_
  obtain ⟨rfl,hs⟩:=hs
  revert hs
  revert w
  revert a
  cases h
  exact fun a w hs=>bkX (by kernel_rfl) (sqE (bkE (lsN rfl (hs.sb 0))))
theorem z7s {L:LC} {m:Nat} {H:AH} {a0:Option Addr} {r:(Sl3×AH)} (h:z3j L m H a0=some r) :
  CallS Tryd.prog (NE.plain 1000) m 48 #[(Value.pointer a0)] H (z43 r) (z4i H r):=by
 refine CallS.mk (args:=[(Value.pointer a0)]) Tryd.func48 (B:=B48) (by kernel_rfl) (fun E _=>?_)
 unfold z3j at h
 refine WS.sq (WS.rg ?_)
 obtain ⟨⟨p1,H2⟩,hx,h⟩:=bind_some h
 try dsimp only at h
 refine RS.o (H':=H2) (some 1) (Value.pointer (some p1)) (Abs.run_newB (by kernel_rfl) hx) (RS.mS 1 [kS 2 Sl3.nil] (RS.dn (WS.nxt (WS.scope (by kernel_rfl) (WS.sq (WS.rg ?_))))))
 obtain ⟨x3,hx,h⟩:=bind_some h
 refine RS.ld 8 66 (.tmp 1) (z0 hx z4m) ?_
 obtain ⟨q4,hx,hq4⟩:=bind_some h
 subst hx
 have h:=hq4
 refine RS.mS 3 [(11,.val (Value.pointer (some (Addr.add (Addr.add q4 0) 1)))),(10,.val (Value.pointer (some (Addr.add q4 0)))),kP 9 q4] ?_
 obtain ⟨x5,hx,h⟩:=bind_some h
 refine RS.ld 12 30 (.tmp 11) (z0 hx za) (RS.mS 1 [kI 13 (x5.n:Int)] ?_)
 obtain ⟨⟨s6,H7⟩,hx,h⟩:=bind_some h
 try dsimp only at h
 refine RS.o (H':=H7) (some 14) (Sl3.v s6) (Abs.run_mk (t:=56) (x:=.tmp 13) (y:=.tmp 13) (k1:=.i64) (k2:=.i64) (by kernel_rfl) (by kernel_rfl) (by kernel_rfl) (by kernel_rfl) hx) ?_
 obtain ⟨⟨p8,H9⟩,hx,h⟩:=bind_some h
 try dsimp only at h
 refine RS.o (H':=H9) (some 3) (Value.pointer (some p8)) (Abs.run_newB (by kernel_rfl) hx) ?_
 obtain ⟨H10,hx,h⟩:=bind_some h
 refine RS.o (H':=H10) none undef (Abs.run_store1 (t:=56) (x:=.tmp 3) (y:=.tmp 14) (a:=p8) (v:=(Sl3.v s6)) (by kernel_rfl) (by kernel_rfl) (by kernel_rfl) (by kernel_rfl) (by kernel_rfl) hx) (RS.dn (WS.nxt (WS.sq (WS.sk (WS.nxt (WS.sq (WS.bk 0 ?_)))))))
 obtain ⟨o,hl,h⟩:=bind_some h
 rcases o with H38 | r
 ·try dsimp only at h
  refine WS.lI (z6n (L:=L) (E:=E) (m:=m) (H:=H)) (L.ok hl) 0 ?_
  clear hl
  refine fun a w hs=>bkE ((WS.nxt ?_ a w hs))
  refine WS.sq (WS.rg ?_)
  obtain ⟨x39,hx,h⟩:=bind_some h
  refine RS.ld 47 56 (.tmp 3) (z0 hx za) (RS.mS 1 [kS 2 x39] (RS.dn (WS.nxt (WS.rt ?_))))
  cases h
  exact fun a w hs=>sgR (rtR (rS hs))
 ·try dsimp only at h
  refine WS.lR (z6n (L:=L) (E:=E) (m:=m) (H:=H)) (L.ok hl) 0 ?_
  cases h
  exact fun a w hq=>bkR (sqR (sgR (rtR hq)))
def z8t:(Int×AH)→Value
 | (r0,_)=>(Value.int .i64 r0)
def z96 (_:AH):(Int×AH)→AH:=fun r=>r.2
noncomputable def B20:Code:=(Tryd.f20.body).getD .skip
noncomputable def z2o (L:LC) (_a0_0 _a0_1:Sl3) (_a0_2 _x2:Sl3) (_x3 s7:Sl3) (H8:AH):Int→Option (Lp Int (Int×AH)):=fun v21_9 =>
 if v21_9<(s7.n:Int) then
  Option.bind (idxA 1 s7 v21_9) fun p10 =>
  Option.bind (rd deS H8 p10) fun x11 =>
  Option.bind (z5v L x11) fun x12 =>
  if x12=true then
   some (.next (IntKind.i64.wrap (v21_9+1)))
  else
   some (.ret (42,H8))
 else
  some (.brk v21_9)
def zcz (_L:LC) (a0_0 a0_1:Sl3) (a0_2 x2:Sl3) (x3 s7:Sl3) (_H8:AH):Int→KN×Lcs:=fun v21_9=>([kI 21 v21_9,kL 1 0 0,kS 3 x2,kS 4 x3,kS 19 s7,kI 20 (s7.n:Int)],[some (33,[(Sl3.v a0_0),(Sl3.v a0_1),(Sl3.v a0_2)])])
noncomputable def z2m (L:LC) (m:Nat) (H:AH) (a0_0 a0_1 a0_2:Sl3):Option (Int×AH) :=
 Option.bind (z8c L H a0_0 a0_1 a0_2) fun x1 =>
 if x1=true then
  some (3,H)
 else
  Option.bind (z78 L m H a0_0 a0_1 a0_2) fun (x2,x3,H4) =>
  Option.bind (z54 L m H4 x2) fun (x5,H6) =>
  Option.bind (appS m 9 1 16 H6 x5 x3) fun (s7,H8) =>
  Option.bind (L.run (z2o L a0_0 a0_1 a0_2 x2 x3 s7 H8) 0) fun o=>match o with
  | .inl _ =>
   Option.bind (α:=(AH×Bool)) (
    Option.bind (z4q L m H8 x2) fun (x16,H17) =>
    if x16=true then
     some (H17,true)
    else
     Option.bind (z4q L m H17 x3) fun (x18,H19) =>
     some (H19,x18)) fun (H14,v34_15) =>
   if v34_15=true then
    some (41,H14)
   else
    Option.bind (z58 L m H14 a0_0 a0_1 a0_2) fun (x20,H21) =>
    Option.bind (z3q L m H21 x20) fun (x22,H23) =>
    if x22=0 then
     Option.bind (z3x L m H23 x20) fun (x24,H25) =>
     Option.bind (z4g L m H25 x20 x24) fun (x26,H27) =>
     if x26=true then
      some (44,H27)
     else
      Option.bind (z3j L m H27 x20) fun (x28,H29) =>
      Option.bind (z4o L H29 x28 false) fun x30 =>
      if x30=true then
       some (43,H29)
      else
       some (0,H29)
    else
     some (x22,H23)
  | .inr r=>some r
theorem z7t {E m H L a0_0 a0_1 a0_2 x2 x3 s7 H8} :LoopF Tryd.prog (NE.plain 1000) m E Tryd.f20 ((cfst (csnd (cfst (csnd (csnd (csnd B20))))))) (zcz L a0_0 a0_1 a0_2 x2 x3 s7 H8) (fun _=>H8) 0 z8t (z96 H) (z2o L a0_0 a0_1 a0_2 x2 x3 s7 H8):=by
 rintro v21_9 o h
 unfold z2o at h
 try dsimp only at h
 refine WS.sq (WS.rg (RS.mS 1 [kB 22 (decide (v21_9<(s7.n:Int)))] (RS.dn (WS.nxt (WS.sq ?_)))))
 rcases z8 h with ⟨hp,h⟩ | ⟨hp,h⟩
 ·refine WS.fx 22 true (decide_eq_true hp) (WS.cT (WS.sk (WS.nxt (WS.sq (WS.bk 1 (WS.sq (WS.rg ?_)))))))
  obtain ⟨p10,hx,h⟩:=bind_some h
  refine RS.ix 23 29 9 (.tmp 19) (.tmp 21) hx ?_
  obtain ⟨x11,hx,h⟩:=bind_some h
  refine RS.ld 24 9 (.tmp 23) (z0 hx zd) (RS.mS 1 [kT 6 x11] (RS.dn (WS.nxt (WS.sq (WS.rg (RS.mS 1 [kT 25 x11] ?_))))))
  obtain ⟨x12,hx,h⟩:=bind_some h
  refine RS.cl (some 26) (v:=(Value.bool x12)) 13 #[(Value.string x11)] (zdv hx) (RS.mS 1 [kB 27 (!x12)] (RS.dn (WS.nxt ?_)))
  rcases z8 h with ⟨hp,h⟩ | ⟨hp,h⟩
  ·refine WS.fx 27 false (nb_not hp) (WS.cF (WS.sk ?_))
   refine fun a w hs=>bkN ((WS.nxt ?_ a w hs))
   refine WS.rg (RS.mS 2 [kI 21 (IntKind.i64.wrap (v21_9+1)),kI 28 (IntKind.i64.wrap (v21_9+1))] (RS.dn ?_))
   cases h
   exact fun a w hs=>lsN rfl (hs.sb 1)
  ·refine WS.fx 27 true (z2i hp) (WS.cT (WS.sq (WS.rg (RS.mS 1 [kI 2 42] (RS.dn (WS.nxt (WS.rt ?_)))))))
   cases h
   exact fun a w hs=>bkR (sqR (lsR rfl (rS hs)))
 ·refine WS.fx 22 false (decide_eq_false hp) (WS.cF (WS.ex 0 ?_))
  cases h
  exact fun a w hs=>sqE (lsB rfl (hs.sb 1))
theorem z4d {L:LC} {m:Nat} {H:AH} {a0_0 a0_1 a0_2:Sl3} {r:(Int×AH)} (h:z2m L m H a0_0 a0_1 a0_2=some r) :
  CallS Tryd.prog (NE.plain 1000) m 20 #[(Value.agg #[(Sl3.v a0_0),(Sl3.v a0_1),(Sl3.v a0_2)])] H (z8t r) (z96 H r):=by
 refine CallS.mk (args:=[(Value.agg #[(Sl3.v a0_0),(Sl3.v a0_1),(Sl3.v a0_2)])]) Tryd.func20 (B:=B20) (by kernel_rfl) (fun E _=>?_)
 unfold z2m at h
 refine WS.sq (WS.rg (RS.mL 2 [kI 2 0,kL 1 0 0] ([some (33,[(Sl3.v a0_0),(Sl3.v a0_1),(Sl3.v a0_2)])]) (RS.dn (WS.nxt (WS.sq (WS.sq (WS.rg (RS.mS 1 [kA 9 #[(Sl3.v a0_0),(Sl3.v a0_1),(Sl3.v a0_2)]] ?_))))))))
 obtain ⟨x1,hx,h⟩:=bind_some h
 refine RS.cl (some 10) (v:=(Value.bool x1)) 40 #[(Value.agg #[(Sl3.v a0_0),(Sl3.v a0_1),(Sl3.v a0_2)])] (zjs hx) (RS.dn (WS.nxt ?_))
 rcases z8 h with ⟨hp,h⟩ | ⟨hp,h⟩
 ·refine WS.fx 10 true hp (WS.cT (WS.sq (WS.rg (RS.mS 1 [kI 2 3] (RS.dn (WS.nxt (WS.rt ?_)))))))
  cases h
  exact fun a w hs=>sqR (rtR (rS hs))
 ·refine WS.fx 10 false (b_not hp) (WS.cF (WS.sk (WS.nxt (WS.sq (WS.rg (RS.mS 1 [kA 12 #[(Sl3.v a0_0),(Sl3.v a0_1),(Sl3.v a0_2)]] ?_))))))
  obtain ⟨⟨x2,x3,H4⟩,hx,h⟩:=bind_some h
  try dsimp only at h
  refine RS.cl (some 13) (v:=(Value.tuple #[(Sl3.v x2),(Sl3.v x3)])) 41 #[(Value.agg #[(Sl3.v a0_0),(Sl3.v a0_1),(Sl3.v a0_2)])] (zih hx) (RS.mS 5 [kS 4 x3,kS 3 x2,kS 15 x3,kS 14 x2,(11,.val (Value.tuple #[(Sl3.v x2),(Sl3.v x3)]))] (RS.dn (WS.nxt (WS.sq (WS.sq (WS.rg (RS.mS 1 [kS 16 x2] ?_)))))))
  obtain ⟨⟨x5,H6⟩,hx,h⟩:=bind_some h
  try dsimp only at h
  refine RS.cl (some 17) (v:=(Sl3.v x5)) 42 #[(Sl3.v x2)] (zaa hx) (RS.mS 1 [kS 18 x3] ?_)
  obtain ⟨⟨s7,H8⟩,hx,h⟩:=bind_some h
  try dsimp only at h
  refine RS.o (H':=H8) (some 19) (Sl3.v s7) (Abs.run_app (x:=.tmp 17) (y:=.tmp 18) (ts:=#[29,29]) (s:=x5) (z:=x3) (by kernel_rfl) (by kernel_rfl) (by kernel_rfl) (by kernel_rfl) hx) (RS.mS 2 [kI 21 0,kI 20 (s7.n:Int)] (RS.dn (WS.nxt (WS.bk 0 ?_))))
  obtain ⟨o,hl,h⟩:=bind_some h
  rcases o with v21_13 | r
  ·try dsimp only at h
   refine WS.lI (z7t (L:=L) (E:=E) (m:=m) (H:=H)) (L.ok hl) 1 ?_
   clear hl
   refine fun a w hs=>bkE ((WS.nxt ?_ a w hs))
   refine WS.sq ?_
   obtain ⟨⟨H14,v34_15⟩,hx,h⟩:=bind_some h
   try dsimp only at h
   refine WS.sq ?_
   refine WS.join ([kB 34 v34_15,kL 1 0 0]) ([some (33,[(Sl3.v a0_0),(Sl3.v a0_1),(Sl3.v a0_2)])]) H14 ?_ (fun a w hs=>WS.nxt ?_ a w hs)
   ·clear h; rename _=>h
    refine WS.rg (RS.mS 1 [kS 29 x2] ?_)
    obtain ⟨⟨x16,H17⟩,hx,h⟩:=bind_some h
    try dsimp only at h
    refine RS.cl (some 30) (v:=(Value.bool x16)) 43 #[(Sl3.v x2)] (zcu hx) (RS.mS 1 [kB 31 x16] ?_)
    rcases z8 h with ⟨hp,h⟩ | ⟨hp,h⟩
    ·refine RS.fx 31 true hp (RS.mS 3 [kB 34 true,kU 33,kU 32] (RS.dn ?_))
     cases h
     exact fun a w hs=>(jsN (hs.sb 1))
    ·refine RS.fx 31 false (b_not hp) (RS.mS 1 [kS 32 x3] ?_)
     obtain ⟨⟨x18,H19⟩,hx,h⟩:=bind_some h
     try dsimp only at h
     refine RS.cl (some 33) (v:=(Value.bool x18)) 43 #[(Sl3.v x3)] (zcu hx) (RS.mS 1 [kB 34 x18] (RS.dn ?_))
     cases h
     exact fun a w hs=>(jsN (hs.sb 1))
   ·clear hx
    rcases z8 h with ⟨hp,h⟩ | ⟨hp,h⟩
    ·refine WS.fx 34 true hp (WS.cT (WS.sq (WS.rg (RS.mS 1 [kI 2 41] (RS.dn (WS.nxt (WS.rt ?_)))))))
     cases h
     exact fun a w hs=>sqR (rtR (rS hs))
    ·refine WS.fx 34 false (b_not hp) (WS.cF (WS.sk (WS.nxt (WS.sq (WS.rg (RS.mS 1 [kA 35 #[(Sl3.v a0_0),(Sl3.v a0_1),(Sl3.v a0_2)]] ?_))))))
     obtain ⟨⟨x20,H21⟩,hx,h⟩:=bind_some h
     try dsimp only at h
     refine RS.cl (some 36) (v:=(Value.pointer x20)) 36 #[(Value.agg #[(Sl3.v a0_0),(Sl3.v a0_1),(Sl3.v a0_2)])] (z7q hx) (RS.mS 1 [(7,.val (Value.pointer x20))] (RS.dn (WS.nxt (WS.sq (WS.sq (WS.rg (RS.mS 1 [(37,.val (Value.pointer x20))] ?_)))))))
     obtain ⟨⟨x22,H23⟩,hx,h⟩:=bind_some h
     try dsimp only at h
     refine RS.cl (some 38) (v:=(Value.int .i64 x22)) 44 #[(Value.pointer x20)] (zbs hx) (RS.mS 1 [kI 8 x22] (RS.dn (WS.nxt (WS.sq (WS.rg (RS.mS 2 [kB 40 (!decide (x22=0)),kI 39 x22] (RS.dn (WS.nxt ?_))))))))
     rcases z8 h with ⟨hp,h⟩ | ⟨hp,h⟩
     ·refine WS.fx 40 false (z6w hp) (WS.cF (WS.sk (WS.nxt (WS.sq (WS.sq (WS.rg (RS.mS 2 [(43,.val (Value.pointer x20)),(42,.val (Value.pointer x20))] ?_)))))))
      obtain ⟨⟨x24,H25⟩,hx,h⟩:=bind_some h
      try dsimp only at h
      refine RS.cl (some 44) (v:=(Sl3.v x24)) 46 #[(Value.pointer x20)] (z85 hx) ?_
      obtain ⟨⟨x26,H27⟩,hx,h⟩:=bind_some h
      try dsimp only at h
      refine RS.cl (some 45) (v:=(Value.bool x26)) 45 #[(Value.pointer x20),(Sl3.v x24)] (zd3 hx) (RS.dn (WS.nxt ?_))
      rcases z8 h with ⟨hp,h⟩ | ⟨hp,h⟩
      ·refine WS.fx 45 true hp (WS.cT (WS.sq (WS.rg (RS.mS 1 [kI 2 44] (RS.dn (WS.nxt (WS.rt ?_)))))))
       cases h
       exact fun a w hs=>sqR (rtR (rS hs))
      ·refine WS.fx 45 false (b_not hp) (WS.cF (WS.sk (WS.nxt (WS.sq (WS.sq (WS.rg (RS.mS 1 [(46,.val (Value.pointer x20))] ?_)))))))
       obtain ⟨⟨x28,H29⟩,hx,h⟩:=bind_some h
       try dsimp only at h
       refine RS.cl (some 47) (v:=(Sl3.v x28)) 48 #[(Value.pointer x20)] (z7s hx) ?_
       obtain ⟨x30,hx,h⟩:=bind_some h
       refine RS.cl (some 48) (v:=(Value.bool x30)) 47 #[(Sl3.v x28),(Value.bool false)] (zdm hx) (RS.dn (WS.nxt ?_))
       rcases z8 h with ⟨hp,h⟩ | ⟨hp,h⟩
       ·refine WS.fx 48 true hp (WS.cT (WS.sq (WS.rg (RS.mS 1 [kI 2 43] (RS.dn (WS.nxt (WS.rt ?_)))))))
        cases h
        exact fun a w hs=>sqR (rtR (rS hs))
       ·refine WS.fx 48 false (b_not hp) (WS.cF (WS.sk (WS.nxt (WS.sq (WS.rg (RS.mS 1 [kI 2 0] (RS.dn (WS.nxt (WS.rt ?_)))))))))
        cases h
        exact fun a w hs=>rtR (rS hs)
     ·refine WS.fx 40 true (z5u hp) (WS.cT (WS.sq (WS.rg (RS.mS 2 [kI 2 x22,kI 41 x22] (RS.dn (WS.nxt (WS.rt ?_)))))))
      cases h
      exact fun a w hs=>sqR (rtR (rS hs))
  ·try dsimp only at h
   refine WS.lR (z7t (L:=L) (E:=E) (m:=m) (H:=H)) (L.ok hl) 1 ?_
   cases h
   exact fun a w hq=>bkR (sqR (rtR hq))
end Go.Proofs.YtccbilfbhecdaaaDoor
namespace Go.Proofs.YtccbilfbhecdaaaDoor
open Go Go.Abs
set_option maxRecDepth 100000
def zea:((Option Addr)×AH)→Value
 | (r0,_)=>(Value.pointer r0)
def zfi (_:AH):((Option Addr)×AH)→AH:=fun r=>r.2
noncomputable def B54:Code:=(Tryd.f54.body).getD .skip
noncomputable def z3z (L:LC) (m:Nat) (H:AH) (a0_0 a0_1 a0_2:Sl3) (a1:Int):Option ((Option Addr)×AH) :=
 Option.bind (z58 L m H a0_0 a0_1 a0_2) fun (x1,H2) =>
 Option.bind (z3x L m H2 x1) fun (x3,H4) =>
 Option.bind (newM H4) fun (p5,H6) =>
 Option.bind (newB 117 [(Value.pointer x1),(Value.int .i64 a1),(Sl3.v x3),(Value.map (some p5))] H6) fun (p7,H8) =>
 some ((some p7),H8)
theorem z9l {L:LC} {m:Nat} {H:AH} {a0_0 a0_1 a0_2:Sl3} {a1:Int} {r:((Option Addr)×AH)} (h:z3z L m H a0_0 a0_1 a0_2 a1=some r) :
  CallS Tryd.prog (NE.plain 1000) m 54 #[(Value.agg #[(Sl3.v a0_0),(Sl3.v a0_1),(Sl3.v a0_2)]),(Value.int .i64 a1)] H (zea r) (zfi H r):=by
 refine CallS.mk (args:=[(Value.agg #[(Sl3.v a0_0),(Sl3.v a0_1),(Sl3.v a0_2)]),(Value.int .i64 a1)]) Tryd.func54 (B:=B54) (by kernel_rfl) (fun E _=>?_)
 unfold z3z at h
 refine WS.sq (WS.rg (RS.mL 2 [(4,.val (Value.pointer none)),kL 2 0 0] ([some (33,[(Sl3.v a0_0),(Sl3.v a0_1),(Sl3.v a0_2)])]) (RS.dn (WS.nxt (WS.sq (WS.rg (RS.mS 1 [kA 6 #[(Sl3.v a0_0),(Sl3.v a0_1),(Sl3.v a0_2)]] ?_)))))))
 obtain ⟨⟨x1,H2⟩,hx,h⟩:=bind_some h
 try dsimp only at h
 refine RS.cl (some 7) (v:=(Value.pointer x1)) 36 #[(Value.agg #[(Sl3.v a0_0),(Sl3.v a0_1),(Sl3.v a0_2)])] (z7q hx) (RS.mS 1 [(5,.val (Value.pointer x1))] (RS.dn (WS.nxt (WS.sq (WS.rg (RS.mS 3 [(10,.val (Value.pointer x1)),kI 9 a1,(8,.val (Value.pointer x1))] ?_))))))
 obtain ⟨⟨x3,H4⟩,hx,h⟩:=bind_some h
 try dsimp only at h
 refine RS.cl (some 11) (v:=(Sl3.v x3)) 46 #[(Value.pointer x1)] (z85 hx) ?_
 obtain ⟨⟨p5,H6⟩,hx,h⟩:=bind_some h
 try dsimp only at h
 refine RS.o (H':=H6) (some 12) (Value.map (some p5)) (Abs.run_newM (by kernel_rfl) hx) (RS.mS 1 [kA 13 #[(Value.pointer x1),(Value.int .i64 a1),(Sl3.v x3),(Value.map (some p5))]] ?_)
 obtain ⟨⟨p7,H8⟩,hx,h⟩:=bind_some h
 try dsimp only at h
 refine RS.o (H':=H8) (some 14) (Value.pointer (some p7)) (Abs.run_newB (by kernel_rfl) hx) (RS.mS 1 [kP 4 p7] (RS.dn (WS.nxt (WS.rt ?_))))
 cases h
 exact fun a w hs=>rtR (rS hs)
def zax:Int→Value
 | r0=>(Value.int .i64 r0)
def zbd (H:AH):Int→AH:=fun _=>H
noncomputable def B86:Code:=(Tryd.f86.body).getD .skip
noncomputable def z1y (_L:LC) (H:AH) (a0:Option Addr) (a1 a2:Int):Option Int :=
 Option.bind (α:=Bool) (
  if a1=0 then
   some true
  else
   if a2=0 then
    some true
   else
    Option.bind a0 fun q2 =>
    Option.bind (rd (deI .i64) H (Addr.add q2 1)) fun x3 =>
    if a2=0 then none else
    some (decide (a1 > (IntKind.i64.wrap (Int.tdiv x3 a2))))) fun v22_1 =>
 if v22_1=true then
  some 0
 else
  some (IntKind.i64.wrap (a1*a2))
theorem z52 {L:LC} {m:Nat} {H:AH} {a0:Option Addr} {a1 a2 r:Int} (h:z1y L H a0 a1 a2=some r) :
  CallS Tryd.prog (NE.plain 1000) m 86 #[(Value.pointer a0),(Value.int .i64 a1),(Value.int .i64 a2)] H (zax r) (zbd H r):=by
 refine CallS.mk (args:=[(Value.pointer a0),(Value.int .i64 a1),(Value.int .i64 a2)]) Tryd.func86 (B:=B86) (by kernel_rfl) (fun E _=>?_)
 unfold z1y at h
 refine WS.sq (WS.rg (RS.mS 1 [kI 6 0] (RS.dn (WS.nxt (WS.sq ?_)))))
 obtain ⟨v22_1,hx,h⟩:=bind_some h
 refine WS.sq ?_
 refine WS.join ([kB 22 v22_1,kI 1 a1,kI 2 a2]) ([]) H ?_ (fun a w hs=>WS.nxt ?_ a w hs)
 ·clear h; rename _=>h
  refine WS.rg (RS.mS 3 [kB 9 (decide (a1=0)),kB 8 (decide (a1=0)),kI 7 a1] ?_)
  rcases z8 h with ⟨hp,h⟩ | ⟨hp,h⟩
  ·refine RS.fx 9 true (decide_eq_true hp) (RS.mS 13 [kB 22 true,kU 21,kU 20,kU 19,kU 18,kU 17,kU 16,kU 15,kU 14,kB 13 true,kB 12 true,kU 11,kU 10] (RS.dn ?_))
   cases h
   exact fun a w hs=>(jsN (hs.sb 0))
  ·refine RS.fx 9 false (decide_eq_false hp) (RS.mS 4 [kB 13 (decide (a2=0)),kB 12 (decide (a2=0)),kB 11 (decide (a2=0)),kI 10 a2] ?_)
   rcases z8 h with ⟨hp,h⟩ | ⟨hp,h⟩
   ·refine RS.fx 13 true (decide_eq_true hp) (RS.mS 9 [kB 22 true,kU 21,kU 20,kU 19,kU 18,kU 17,kU 16,kU 15,kU 14] (RS.dn ?_))
    cases h
    exact fun a w hs=>(jsN (hs.sb 0))
   ·refine RS.fx 13 false (decide_eq_false hp) (RS.mS 2 [(15,.val (Value.pointer a0)),kI 14 a1] ?_)
    obtain ⟨q2,hx,hq2⟩:=bind_some h
    subst hx
    have h:=hq2
    refine RS.mS 2 [(17,.val (Value.pointer (some (Addr.add q2 1)))),kP 16 q2] ?_
    obtain ⟨x3,hx,h⟩:=bind_some h
    refine RS.ld 18 3 (.tmp 17) (z0 hx z9) (RS.mS 1 [kI 19 a2] ?_)
    rcases z8 h with ⟨_,h⟩ | ⟨hx,h⟩
    ·cases h
    ·refine RS.o (H':=H) (some 20) (Value.int .i64 (IntKind.i64.wrap (Int.tdiv x3 a2))) (Abs.run_quo (t:=3) (u:=3) (x:=.tmp 18) (y:=.tmp 19) (by kernel_rfl) (by kernel_rfl) (by kernel_rfl) hx) (RS.mS 2 [kB 22 (decide (a1 > (IntKind.i64.wrap (Int.tdiv x3 a2)))),kB 21 (decide (a1 > (IntKind.i64.wrap (Int.tdiv x3 a2))))] (RS.dn ?_))
     cases h
     exact fun a w hs=>(jsN (hs.sb 0))
 ·clear hx
  rcases z8 h with ⟨hp,h⟩ | ⟨hp,h⟩
  ·refine WS.fx 22 true hp (WS.cT (WS.sq (WS.rg (RS.mS 1 [kI 6 0] (RS.dn (WS.nxt (WS.rt ?_)))))))
   cases h
   exact fun a w hs=>sqR (rtR (rS hs))
  ·refine WS.fx 22 false (b_not hp) (WS.cF (WS.sk (WS.nxt (WS.sq (WS.rg (RS.mS 4 [kI 6 (IntKind.i64.wrap (a1*a2)),kI 25 (IntKind.i64.wrap (a1*a2)),kI 24 a2,kI 23 a1] (RS.dn (WS.nxt (WS.rt ?_)))))))))
   cases h
   exact fun a w hs=>rtR (rS hs)
end Go.Proofs.YtccbilfbhecdaaaDoor
namespace Go.Proofs.YtccbilfbhecdaaaDoor
open Go Go.Abs
set_option maxRecDepth 100000
def z13:(Int×AH)→Value
 | (r0,_)=>(Value.int .i64 r0)
def z15 (_:AH):(Int×AH)→AH:=fun r=>r.2
def z3o:(Int×AH)→Value
 | (r0,_)=>(Value.int .i64 r0)
def z3u (_:AH):(Int×AH)→AH:=fun r=>r.2
def z2t:(Int×AH)→Value
 | (r0,_)=>(Value.int .i64 r0)
def z31 (_:AH):(Int×AH)→AH:=fun r=>r.2
noncomputable def B55:Code:=(Tryd.f55.body).getD .skip
noncomputable def z1k (L:LC) (H:AH) (a0:Option Addr) (_a1_0 a1_1:Int) (_a1_2:ByteArray) (_a1_3:Sl3):(Int×Int)→Option (Lp (Int×Int) (Int×AH)):=fun (v5_3,v17_4) =>
 if v17_4<a1_1 then
  Option.bind (z1y L H a0 v5_3 2) fun x5 =>
  some (.next (x5,(IntKind.i64.wrap (v17_4+1))))
 else
  some (.brk (v5_3,v17_4))
def za4 (_L:LC) (_H:AH) (a0:Option Addr) (a1_0 a1_1:Int) (a1_2:ByteArray) (a1_3:Sl3):(Int×Int)→KN×Lcs:=fun (v5_3,v17_4)=>([kI 5 v5_3,kI 17 v17_4,(0,.val (Value.pointer a0)),kI 16 a1_1],[some (28,[(Value.int .i64 a1_0),(Value.int .i64 a1_1),(Value.string a1_2),(Sl3.v a1_3)])])
noncomputable def z2k (L:LC) (rec_sort_counter_sort:Nat→AH→(Option Addr)→Int→Int→ByteArray→Sl3→Option (Int×AH)) (rec_sort_counter_array:Nat→AH→(Option Addr)→Int→Int→Int→ByteArray→Sl3→Option (Int×AH)) (rec_sort_counter_data:Nat→AH→(Option Addr)→Int→Option (Int×AH)) (m:Nat) (H:AH) (a0:Option Addr) (a1_0 a1_1:Int) (a1_2:ByteArray) (a1_3:Sl3):Option (Int×AH) :=
 Option.bind (α:=(AH×Int)⊕(Int×AH)) (
  if a1_0=1 then
   some (.inl (H,2))
  else
   if a1_0=3 then
    Option.bind (L.run (z1k L H a0 a1_0 a1_1 a1_2 a1_3) (1,0)) fun o=>match o with
    | .inl (v5_6,_) =>
     some (.inl (H,v5_6))
    | .inr r=>((some r).map .inr)
   else
    if a1_0=4 then
     Option.bind (idxA 4 a1_3 0) fun p8 =>
     Option.bind (rd (deI .i64) H (Addr.add p8 0)) fun x9_0 =>
     Option.bind (rd (deI .i64) H (Addr.add p8 1)) fun x9_1 =>
     Option.bind (rd deS H (Addr.add p8 2)) fun x9_2 =>
     Option.bind (rd deSl H (Addr.add p8 3)) fun x9_3 =>
     Option.bind (rec_sort_counter_sort m H a0 x9_0 x9_1 x9_2 x9_3) fun (x10,H11) =>
     Option.bind (idxA 4 a1_3 1) fun p12 =>
     Option.bind (rd (deI .i64) H11 (Addr.add p12 0)) fun x13_0 =>
     Option.bind (rd (deI .i64) H11 (Addr.add p12 1)) fun x13_1 =>
     Option.bind (rd deS H11 (Addr.add p12 2)) fun x13_2 =>
     Option.bind (rd deSl H11 (Addr.add p12 3)) fun x13_3 =>
     Option.bind (rec_sort_counter_array m H11 a0 x10 x13_0 x13_1 x13_2 x13_3) fun (x14,H15) =>
     Option.bind (rd (deI .i64) H (Addr.add p12 0)) fun x16_0 =>
     Option.bind (rd (deI .i64) H (Addr.add p12 1)) fun x16_1 =>
     Option.bind (rd deS H (Addr.add p12 2)) fun x16_2 =>
     Option.bind (rd deSl H (Addr.add p12 3)) fun x16_3 =>
     if x13_0=x16_0 then
      if x13_1=x16_1 then
       if x13_2=x16_2 then
        if x13_3=x16_3 then
         ((some (x14,H15)).map .inr)
        else none
       else none
      else none
     else none
    else
     if a1_0=6 then
      Option.bind a0 fun q17 =>
      Option.bind (rd deP H (Addr.add q17 0)) fun x18 =>
      Option.bind x18 fun q19 =>
      Option.bind (rd deM H (Addr.add q19 3)) fun x20 =>
      Option.bind (lk1 Tryd.prog 94 (deI .i64) H x20 (Value.agg #[(Value.int .i64 a1_0),(Value.string a1_2)])) fun x21 =>
      Option.bind (rd deM H (Addr.add q17 3)) fun x22 =>
      Option.bind (lkM Tryd.prog 115 (deI .i64) H x22 (Value.int .i64 x21)) fun (x23,b24) =>
      Option.bind (α:=(AH×Int)) (
       if b24=true then
        some (H,x23)
       else
        Option.bind (rec_sort_counter_data m H (some q17) x21) fun (x27,H28) =>
        Option.bind (rd deM H28 (Addr.add q17 3)) fun x29 =>
        Option.bind (upM Tryd.prog m 115 H28 x29 (Value.int .i64 x21) (Value.int .i64 x27)) fun H30 =>
        some (H30,x27)) fun (H25,v7_26) =>
      some (.inl (H25,v7_26))
     else
      some (.inl (H,0))) fun o=>match o with
 | .inl (H1,v5_2) =>
  Option.bind a0 fun q31 =>
  Option.bind (rd (deI .i64) H1 (Addr.add q31 1)) fun x32 =>
  if v5_2 > x32 then
   some (0,H1)
  else
   some (v5_2,H1)
 | .inr r=>some r
noncomputable def B87:Code:=(Tryd.f87.body).getD .skip
noncomputable def z12 (L:LC) (a0:Option Addr) (a1 _a2_0 _a2_1:Int) (_a2_2:ByteArray) (_a2_3:Sl3) (x1:Int) (H2:AH):(Int×Int)→Option (Lp (Int×Int) (Int×AH)):=fun (v8_3,v17_4) =>
 if v17_4<a1 then
  Option.bind (z1y L H2 a0 v8_3 x1) fun x5 =>
  if x5=0 then
   some (.brk (x5,v17_4))
  else
   some (.next (x5,(IntKind.i64.wrap (v17_4+1))))
 else
  some (.brk (v8_3,v17_4))
def z9q (_L:LC) (a0:Option Addr) (a1 a2_0 a2_1:Int) (a2_2:ByteArray) (a2_3:Sl3) (x1:Int) (_H2:AH):(Int×Int)→KN×Lcs:=fun (v8_3,v17_4)=>([kI 8 v8_3,kI 17 v17_4,(0,.val (Value.pointer a0)),kI 7 x1,kI 16 a1],[some (28,[(Value.int .i64 a2_0),(Value.int .i64 a2_1),(Value.string a2_2),(Sl3.v a2_3)])])
noncomputable def z22 (L:LC) (rec_sort_counter_sort:Nat→AH→(Option Addr)→Int→Int→ByteArray→Sl3→Option (Int×AH)) (m:Nat) (H:AH) (a0:Option Addr) (a1 a2_0 a2_1:Int) (a2_2:ByteArray) (a2_3:Sl3):Option (Int×AH) :=
 Option.bind (rec_sort_counter_sort m H a0 a2_0 a2_1 a2_2 a2_3) fun (x1,H2) =>
 if x1=1 then
  some (1,H2)
 else
  if a1=0 then
   some (0,H2)
  else
   Option.bind (L.run (z12 L a0 a1 a2_0 a2_1 a2_2 a2_3 x1 H2) (1,0)) fun o=>match o with
   | .inl (v8_6,_) =>
    some (v8_6,H2)
   | .inr r=>some r
noncomputable def B88:Code:=(Tryd.f88.body).getD .skip
noncomputable def z1j (L:LC) (rec_sort_counter_sort:Nat→AH→(Option Addr)→Int→Int→ByteArray→Sl3→Option (Int×AH)) (m:Nat) (q1:Addr) (_x11:Sl3) (_v5_13 _v34_14:Int) (_x16_0:ByteArray) (x16_1:Sl3):(AH×Int×Int)→Option (Lp (AH×Int×Int) (Int×AH)):=fun (H17,v8_18,v41_19) =>
 if v41_19<(x16_1.n:Int) then
  Option.bind (idxA 5 x16_1 v41_19) fun p20 =>
  Option.bind (rd deS H17 (Addr.add p20 0)) fun _ =>
  Option.bind (rd (deI .i64) H17 (Addr.add p20 1)) fun x21_1 =>
  Option.bind (rd (deI .i64) H17 (Addr.add p20 2)) fun x21_2 =>
  Option.bind (rd deS H17 (Addr.add p20 3)) fun x21_3 =>
  Option.bind (rd deSl H17 (Addr.add p20 4)) fun x21_4 =>
  Option.bind (rec_sort_counter_sort m H17 (some q1) x21_1 x21_2 x21_3 x21_4) fun (x22,H23) =>
  Option.bind (z1y L H23 (some q1) v8_18 x22) fun x24 =>
  some (.next (H23,x24,(IntKind.i64.wrap (v41_19+1))))
 else
  some (.brk (H17,v8_18,v41_19))
def za0 (_L:LC) (_rec_sort_counter_sort:Nat→AH→(Option Addr)→Int→Int→ByteArray→Sl3→Option (Int×AH)) (_m:Nat) (q1:Addr) (x11:Sl3) (v5_13 v34_14:Int) (x16_0:ByteArray) (x16_1:Sl3):(AH×Int×Int)→KN×Lcs:=fun (_,v8_18,v41_19)=>([kI 8 v8_18,kI 41 v41_19,kP 0 q1,kI 5 v5_13,kS 32 x11,kI 33 (x11.n:Int),kI 34 v34_14,kS 39 x16_1,kI 40 (x16_1.n:Int)],[some (50,[(Value.string x16_0),(Sl3.v x16_1)])])
noncomputable def zq (L:LC) (rec_sort_counter_sort:Nat→AH→(Option Addr)→Int→Int→ByteArray→Sl3→Option (Int×AH)) (m:Nat) (q1:Addr) (x11:Sl3):(AH×Int×Int)→Option (Lp (AH×Int×Int) (Int×AH)):=fun (H12,v5_13,v34_14) =>
 if v34_14<(x11.n:Int) then
  Option.bind (idxA 2 x11 v34_14) fun p15 =>
  Option.bind (rd deS H12 (Addr.add p15 0)) fun x16_0 =>
  Option.bind (rd deSl H12 (Addr.add p15 1)) fun x16_1 =>
  Option.bind (L.run (z1j L rec_sort_counter_sort m q1 x11 v5_13 v34_14 x16_0 x16_1) (H12,1,0)) fun o=>match o with
  | .inl (H25,v8_26,_) =>
   Option.bind (α:=Bool) (
    if v8_26=0 then
     some true
    else
     Option.bind (rd (deI .i64) H25 (Addr.add q1 1)) fun x29 =>
     some (decide (v5_13 > (IntKind.i64.wrap (x29 - v8_26))))) fun v64_28 =>
   if v64_28=true then
    some (.ret (0,H25))
   else
    some (.next (H25,(IntKind.i64.wrap (v5_13+v8_26)),(IntKind.i64.wrap (v34_14+1))))
  | .inr r=>some (.ret r)
 else
  some (.brk (H12,v5_13,v34_14))
def z9z (_L:LC) (_rec_sort_counter_sort:Nat→AH→(Option Addr)→Int→Int→ByteArray→Sl3→Option (Int×AH)) (_m:Nat) (q1:Addr) (x11:Sl3):(AH×Int×Int)→KN×Lcs:=fun (_,v5_13,v34_14)=>([kI 5 v5_13,kI 34 v34_14,kP 0 q1,kS 32 x11,kI 33 (x11.n:Int)],[])
noncomputable def z2j (L:LC) (rec_sort_counter_sort:Nat→AH→(Option Addr)→Int→Int→ByteArray→Sl3→Option (Int×AH)) (m:Nat) (H:AH) (a0:Option Addr) (a1:Int):Option (Int×AH) :=
 Option.bind a0 fun q1 =>
 Option.bind (rd deSl H (Addr.add q1 2)) fun x2 =>
 Option.bind (idxA 1 x2 a1) fun p3 =>
 Option.bind (rd deSl H p3) fun x4 =>
 Option.bind (idxA 1 x4 a1) fun p5 =>
 Option.bind (rd deB H p5) fun x6 =>
 if x6=true then
  some (0,H)
 else
  Option.bind (rd deP H (Addr.add q1 0)) fun x7 =>
  Option.bind x7 fun q8 =>
  Option.bind (rd deSl H (Addr.add (Addr.add q8 0) 1)) fun x9 =>
  Option.bind (idxA 2 x9 a1) fun p10 =>
  Option.bind (rd deSl H (Addr.add p10 1)) fun x11 =>
  Option.bind (L.run (zq L rec_sort_counter_sort m q1 x11) (H,0,0)) fun o=>match o with
  | .inl (H30,v5_31,_) =>
   some (v5_31,H30)
  | .inr r=>some r
noncomputable def zj (L:LC) (n:Nat):(Nat→AH→(Option Addr)→Int→Int→ByteArray→Sl3→Option (Int×AH))×(Nat→AH→(Option Addr)→Int→Int→Int→ByteArray→Sl3→Option (Int×AH))×(Nat→AH→(Option Addr)→Int→Option (Int×AH)):=Nat.rec (motive:=fun _=>(Nat→AH→(Option Addr)→Int→Int→ByteArray→Sl3→Option (Int×AH))×(Nat→AH→(Option Addr)→Int→Int→Int→ByteArray→Sl3→Option (Int×AH))×(Nat→AH→(Option Addr)→Int→Option (Int×AH))) ((fun _ _ _ _ _ _ _=>none),(fun _ _ _ _ _ _ _ _=>none),(fun _ _ _ _=>none)) (fun _ p=>(z2k L p.1 p.2.1 p.2.2,z22 L p.1,z2j L p.1)) n
noncomputable def z40 (L:LC) (m:Nat) (H:AH) (a0:Option Addr) (a1_0 a1_1:Int) (a1_2:ByteArray) (a1_3:Sl3):Option (Int×AH):=((zj L L.fuel).1) m H a0 a1_0 a1_1 a1_2 a1_3
theorem z3c {E m L H a0 a1_0 a1_1 a1_2 a1_3} :LoopF Tryd.prog (NE.plain 1000) m E Tryd.f55 ((cfst (csnd (csnd (cfst (csnd (csnd (csnd (cfst (csnd (cfst (csnd (csnd B55))))))))))))) (za4 L H a0 a1_0 a1_1 a1_2 a1_3) (fun _=>H) 1 z13 (z15 H) (z1k L H a0 a1_0 a1_1 a1_2 a1_3):=by
 rintro ⟨v5_3,v17_4⟩ o h
 unfold z1k at h
 try dsimp only at h
 refine WS.sq (WS.rg (RS.mS 1 [kB 18 (decide (v17_4<a1_1))] (RS.dn (WS.nxt (WS.sq ?_)))))
 rcases z8 h with ⟨hp,h⟩ | ⟨hp,h⟩
 ·refine WS.fx 18 true (decide_eq_true hp) (WS.cT (WS.sk (WS.nxt (WS.sq (WS.bk 2 (WS.rg (RS.mS 2 [kI 20 v5_3,(19,.val (Value.pointer a0))] ?_)))))))
  obtain ⟨x5,hx,h⟩:=bind_some h
  refine RS.cl (some 21) (v:=(Value.int .i64 x5)) 86 #[(Value.pointer a0),(Value.int .i64 v5_3),(Value.int .i64 2)] (z52 hx) (RS.mS 1 [kI 5 x5] (RS.dn ?_))
  refine fun a w hs=>bkN ((WS.nxt ?_ a w hs))
  refine WS.rg (RS.mS 2 [kI 17 (IntKind.i64.wrap (v17_4+1)),kI 22 (IntKind.i64.wrap (v17_4+1))] (RS.dn ?_))
  cases h
  exact fun a w hs=>lsN rfl (hs.sb 1)
 ·refine WS.fx 18 false (decide_eq_false hp) (WS.cF (WS.ex 1 ?_))
  cases h
  exact fun a w hs=>sqE (lsB rfl (hs.sb 1))
theorem z8v {L:LC} {rec_sort_counter_sort:Nat→AH→(Option Addr)→Int→Int→ByteArray→Sl3→Option (Int×AH)} {rec_sort_counter_array:Nat→AH→(Option Addr)→Int→Int→Int→ByteArray→Sl3→Option (Int×AH)} {rec_sort_counter_data:Nat→AH→(Option Addr)→Int→Option (Int×AH)} (hrec_sort_counter_sort:∀(m:Nat) (H:AH) (a0:Option Addr) (a1_0 a1_1:Int) (a1_2:ByteArray) (a1_3:Sl3) (r:(Int×AH)),rec_sort_counter_sort m H a0 a1_0 a1_1 a1_2 a1_3=some r→CallS Tryd.prog (NE.plain 1000) m 55 #[(Value.pointer a0),(Value.agg #[(Value.int .i64 a1_0),(Value.int .i64 a1_1),(Value.string a1_2),(Sl3.v a1_3)])] H (z13 r) (z15 H r)) (hrec_sort_counter_array:∀(m:Nat) (H:AH) (a0:Option Addr) (a1 a2_0 a2_1:Int) (a2_2:ByteArray) (a2_3:Sl3) (r:(Int×AH)),rec_sort_counter_array m H a0 a1 a2_0 a2_1 a2_2 a2_3=some r→CallS Tryd.prog (NE.plain 1000) m 87 #[(Value.pointer a0),(Value.int .i64 a1),(Value.agg #[(Value.int .i64 a2_0),(Value.int .i64 a2_1),(Value.string a2_2),(Sl3.v a2_3)])] H (z3o r) (z3u H r)) (hrec_sort_counter_data:∀(m:Nat) (H:AH) (a0:Option Addr) (a1:Int) (r:(Int×AH)),rec_sort_counter_data m H a0 a1=some r→CallS Tryd.prog (NE.plain 1000) m 88 #[(Value.pointer a0),(Value.int .i64 a1)] H (z2t r) (z31 H r)) {m:Nat} {H:AH} {a0:Option Addr} {a1_0 a1_1:Int} {a1_2:ByteArray} {a1_3:Sl3} {r:(Int×AH)} (h:z2k L rec_sort_counter_sort rec_sort_counter_array rec_sort_counter_data m H a0 a1_0 a1_1 a1_2 a1_3=some r) :
  CallS Tryd.prog (NE.plain 1000) m 55 #[(Value.pointer a0),(Value.agg #[(Value.int .i64 a1_0),(Value.int .i64 a1_1),(Value.string a1_2),(Sl3.v a1_3)])] H (z13 r) (z15 H r):=by
 refine CallS.mk (args:=[(Value.pointer a0),(Value.agg #[(Value.int .i64 a1_0),(Value.int .i64 a1_1),(Value.string a1_2),(Sl3.v a1_3)])]) Tryd.func55 (B:=B55) (by kernel_rfl) (fun E _=>?_)
 unfold z2k at h
 refine WS.sq (WS.rg (RS.mL 2 [kI 4 0,kL 3 0 0] ([some (28,[(Value.int .i64 a1_0),(Value.int .i64 a1_1),(Value.string a1_2),(Sl3.v a1_3)])]) (RS.dn (WS.nxt (WS.sq (WS.rg (RS.mS 1 [kI 5 0] (RS.dn (WS.nxt ?_)))))))))
 obtain ⟨o,hx,h⟩:=bind_some h
 rcases o with ⟨H1,v5_2⟩ | ro
 ·try dsimp only at h
  refine WS.sq ?_
  refine WS.join ([kI 5 v5_2,(0,.val (Value.pointer a0))]) ([some (28,[(Value.int .i64 a1_0),(Value.int .i64 a1_1),(Value.string a1_2),(Sl3.v a1_3)])]) H1 ?_ (fun a w hs=>WS.nxt ?_ a w hs)
  ·clear h; rename _=>h
   refine WS.sq (WS.rg (RS.mS 2 [kI 10 a1_0,kL 9 0 0] (RS.dn (WS.nxt (WS.bk 0 (WS.sq (WS.rg (RS.mS 2 [kB 11 (decide (a1_0=1)),kB 12 (decide (a1_0=1))] (RS.dn ?_)))))))))
   refine WS.nxt ?_
   rcases z8 h with ⟨hp,h⟩ | ⟨hp,h⟩
   ·refine WS.fx 11 true (decide_eq_true hp) (WS.cT (WS.rg (RS.mS 1 [kI 5 2] (RS.dn ?_))))
    cases h
    exact fun a w hs=>bkN ((jsN (hs.sb 1)))
   ·refine WS.fx 11 false (decide_eq_false hp) (WS.cF (WS.sq (WS.rg (RS.mS 2 [kB 13 (decide (a1_0=3)),kB 14 (decide (a1_0=3))] (RS.dn (WS.nxt ?_))))))
    rcases z8 h with ⟨hp,h⟩ | ⟨hp,h⟩
    ·refine WS.fx 13 true (decide_eq_true hp) (WS.cT (WS.sq (WS.rg (RS.mS 1 [kI 5 1] (RS.dn (WS.nxt (WS.sq (WS.rg (RS.mS 3 [kI 17 0,kI 16 a1_1,kL 15 0 1] ?_)))))))))
     refine RS.dn (WS.nxt (WS.bk 1 ?_))
     obtain ⟨o,hl,h⟩:=bind_some h
     rcases o with ⟨v5_6,v17_7⟩ | r
     ·try dsimp only at h
      refine WS.lI (z3c (L:=L) (E:=E) (m:=m) (H:=H)) (L.ok hl) 1 ?_
      clear hl
      cases h
      exact fun a w hs=>bkE (bkN ((jsN (hs.sb 1))))
     ·try dsimp only at h
      refine WS.lR (z3c (L:=L) (E:=E) (m:=m) (H:=H)) (L.ok hl) 1 ?_
      exact (zm3 h).elim
    ·refine WS.fx 13 false (decide_eq_false hp) (WS.cF (WS.sq (WS.rg (RS.mS 2 [kB 23 (decide (a1_0=4)),kB 24 (decide (a1_0=4))] (RS.dn (WS.nxt ?_))))))
     rcases z8 h with ⟨hp,h⟩ | ⟨hp,h⟩
     ·refine WS.fx 23 true (decide_eq_true hp) (WS.cT (WS.sq ?_))
      obtain ⟨p8,hx_4,h⟩:=bind_some h
      obtain ⟨x9_0,hx0_5,h⟩:=bind_some h
      obtain ⟨x9_1,hx1_5,h⟩:=bind_some h
      obtain ⟨x9_2,hx2_5,h⟩:=bind_some h
      obtain ⟨x9_3,hx3_5,h⟩:=bind_some h
      obtain ⟨⟨x10,H11⟩,hx_6,h⟩:=bind_some h
      try dsimp only at h
      obtain ⟨p12,hx_9,h⟩:=bind_some h
      obtain ⟨x13_0,hx0_10,h⟩:=bind_some h
      obtain ⟨x13_1,hx1_10,h⟩:=bind_some h
      obtain ⟨x13_2,hx2_10,h⟩:=bind_some h
      obtain ⟨x13_3,hx3_10,h⟩:=bind_some h
      obtain ⟨⟨x14,H15⟩,hx_11,h⟩:=bind_some h
      try dsimp only at h
      obtain ⟨x16_0,hx0_10_1,h⟩:=bind_some h
      obtain ⟨x16_1,hx1_10_1,h⟩:=bind_some h
      obtain ⟨x16_2,hx2_10_1,h⟩:=bind_some h
      obtain ⟨x16_3,hx3_10_1,h⟩:=bind_some h
      rcases z8 h with ⟨he,h⟩ | ⟨_,h⟩; rotate_left; cases h
      rw [← he] at hx0_10_1
      clear he
      rcases z8 h with ⟨he,h⟩ | ⟨_,h⟩; rotate_left; cases h
      rw [← he] at hx1_10_1
      clear he
      rcases z8 h with ⟨he,h⟩ | ⟨_,h⟩; rotate_left; cases h
      rw [← he] at hx2_10_1
      clear he
      rcases z8 h with ⟨he,h⟩ | ⟨_,h⟩; rotate_left; cases h
      rw [← he] at hx3_10_1
      clear he
      refine WS.toone ([kI 4 x14]) ([some (28,[(Value.int .i64 a1_0),(Value.int .i64 a1_1),(Value.string a1_2),(Sl3.v a1_3)])]) H15 ?_ ?_
      ·clear h
       refine WS.dr [] [0,0,0,4,12,28,62,0,128,384,896,2047,4095] 13 (fun hcl=>?_)
       refine DA.tP 0 (some 25) (Value.pointer a0) (DA.tP 1 (some 26) (Value.pointer a0) (DA.tPL 2 (some 27) (.loc 0 3) (DA.tPL 7 (some 32) (.loc 0 3) ?_)))
       refine DA.two 3 8 (by kernel_rfl) ?_ ?_
       ·refine DA.aL 3 (some 28) (.val (Sl3.v a1_3)) ([some (28,[(Value.int .i64 a1_0),(Value.int .i64 a1_1),(Value.string a1_2),(Sl3.v a1_3)])]) false (DA.tPx 4 (some 29) (Value.pointer (some p8)) (Abs.det_idx (s:=a1_3) (k:=.i64) (t:=26) (e:=28) (x:=.tmp 28) (y:=.const (Value.int .i64 0)) (by kernel_rfl) (by kernel_rfl) (by kernel_rfl) (by kernel_rfl) (by kernel_rfl) hx_4) ?_)
        refine DA.two 5 8 (by kernel_rfl) ?_ ?_
        ·refine DA.aH (H':=H) 5 (some 30) (Value.agg #[(Value.int .i64 x9_0),(Value.int .i64 x9_1),(Value.string x9_2),(Sl3.v x9_3)]) (Abs.run_loadAg (t:=28) (x:=.tmp 29) (a:=p8) (k:=4) (by kernel_rfl) (by kernel_rfl) (by kernel_rfl) (by kernel_rfl) (z7 (z0 hx0_5 z9) (z7 (z0 hx1_5 z9) (z7 (z0 hx2_5 zd) (z7 (z0 hx3_5 za) zf))))) ?_
         refine DA.two 6 8 (by kernel_rfl) ?_ ?_
         ·refine DA.aC 6 (some 31) (v:=(Value.int .i64 x10)) 55 #[(Value.pointer a0),(Value.agg #[(Value.int .i64 x9_0),(Value.int .i64 x9_1),(Value.string x9_2),(Sl3.v x9_3)])] (hrec_sort_counter_sort _ _ _ _ _ _ _ _ hx_6) (DA.on 8 (DA.aL 8 (some 33) (.val (Sl3.v a1_3)) ([some (28,[(Value.int .i64 a1_0),(Value.int .i64 a1_1),(Value.string a1_2),(Sl3.v a1_3)])]) false (DA.tPx 9 (some 34) (Value.pointer (some p12)) (Abs.det_idx (s:=a1_3) (k:=.i64) (t:=26) (e:=28) (x:=.tmp 33) (y:=.const (Value.int .i64 1)) (by kernel_rfl) (by kernel_rfl) (by kernel_rfl) (by kernel_rfl) (by kernel_rfl) hx_9) (DA.on 10 (DA.aH (H':=H11) 10 (some 35) (Value.agg #[(Value.int .i64 x13_0),(Value.int .i64 x13_1),(Value.string x13_2),(Sl3.v x13_3)]) (Abs.run_loadAg (t:=28) (x:=.tmp 34) (a:=p12) (k:=4) (by kernel_rfl) (by kernel_rfl) (by kernel_rfl) (by kernel_rfl) (z7 (z0 hx0_10 z9) (z7 (z0 hx1_10 z9) (z7 (z0 hx2_10 zd) (z7 (z0 hx3_10 za) zf))))) (DA.on 11 (DA.aC 11 (some 36) (v:=(Value.int .i64 x14)) 87 #[(Value.pointer a0),(Value.int .i64 x10),(Value.agg #[(Value.int .i64 x13_0),(Value.int .i64 x13_1),(Value.string x13_2),(Sl3.v x13_3)])] (hrec_sort_counter_array _ _ _ _ _ _ _ _ _ hx_11) (DA.tP 12 (some 4) (Value.int .i64 x14) (DA.dn ?_)))))))))
          exact fun a w hs=>jsN (hs.sb 1)
         ·refine DA.aL 8 (some 33) (.val (Sl3.v a1_3)) ([some (28,[(Value.int .i64 a1_0),(Value.int .i64 a1_1),(Value.string a1_2),(Sl3.v a1_3)])]) false (DA.tPx 9 (some 34) (Value.pointer (some p12)) (Abs.det_idx (s:=a1_3) (k:=.i64) (t:=26) (e:=28) (x:=.tmp 33) (y:=.const (Value.int .i64 1)) (by kernel_rfl) (by kernel_rfl) (by kernel_rfl) (by kernel_rfl) (by kernel_rfl) hx_9) ?_)
          refine DA.two 6 10 (by kernel_rfl) ?_ ?_
          ·refine DA.aC 6 (some 31) (v:=(Value.int .i64 x10)) 55 #[(Value.pointer a0),(Value.agg #[(Value.int .i64 x9_0),(Value.int .i64 x9_1),(Value.string x9_2),(Sl3.v x9_3)])] (hrec_sort_counter_sort _ _ _ _ _ _ _ _ hx_6) (DA.on 10 (DA.aH (H':=H11) 10 (some 35) (Value.agg #[(Value.int .i64 x13_0),(Value.int .i64 x13_1),(Value.string x13_2),(Sl3.v x13_3)]) (Abs.run_loadAg (t:=28) (x:=.tmp 34) (a:=p12) (k:=4) (by kernel_rfl) (by kernel_rfl) (by kernel_rfl) (by kernel_rfl) (z7 (z0 hx0_10 z9) (z7 (z0 hx1_10 z9) (z7 (z0 hx2_10 zd) (z7 (z0 hx3_10 za) zf))))) (DA.on 11 (DA.aC 11 (some 36) (v:=(Value.int .i64 x14)) 87 #[(Value.pointer a0),(Value.int .i64 x10),(Value.agg #[(Value.int .i64 x13_0),(Value.int .i64 x13_1),(Value.string x13_2),(Sl3.v x13_3)])] (hrec_sort_counter_array _ _ _ _ _ _ _ _ _ hx_11) (DA.tP 12 (some 4) (Value.int .i64 x14) (DA.dn ?_))))))
           exact fun a w hs=>jsN (hs.sb 1)
          ·refine DA.aH (H':=H) 10 (some 35) (Value.agg #[(Value.int .i64 x13_0),(Value.int .i64 x13_1),(Value.string x13_2),(Sl3.v x13_3)]) (Abs.run_loadAg (t:=28) (x:=.tmp 34) (a:=p12) (k:=4) (by kernel_rfl) (by kernel_rfl) (by kernel_rfl) (by kernel_rfl) (z7 (z0 hx0_10_1 z9) (z7 (z0 hx1_10_1 z9) (z7 (z0 hx2_10_1 zd) (z7 (z0 hx3_10_1 za) zf))))) (DA.on 6 (DA.aC 6 (some 31) (v:=(Value.int .i64 x10)) 55 #[(Value.pointer a0),(Value.agg #[(Value.int .i64 x9_0),(Value.int .i64 x9_1),(Value.string x9_2),(Sl3.v x9_3)])] (hrec_sort_counter_sort _ _ _ _ _ _ _ _ hx_6) (DA.on 11 (DA.aC 11 (some 36) (v:=(Value.int .i64 x14)) 87 #[(Value.pointer a0),(Value.int .i64 x10),(Value.agg #[(Value.int .i64 x13_0),(Value.int .i64 x13_1),(Value.string x13_2),(Sl3.v x13_3)])] (hrec_sort_counter_array _ _ _ _ _ _ _ _ _ hx_11) (DA.tP 12 (some 4) (Value.int .i64 x14) (DA.dn ?_))))))
           exact fun a w hs=>jsN (hs.sb 1)
        ·refine DA.aL 8 (some 33) (.val (Sl3.v a1_3)) ([some (28,[(Value.int .i64 a1_0),(Value.int .i64 a1_1),(Value.string a1_2),(Sl3.v a1_3)])]) false (DA.tPx 9 (some 34) (Value.pointer (some p12)) (Abs.det_idx (s:=a1_3) (k:=.i64) (t:=26) (e:=28) (x:=.tmp 33) (y:=.const (Value.int .i64 1)) (by kernel_rfl) (by kernel_rfl) (by kernel_rfl) (by kernel_rfl) (by kernel_rfl) hx_9) ?_)
         refine DA.two 5 10 (by kernel_rfl) ?_ ?_
         ·refine DA.aH (H':=H) 5 (some 30) (Value.agg #[(Value.int .i64 x9_0),(Value.int .i64 x9_1),(Value.string x9_2),(Sl3.v x9_3)]) (Abs.run_loadAg (t:=28) (x:=.tmp 29) (a:=p8) (k:=4) (by kernel_rfl) (by kernel_rfl) (by kernel_rfl) (by kernel_rfl) (z7 (z0 hx0_5 z9) (z7 (z0 hx1_5 z9) (z7 (z0 hx2_5 zd) (z7 (z0 hx3_5 za) zf))))) ?_
          refine DA.two 6 10 (by kernel_rfl) ?_ ?_
          ·refine DA.aC 6 (some 31) (v:=(Value.int .i64 x10)) 55 #[(Value.pointer a0),(Value.agg #[(Value.int .i64 x9_0),(Value.int .i64 x9_1),(Value.string x9_2),(Sl3.v x9_3)])] (hrec_sort_counter_sort _ _ _ _ _ _ _ _ hx_6) (DA.on 10 (DA.aH (H':=H11) 10 (some 35) (Value.agg #[(Value.int .i64 x13_0),(Value.int .i64 x13_1),(Value.string x13_2),(Sl3.v x13_3)]) (Abs.run_loadAg (t:=28) (x:=.tmp 34) (a:=p12) (k:=4) (by kernel_rfl) (by kernel_rfl) (by kernel_rfl) (by kernel_rfl) (z7 (z0 hx0_10 z9) (z7 (z0 hx1_10 z9) (z7 (z0 hx2_10 zd) (z7 (z0 hx3_10 za) zf))))) (DA.on 11 (DA.aC 11 (some 36) (v:=(Value.int .i64 x14)) 87 #[(Value.pointer a0),(Value.int .i64 x10),(Value.agg #[(Value.int .i64 x13_0),(Value.int .i64 x13_1),(Value.string x13_2),(Sl3.v x13_3)])] (hrec_sort_counter_array _ _ _ _ _ _ _ _ _ hx_11) (DA.tP 12 (some 4) (Value.int .i64 x14) (DA.dn ?_))))))
           exact fun a w hs=>jsN (hs.sb 1)
          ·refine DA.aH (H':=H) 10 (some 35) (Value.agg #[(Value.int .i64 x13_0),(Value.int .i64 x13_1),(Value.string x13_2),(Sl3.v x13_3)]) (Abs.run_loadAg (t:=28) (x:=.tmp 34) (a:=p12) (k:=4) (by kernel_rfl) (by kernel_rfl) (by kernel_rfl) (by kernel_rfl) (z7 (z0 hx0_10_1 z9) (z7 (z0 hx1_10_1 z9) (z7 (z0 hx2_10_1 zd) (z7 (z0 hx3_10_1 za) zf))))) (DA.on 6 (DA.aC 6 (some 31) (v:=(Value.int .i64 x10)) 55 #[(Value.pointer a0),(Value.agg #[(Value.int .i64 x9_0),(Value.int .i64 x9_1),(Value.string x9_2),(Sl3.v x9_3)])] (hrec_sort_counter_sort _ _ _ _ _ _ _ _ hx_6) (DA.on 11 (DA.aC 11 (some 36) (v:=(Value.int .i64 x14)) 87 #[(Value.pointer a0),(Value.int .i64 x10),(Value.agg #[(Value.int .i64 x13_0),(Value.int .i64 x13_1),(Value.string x13_2),(Sl3.v x13_3)])] (hrec_sort_counter_array _ _ _ _ _ _ _ _ _ hx_11) (DA.tP 12 (some 4) (Value.int .i64 x14) (DA.dn ?_))))))
           exact fun a w hs=>jsN (hs.sb 1)
         ·refine DA.aH (H':=H) 10 (some 35) (Value.agg #[(Value.int .i64 x13_0),(Value.int .i64 x13_1),(Value.string x13_2),(Sl3.v x13_3)]) (Abs.run_loadAg (t:=28) (x:=.tmp 34) (a:=p12) (k:=4) (by kernel_rfl) (by kernel_rfl) (by kernel_rfl) (by kernel_rfl) (z7 (z0 hx0_10_1 z9) (z7 (z0 hx1_10_1 z9) (z7 (z0 hx2_10_1 zd) (z7 (z0 hx3_10_1 za) zf))))) (DA.on 5 (DA.aH (H':=H) 5 (some 30) (Value.agg #[(Value.int .i64 x9_0),(Value.int .i64 x9_1),(Value.string x9_2),(Sl3.v x9_3)]) (Abs.run_loadAg (t:=28) (x:=.tmp 29) (a:=p8) (k:=4) (by kernel_rfl) (by kernel_rfl) (by kernel_rfl) (by kernel_rfl) (z7 (z0 hx0_5 z9) (z7 (z0 hx1_5 z9) (z7 (z0 hx2_5 zd) (z7 (z0 hx3_5 za) zf))))) (DA.on 6 (DA.aC 6 (some 31) (v:=(Value.int .i64 x10)) 55 #[(Value.pointer a0),(Value.agg #[(Value.int .i64 x9_0),(Value.int .i64 x9_1),(Value.string x9_2),(Sl3.v x9_3)])] (hrec_sort_counter_sort _ _ _ _ _ _ _ _ hx_6) (DA.on 11 (DA.aC 11 (some 36) (v:=(Value.int .i64 x14)) 87 #[(Value.pointer a0),(Value.int .i64 x10),(Value.agg #[(Value.int .i64 x13_0),(Value.int .i64 x13_1),(Value.string x13_2),(Sl3.v x13_3)])] (hrec_sort_counter_array _ _ _ _ _ _ _ _ _ hx_11) (DA.tP 12 (some 4) (Value.int .i64 x14) (DA.dn ?_))))))))
          exact fun a w hs=>jsN (hs.sb 1)
       ·refine DA.aL 8 (some 33) (.val (Sl3.v a1_3)) ([some (28,[(Value.int .i64 a1_0),(Value.int .i64 a1_1),(Value.string a1_2),(Sl3.v a1_3)])]) false (DA.tPx 9 (some 34) (Value.pointer (some p12)) (Abs.det_idx (s:=a1_3) (k:=.i64) (t:=26) (e:=28) (x:=.tmp 33) (y:=.const (Value.int .i64 1)) (by kernel_rfl) (by kernel_rfl) (by kernel_rfl) (by kernel_rfl) (by kernel_rfl) hx_9) ?_)
        refine DA.two 3 10 (by kernel_rfl) ?_ ?_
        ·refine DA.aL 3 (some 28) (.val (Sl3.v a1_3)) ([some (28,[(Value.int .i64 a1_0),(Value.int .i64 a1_1),(Value.string a1_2),(Sl3.v a1_3)])]) false (DA.tPx 4 (some 29) (Value.pointer (some p8)) (Abs.det_idx (s:=a1_3) (k:=.i64) (t:=26) (e:=28) (x:=.tmp 28) (y:=.const (Value.int .i64 0)) (by kernel_rfl) (by kernel_rfl) (by kernel_rfl) (by kernel_rfl) (by kernel_rfl) hx_4) ?_)
         refine DA.two 5 10 (by kernel_rfl) ?_ ?_
         ·refine DA.aH (H':=H) 5 (some 30) (Value.agg #[(Value.int .i64 x9_0),(Value.int .i64 x9_1),(Value.string x9_2),(Sl3.v x9_3)]) (Abs.run_loadAg (t:=28) (x:=.tmp 29) (a:=p8) (k:=4) (by kernel_rfl) (by kernel_rfl) (by kernel_rfl) (by kernel_rfl) (z7 (z0 hx0_5 z9) (z7 (z0 hx1_5 z9) (z7 (z0 hx2_5 zd) (z7 (z0 hx3_5 za) zf))))) ?_
          refine DA.two 6 10 (by kernel_rfl) ?_ ?_
          ·refine DA.aC 6 (some 31) (v:=(Value.int .i64 x10)) 55 #[(Value.pointer a0),(Value.agg #[(Value.int .i64 x9_0),(Value.int .i64 x9_1),(Value.string x9_2),(Sl3.v x9_3)])] (hrec_sort_counter_sort _ _ _ _ _ _ _ _ hx_6) (DA.on 10 (DA.aH (H':=H11) 10 (some 35) (Value.agg #[(Value.int .i64 x13_0),(Value.int .i64 x13_1),(Value.string x13_2),(Sl3.v x13_3)]) (Abs.run_loadAg (t:=28) (x:=.tmp 34) (a:=p12) (k:=4) (by kernel_rfl) (by kernel_rfl) (by kernel_rfl) (by kernel_rfl) (z7 (z0 hx0_10 z9) (z7 (z0 hx1_10 z9) (z7 (z0 hx2_10 zd) (z7 (z0 hx3_10 za) zf))))) (DA.on 11 (DA.aC 11 (some 36) (v:=(Value.int .i64 x14)) 87 #[(Value.pointer a0),(Value.int .i64 x10),(Value.agg #[(Value.int .i64 x13_0),(Value.int .i64 x13_1),(Value.string x13_2),(Sl3.v x13_3)])] (hrec_sort_counter_array _ _ _ _ _ _ _ _ _ hx_11) (DA.tP 12 (some 4) (Value.int .i64 x14) (DA.dn ?_))))))
           exact fun a w hs=>jsN (hs.sb 1)
          ·refine DA.aH (H':=H) 10 (some 35) (Value.agg #[(Value.int .i64 x13_0),(Value.int .i64 x13_1),(Value.string x13_2),(Sl3.v x13_3)]) (Abs.run_loadAg (t:=28) (x:=.tmp 34) (a:=p12) (k:=4) (by kernel_rfl) (by kernel_rfl) (by kernel_rfl) (by kernel_rfl) (z7 (z0 hx0_10_1 z9) (z7 (z0 hx1_10_1 z9) (z7 (z0 hx2_10_1 zd) (z7 (z0 hx3_10_1 za) zf))))) (DA.on 6 (DA.aC 6 (some 31) (v:=(Value.int .i64 x10)) 55 #[(Value.pointer a0),(Value.agg #[(Value.int .i64 x9_0),(Value.int .i64 x9_1),(Value.string x9_2),(Sl3.v x9_3)])] (hrec_sort_counter_sort _ _ _ _ _ _ _ _ hx_6) (DA.on 11 (DA.aC 11 (some 36) (v:=(Value.int .i64 x14)) 87 #[(Value.pointer a0),(Value.int .i64 x10),(Value.agg #[(Value.int .i64 x13_0),(Value.int .i64 x13_1),(Value.string x13_2),(Sl3.v x13_3)])] (hrec_sort_counter_array _ _ _ _ _ _ _ _ _ hx_11) (DA.tP 12 (some 4) (Value.int .i64 x14) (DA.dn ?_))))))
           exact fun a w hs=>jsN (hs.sb 1)
         ·refine DA.aH (H':=H) 10 (some 35) (Value.agg #[(Value.int .i64 x13_0),(Value.int .i64 x13_1),(Value.string x13_2),(Sl3.v x13_3)]) (Abs.run_loadAg (t:=28) (x:=.tmp 34) (a:=p12) (k:=4) (by kernel_rfl) (by kernel_rfl) (by kernel_rfl) (by kernel_rfl) (z7 (z0 hx0_10_1 z9) (z7 (z0 hx1_10_1 z9) (z7 (z0 hx2_10_1 zd) (z7 (z0 hx3_10_1 za) zf))))) (DA.on 5 (DA.aH (H':=H) 5 (some 30) (Value.agg #[(Value.int .i64 x9_0),(Value.int .i64 x9_1),(Value.string x9_2),(Sl3.v x9_3)]) (Abs.run_loadAg (t:=28) (x:=.tmp 29) (a:=p8) (k:=4) (by kernel_rfl) (by kernel_rfl) (by kernel_rfl) (by kernel_rfl) (z7 (z0 hx0_5 z9) (z7 (z0 hx1_5 z9) (z7 (z0 hx2_5 zd) (z7 (z0 hx3_5 za) zf))))) (DA.on 6 (DA.aC 6 (some 31) (v:=(Value.int .i64 x10)) 55 #[(Value.pointer a0),(Value.agg #[(Value.int .i64 x9_0),(Value.int .i64 x9_1),(Value.string x9_2),(Sl3.v x9_3)])] (hrec_sort_counter_sort _ _ _ _ _ _ _ _ hx_6) (DA.on 11 (DA.aC 11 (some 36) (v:=(Value.int .i64 x14)) 87 #[(Value.pointer a0),(Value.int .i64 x10),(Value.agg #[(Value.int .i64 x13_0),(Value.int .i64 x13_1),(Value.string x13_2),(Sl3.v x13_3)])] (hrec_sort_counter_array _ _ _ _ _ _ _ _ _ hx_11) (DA.tP 12 (some 4) (Value.int .i64 x14) (DA.dn ?_))))))))
          exact fun a w hs=>jsN (hs.sb 1)
        ·refine DA.aH (H':=H) 10 (some 35) (Value.agg #[(Value.int .i64 x13_0),(Value.int .i64 x13_1),(Value.string x13_2),(Sl3.v x13_3)]) (Abs.run_loadAg (t:=28) (x:=.tmp 34) (a:=p12) (k:=4) (by kernel_rfl) (by kernel_rfl) (by kernel_rfl) (by kernel_rfl) (z7 (z0 hx0_10_1 z9) (z7 (z0 hx1_10_1 z9) (z7 (z0 hx2_10_1 zd) (z7 (z0 hx3_10_1 za) zf))))) (DA.on 3 (DA.aL 3 (some 28) (.val (Sl3.v a1_3)) ([some (28,[(Value.int .i64 a1_0),(Value.int .i64 a1_1),(Value.string a1_2),(Sl3.v a1_3)])]) false (DA.tPx 4 (some 29) (Value.pointer (some p8)) (Abs.det_idx (s:=a1_3) (k:=.i64) (t:=26) (e:=28) (x:=.tmp 28) (y:=.const (Value.int .i64 0)) (by kernel_rfl) (by kernel_rfl) (by kernel_rfl) (by kernel_rfl) (by kernel_rfl) hx_4) (DA.on 5 (DA.aH (H':=H) 5 (some 30) (Value.agg #[(Value.int .i64 x9_0),(Value.int .i64 x9_1),(Value.string x9_2),(Sl3.v x9_3)]) (Abs.run_loadAg (t:=28) (x:=.tmp 29) (a:=p8) (k:=4) (by kernel_rfl) (by kernel_rfl) (by kernel_rfl) (by kernel_rfl) (z7 (z0 hx0_5 z9) (z7 (z0 hx1_5 z9) (z7 (z0 hx2_5 zd) (z7 (z0 hx3_5 za) zf))))) (DA.on 6 (DA.aC 6 (some 31) (v:=(Value.int .i64 x10)) 55 #[(Value.pointer a0),(Value.agg #[(Value.int .i64 x9_0),(Value.int .i64 x9_1),(Value.string x9_2),(Sl3.v x9_3)])] (hrec_sort_counter_sort _ _ _ _ _ _ _ _ hx_6) (DA.on 11 (DA.aC 11 (some 36) (v:=(Value.int .i64 x14)) 87 #[(Value.pointer a0),(Value.int .i64 x10),(Value.agg #[(Value.int .i64 x13_0),(Value.int .i64 x13_1),(Value.string x13_2),(Sl3.v x13_3)])] (hrec_sort_counter_array _ _ _ _ _ _ _ _ _ hx_11) ?_)))))))))
         refine DA.tP 12 (some 4) (Value.int .i64 x14) (DA.dn ?_)
         exact fun a w hs=>jsN (hs.sb 1)
      ·refine WS.nxt (WS.rt ?_)
       exact (zm3 h).elim
     ·refine WS.fx 23 false (decide_eq_false hp) (WS.cF (WS.sq (WS.rg (RS.mS 2 [kB 37 (decide (a1_0=6)),kB 38 (decide (a1_0=6))] (RS.dn (WS.nxt ?_))))))
      rcases z8 h with ⟨hp,h⟩ | ⟨hp,h⟩
      ·refine WS.fx 37 true (decide_eq_true hp) (WS.cT (WS.sq ?_))
       refine WS.dr [0,1,2,3,4,5,6,7,8,9,10,11,12] [0,1,3,7,15,31,63,0,128,0,512,1920,4095,8191] 14 (fun hcl=>?_)
       refine DA.tK 0 (some 39) (Value.pointer a0) ?_
       obtain ⟨q17,hx,hq17⟩:=bind_some h
       subst hx
       have h:=hq17
       refine DA.tK 1 (some 40) (Value.pointer (some q17)) (DA.tK 2 (some 41) (Value.pointer (some (Addr.add q17 0))) ?_)
       obtain ⟨x18,hx,h⟩:=bind_some h
       refine DA.tD 3 (some 42) (Value.pointer x18) (Abs.det_load (t:=66) (x:=.tmp 41) (a:=(Addr.add q17 0)) (by kernel_rfl) (by kernel_rfl) (by kernel_rfl) (by kernel_rfl) (z0 hx z4m)) ?_
       obtain ⟨q19,hx,hq19⟩:=bind_some h
       subst hx
       have h:=hq19
       refine DA.tK 4 (some 43) (Value.pointer (some q19)) (DA.tK 5 (some 44) (Value.pointer (some (Addr.add q19 3))) ?_)
       obtain ⟨x20,hx,h⟩:=bind_some h
       refine DA.tD 6 (some 45) (Value.map x20) (Abs.det_load (t:=94) (x:=.tmp 44) (a:=(Addr.add q19 3)) (by kernel_rfl) (by kernel_rfl) (by kernel_rfl) (by kernel_rfl) (z0 hx z3h)) (DA.tL 7 (some 46) (.loc 0 0) (DA.tL 8 (some 47) (.val (Value.int .i64 a1_0)) (DA.tL 9 (some 48) (.loc 0 2) (DA.tL 10 (some 49) (.val (Value.string a1_2)) (DA.tK 11 (some 50) (Value.agg #[(Value.int .i64 a1_0),(Value.string a1_2)]) ?_)))))
       obtain ⟨x21,hx,h⟩:=bind_some h
       refine DA.tD 12 (some 51) (Value.int .i64 x21) (Abs.det_look (t:=94) (x:=.tmp 45) (y:=.tmp 50) (mm:=x20) (k:=(Value.agg #[(Value.int .i64 a1_0),(Value.string a1_2)])) (by kernel_rfl) (by kernel_rfl) (by kernel_rfl) (by kernel_rfl) (lk1_eq hx z9)) (DA.tP 13 (some 6) (Value.int .i64 x21) (DA.dn (WS.nxt (WS.sq (WS.rg (RS.mS 3 [(55,.val (Value.pointer (some (Addr.add q17 3)))),kP 54 q17,kP 53 q17] ?_))))))
       obtain ⟨x22,hx,h⟩:=bind_some h
       refine RS.ld 56 115 (.tmp 55) (z0 hx z3h) (RS.mS 1 [kI 57 x21] ?_)
       obtain ⟨⟨x23,b24⟩,hx,h⟩:=bind_some h
       try dsimp only at h
       refine RS.o (H':=H) (some 58) (Value.tuple #[(Value.int .i64 x23),(Value.bool b24)]) (Abs.run_look (t:=115) (x:=.tmp 56) (y:=.tmp 57) (mm:=x22) (k:=(Value.int .i64 x21)) (by kernel_rfl) (by kernel_rfl) (by kernel_rfl) (by kernel_rfl) (lkM_eq hx z9)) (RS.mS 5 [kB 8 b24,kI 7 x23,kB 60 b24,kI 59 x23,(52,.val (Value.tuple #[(Value.int .i64 x23),(Value.bool b24)]))] (RS.dn (WS.nxt ?_)))
       obtain ⟨⟨H25,v7_26⟩,hx,h⟩:=bind_some h
       try dsimp only at h
       refine WS.sq ?_
       refine WS.join ([kI 7 v7_26,kP 0 q17]) ([some (28,[(Value.int .i64 a1_0),(Value.int .i64 a1_1),(Value.string a1_2),(Sl3.v a1_3)])]) H25 ?_ (fun a w hs=>WS.nxt ?_ a w hs)
       ·clear h; rename _=>h
        refine WS.sq (WS.rg (RS.mS 2 [kB 62 (!b24),kB 61 b24] (RS.dn (WS.nxt ?_))))
        rcases z8 h with ⟨hp,h⟩ | ⟨hp,h⟩
        ·refine WS.fx 62 false (nb_not hp) (WS.cF (WS.sk ?_))
         cases h
         exact fun a w hs=>(jsN (hs.sb 1))
        ·refine WS.fx 62 true (z2i hp) (WS.cT (WS.sq (WS.rg (RS.mS 2 [kI 64 x21,kP 63 q17] ?_))))
         obtain ⟨⟨x27,H28⟩,hx,h⟩:=bind_some h
         try dsimp only at h
         refine RS.cl (some 65) (v:=(Value.int .i64 x27)) 88 #[(Value.pointer (some q17)),(Value.int .i64 x21)] (hrec_sort_counter_data _ _ _ _ _ hx) (RS.mS 1 [kI 7 x27] (RS.dn (WS.nxt (WS.rg (RS.mS 3 [(68,.val (Value.pointer (some (Addr.add q17 3)))),kP 67 q17,kP 66 q17] ?_)))))
         obtain ⟨x29,hx,h⟩:=bind_some h
         refine RS.ld 69 115 (.tmp 68) (z0 hx z3h) (RS.mS 2 [kI 71 x27,kI 70 x21] ?_)
         obtain ⟨H30,hx,h⟩:=bind_some h
         refine RS.o (H':=H30) none undef (Abs.run_upM (t:=115) (x:=.tmp 69) (y:=.tmp 70) (z:=.tmp 71) (mm:=x29) (k:=(Value.int .i64 x21)) (v:=(Value.int .i64 x27)) (by kernel_rfl) (by kernel_rfl) (by kernel_rfl) (by kernel_rfl) (by kernel_rfl) hx) (RS.dn ?_)
         cases h
         exact fun a w hs=>(jsN (hs.sb 1))
       ·clear hx
        refine WS.rg (RS.mS 2 [kI 5 v7_26,kI 72 v7_26] (RS.dn ?_))
        cases h
        exact fun a w hs=>bkN ((jsN (hs.sb 1)))
      ·refine WS.fx 37 false (decide_eq_false hp) (WS.cF (WS.sk ?_))
       cases h
       exact fun a w hs=>bkN ((jsN (hs.sb 1)))
  ·clear hx
   refine WS.sq (WS.sq (WS.rg (RS.mS 2 [(74,.val (Value.pointer a0)),kI 73 v5_2] ?_)))
   obtain ⟨q31,hx,hq31⟩:=bind_some h
   subst hx
   have h:=hq31
   refine RS.mS 2 [(76,.val (Value.pointer (some (Addr.add q31 1)))),kP 75 q31] ?_
   obtain ⟨x32,hx,h⟩:=bind_some h
   refine RS.ld 77 3 (.tmp 76) (z0 hx z9) (RS.mS 1 [kB 78 (decide (v5_2 > x32))] (RS.dn (WS.nxt ?_)))
   rcases z8 h with ⟨hp,h⟩ | ⟨hp,h⟩
   ·refine WS.fx 78 true (decide_eq_true hp) (WS.cT (WS.sq (WS.rg (RS.mS 1 [kI 4 0] (RS.dn (WS.nxt (WS.rt ?_)))))))
    cases h
    exact fun a w hs=>sqR (rtR (rS hs))
   ·refine WS.fx 78 false (decide_eq_false hp) (WS.cF (WS.sk (WS.nxt (WS.sq (WS.rg (RS.mS 2 [kI 4 v5_2,kI 79 v5_2] (RS.dn (WS.nxt (WS.rt ?_)))))))))
    cases h
    exact fun a w hs=>rtR (rS hs)
 ·cases h; rename _=>h
  refine WS.sq (WS.sq (WS.rg (RS.mS 2 [kI 10 a1_0,kL 9 0 0] (RS.dn (WS.nxt (WS.bk 0 (WS.sq (WS.rg (RS.mS 2 [kB 11 (decide (a1_0=1)),kB 12 (decide (a1_0=1))] ?_)))))))))
  refine RS.dn (WS.nxt ?_)
  rcases z8 h with ⟨hp,h⟩ | ⟨hp,h⟩
  ·refine WS.fx 11 true (decide_eq_true hp) (WS.cT (WS.rg (RS.mS 1 [kI 5 2] (RS.dn ?_))))
   cases h
  ·refine WS.fx 11 false (decide_eq_false hp) (WS.cF (WS.sq (WS.rg (RS.mS 2 [kB 13 (decide (a1_0=3)),kB 14 (decide (a1_0=3))] (RS.dn (WS.nxt ?_))))))
   rcases z8 h with ⟨hp,h⟩ | ⟨hp,h⟩
   ·refine WS.fx 13 true (decide_eq_true hp) (WS.cT (WS.sq (WS.rg (RS.mS 1 [kI 5 1] (RS.dn (WS.nxt (WS.sq (WS.rg (RS.mS 3 [kI 17 0,kI 16 a1_1,kL 15 0 1] ?_)))))))))
    refine RS.dn (WS.nxt (WS.bk 1 ?_))
    obtain ⟨o,hl,h⟩:=bind_some h
    rcases o with ⟨v5_6,v17_7⟩ | r
    ·try dsimp only at h
     refine WS.lI (z3c (L:=L) (E:=E) (m:=m) (H:=H)) (L.ok hl) 1 ?_
     clear hl
     cases h
    ·try dsimp only at h
     refine WS.lR (z3c (L:=L) (E:=E) (m:=m) (H:=H)) (L.ok hl) 1 ?_
     replace h:=zlw h
     cases h
     exact fun a w hq=>bkR (bkR (sqR (rtR hq)))
   ·refine WS.fx 13 false (decide_eq_false hp) (WS.cF (WS.sq (WS.rg (RS.mS 2 [kB 23 (decide (a1_0=4)),kB 24 (decide (a1_0=4))] (RS.dn (WS.nxt ?_))))))
    rcases z8 h with ⟨hp,h⟩ | ⟨hp,h⟩
    ·refine WS.fx 23 true (decide_eq_true hp) (WS.cT (WS.sq ?_))
     obtain ⟨p8,hx_4,h⟩:=bind_some h
     obtain ⟨x9_0,hx0_5,h⟩:=bind_some h
     obtain ⟨x9_1,hx1_5,h⟩:=bind_some h
     obtain ⟨x9_2,hx2_5,h⟩:=bind_some h
     obtain ⟨x9_3,hx3_5,h⟩:=bind_some h
     obtain ⟨⟨x10,H11⟩,hx_6,h⟩:=bind_some h
     try dsimp only at h
     obtain ⟨p12,hx_9,h⟩:=bind_some h
     obtain ⟨x13_0,hx0_10,h⟩:=bind_some h
     obtain ⟨x13_1,hx1_10,h⟩:=bind_some h
     obtain ⟨x13_2,hx2_10,h⟩:=bind_some h
     obtain ⟨x13_3,hx3_10,h⟩:=bind_some h
     obtain ⟨⟨x14,H15⟩,hx_11,h⟩:=bind_some h
     try dsimp only at h
     obtain ⟨x16_0,hx0_10_1,h⟩:=bind_some h
     obtain ⟨x16_1,hx1_10_1,h⟩:=bind_some h
     obtain ⟨x16_2,hx2_10_1,h⟩:=bind_some h
     obtain ⟨x16_3,hx3_10_1,h⟩:=bind_some h
     rcases z8 h with ⟨he,h⟩ | ⟨_,h⟩; rotate_left; cases h
     rw [← he] at hx0_10_1
     clear he
     rcases z8 h with ⟨he,h⟩ | ⟨_,h⟩; rotate_left; cases h
     rw [← he] at hx1_10_1
     clear he
     rcases z8 h with ⟨he,h⟩ | ⟨_,h⟩; rotate_left; cases h
     rw [← he] at hx2_10_1
     clear he
     rcases z8 h with ⟨he,h⟩ | ⟨_,h⟩; rotate_left; cases h
     rw [← he] at hx3_10_1
     clear he
     refine WS.toone ([kI 4 x14]) ([some (28,[(Value.int .i64 a1_0),(Value.int .i64 a1_1),(Value.string a1_2),(Sl3.v a1_3)])]) H15 ?_ ?_
     ·clear h
      refine WS.dr [] [0,0,0,4,12,28,62,0,128,384,896,2047,4095] 13 (fun hcl=>?_)
      refine DA.tP 0 (some 25) (Value.pointer a0) (DA.tP 1 (some 26) (Value.pointer a0) (DA.tPL 2 (some 27) (.loc 0 3) (DA.tPL 7 (some 32) (.loc 0 3) ?_)))
      refine DA.two 3 8 (by kernel_rfl) ?_ ?_
      ·refine DA.aL 3 (some 28) (.val (Sl3.v a1_3)) ([some (28,[(Value.int .i64 a1_0),(Value.int .i64 a1_1),(Value.string a1_2),(Sl3.v a1_3)])]) false (DA.tPx 4 (some 29) (Value.pointer (some p8)) (Abs.det_idx (s:=a1_3) (k:=.i64) (t:=26) (e:=28) (x:=.tmp 28) (y:=.const (Value.int .i64 0)) (by kernel_rfl) (by kernel_rfl) (by kernel_rfl) (by kernel_rfl) (by kernel_rfl) hx_4) ?_)
       refine DA.two 5 8 (by kernel_rfl) ?_ ?_
       ·refine DA.aH (H':=H) 5 (some 30) (Value.agg #[(Value.int .i64 x9_0),(Value.int .i64 x9_1),(Value.string x9_2),(Sl3.v x9_3)]) (Abs.run_loadAg (t:=28) (x:=.tmp 29) (a:=p8) (k:=4) (by kernel_rfl) (by kernel_rfl) (by kernel_rfl) (by kernel_rfl) (z7 (z0 hx0_5 z9) (z7 (z0 hx1_5 z9) (z7 (z0 hx2_5 zd) (z7 (z0 hx3_5 za) zf))))) ?_
        refine DA.two 6 8 (by kernel_rfl) ?_ ?_
        ·refine DA.aC 6 (some 31) (v:=(Value.int .i64 x10)) 55 #[(Value.pointer a0),(Value.agg #[(Value.int .i64 x9_0),(Value.int .i64 x9_1),(Value.string x9_2),(Sl3.v x9_3)])] (hrec_sort_counter_sort _ _ _ _ _ _ _ _ hx_6) (DA.on 8 (DA.aL 8 (some 33) (.val (Sl3.v a1_3)) ([some (28,[(Value.int .i64 a1_0),(Value.int .i64 a1_1),(Value.string a1_2),(Sl3.v a1_3)])]) false (DA.tPx 9 (some 34) (Value.pointer (some p12)) (Abs.det_idx (s:=a1_3) (k:=.i64) (t:=26) (e:=28) (x:=.tmp 33) (y:=.const (Value.int .i64 1)) (by kernel_rfl) (by kernel_rfl) (by kernel_rfl) (by kernel_rfl) (by kernel_rfl) hx_9) (DA.on 10 (DA.aH (H':=H11) 10 (some 35) (Value.agg #[(Value.int .i64 x13_0),(Value.int .i64 x13_1),(Value.string x13_2),(Sl3.v x13_3)]) (Abs.run_loadAg (t:=28) (x:=.tmp 34) (a:=p12) (k:=4) (by kernel_rfl) (by kernel_rfl) (by kernel_rfl) (by kernel_rfl) (z7 (z0 hx0_10 z9) (z7 (z0 hx1_10 z9) (z7 (z0 hx2_10 zd) (z7 (z0 hx3_10 za) zf))))) (DA.on 11 (DA.aC 11 (some 36) (v:=(Value.int .i64 x14)) 87 #[(Value.pointer a0),(Value.int .i64 x10),(Value.agg #[(Value.int .i64 x13_0),(Value.int .i64 x13_1),(Value.string x13_2),(Sl3.v x13_3)])] (hrec_sort_counter_array _ _ _ _ _ _ _ _ _ hx_11) (DA.tP 12 (some 4) (Value.int .i64 x14) (DA.dn ?_)))))))))
         exact fun a w hs=>jsN (hs.sb 1)
        ·refine DA.aL 8 (some 33) (.val (Sl3.v a1_3)) ([some (28,[(Value.int .i64 a1_0),(Value.int .i64 a1_1),(Value.string a1_2),(Sl3.v a1_3)])]) false (DA.tPx 9 (some 34) (Value.pointer (some p12)) (Abs.det_idx (s:=a1_3) (k:=.i64) (t:=26) (e:=28) (x:=.tmp 33) (y:=.const (Value.int .i64 1)) (by kernel_rfl) (by kernel_rfl) (by kernel_rfl) (by kernel_rfl) (by kernel_rfl) hx_9) ?_)
         refine DA.two 6 10 (by kernel_rfl) ?_ ?_
         ·refine DA.aC 6 (some 31) (v:=(Value.int .i64 x10)) 55 #[(Value.pointer a0),(Value.agg #[(Value.int .i64 x9_0),(Value.int .i64 x9_1),(Value.string x9_2),(Sl3.v x9_3)])] (hrec_sort_counter_sort _ _ _ _ _ _ _ _ hx_6) (DA.on 10 (DA.aH (H':=H11) 10 (some 35) (Value.agg #[(Value.int .i64 x13_0),(Value.int .i64 x13_1),(Value.string x13_2),(Sl3.v x13_3)]) (Abs.run_loadAg (t:=28) (x:=.tmp 34) (a:=p12) (k:=4) (by kernel_rfl) (by kernel_rfl) (by kernel_rfl) (by kernel_rfl) (z7 (z0 hx0_10 z9) (z7 (z0 hx1_10 z9) (z7 (z0 hx2_10 zd) (z7 (z0 hx3_10 za) zf))))) (DA.on 11 (DA.aC 11 (some 36) (v:=(Value.int .i64 x14)) 87 #[(Value.pointer a0),(Value.int .i64 x10),(Value.agg #[(Value.int .i64 x13_0),(Value.int .i64 x13_1),(Value.string x13_2),(Sl3.v x13_3)])] (hrec_sort_counter_array _ _ _ _ _ _ _ _ _ hx_11) (DA.tP 12 (some 4) (Value.int .i64 x14) (DA.dn ?_))))))
          exact fun a w hs=>jsN (hs.sb 1)
         ·refine DA.aH (H':=H) 10 (some 35) (Value.agg #[(Value.int .i64 x13_0),(Value.int .i64 x13_1),(Value.string x13_2),(Sl3.v x13_3)]) (Abs.run_loadAg (t:=28) (x:=.tmp 34) (a:=p12) (k:=4) (by kernel_rfl) (by kernel_rfl) (by kernel_rfl) (by kernel_rfl) (z7 (z0 hx0_10_1 z9) (z7 (z0 hx1_10_1 z9) (z7 (z0 hx2_10_1 zd) (z7 (z0 hx3_10_1 za) zf))))) (DA.on 6 (DA.aC 6 (some 31) (v:=(Value.int .i64 x10)) 55 #[(Value.pointer a0),(Value.agg #[(Value.int .i64 x9_0),(Value.int .i64 x9_1),(Value.string x9_2),(Sl3.v x9_3)])] (hrec_sort_counter_sort _ _ _ _ _ _ _ _ hx_6) (DA.on 11 (DA.aC 11 (some 36) (v:=(Value.int .i64 x14)) 87 #[(Value.pointer a0),(Value.int .i64 x10),(Value.agg #[(Value.int .i64 x13_0),(Value.int .i64 x13_1),(Value.string x13_2),(Sl3.v x13_3)])] (hrec_sort_counter_array _ _ _ _ _ _ _ _ _ hx_11) (DA.tP 12 (some 4) (Value.int .i64 x14) (DA.dn ?_))))))
          exact fun a w hs=>jsN (hs.sb 1)
       ·refine DA.aL 8 (some 33) (.val (Sl3.v a1_3)) ([some (28,[(Value.int .i64 a1_0),(Value.int .i64 a1_1),(Value.string a1_2),(Sl3.v a1_3)])]) false (DA.tPx 9 (some 34) (Value.pointer (some p12)) (Abs.det_idx (s:=a1_3) (k:=.i64) (t:=26) (e:=28) (x:=.tmp 33) (y:=.const (Value.int .i64 1)) (by kernel_rfl) (by kernel_rfl) (by kernel_rfl) (by kernel_rfl) (by kernel_rfl) hx_9) ?_)
        refine DA.two 5 10 (by kernel_rfl) ?_ ?_
        ·refine DA.aH (H':=H) 5 (some 30) (Value.agg #[(Value.int .i64 x9_0),(Value.int .i64 x9_1),(Value.string x9_2),(Sl3.v x9_3)]) (Abs.run_loadAg (t:=28) (x:=.tmp 29) (a:=p8) (k:=4) (by kernel_rfl) (by kernel_rfl) (by kernel_rfl) (by kernel_rfl) (z7 (z0 hx0_5 z9) (z7 (z0 hx1_5 z9) (z7 (z0 hx2_5 zd) (z7 (z0 hx3_5 za) zf))))) ?_
         refine DA.two 6 10 (by kernel_rfl) ?_ ?_
         ·refine DA.aC 6 (some 31) (v:=(Value.int .i64 x10)) 55 #[(Value.pointer a0),(Value.agg #[(Value.int .i64 x9_0),(Value.int .i64 x9_1),(Value.string x9_2),(Sl3.v x9_3)])] (hrec_sort_counter_sort _ _ _ _ _ _ _ _ hx_6) (DA.on 10 (DA.aH (H':=H11) 10 (some 35) (Value.agg #[(Value.int .i64 x13_0),(Value.int .i64 x13_1),(Value.string x13_2),(Sl3.v x13_3)]) (Abs.run_loadAg (t:=28) (x:=.tmp 34) (a:=p12) (k:=4) (by kernel_rfl) (by kernel_rfl) (by kernel_rfl) (by kernel_rfl) (z7 (z0 hx0_10 z9) (z7 (z0 hx1_10 z9) (z7 (z0 hx2_10 zd) (z7 (z0 hx3_10 za) zf))))) (DA.on 11 (DA.aC 11 (some 36) (v:=(Value.int .i64 x14)) 87 #[(Value.pointer a0),(Value.int .i64 x10),(Value.agg #[(Value.int .i64 x13_0),(Value.int .i64 x13_1),(Value.string x13_2),(Sl3.v x13_3)])] (hrec_sort_counter_array _ _ _ _ _ _ _ _ _ hx_11) (DA.tP 12 (some 4) (Value.int .i64 x14) (DA.dn ?_))))))
          exact fun a w hs=>jsN (hs.sb 1)
         ·refine DA.aH (H':=H) 10 (some 35) (Value.agg #[(Value.int .i64 x13_0),(Value.int .i64 x13_1),(Value.string x13_2),(Sl3.v x13_3)]) (Abs.run_loadAg (t:=28) (x:=.tmp 34) (a:=p12) (k:=4) (by kernel_rfl) (by kernel_rfl) (by kernel_rfl) (by kernel_rfl) (z7 (z0 hx0_10_1 z9) (z7 (z0 hx1_10_1 z9) (z7 (z0 hx2_10_1 zd) (z7 (z0 hx3_10_1 za) zf))))) (DA.on 6 (DA.aC 6 (some 31) (v:=(Value.int .i64 x10)) 55 #[(Value.pointer a0),(Value.agg #[(Value.int .i64 x9_0),(Value.int .i64 x9_1),(Value.string x9_2),(Sl3.v x9_3)])] (hrec_sort_counter_sort _ _ _ _ _ _ _ _ hx_6) (DA.on 11 (DA.aC 11 (some 36) (v:=(Value.int .i64 x14)) 87 #[(Value.pointer a0),(Value.int .i64 x10),(Value.agg #[(Value.int .i64 x13_0),(Value.int .i64 x13_1),(Value.string x13_2),(Sl3.v x13_3)])] (hrec_sort_counter_array _ _ _ _ _ _ _ _ _ hx_11) (DA.tP 12 (some 4) (Value.int .i64 x14) (DA.dn ?_))))))
          exact fun a w hs=>jsN (hs.sb 1)
        ·refine DA.aH (H':=H) 10 (some 35) (Value.agg #[(Value.int .i64 x13_0),(Value.int .i64 x13_1),(Value.string x13_2),(Sl3.v x13_3)]) (Abs.run_loadAg (t:=28) (x:=.tmp 34) (a:=p12) (k:=4) (by kernel_rfl) (by kernel_rfl) (by kernel_rfl) (by kernel_rfl) (z7 (z0 hx0_10_1 z9) (z7 (z0 hx1_10_1 z9) (z7 (z0 hx2_10_1 zd) (z7 (z0 hx3_10_1 za) zf))))) (DA.on 5 (DA.aH (H':=H) 5 (some 30) (Value.agg #[(Value.int .i64 x9_0),(Value.int .i64 x9_1),(Value.string x9_2),(Sl3.v x9_3)]) (Abs.run_loadAg (t:=28) (x:=.tmp 29) (a:=p8) (k:=4) (by kernel_rfl) (by kernel_rfl) (by kernel_rfl) (by kernel_rfl) (z7 (z0 hx0_5 z9) (z7 (z0 hx1_5 z9) (z7 (z0 hx2_5 zd) (z7 (z0 hx3_5 za) zf))))) (DA.on 6 (DA.aC 6 (some 31) (v:=(Value.int .i64 x10)) 55 #[(Value.pointer a0),(Value.agg #[(Value.int .i64 x9_0),(Value.int .i64 x9_1),(Value.string x9_2),(Sl3.v x9_3)])] (hrec_sort_counter_sort _ _ _ _ _ _ _ _ hx_6) (DA.on 11 (DA.aC 11 (some 36) (v:=(Value.int .i64 x14)) 87 #[(Value.pointer a0),(Value.int .i64 x10),(Value.agg #[(Value.int .i64 x13_0),(Value.int .i64 x13_1),(Value.string x13_2),(Sl3.v x13_3)])] (hrec_sort_counter_array _ _ _ _ _ _ _ _ _ hx_11) (DA.tP 12 (some 4) (Value.int .i64 x14) (DA.dn ?_))))))))
         exact fun a w hs=>jsN (hs.sb 1)
      ·refine DA.aL 8 (some 33) (.val (Sl3.v a1_3)) ([some (28,[(Value.int .i64 a1_0),(Value.int .i64 a1_1),(Value.string a1_2),(Sl3.v a1_3)])]) false (DA.tPx 9 (some 34) (Value.pointer (some p12)) (Abs.det_idx (s:=a1_3) (k:=.i64) (t:=26) (e:=28) (x:=.tmp 33) (y:=.const (Value.int .i64 1)) (by kernel_rfl) (by kernel_rfl) (by kernel_rfl) (by kernel_rfl) (by kernel_rfl) hx_9) ?_)
       refine DA.two 3 10 (by kernel_rfl) ?_ ?_
       ·refine DA.aL 3 (some 28) (.val (Sl3.v a1_3)) ([some (28,[(Value.int .i64 a1_0),(Value.int .i64 a1_1),(Value.string a1_2),(Sl3.v a1_3)])]) false (DA.tPx 4 (some 29) (Value.pointer (some p8)) (Abs.det_idx (s:=a1_3) (k:=.i64) (t:=26) (e:=28) (x:=.tmp 28) (y:=.const (Value.int .i64 0)) (by kernel_rfl) (by kernel_rfl) (by kernel_rfl) (by kernel_rfl) (by kernel_rfl) hx_4) ?_)
        refine DA.two 5 10 (by kernel_rfl) ?_ ?_
        ·refine DA.aH (H':=H) 5 (some 30) (Value.agg #[(Value.int .i64 x9_0),(Value.int .i64 x9_1),(Value.string x9_2),(Sl3.v x9_3)]) (Abs.run_loadAg (t:=28) (x:=.tmp 29) (a:=p8) (k:=4) (by kernel_rfl) (by kernel_rfl) (by kernel_rfl) (by kernel_rfl) (z7 (z0 hx0_5 z9) (z7 (z0 hx1_5 z9) (z7 (z0 hx2_5 zd) (z7 (z0 hx3_5 za) zf))))) ?_
         refine DA.two 6 10 (by kernel_rfl) ?_ ?_
         ·refine DA.aC 6 (some 31) (v:=(Value.int .i64 x10)) 55 #[(Value.pointer a0),(Value.agg #[(Value.int .i64 x9_0),(Value.int .i64 x9_1),(Value.string x9_2),(Sl3.v x9_3)])] (hrec_sort_counter_sort _ _ _ _ _ _ _ _ hx_6) (DA.on 10 (DA.aH (H':=H11) 10 (some 35) (Value.agg #[(Value.int .i64 x13_0),(Value.int .i64 x13_1),(Value.string x13_2),(Sl3.v x13_3)]) (Abs.run_loadAg (t:=28) (x:=.tmp 34) (a:=p12) (k:=4) (by kernel_rfl) (by kernel_rfl) (by kernel_rfl) (by kernel_rfl) (z7 (z0 hx0_10 z9) (z7 (z0 hx1_10 z9) (z7 (z0 hx2_10 zd) (z7 (z0 hx3_10 za) zf))))) (DA.on 11 (DA.aC 11 (some 36) (v:=(Value.int .i64 x14)) 87 #[(Value.pointer a0),(Value.int .i64 x10),(Value.agg #[(Value.int .i64 x13_0),(Value.int .i64 x13_1),(Value.string x13_2),(Sl3.v x13_3)])] (hrec_sort_counter_array _ _ _ _ _ _ _ _ _ hx_11) (DA.tP 12 (some 4) (Value.int .i64 x14) (DA.dn ?_))))))
          exact fun a w hs=>jsN (hs.sb 1)
         ·refine DA.aH (H':=H) 10 (some 35) (Value.agg #[(Value.int .i64 x13_0),(Value.int .i64 x13_1),(Value.string x13_2),(Sl3.v x13_3)]) (Abs.run_loadAg (t:=28) (x:=.tmp 34) (a:=p12) (k:=4) (by kernel_rfl) (by kernel_rfl) (by kernel_rfl) (by kernel_rfl) (z7 (z0 hx0_10_1 z9) (z7 (z0 hx1_10_1 z9) (z7 (z0 hx2_10_1 zd) (z7 (z0 hx3_10_1 za) zf))))) (DA.on 6 (DA.aC 6 (some 31) (v:=(Value.int .i64 x10)) 55 #[(Value.pointer a0),(Value.agg #[(Value.int .i64 x9_0),(Value.int .i64 x9_1),(Value.string x9_2),(Sl3.v x9_3)])] (hrec_sort_counter_sort _ _ _ _ _ _ _ _ hx_6) (DA.on 11 (DA.aC 11 (some 36) (v:=(Value.int .i64 x14)) 87 #[(Value.pointer a0),(Value.int .i64 x10),(Value.agg #[(Value.int .i64 x13_0),(Value.int .i64 x13_1),(Value.string x13_2),(Sl3.v x13_3)])] (hrec_sort_counter_array _ _ _ _ _ _ _ _ _ hx_11) (DA.tP 12 (some 4) (Value.int .i64 x14) (DA.dn ?_))))))
          exact fun a w hs=>jsN (hs.sb 1)
        ·refine DA.aH (H':=H) 10 (some 35) (Value.agg #[(Value.int .i64 x13_0),(Value.int .i64 x13_1),(Value.string x13_2),(Sl3.v x13_3)]) (Abs.run_loadAg (t:=28) (x:=.tmp 34) (a:=p12) (k:=4) (by kernel_rfl) (by kernel_rfl) (by kernel_rfl) (by kernel_rfl) (z7 (z0 hx0_10_1 z9) (z7 (z0 hx1_10_1 z9) (z7 (z0 hx2_10_1 zd) (z7 (z0 hx3_10_1 za) zf))))) (DA.on 5 (DA.aH (H':=H) 5 (some 30) (Value.agg #[(Value.int .i64 x9_0),(Value.int .i64 x9_1),(Value.string x9_2),(Sl3.v x9_3)]) (Abs.run_loadAg (t:=28) (x:=.tmp 29) (a:=p8) (k:=4) (by kernel_rfl) (by kernel_rfl) (by kernel_rfl) (by kernel_rfl) (z7 (z0 hx0_5 z9) (z7 (z0 hx1_5 z9) (z7 (z0 hx2_5 zd) (z7 (z0 hx3_5 za) zf))))) (DA.on 6 (DA.aC 6 (some 31) (v:=(Value.int .i64 x10)) 55 #[(Value.pointer a0),(Value.agg #[(Value.int .i64 x9_0),(Value.int .i64 x9_1),(Value.string x9_2),(Sl3.v x9_3)])] (hrec_sort_counter_sort _ _ _ _ _ _ _ _ hx_6) (DA.on 11 (DA.aC 11 (some 36) (v:=(Value.int .i64 x14)) 87 #[(Value.pointer a0),(Value.int .i64 x10),(Value.agg #[(Value.int .i64 x13_0),(Value.int .i64 x13_1),(Value.string x13_2),(Sl3.v x13_3)])] (hrec_sort_counter_array _ _ _ _ _ _ _ _ _ hx_11) (DA.tP 12 (some 4) (Value.int .i64 x14) (DA.dn ?_))))))))
         exact fun a w hs=>jsN (hs.sb 1)
       ·refine DA.aH (H':=H) 10 (some 35) (Value.agg #[(Value.int .i64 x13_0),(Value.int .i64 x13_1),(Value.string x13_2),(Sl3.v x13_3)]) (Abs.run_loadAg (t:=28) (x:=.tmp 34) (a:=p12) (k:=4) (by kernel_rfl) (by kernel_rfl) (by kernel_rfl) (by kernel_rfl) (z7 (z0 hx0_10_1 z9) (z7 (z0 hx1_10_1 z9) (z7 (z0 hx2_10_1 zd) (z7 (z0 hx3_10_1 za) zf))))) (DA.on 3 (DA.aL 3 (some 28) (.val (Sl3.v a1_3)) ([some (28,[(Value.int .i64 a1_0),(Value.int .i64 a1_1),(Value.string a1_2),(Sl3.v a1_3)])]) false (DA.tPx 4 (some 29) (Value.pointer (some p8)) (Abs.det_idx (s:=a1_3) (k:=.i64) (t:=26) (e:=28) (x:=.tmp 28) (y:=.const (Value.int .i64 0)) (by kernel_rfl) (by kernel_rfl) (by kernel_rfl) (by kernel_rfl) (by kernel_rfl) hx_4) (DA.on 5 (DA.aH (H':=H) 5 (some 30) (Value.agg #[(Value.int .i64 x9_0),(Value.int .i64 x9_1),(Value.string x9_2),(Sl3.v x9_3)]) (Abs.run_loadAg (t:=28) (x:=.tmp 29) (a:=p8) (k:=4) (by kernel_rfl) (by kernel_rfl) (by kernel_rfl) (by kernel_rfl) (z7 (z0 hx0_5 z9) (z7 (z0 hx1_5 z9) (z7 (z0 hx2_5 zd) (z7 (z0 hx3_5 za) zf))))) (DA.on 6 (DA.aC 6 (some 31) (v:=(Value.int .i64 x10)) 55 #[(Value.pointer a0),(Value.agg #[(Value.int .i64 x9_0),(Value.int .i64 x9_1),(Value.string x9_2),(Sl3.v x9_3)])] (hrec_sort_counter_sort _ _ _ _ _ _ _ _ hx_6) (DA.on 11 (DA.aC 11 (some 36) (v:=(Value.int .i64 x14)) 87 #[(Value.pointer a0),(Value.int .i64 x10),(Value.agg #[(Value.int .i64 x13_0),(Value.int .i64 x13_1),(Value.string x13_2),(Sl3.v x13_3)])] (hrec_sort_counter_array _ _ _ _ _ _ _ _ _ hx_11) ?_)))))))))
        refine DA.tP 12 (some 4) (Value.int .i64 x14) (DA.dn ?_)
        exact fun a w hs=>jsN (hs.sb 1)
     ·refine WS.nxt (WS.rt ?_)
      replace h:=zlw h
      cases h
      exact fun a w hs=>bkR (sqR (rtR (rS hs)))
    ·refine WS.fx 23 false (decide_eq_false hp) (WS.cF (WS.sq (WS.rg (RS.mS 2 [kB 37 (decide (a1_0=6)),kB 38 (decide (a1_0=6))] (RS.dn (WS.nxt ?_))))))
     rcases z8 h with ⟨hp,h⟩ | ⟨hp,h⟩
     ·refine WS.fx 37 true (decide_eq_true hp) (WS.cT (WS.sq ?_))
      refine WS.dr [0,1,2,3,4,5,6,7,8,9,10,11,12] [0,1,3,7,15,31,63,0,128,0,512,1920,4095,8191] 14 (fun hcl=>?_)
      refine DA.tK 0 (some 39) (Value.pointer a0) ?_
      obtain ⟨q17,hx,hq17⟩:=bind_some h
      subst hx
      have h:=hq17
      refine DA.tK 1 (some 40) (Value.pointer (some q17)) (DA.tK 2 (some 41) (Value.pointer (some (Addr.add q17 0))) ?_)
      obtain ⟨x18,hx,h⟩:=bind_some h
      refine DA.tD 3 (some 42) (Value.pointer x18) (Abs.det_load (t:=66) (x:=.tmp 41) (a:=(Addr.add q17 0)) (by kernel_rfl) (by kernel_rfl) (by kernel_rfl) (by kernel_rfl) (z0 hx z4m)) ?_
      obtain ⟨q19,hx,hq19⟩:=bind_some h
      subst hx
      have h:=hq19
      refine DA.tK 4 (some 43) (Value.pointer (some q19)) (DA.tK 5 (some 44) (Value.pointer (some (Addr.add q19 3))) ?_)
      obtain ⟨x20,hx,h⟩:=bind_some h
      refine DA.tD 6 (some 45) (Value.map x20) (Abs.det_load (t:=94) (x:=.tmp 44) (a:=(Addr.add q19 3)) (by kernel_rfl) (by kernel_rfl) (by kernel_rfl) (by kernel_rfl) (z0 hx z3h)) (DA.tL 7 (some 46) (.loc 0 0) (DA.tL 8 (some 47) (.val (Value.int .i64 a1_0)) (DA.tL 9 (some 48) (.loc 0 2) (DA.tL 10 (some 49) (.val (Value.string a1_2)) (DA.tK 11 (some 50) (Value.agg #[(Value.int .i64 a1_0),(Value.string a1_2)]) ?_)))))
      obtain ⟨x21,hx,h⟩:=bind_some h
      refine DA.tD 12 (some 51) (Value.int .i64 x21) (Abs.det_look (t:=94) (x:=.tmp 45) (y:=.tmp 50) (mm:=x20) (k:=(Value.agg #[(Value.int .i64 a1_0),(Value.string a1_2)])) (by kernel_rfl) (by kernel_rfl) (by kernel_rfl) (by kernel_rfl) (lk1_eq hx z9)) (DA.tP 13 (some 6) (Value.int .i64 x21) (DA.dn (WS.nxt (WS.sq (WS.rg (RS.mS 3 [(55,.val (Value.pointer (some (Addr.add q17 3)))),kP 54 q17,kP 53 q17] ?_))))))
      obtain ⟨x22,hx,h⟩:=bind_some h
      refine RS.ld 56 115 (.tmp 55) (z0 hx z3h) (RS.mS 1 [kI 57 x21] ?_)
      obtain ⟨⟨x23,b24⟩,hx,h⟩:=bind_some h
      try dsimp only at h
      refine RS.o (H':=H) (some 58) (Value.tuple #[(Value.int .i64 x23),(Value.bool b24)]) (Abs.run_look (t:=115) (x:=.tmp 56) (y:=.tmp 57) (mm:=x22) (k:=(Value.int .i64 x21)) (by kernel_rfl) (by kernel_rfl) (by kernel_rfl) (by kernel_rfl) (lkM_eq hx z9)) (RS.mS 5 [kB 8 b24,kI 7 x23,kB 60 b24,kI 59 x23,(52,.val (Value.tuple #[(Value.int .i64 x23),(Value.bool b24)]))] (RS.dn (WS.nxt ?_)))
      obtain ⟨⟨H25,v7_26⟩,hx,h⟩:=bind_some h
      try dsimp only at h
      refine WS.sq ?_
      refine WS.join ([kI 7 v7_26,kP 0 q17]) ([some (28,[(Value.int .i64 a1_0),(Value.int .i64 a1_1),(Value.string a1_2),(Sl3.v a1_3)])]) H25 ?_ (fun a w hs=>WS.nxt ?_ a w hs)
      ·clear h; rename _=>h
       refine WS.sq (WS.rg (RS.mS 2 [kB 62 (!b24),kB 61 b24] (RS.dn (WS.nxt ?_))))
       rcases z8 h with ⟨hp,h⟩ | ⟨hp,h⟩
       ·refine WS.fx 62 false (nb_not hp) (WS.cF (WS.sk ?_))
        cases h
        exact fun a w hs=>(jsN (hs.sb 1))
       ·refine WS.fx 62 true (z2i hp) (WS.cT (WS.sq (WS.rg (RS.mS 2 [kI 64 x21,kP 63 q17] ?_))))
        obtain ⟨⟨x27,H28⟩,hx,h⟩:=bind_some h
        try dsimp only at h
        refine RS.cl (some 65) (v:=(Value.int .i64 x27)) 88 #[(Value.pointer (some q17)),(Value.int .i64 x21)] (hrec_sort_counter_data _ _ _ _ _ hx) (RS.mS 1 [kI 7 x27] (RS.dn (WS.nxt (WS.rg (RS.mS 3 [(68,.val (Value.pointer (some (Addr.add q17 3)))),kP 67 q17,kP 66 q17] ?_)))))
        obtain ⟨x29,hx,h⟩:=bind_some h
        refine RS.ld 69 115 (.tmp 68) (z0 hx z3h) (RS.mS 2 [kI 71 x27,kI 70 x21] ?_)
        obtain ⟨H30,hx,h⟩:=bind_some h
        refine RS.o (H':=H30) none undef (Abs.run_upM (t:=115) (x:=.tmp 69) (y:=.tmp 70) (z:=.tmp 71) (mm:=x29) (k:=(Value.int .i64 x21)) (v:=(Value.int .i64 x27)) (by kernel_rfl) (by kernel_rfl) (by kernel_rfl) (by kernel_rfl) (by kernel_rfl) hx) (RS.dn ?_)
        cases h
        exact fun a w hs=>(jsN (hs.sb 1))
      ·clear hx
       refine WS.rg (RS.mS 2 [kI 5 v7_26,kI 72 v7_26] (RS.dn ?_))
       cases h
     ·refine WS.fx 37 false (decide_eq_false hp) (WS.cF (WS.sk ?_))
      cases h
theorem z5q {E m H L a0 a1 a2_0 a2_1 a2_2 a2_3 x1 H2} :LoopF Tryd.prog (NE.plain 1000) m E Tryd.f87 ((cfst (csnd (cfst (csnd (csnd (csnd (csnd (csnd B87))))))))) (z9q L a0 a1 a2_0 a2_1 a2_2 a2_3 x1 H2) (fun _=>H2) 0 z3o (z3u H) (z12 L a0 a1 a2_0 a2_1 a2_2 a2_3 x1 H2):=by
 rintro ⟨v8_3,v17_4⟩ o h
 unfold z12 at h
 try dsimp only at h
 refine WS.sq (WS.rg (RS.mS 1 [kB 18 (decide (v17_4<a1))] (RS.dn (WS.nxt (WS.sq ?_)))))
 rcases z8 h with ⟨hp,h⟩ | ⟨hp,h⟩
 ·refine WS.fx 18 true (decide_eq_true hp) (WS.cT (WS.sk (WS.nxt (WS.sq (WS.bk 1 (WS.sq (WS.rg (RS.mS 3 [kI 21 x1,kI 20 v8_3,(19,.val (Value.pointer a0))] ?_))))))))
  obtain ⟨x5,hx,h⟩:=bind_some h
  refine RS.cl (some 22) (v:=(Value.int .i64 x5)) 86 #[(Value.pointer a0),(Value.int .i64 v8_3),(Value.int .i64 x1)] (z52 hx) (RS.mS 1 [kI 8 x5] (RS.dn (WS.nxt (WS.sq (WS.rg (RS.mS 2 [kB 24 (decide (x5=0)),kI 23 x5] (RS.dn (WS.nxt ?_))))))))
  rcases z8 h with ⟨hp,h⟩ | ⟨hp,h⟩
  ·refine WS.fx 24 true (decide_eq_true hp) (WS.cT (WS.ex 0 ?_))
   cases h
   exact fun a w hs=>bkX (by kernel_rfl) (sqE (lsB rfl (hs.sb 1)))
  ·refine WS.fx 24 false (decide_eq_false hp) (WS.cF (WS.sk ?_))
   refine fun a w hs=>bkN ((WS.nxt ?_ a w hs))
   refine WS.rg (RS.mS 2 [kI 17 (IntKind.i64.wrap (v17_4+1)),kI 25 (IntKind.i64.wrap (v17_4+1))] (RS.dn ?_))
   cases h
   exact fun a w hs=>lsN rfl (hs.sb 1)
 ·refine WS.fx 18 false (decide_eq_false hp) (WS.cF (WS.ex 0 ?_))
  cases h
  exact fun a w hs=>sqE (lsB rfl (hs.sb 1))
theorem z8p {L:LC} {rec_sort_counter_sort:Nat→AH→(Option Addr)→Int→Int→ByteArray→Sl3→Option (Int×AH)} (hrec_sort_counter_sort:∀(m:Nat) (H:AH) (a0:Option Addr) (a1_0 a1_1:Int) (a1_2:ByteArray) (a1_3:Sl3) (r:(Int×AH)),rec_sort_counter_sort m H a0 a1_0 a1_1 a1_2 a1_3=some r→CallS Tryd.prog (NE.plain 1000) m 55 #[(Value.pointer a0),(Value.agg #[(Value.int .i64 a1_0),(Value.int .i64 a1_1),(Value.string a1_2),(Sl3.v a1_3)])] H (z13 r) (z15 H r)) {m:Nat} {H:AH} {a0:Option Addr} {a1 a2_0 a2_1:Int} {a2_2:ByteArray} {a2_3:Sl3} {r:(Int×AH)} (h:z22 L rec_sort_counter_sort m H a0 a1 a2_0 a2_1 a2_2 a2_3=some r) :
  CallS Tryd.prog (NE.plain 1000) m 87 #[(Value.pointer a0),(Value.int .i64 a1),(Value.agg #[(Value.int .i64 a2_0),(Value.int .i64 a2_1),(Value.string a2_2),(Sl3.v a2_3)])] H (z3o r) (z3u H r):=by
 refine CallS.mk (args:=[(Value.pointer a0),(Value.int .i64 a1),(Value.agg #[(Value.int .i64 a2_0),(Value.int .i64 a2_1),(Value.string a2_2),(Sl3.v a2_3)])]) Tryd.func87 (B:=B87) (by kernel_rfl) (fun E _=>?_)
 unfold z22 at h
 refine WS.sq (WS.rg (RS.mL 2 [kI 6 0,kL 5 0 0] ([some (28,[(Value.int .i64 a2_0),(Value.int .i64 a2_1),(Value.string a2_2),(Sl3.v a2_3)])]) (RS.dn (WS.nxt (WS.sq (WS.rg (RS.mS 2 [kA 10 #[(Value.int .i64 a2_0),(Value.int .i64 a2_1),(Value.string a2_2),(Sl3.v a2_3)],(9,.val (Value.pointer a0))] ?_)))))))
 obtain ⟨⟨x1,H2⟩,hx,h⟩:=bind_some h
 try dsimp only at h
 refine RS.cl (some 11) (v:=(Value.int .i64 x1)) 55 #[(Value.pointer a0),(Value.agg #[(Value.int .i64 a2_0),(Value.int .i64 a2_1),(Value.string a2_2),(Sl3.v a2_3)])] (hrec_sort_counter_sort _ _ _ _ _ _ _ _ hx) (RS.mS 1 [kI 7 x1] (RS.dn (WS.nxt (WS.sq (WS.sq (WS.rg (RS.mS 2 [kB 13 (decide (x1=1)),kI 12 x1] (RS.dn (WS.nxt ?_)))))))))
 rcases z8 h with ⟨hp,h⟩ | ⟨hp,h⟩
 ·refine WS.fx 13 true (decide_eq_true hp) (WS.cT (WS.sq (WS.rg (RS.mS 1 [kI 6 1] (RS.dn (WS.nxt (WS.rt ?_)))))))
  cases h
  exact fun a w hs=>sqR (rtR (rS hs))
 ·refine WS.fx 13 false (decide_eq_false hp) (WS.cF (WS.sk (WS.nxt (WS.sq (WS.sq (WS.rg (RS.mS 2 [kB 15 (decide (a1=0)),kI 14 a1] (RS.dn (WS.nxt ?_)))))))))
  rcases z8 h with ⟨hp,h⟩ | ⟨hp,h⟩
  ·refine WS.fx 15 true (decide_eq_true hp) (WS.cT (WS.sq (WS.rg (RS.mS 1 [kI 6 0] (RS.dn (WS.nxt (WS.rt ?_)))))))
   cases h
   exact fun a w hs=>sqR (rtR (rS hs))
  ·refine WS.fx 15 false (decide_eq_false hp) (WS.cF (WS.sk (WS.nxt (WS.sq (WS.rg (RS.mS 1 [kI 8 1] (RS.dn (WS.nxt (WS.sq ?_)))))))))
   refine WS.sq (WS.rg (RS.mS 2 [kI 17 0,kI 16 a1] (RS.dn (WS.nxt (WS.bk 0 ?_)))))
   obtain ⟨o,hl,h⟩:=bind_some h
   rcases o with ⟨v8_6,v17_7⟩ | r
   ·try dsimp only at h
    refine WS.lI (z5q (L:=L) (E:=E) (m:=m) (H:=H)) (L.ok hl) 1 ?_
    clear hl
    refine fun a w hs=>bkE ((WS.nxt ?_ a w hs))
    refine WS.sq (WS.rg (RS.mS 2 [kI 6 v8_6,kI 26 v8_6] (RS.dn (WS.nxt (WS.rt ?_)))))
    cases h
    exact fun a w hs=>rtR (rS hs)
   ·try dsimp only at h
    refine WS.lR (z5q (L:=L) (E:=E) (m:=m) (H:=H)) (L.ok hl) 1 ?_
    cases h
    exact fun a w hq=>bkR (sqR (rtR hq))
theorem z6e {E H L rec_sort_counter_sort m q1 x11 v5_13 v34_14 x16_0 x16_1} (hrec_sort_counter_sort:∀(m:Nat) (H:AH) (a0:Option Addr) (a1_0 a1_1:Int) (a1_2:ByteArray) (a1_3:Sl3) (r:(Int×AH)),rec_sort_counter_sort m H a0 a1_0 a1_1 a1_2 a1_3=some r→CallS Tryd.prog (NE.plain 1000) m 55 #[(Value.pointer a0),(Value.agg #[(Value.int .i64 a1_0),(Value.int .i64 a1_1),(Value.string a1_2),(Sl3.v a1_3)])] H (z13 r) (z15 H r)):LoopF Tryd.prog (NE.plain 1000) m E Tryd.f88 ((cfst (csnd (cfst (csnd (csnd (cfst (cfst (csnd (csnd (cfst (cfst (csnd (cfst (csnd (csnd (csnd B88))))))))))))))))) (za0 L rec_sort_counter_sort m q1 x11 v5_13 v34_14 x16_0 x16_1) (fun s=>s.1) 2 z2t (z31 H) (z1j L rec_sort_counter_sort m q1 x11 v5_13 v34_14 x16_0 x16_1):=by
 rintro ⟨H17,v8_18,v41_19⟩ o h
 unfold z1j at h
 try dsimp only at h
 refine WS.sq (WS.rg (RS.mS 1 [kB 42 (decide (v41_19<(x16_1.n:Int)))] (RS.dn (WS.nxt (WS.sq ?_)))))
 rcases z8 h with ⟨hp,h⟩ | ⟨hp,h⟩
 ·refine WS.fx 42 true (decide_eq_true hp) (WS.cT (WS.sk (WS.nxt (WS.sq (WS.bk 3 (WS.sq (WS.rg ?_)))))))
  obtain ⟨p20,hx,h⟩:=bind_some h
  refine RS.ix 43 48 52 (.tmp 39) (.tmp 41) hx ?_
  obtain ⟨x21_0,hx0,h⟩:=bind_some h
  obtain ⟨x21_1,hx1,h⟩:=bind_some h
  obtain ⟨x21_2,hx2,h⟩:=bind_some h
  obtain ⟨x21_3,hx3,h⟩:=bind_some h
  obtain ⟨x21_4,hx4,h⟩:=bind_some h
  refine RS.la 44 52 (.tmp 43) 5 (z7 (z0 hx0 zd) (z7 (z0 hx1 z9) (z7 (z0 hx2 z9) (z7 (z0 hx3 zd) (z7 (z0 hx4 za) zf))))) (RS.mL 2 [kL 10 1 0] ([some (50,[(Value.string x16_0),(Sl3.v x16_1)]),some (52,[(Value.string x21_0),(Value.int .i64 x21_1),(Value.int .i64 x21_2),(Value.string x21_3),(Sl3.v x21_4)])]) (RS.dn (WS.nxt (WS.rg (RS.mS 5 [kA 49 #[(Value.int .i64 x21_1),(Value.int .i64 x21_2),(Value.string x21_3),(Sl3.v x21_4)],kL 48 1 1,kP 47 q1,kI 46 v8_18,kP 45 q1] ?_)))))
  obtain ⟨⟨x22,H23⟩,hx,h⟩:=bind_some h
  try dsimp only at h
  refine RS.cl (some 50) (v:=(Value.int .i64 x22)) 55 #[(Value.pointer (some q1)),(Value.agg #[(Value.int .i64 x21_1),(Value.int .i64 x21_2),(Value.string x21_3),(Sl3.v x21_4)])] (hrec_sort_counter_sort _ _ _ _ _ _ _ _ hx) ?_
  obtain ⟨x24,hx,h⟩:=bind_some h
  refine RS.cl (some 51) (v:=(Value.int .i64 x24)) 86 #[(Value.pointer (some q1)),(Value.int .i64 v8_18),(Value.int .i64 x22)] (z52 hx) (RS.mS 1 [kI 8 x24] (RS.dn ?_))
  refine fun a w hs=>bkN ((WS.nxt ?_ a w hs))
  refine WS.rg (RS.mS 2 [kI 41 (IntKind.i64.wrap (v41_19+1)),kI 52 (IntKind.i64.wrap (v41_19+1))] (RS.dn ?_))
  cases h
  exact fun a w hs=>lsN rfl (hs.sb 1)
 ·refine WS.fx 42 false (decide_eq_false hp) (WS.cF (WS.ex 2 ?_))
  cases h
  exact fun a w hs=>sqE (lsB rfl (hs.sb 1))
theorem z6f {E H L rec_sort_counter_sort m q1 x11} (hrec_sort_counter_sort:∀(m:Nat) (H:AH) (a0:Option Addr) (a1_0 a1_1:Int) (a1_2:ByteArray) (a1_3:Sl3) (r:(Int×AH)),rec_sort_counter_sort m H a0 a1_0 a1_1 a1_2 a1_3=some r→CallS Tryd.prog (NE.plain 1000) m 55 #[(Value.pointer a0),(Value.agg #[(Value.int .i64 a1_0),(Value.int .i64 a1_1),(Value.string a1_2),(Sl3.v a1_3)])] H (z13 r) (z15 H r)):LoopF Tryd.prog (NE.plain 1000) m E Tryd.f88 ((cfst (csnd (cfst (csnd (csnd (csnd B88))))))) (z9z L rec_sort_counter_sort m q1 x11) (fun s=>s.1) 0 z2t (z31 H) (zq L rec_sort_counter_sort m q1 x11):=by
 rintro ⟨H12,v5_13,v34_14⟩ o h
 unfold zq at h
 try dsimp only at h
 refine WS.sq (WS.rg (RS.mS 1 [kB 35 (decide (v34_14<(x11.n:Int)))] (RS.dn (WS.nxt (WS.sq ?_)))))
 rcases z8 h with ⟨hp,h⟩ | ⟨hp,h⟩
 ·refine WS.fx 35 true (decide_eq_true hp) (WS.cT (WS.sk (WS.nxt (WS.sq (WS.bk 1 (WS.sq (WS.rg ?_)))))))
  obtain ⟨p15,hx,h⟩:=bind_some h
  refine RS.ix 36 44 50 (.tmp 32) (.tmp 34) hx ?_
  obtain ⟨x16_0,hx0,h⟩:=bind_some h
  obtain ⟨x16_1,hx1,h⟩:=bind_some h
  refine RS.la 37 50 (.tmp 36) 2 (z7 (z0 hx0 zd) (z7 (z0 hx1 za) zf)) (RS.mL 2 [kL 7 0 0] ([some (50,[(Value.string x16_0),(Sl3.v x16_1)])]) (RS.dn (WS.nxt (WS.sq (WS.rg (RS.mS 1 [kI 8 1] (RS.dn (WS.nxt (WS.sq ?_)))))))))
  refine WS.sq (WS.rg (RS.mS 4 [kI 41 0,kI 40 (x16_1.n:Int),kS 39 x16_1,kL 38 0 1] (RS.dn (WS.nxt (WS.bk 2 ?_)))))
  obtain ⟨o,hl,h⟩:=bind_some h
  rcases o with ⟨H25,v8_26,v41_27⟩ | r
  ·try dsimp only at h
   refine WS.lI (z6e (L:=L) (E:=E) (m:=m) (H:=H) hrec_sort_counter_sort) (L.ok hl) 1 ?_
   clear hl
   refine fun a w hs=>bkE ((WS.nxt ?_ a w hs))
   refine WS.sq ?_
   obtain ⟨v64_28,hx,h⟩:=bind_some h
   refine WS.sq ?_
   refine WS.join ([kB 64 v64_28,kP 0 q1,kI 5 v5_13,kI 8 v8_26,kS 32 x11,kI 33 (x11.n:Int),kI 34 v34_14]) ([some (50,[(Value.string x16_0),(Sl3.v x16_1)])]) H25 ?_ (fun a w hs=>WS.nxt ?_ a w hs)
   ·clear h; rename _=>h
    refine WS.rg (RS.mS 3 [kB 55 (decide (v8_26=0)),kB 54 (decide (v8_26=0)),kI 53 v8_26] ?_)
    rcases z8 h with ⟨hp,h⟩ | ⟨hp,h⟩
    ·refine RS.fx 55 true (decide_eq_true hp) (RS.mS 9 [kB 64 true,kU 63,kU 62,kU 61,kU 60,kU 59,kU 58,kU 57,kU 56] (RS.dn ?_))
     cases h
     exact fun a w hs=>(jsN (hs.sb 1))
    ·refine RS.fx 55 false (decide_eq_false hp) (RS.mS 4 [(59,.val (Value.pointer (some (Addr.add q1 1)))),kP 58 q1,kP 57 q1,kI 56 v5_13] ?_)
     obtain ⟨x29,hx,h⟩:=bind_some h
     refine RS.ld 60 3 (.tmp 59) (z0 hx z9) (RS.mS 4 [kB 64 (decide (v5_13 > (IntKind.i64.wrap (x29 - v8_26)))),kB 63 (decide (v5_13 > (IntKind.i64.wrap (x29 - v8_26)))),kI 62 (IntKind.i64.wrap (x29 - v8_26)),kI 61 v8_26] (RS.dn ?_))
     cases h
     exact fun a w hs=>(jsN (hs.sb 1))
   ·clear hx
    rcases z8 h with ⟨hp,h⟩ | ⟨hp,h⟩
    ·refine WS.fx 64 true hp (WS.cT (WS.sq (WS.rg (RS.mS 1 [kI 4 0] (RS.dn (WS.nxt (WS.rt ?_)))))))
     cases h
     exact fun a w hs=>sqR (bkR (sqR (lsR rfl (rS hs))))
    ·refine WS.fx 64 false (b_not hp) (WS.cF (WS.sk (WS.nxt (WS.rg (RS.mS 4 [kI 5 (IntKind.i64.wrap (v5_13+v8_26)),kI 67 (IntKind.i64.wrap (v5_13+v8_26)),kI 66 v8_26,kI 65 v5_13] (RS.dn ?_))))))
     refine fun a w hs=>bkN ((WS.nxt ?_ a w hs))
     refine WS.rg (RS.mS 2 [kI 34 (IntKind.i64.wrap (v34_14+1)),kI 68 (IntKind.i64.wrap (v34_14+1))] (RS.dn ?_))
     cases h
     exact fun a w hs=>lsN rfl (hs.sb 0)
  ·try dsimp only at h
   refine WS.lR (z6e (L:=L) (E:=E) (m:=m) (H:=H) hrec_sort_counter_sort) (L.ok hl) 1 ?_
   cases h
   exact fun a w hq=>bkR (sqR (bkR (sqR (lsR rfl hq))))
 ·refine WS.fx 35 false (decide_eq_false hp) (WS.cF (WS.ex 0 ?_))
  cases h
  exact fun a w hs=>sqE (lsB rfl (hs.sb 0))
theorem z8z {L:LC} {rec_sort_counter_sort:Nat→AH→(Option Addr)→Int→Int→ByteArray→Sl3→Option (Int×AH)} (hrec_sort_counter_sort:∀(m:Nat) (H:AH) (a0:Option Addr) (a1_0 a1_1:Int) (a1_2:ByteArray) (a1_3:Sl3) (r:(Int×AH)),rec_sort_counter_sort m H a0 a1_0 a1_1 a1_2 a1_3=some r→CallS Tryd.prog (NE.plain 1000) m 55 #[(Value.pointer a0),(Value.agg #[(Value.int .i64 a1_0),(Value.int .i64 a1_1),(Value.string a1_2),(Sl3.v a1_3)])] H (z13 r) (z15 H r)) {m:Nat} {H:AH} {a0:Option Addr} {a1:Int} {r:(Int×AH)} (h:z2j L rec_sort_counter_sort m H a0 a1=some r) :
  CallS Tryd.prog (NE.plain 1000) m 88 #[(Value.pointer a0),(Value.int .i64 a1)] H (z2t r) (z31 H r):=by
 refine CallS.mk (args:=[(Value.pointer a0),(Value.int .i64 a1)]) Tryd.func88 (B:=B88) (by kernel_rfl) (fun E _=>?_)
 unfold z2j at h
 refine WS.sq (WS.rg (RS.mS 1 [kI 4 0] (RS.dn (WS.nxt (WS.sq (WS.sq (WS.rg (RS.mS 1 [(11,.val (Value.pointer a0))] ?_))))))))
 obtain ⟨q1,hx,hq1⟩:=bind_some h
 subst hx
 have h:=hq1
 refine RS.mS 2 [(13,.val (Value.pointer (some (Addr.add q1 2)))),kP 12 q1] ?_
 obtain ⟨x2,hx,h⟩:=bind_some h
 refine RS.ld 14 76 (.tmp 13) (z0 hx za) (RS.mS 1 [kI 15 a1] ?_)
 obtain ⟨p3,hx,h⟩:=bind_some h
 refine RS.ix 16 76 56 (.tmp 14) (.tmp 15) hx ?_
 obtain ⟨x4,hx,h⟩:=bind_some h
 refine RS.ld 17 56 (.tmp 16) (z0 hx za) (RS.mS 1 [kI 18 a1] ?_)
 obtain ⟨p5,hx,h⟩:=bind_some h
 refine RS.ix 19 56 4 (.tmp 17) (.tmp 18) hx ?_
 obtain ⟨x6,hx,h⟩:=bind_some h
 refine RS.ld 20 4 (.tmp 19) (z0 hx z55) (RS.dn (WS.nxt ?_))
 rcases z8 h with ⟨hp,h⟩ | ⟨hp,h⟩
 ·refine WS.fx 20 true hp (WS.cT (WS.sq (WS.rg (RS.mS 1 [kI 4 0] (RS.dn (WS.nxt (WS.rt ?_)))))))
  cases h
  exact fun a w hs=>sqR (rtR (rS hs))
 ·refine WS.fx 20 false (b_not hp) (WS.cF (WS.sk (WS.nxt (WS.sq (WS.rg (RS.mS 1 [kI 5 0] (RS.dn (WS.nxt (WS.sq ?_)))))))))
  refine WS.sq (WS.rg (RS.mS 3 [(23,.val (Value.pointer (some (Addr.add q1 0)))),kP 22 q1,kP 21 q1] ?_))
  obtain ⟨x7,hx,h⟩:=bind_some h
  refine RS.ld 24 66 (.tmp 23) (z0 hx z4m) ?_
  obtain ⟨q8,hx,hq8⟩:=bind_some h
  subst hx
  have h:=hq8
  refine RS.mS 3 [(27,.val (Value.pointer (some (Addr.add (Addr.add q8 0) 1)))),(26,.val (Value.pointer (some (Addr.add q8 0)))),kP 25 q8] ?_
  obtain ⟨x9,hx,h⟩:=bind_some h
  refine RS.ld 28 30 (.tmp 27) (z0 hx za) (RS.mS 1 [kI 29 a1] ?_)
  obtain ⟨p10,hx,h⟩:=bind_some h
  refine RS.ix 30 30 46 (.tmp 28) (.tmp 29) hx (RS.mS 1 [(31,.val (Value.pointer (some (Addr.add p10 1))))] ?_)
  obtain ⟨x11,hx,h⟩:=bind_some h
  refine RS.ld 32 44 (.tmp 31) (z0 hx za) (RS.mS 2 [kI 34 0,kI 33 (x11.n:Int)] (RS.dn (WS.nxt (WS.bk 0 ?_))))
  obtain ⟨o,hl,h⟩:=bind_some h
  rcases o with ⟨H30,v5_31,v34_32⟩ | r
  ·try dsimp only at h
   refine WS.lI (z6f (L:=L) (E:=E) (m:=m) (H:=H) hrec_sort_counter_sort) (L.ok hl) 0 ?_
   clear hl
   refine fun a w hs=>bkE ((WS.nxt ?_ a w hs))
   refine WS.sq (WS.rg (RS.mS 2 [kI 4 v5_31,kI 69 v5_31] (RS.dn (WS.nxt (WS.rt ?_)))))
   cases h
   exact fun a w hs=>rtR (rS hs)
  ·try dsimp only at h
   refine WS.lR (z6f (L:=L) (E:=E) (m:=m) (H:=H) hrec_sort_counter_sort) (L.ok hl) 0 ?_
   cases h
   exact fun a w hq=>bkR (sqR (rtR hq))
theorem z9j {L:LC}:∀n,(∀(m:Nat) (H:AH) (a0:Option Addr) (a1_0 a1_1:Int) (a1_2:ByteArray) (a1_3:Sl3) (r:(Int×AH)),((zj L n).1) m H a0 a1_0 a1_1 a1_2 a1_3=some r→CallS Tryd.prog (NE.plain 1000) m 55 #[(Value.pointer a0),(Value.agg #[(Value.int .i64 a1_0),(Value.int .i64 a1_1),(Value.string a1_2),(Sl3.v a1_3)])] H (z13 r) (z15 H r))∧(∀(m:Nat) (H:AH) (a0:Option Addr) (a1 a2_0 a2_1:Int) (a2_2:ByteArray) (a2_3:Sl3) (r:(Int×AH)),((zj L n).2.1) m H a0 a1 a2_0 a2_1 a2_2 a2_3=some r→CallS Tryd.prog (NE.plain 1000) m 87 #[(Value.pointer a0),(Value.int .i64 a1),(Value.agg #[(Value.int .i64 a2_0),(Value.int .i64 a2_1),(Value.string a2_2),(Sl3.v a2_3)])] H (z3o r) (z3u H r))∧(∀(m:Nat) (H:AH) (a0:Option Addr) (a1:Int) (r:(Int×AH)),((zj L n).2.2) m H a0 a1=some r→CallS Tryd.prog (NE.plain 1000) m 88 #[(Value.pointer a0),(Value.int .i64 a1)] H (z2t r) (z31 H r)):=by
 intro n
 induction n with
 | zero=>exact ⟨(fun _ _ _ _ _ _ _ _ h=>(Option.some_ne_none _ h.symm).elim),(fun _ _ _ _ _ _ _ _ _ h=>(Option.some_ne_none _ h.symm).elim),(fun _ _ _ _ _ h=>(Option.some_ne_none _ h.symm).elim)⟩
 | succ n ih=>exact ⟨(fun _ _ _ _ _ _ _ _ h=>z8v (L:=L) ih.1 ih.2.1 ih.2.2 h),(fun _ _ _ _ _ _ _ _ _ h=>z8p (L:=L) ih.1 h),(fun _ _ _ _ _ h=>z8z (L:=L) ih.1 h)⟩
theorem z7c {L:LC} {m:Nat} {H:AH} {a0:Option Addr} {a1_0 a1_1:Int} {a1_2:ByteArray} {a1_3:Sl3} {r:(Int×AH)} (h:z40 L m H a0 a1_0 a1_1 a1_2 a1_3=some r) :
  CallS Tryd.prog (NE.plain 1000) m 55 #[(Value.pointer a0),(Value.agg #[(Value.int .i64 a1_0),(Value.int .i64 a1_1),(Value.string a1_2),(Sl3.v a1_3)])] H (z13 r) (z15 H r) :=
 ((z9j _).1) _ _ _ _ _ _ _ _ h
end Go.Proofs.YtccbilfbhecdaaaDoor
namespace Go.Proofs.YtccbilfbhecdaaaDoor
open Go Go.Abs
set_option maxRecDepth 100000
def zgx:(Int×Bool×AH)→Value
 | (r0,r1,_)=>(Value.tuple #[(Value.int .i64 r0),(Value.bool r1)])
def zie (_:AH):(Int×Bool×AH)→AH:=fun r=>r.2.2
noncomputable def B22:Code:=(Tryd.f22.body).getD .skip
noncomputable def z6b (L:LC) (m:Nat) (H:AH) (a0_0 a0_1:Int) (a0_2:ByteArray) (a0_3 a1_0:Sl3) (a1_1 a1_2:Sl3) (a2:Int):Option (Int×Bool×AH) :=
 Option.bind (α:=(AH×Bool)) (
  if a2<1 then
   some (H,true)
  else
   Option.bind (z2m L m H a1_0 a1_1 a1_2) fun (x3,H4) =>
   if x3=0 then
    Option.bind (z6a L m H4 a0_0 a0_1 a0_2 a0_3 a1_0 a1_1 a1_2) fun (x5,H6) =>
    some (H6,(!decide (x5=0)))
   else
    some (H4,true)) fun (H1,v21_2) =>
 if v21_2=true then
  some (0,false,H1)
 else
  Option.bind (z3z L (Nat.max m H1.next) H1 a1_0 a1_1 a1_2 a2) fun (x7,H8) =>
  Option.bind (z40 L m H8 x7 a0_0 a0_1 a0_2 a0_3) fun (x9,H10) =>
  some (x9,(decide (x9 > 0)),H10)
theorem zcn {L:LC} {m:Nat} {H:AH} {a0_0 a0_1:Int} {a0_2:ByteArray} {a0_3 a1_0:Sl3} {a1_1 a1_2:Sl3} {a2:Int} {r:(Int×Bool×AH)} (h:z6b L m H a0_0 a0_1 a0_2 a0_3 a1_0 a1_1 a1_2 a2=some r) :
  CallS Tryd.prog (NE.plain 1000) m 22 #[(Value.agg #[(Value.int .i64 a0_0),(Value.int .i64 a0_1),(Value.string a0_2),(Sl3.v a0_3)]),(Value.agg #[(Sl3.v a1_0),(Sl3.v a1_1),(Sl3.v a1_2)]),(Value.int .i64 a2)] H (zgx r) (zie H r):=by
 refine CallS.mk (args:=[(Value.agg #[(Value.int .i64 a0_0),(Value.int .i64 a0_1),(Value.string a0_2),(Sl3.v a0_3)]),(Value.agg #[(Sl3.v a1_0),(Sl3.v a1_1),(Sl3.v a1_2)]),(Value.int .i64 a2)]) Tryd.func22 (B:=B22) (by kernel_rfl) (fun E _=>?_)
 unfold z6b at h
 refine WS.sq (WS.rg (RS.mL 4 [kB 7 false,kI 6 0,kL 4 1 0,kL 3 0 0] ([some (28,[(Value.int .i64 a0_0),(Value.int .i64 a0_1),(Value.string a0_2),(Sl3.v a0_3)]),some (33,[(Sl3.v a1_0),(Sl3.v a1_1),(Sl3.v a1_2)])]) (RS.dn (WS.nxt (WS.sq ?_)))))
 obtain ⟨⟨H1,v21_2⟩,hx,h⟩:=bind_some h
 try dsimp only at h
 refine WS.sq ?_
 refine WS.join ([kB 21 v21_2,kI 2 a2,kL 3 0 0,kL 4 1 0]) ([some (28,[(Value.int .i64 a0_0),(Value.int .i64 a0_1),(Value.string a0_2),(Sl3.v a0_3)]),some (33,[(Sl3.v a1_0),(Sl3.v a1_1),(Sl3.v a1_2)])]) H1 ?_ (fun a w hs=>WS.nxt ?_ a w hs)
 ·clear h; rename _=>h
  refine WS.rg (RS.mS 3 [kB 11 (decide (a2<1)),kB 10 (decide (a2<1)),kI 9 a2] ?_)
  rcases z8 h with ⟨hp,h⟩ | ⟨hp,h⟩
  ·refine RS.fx 11 true (decide_eq_true hp) (RS.mS 10 [kB 21 true,kU 20,kU 19,kU 18,kU 17,kB 16 true,kB 15 true,kU 14,kU 13,kU 12] (RS.dn ?_))
   cases h
   exact fun a w hs=>(jsN (hs.sb 2))
  ·refine RS.fx 11 false (decide_eq_false hp) (RS.mS 1 [kA 12 #[(Sl3.v a1_0),(Sl3.v a1_1),(Sl3.v a1_2)]] ?_)
   obtain ⟨⟨x3,H4⟩,hx,h⟩:=bind_some h
   try dsimp only at h
   refine RS.cl (some 13) (v:=(Value.int .i64 x3)) 20 #[(Value.agg #[(Sl3.v a1_0),(Sl3.v a1_1),(Sl3.v a1_2)])] (z4d hx) (RS.mS 3 [kB 16 (!decide (x3=0)),kB 15 (!decide (x3=0)),kB 14 (!decide (x3=0))] ?_)
   rcases z8 h with ⟨hp,h⟩ | ⟨hp,h⟩
   ·refine RS.fx 16 false (z6w hp) (RS.mS 2 [kA 18 #[(Sl3.v a1_0),(Sl3.v a1_1),(Sl3.v a1_2)],kA 17 #[(Value.int .i64 a0_0),(Value.int .i64 a0_1),(Value.string a0_2),(Sl3.v a0_3)]] ?_)
    obtain ⟨⟨x5,H6⟩,hx,h⟩:=bind_some h
    try dsimp only at h
    refine RS.cl (some 19) (v:=(Value.int .i64 x5)) 18 #[(Value.agg #[(Value.int .i64 a0_0),(Value.int .i64 a0_1),(Value.string a0_2),(Sl3.v a0_3)]),(Value.agg #[(Sl3.v a1_0),(Sl3.v a1_1),(Sl3.v a1_2)])] (zcs hx) (RS.mS 2 [kB 21 (!decide (x5=0)),kB 20 (!decide (x5=0))] (RS.dn ?_))
    cases h
    exact fun a w hs=>(jsN (hs.sb 2))
   ·refine RS.fx 16 true (z5u hp) (RS.mS 5 [kB 21 true,kU 20,kU 19,kU 18,kU 17] (RS.dn ?_))
    cases h
    exact fun a w hs=>(jsN (hs.sb 2))
 ·clear hx
  rcases z8 h with ⟨hp,h⟩ | ⟨hp,h⟩
  ·refine WS.fx 21 true hp (WS.cT (WS.sq (WS.rg (RS.mS 2 [kB 7 false,kI 6 0] (RS.dn (WS.nxt (WS.rt ?_)))))))
   cases h
   exact fun a w hs=>sqR (rtR (rS hs))
  ·refine WS.fx 21 false (b_not hp) (WS.cF (WS.sk (WS.nxt (WS.sq ?_))))
   refine WS.dr [0,3] [0,0,3,0,15,31] 6 (fun hcl=>?_)
   refine DA.tL 0 (some 22) (.val (Value.agg #[(Sl3.v a1_0),(Sl3.v a1_1),(Sl3.v a1_2)])) (DA.tL 3 (some 25) (.val (Value.agg #[(Value.int .i64 a0_0),(Value.int .i64 a0_1),(Value.string a0_2),(Sl3.v a0_3)])) (DA.tP 1 (some 23) (Value.int .i64 a2) ?_))
   obtain ⟨⟨x7,H8⟩,hx,h⟩:=bind_some h
   try dsimp only at h
   refine DA.on 2 (DA.aCk 2 (some 24) false (v:=(Value.pointer x7)) 54 #[(Value.agg #[(Sl3.v a1_0),(Sl3.v a1_1),(Sl3.v a1_2)]),(Value.int .i64 a2)] (z9l hx) ?_)
   obtain ⟨⟨x9,H10⟩,hx,h⟩:=bind_some h
   try dsimp only at h
   refine DA.on 4 (DA.aC 4 (some 26) (v:=(Value.int .i64 x9)) 55 #[(Value.pointer x7),(Value.agg #[(Value.int .i64 a0_0),(Value.int .i64 a0_1),(Value.string a0_2),(Sl3.v a0_3)])] (z7c hx) (DA.tP 5 (some 8) (Value.int .i64 x9) (DA.dn (WS.nxt (WS.sq (WS.rg (RS.mS 5 [kB 7 (decide (x9 > 0)),kI 6 x9,kB 29 (decide (x9 > 0)),kI 28 x9,kI 27 x9] (RS.dn (WS.nxt ?_)))))))))
   refine WS.rt ?_
   cases h
   exact fun a w hs=>rtR (rS hs)
def z1z:(Bool×AH)→Value
 | (r0,_)=>(Value.bool r0)
def z28 (_:AH):(Bool×AH)→AH:=fun r=>r.2
def z3s:(Bool×AH)→Value
 | (r0,_)=>(Value.bool r0)
def z42 (_:AH):(Bool×AH)→AH:=fun r=>r.2
noncomputable def B56:Code:=(Tryd.f56.body).getD .skip
noncomputable def z3f (L:LC) (rec_sort_ends_sort:Nat→AH→(Option Addr)→Int→Int→ByteArray→Sl3→Option (Bool×AH)) (rec_sort_ends_data:Nat→AH→(Option Addr)→Int→Option (Bool×AH)) (m:Nat) (H:AH) (a0:Option Addr) (a1_0 _a1_1:Int) (a1_2:ByteArray) (a1_3:Sl3):Option (Bool×AH) :=
 Option.bind (α:=Bool) (
  if a1_0=1 then
   some true
  else
   some (decide (a1_0=3))) fun v10_1 =>
 if v10_1=true then
  some (true,H)
 else
  if a1_0=4 then
   Option.bind a0 fun q2 =>
   Option.bind (rd deP H (Addr.add q2 0)) fun x3 =>
   Option.bind (idxA 4 a1_3 1) fun p4 =>
   Option.bind (rd (deI .i64) H (Addr.add p4 0)) fun x5_0 =>
   Option.bind (rd (deI .i64) H (Addr.add p4 1)) fun x5_1 =>
   Option.bind (rd deS H (Addr.add p4 2)) fun x5_2 =>
   Option.bind (rd deSl H (Addr.add p4 3)) fun x5_3 =>
   Option.bind (z40 L m H x3 x5_0 x5_1 x5_2 x5_3) fun (x6,H7) =>
   if x6=1 then
    some (true,H7)
   else
    Option.bind (idxA 4 a1_3 0) fun p8 =>
    Option.bind (rd (deI .i64) H7 (Addr.add p8 0)) fun x9_0 =>
    Option.bind (rd (deI .i64) H7 (Addr.add p8 1)) fun x9_1 =>
    Option.bind (rd deS H7 (Addr.add p8 2)) fun x9_2 =>
    Option.bind (rd deSl H7 (Addr.add p8 3)) fun x9_3 =>
    Option.bind (rec_sort_ends_sort m H7 (some q2) x9_0 x9_1 x9_2 x9_3) fun (x10,H11) =>
    if x10=true then
     Option.bind (idxA 4 a1_3 1) fun p12 =>
     Option.bind (rd (deI .i64) H11 (Addr.add p12 0)) fun x13_0 =>
     Option.bind (rd (deI .i64) H11 (Addr.add p12 1)) fun x13_1 =>
     Option.bind (rd deS H11 (Addr.add p12 2)) fun x13_2 =>
     Option.bind (rd deSl H11 (Addr.add p12 3)) fun x13_3 =>
     Option.bind (rec_sort_ends_sort m H11 (some q2) x13_0 x13_1 x13_2 x13_3) fun (x14,H15) =>
     some (x14,H15)
    else
     some (false,H11)
  else
   if a1_0=6 then
    Option.bind a0 fun q16 =>
    Option.bind (rd deP H (Addr.add q16 0)) fun x17 =>
    Option.bind x17 fun q18 =>
    Option.bind (rd deP H (Addr.add q18 0)) fun x19 =>
    Option.bind x19 fun q20 =>
    Option.bind (rd deM H (Addr.add q20 3)) fun x21 =>
    Option.bind (lk1 Tryd.prog 94 (deI .i64) H x21 (Value.agg #[(Value.int .i64 a1_0),(Value.string a1_2)])) fun x22 =>
    Option.bind (rd deM H (Addr.add q16 1)) fun x23 =>
    Option.bind (lkM Tryd.prog 84 deB H x23 (Value.int .i64 x22)) fun (x24,b25) =>
    Option.bind (α:=(AH×Bool)) (
     if b25=true then
      some (H,x24)
     else
      Option.bind (rec_sort_ends_data m H (some q16) x22) fun (x28,H29) =>
      Option.bind (rd deM H29 (Addr.add q16 1)) fun x30 =>
      Option.bind (upM Tryd.prog m 84 H29 x30 (Value.int .i64 x22) (Value.bool x28)) fun H31 =>
      some (H31,x28)) fun (H26,v6_27) =>
    some (v6_27,H26)
   else
    some (false,H)
noncomputable def B89:Code:=(Tryd.f89.body).getD .skip
noncomputable def z24 (_L:LC) (rec_sort_ends_sort:Nat→AH→(Option Addr)→Int→Int→ByteArray→Sl3→Option (Bool×AH)) (m:Nat) (q1:Addr) (_x15:Sl3) (_v38_17:Int) (_x19_0:ByteArray) (x19_1:Sl3):(AH×Int)→Option (Lp (AH×Int) (Bool×AH)):=fun (H20,v45_21) =>
 if v45_21<(x19_1.n:Int) then
  Option.bind (idxA 5 x19_1 v45_21) fun p22 =>
  Option.bind (rd deS H20 (Addr.add p22 0)) fun _ =>
  Option.bind (rd (deI .i64) H20 (Addr.add p22 1)) fun x23_1 =>
  Option.bind (rd (deI .i64) H20 (Addr.add p22 2)) fun x23_2 =>
  Option.bind (rd deS H20 (Addr.add p22 3)) fun x23_3 =>
  Option.bind (rd deSl H20 (Addr.add p22 4)) fun x23_4 =>
  Option.bind (rec_sort_ends_sort m H20 (some q1) x23_1 x23_2 x23_3 x23_4) fun (x24,H25) =>
  if x24=true then
   some (.next (H25,(IntKind.i64.wrap (v45_21+1))))
  else
   some (.ret (false,H25))
 else
  some (.brk (H20,v45_21))
def zby (_L:LC) (_rec_sort_ends_sort:Nat→AH→(Option Addr)→Int→Int→ByteArray→Sl3→Option (Bool×AH)) (_m:Nat) (q1:Addr) (x15:Sl3) (v38_17:Int) (x19_0:ByteArray) (x19_1:Sl3):(AH×Int)→KN×Lcs:=fun (_,v45_21)=>([kI 45 v45_21,kP 0 q1,kS 36 x15,kI 37 (x15.n:Int),kI 38 v38_17,kS 43 x19_1,kI 44 (x19_1.n:Int)],[some (50,[(Value.string x19_0),(Sl3.v x19_1)])])
noncomputable def z25 (L:LC) (rec_sort_ends_sort:Nat→AH→(Option Addr)→Int→Int→ByteArray→Sl3→Option (Bool×AH)) (m:Nat) (q1:Addr) (x15:Sl3):(AH×Int)→Option (Lp (AH×Int) (Bool×AH)):=fun (H16,v38_17) =>
 if v38_17<(x15.n:Int) then
  Option.bind (idxA 2 x15 v38_17) fun p18 =>
  Option.bind (rd deS H16 (Addr.add p18 0)) fun x19_0 =>
  Option.bind (rd deSl H16 (Addr.add p18 1)) fun x19_1 =>
  Option.bind (L.run (z24 L rec_sort_ends_sort m q1 x15 v38_17 x19_0 x19_1) (H16,0)) fun o=>match o with
  | .inl (H26,_) =>
   some (.next (H26,(IntKind.i64.wrap (v38_17+1))))
  | .inr r=>some (.ret r)
 else
  some (.brk (H16,v38_17))
def zbw (_L:LC) (_rec_sort_ends_sort:Nat→AH→(Option Addr)→Int→Int→ByteArray→Sl3→Option (Bool×AH)) (_m:Nat) (q1:Addr) (x15:Sl3):(AH×Int)→KN×Lcs:=fun (_,v38_17)=>([kI 38 v38_17,kP 0 q1,kS 36 x15,kI 37 (x15.n:Int)],[])
noncomputable def z3g (L:LC) (rec_sort_ends_sort:Nat→AH→(Option Addr)→Int→Int→ByteArray→Sl3→Option (Bool×AH)) (m:Nat) (H:AH) (a0:Option Addr) (a1:Int):Option (Bool×AH) :=
 Option.bind a0 fun q1 =>
 Option.bind (rd deP H (Addr.add q1 0)) fun x2 =>
 Option.bind x2 fun q3 =>
 Option.bind (rd deSl H (Addr.add q3 2)) fun x4 =>
 Option.bind (idxA 1 x4 a1) fun p5 =>
 Option.bind (rd deSl H p5) fun x6 =>
 Option.bind (idxA 1 x6 a1) fun p7 =>
 Option.bind (rd deB H p7) fun x8 =>
 if x8=true then
  some (false,H)
 else
  Option.bind (rd deP H (Addr.add q1 0)) fun x9 =>
  Option.bind x9 fun q10 =>
  Option.bind (rd deP H (Addr.add q10 0)) fun x11 =>
  Option.bind x11 fun q12 =>
  Option.bind (rd deSl H (Addr.add (Addr.add q12 0) 1)) fun x13 =>
  Option.bind (idxA 2 x13 a1) fun p14 =>
  Option.bind (rd deSl H (Addr.add p14 1)) fun x15 =>
  Option.bind (L.run (z25 L rec_sort_ends_sort m q1 x15) (H,0)) fun o=>match o with
  | .inl (H28,_) =>
   some (true,H28)
  | .inr r=>some r
noncomputable def z1q (L:LC) (n:Nat):(Nat→AH→(Option Addr)→Int→Int→ByteArray→Sl3→Option (Bool×AH))×(Nat→AH→(Option Addr)→Int→Option (Bool×AH)):=Nat.rec (motive:=fun _=>(Nat→AH→(Option Addr)→Int→Int→ByteArray→Sl3→Option (Bool×AH))×(Nat→AH→(Option Addr)→Int→Option (Bool×AH))) ((fun _ _ _ _ _ _ _=>none),(fun _ _ _ _=>none)) (fun _ p=>(z3f L p.1 p.2,z3g L p.1)) n
noncomputable def z7x (L:LC) (m:Nat) (H:AH) (a0:Option Addr) (a1_0 a1_1:Int) (a1_2:ByteArray) (a1_3:Sl3):Option (Bool×AH):=((z1q L L.fuel).1) m H a0 a1_0 a1_1 a1_2 a1_3
theorem zb0 {L:LC} {rec_sort_ends_sort:Nat→AH→(Option Addr)→Int→Int→ByteArray→Sl3→Option (Bool×AH)} {rec_sort_ends_data:Nat→AH→(Option Addr)→Int→Option (Bool×AH)} (hrec_sort_ends_sort:∀(m:Nat) (H:AH) (a0:Option Addr) (a1_0 a1_1:Int) (a1_2:ByteArray) (a1_3:Sl3) (r:(Bool×AH)),rec_sort_ends_sort m H a0 a1_0 a1_1 a1_2 a1_3=some r→CallS Tryd.prog (NE.plain 1000) m 56 #[(Value.pointer a0),(Value.agg #[(Value.int .i64 a1_0),(Value.int .i64 a1_1),(Value.string a1_2),(Sl3.v a1_3)])] H (z1z r) (z28 H r)) (hrec_sort_ends_data:∀(m:Nat) (H:AH) (a0:Option Addr) (a1:Int) (r:(Bool×AH)),rec_sort_ends_data m H a0 a1=some r→CallS Tryd.prog (NE.plain 1000) m 89 #[(Value.pointer a0),(Value.int .i64 a1)] H (z3s r) (z42 H r)) {m:Nat} {H:AH} {a0:Option Addr} {a1_0 a1_1:Int} {a1_2:ByteArray} {a1_3:Sl3} {r:(Bool×AH)} (h:z3f L rec_sort_ends_sort rec_sort_ends_data m H a0 a1_0 a1_1 a1_2 a1_3=some r) :
  CallS Tryd.prog (NE.plain 1000) m 56 #[(Value.pointer a0),(Value.agg #[(Value.int .i64 a1_0),(Value.int .i64 a1_1),(Value.string a1_2),(Sl3.v a1_3)])] H (z1z r) (z28 H r):=by
 refine CallS.mk (args:=[(Value.pointer a0),(Value.agg #[(Value.int .i64 a1_0),(Value.int .i64 a1_1),(Value.string a1_2),(Sl3.v a1_3)])]) Tryd.func56 (B:=B56) (by kernel_rfl) (fun E _=>?_)
 unfold z3f at h
 refine WS.sq (WS.rg (RS.mL 2 [kB 4 false,kL 3 0 0] ([some (28,[(Value.int .i64 a1_0),(Value.int .i64 a1_1),(Value.string a1_2),(Sl3.v a1_3)])]) (RS.dn (WS.nxt (WS.sq (WS.sq (WS.rg (RS.mS 2 [kI 9 a1_0,kL 8 0 0] (RS.dn ?_)))))))))
 refine WS.nxt (WS.bk 0 ?_)
 obtain ⟨v10_1,hx,h⟩:=bind_some h
 refine WS.sq ?_
 refine WS.join ([kB 10 v10_1,(0,.val (Value.pointer a0)),kL 3 0 0,kI 9 a1_0]) ([some (28,[(Value.int .i64 a1_0),(Value.int .i64 a1_1),(Value.string a1_2),(Sl3.v a1_3)])]) H ?_ (fun a w hs=>WS.nxt ?_ a w hs)
 ·clear h; rename _=>h
  refine WS.sq (WS.rg (RS.mS 2 [kB 10 (decide (a1_0=1)),kB 11 (decide (a1_0=1))] (RS.dn (WS.nxt ?_))))
  rcases z8 h with ⟨hp,h⟩ | ⟨hp,h⟩
  ·refine WS.fx 10 true (decide_eq_true hp) (WS.cT (WS.sk ?_))
   cases h
   exact fun a w hs=>(jsN (hs.sb 1))
  ·refine WS.fx 10 false (decide_eq_false hp) (WS.cF (WS.rg (RS.mS 2 [kB 10 (decide (a1_0=3)),kB 12 (decide (a1_0=3))] (RS.dn ?_))))
   cases h
   exact fun a w hs=>(jsN (hs.sb 1))
 ·clear hx
  rcases z8 h with ⟨hp,h⟩ | ⟨hp,h⟩
  ·refine WS.fx 10 true hp (WS.cT (WS.sq (WS.rg (RS.mS 1 [kB 4 true] (RS.dn (WS.nxt (WS.rt ?_)))))))
   cases h
   exact fun a w hs=>bkR (sqR (rtR (rS hs)))
  ·refine WS.fx 10 false (b_not hp) (WS.cF (WS.sq (WS.rg (RS.mS 2 [kB 13 (decide (a1_0=4)),kB 14 (decide (a1_0=4))] (RS.dn (WS.nxt ?_))))))
   rcases z8 h with ⟨hp,h⟩ | ⟨hp,h⟩
   ·refine WS.fx 13 true (decide_eq_true hp) (WS.cT (WS.sq ?_))
    refine WS.dr [0,1,2,3,4,5,6,7] [0,1,3,7,0,16,48,112,255,511,1023,2047,2047,6143,14335,30719,65535,131071,262143,262143,786431,1835007,3932159,8388607,16777215,33554431,67108863] 27 (fun hcl=>?_)
    refine DA.tK 0 (some 15) (Value.pointer a0) ?_
    obtain ⟨q2,hx,hq2⟩:=bind_some h
    subst hx
    have h:=hq2
    refine DA.tK 1 (some 16) (Value.pointer (some q2)) (DA.tK 2 (some 17) (Value.pointer (some (Addr.add q2 0))) ?_)
    obtain ⟨x3,hx,h⟩:=bind_some h
    refine DA.tD 3 (some 18) (Value.pointer x3) (Abs.det_load (t:=81) (x:=.tmp 17) (a:=(Addr.add q2 0)) (by kernel_rfl) (by kernel_rfl) (by kernel_rfl) (by kernel_rfl) (z0 hx z4m)) (DA.tL 4 (some 19) (.loc 0 3) (DA.tL 5 (some 20) (.val (Sl3.v a1_3)) ?_))
    obtain ⟨p4,hx,h⟩:=bind_some h
    refine DA.tD 6 (some 21) (Value.pointer (some p4)) (Abs.det_idx (s:=a1_3) (k:=.i64) (t:=26) (e:=28) (x:=.tmp 20) (y:=.const (Value.int .i64 1)) (by kernel_rfl) (by kernel_rfl) (by kernel_rfl) (by kernel_rfl) (by kernel_rfl) hx) ?_
    obtain ⟨x5_0,hx0,h⟩:=bind_some h
    obtain ⟨x5_1,hx1,h⟩:=bind_some h
    obtain ⟨x5_2,hx2,h⟩:=bind_some h
    obtain ⟨x5_3,hx3,h⟩:=bind_some h
    refine DA.tD 7 (some 22) (Value.agg #[(Value.int .i64 x5_0),(Value.int .i64 x5_1),(Value.string x5_2),(Sl3.v x5_3)]) (Abs.det_loadA (t:=28) (x:=.tmp 21) (a:=p4) (k:=4) (by kernel_rfl) (by kernel_rfl) (by kernel_rfl) (by kernel_rfl) (z7 (z0 hx0 z9) (z7 (z0 hx1 z9) (z7 (z0 hx2 zd) (z7 (z0 hx3 za) zf))))) ?_
    obtain ⟨⟨x6,H7⟩,hx,h⟩:=bind_some h
    try dsimp only at h
    refine DA.on 8 (DA.aC 8 (some 23) (v:=(Value.int .i64 x6)) 55 #[(Value.pointer x3),(Value.agg #[(Value.int .i64 x5_0),(Value.int .i64 x5_1),(Value.string x5_2),(Sl3.v x5_3)])] (z7c hx) (DA.tP 9 (some 24) (Value.bool (decide (x6=1))) (DA.tP 10 (some 25) (Value.bool (decide (x6=1))) ?_)))
    rcases z8 h with ⟨hp,h⟩ | ⟨hp,h⟩
    ·refine DA.fx 25 true (decide_eq_true hp) ?_
     refine DA.tskipP 11 (some 26) (by kernel_rfl) (by kernel_rfl) (by kernel_rfl) hcl (fun _ _ _ h=>h) (by kernel_rfl) ?_
     refine DA.tskipP 12 (some 27) (by kernel_rfl) (by kernel_rfl) (by kernel_rfl) hcl (fun _ _ _ h=>h) (by kernel_rfl) ?_
     refine DA.tskipP 13 (some 28) (by kernel_rfl) (by kernel_rfl) (by kernel_rfl) hcl (fun _ _ _ h=>h) (by kernel_rfl) ?_
     refine DA.tskipP 14 (some 29) (by kernel_rfl) (by kernel_rfl) (by kernel_rfl) hcl (fun _ _ _ h=>h) (by kernel_rfl) ?_
     refine DA.tskipP 15 (some 30) (by kernel_rfl) (by kernel_rfl) (by kernel_rfl) hcl (fun _ _ _ h=>h) (by kernel_rfl) ?_
     refine DA.tskipP 16 (some 31) (by kernel_rfl) (by kernel_rfl) (by kernel_rfl) hcl (fun _ _ _ h=>h) (by kernel_rfl) ?_
     refine DA.tskipP 17 (some 32) (by kernel_rfl) (by kernel_rfl) (by kernel_rfl) hcl (fun _ _ _ h=>h) (by kernel_rfl) ?_
     refine DA.tskipP 18 (some 33) (by kernel_rfl) (by kernel_rfl) (by kernel_rfl) hcl (fun _ _ _ h=>h) (by kernel_rfl) ?_
     refine DA.tskipP 19 (some 34) (by kernel_rfl) (by kernel_rfl) (by kernel_rfl) hcl (fun _ _ _ h=>h) (by kernel_rfl) ?_
     refine DA.tskipP 20 (some 35) (by kernel_rfl) (by kernel_rfl) (by kernel_rfl) hcl (fun _ _ _ h=>h) (by kernel_rfl) ?_
     refine DA.tskipP 21 (some 36) (by kernel_rfl) (by kernel_rfl) (by kernel_rfl) hcl (fun _ _ _ h=>h) (by kernel_rfl) ?_
     refine DA.tskipP 22 (some 37) (by kernel_rfl) (by kernel_rfl) (by kernel_rfl) hcl (fun _ _ _ h=>h) (by kernel_rfl) ?_
     refine DA.tskipP 23 (some 38) (by kernel_rfl) (by kernel_rfl) (by kernel_rfl) hcl (fun _ _ _ h=>h) (by kernel_rfl) ?_
     refine DA.tskipP 24 (some 39) (by kernel_rfl) (by kernel_rfl) (by kernel_rfl) hcl (fun _ _ _ h=>h) (by kernel_rfl) ?_
     refine DA.tP 25 (some 40) (Value.bool true) (DA.tP 26 (some 4) (Value.bool true) (DA.dn (WS.nxt (WS.rt ?_))))
     cases h
     exact fun a w hs=>bkR (sqR (rtR (rS hs)))
    ·refine DA.fx 25 false (decide_eq_false hp) (DA.tP 11 (some 26) (Value.pointer (some q2)) (DA.tPL 12 (some 27) (.loc 0 3) (DA.on 13 (DA.aL 13 (some 28) (.val (Sl3.v a1_3)) ([some (28,[(Value.int .i64 a1_0),(Value.int .i64 a1_1),(Value.string a1_2),(Sl3.v a1_3)])]) false ?_))))
     obtain ⟨p8,hx,h⟩:=bind_some h
     refine DA.tPx 14 (some 29) (Value.pointer (some p8)) (Abs.det_idx (s:=a1_3) (k:=.i64) (t:=26) (e:=28) (x:=.tmp 28) (y:=.const (Value.int .i64 0)) (by kernel_rfl) (by kernel_rfl) (by kernel_rfl) (by kernel_rfl) (by kernel_rfl) hx) ?_
     obtain ⟨x9_0,hx0,h⟩:=bind_some h
     obtain ⟨x9_1,hx1,h⟩:=bind_some h
     obtain ⟨x9_2,hx2,h⟩:=bind_some h
     obtain ⟨x9_3,hx3,h⟩:=bind_some h
     refine DA.on 15 (DA.aH (H':=H7) 15 (some 30) (Value.agg #[(Value.int .i64 x9_0),(Value.int .i64 x9_1),(Value.string x9_2),(Sl3.v x9_3)]) (Abs.run_loadAg (t:=28) (x:=.tmp 29) (a:=p8) (k:=4) (by kernel_rfl) (by kernel_rfl) (by kernel_rfl) (by kernel_rfl) (z7 (z0 hx0 z9) (z7 (z0 hx1 z9) (z7 (z0 hx2 zd) (z7 (z0 hx3 za) zf))))) ?_)
     obtain ⟨⟨x10,H11⟩,hx,h⟩:=bind_some h
     try dsimp only at h
     refine DA.on 16 (DA.aC 16 (some 31) (v:=(Value.bool x10)) 56 #[(Value.pointer (some q2)),(Value.agg #[(Value.int .i64 x9_0),(Value.int .i64 x9_1),(Value.string x9_2),(Sl3.v x9_3)])] (hrec_sort_ends_sort _ _ _ _ _ _ _ _ hx) (DA.tP 17 (some 32) (Value.bool x10) ?_))
     rcases z8 h with ⟨hp,h⟩ | ⟨hp,h⟩
     ·refine DA.fx 32 true hp (DA.tP 18 (some 33) (Value.pointer (some q2)) (DA.tPL 19 (some 34) (.loc 0 3) (DA.on 20 (DA.aL 20 (some 35) (.val (Sl3.v a1_3)) ([some (28,[(Value.int .i64 a1_0),(Value.int .i64 a1_1),(Value.string a1_2),(Sl3.v a1_3)])]) false ?_))))
      obtain ⟨p12,hx,h⟩:=bind_some h
      refine DA.tPx 21 (some 36) (Value.pointer (some p12)) (Abs.det_idx (s:=a1_3) (k:=.i64) (t:=26) (e:=28) (x:=.tmp 35) (y:=.const (Value.int .i64 1)) (by kernel_rfl) (by kernel_rfl) (by kernel_rfl) (by kernel_rfl) (by kernel_rfl) hx) ?_
      obtain ⟨x13_0,hx0,h⟩:=bind_some h
      obtain ⟨x13_1,hx1,h⟩:=bind_some h
      obtain ⟨x13_2,hx2,h⟩:=bind_some h
      obtain ⟨x13_3,hx3,h⟩:=bind_some h
      refine DA.on 22 (DA.aH (H':=H11) 22 (some 37) (Value.agg #[(Value.int .i64 x13_0),(Value.int .i64 x13_1),(Value.string x13_2),(Sl3.v x13_3)]) (Abs.run_loadAg (t:=28) (x:=.tmp 36) (a:=p12) (k:=4) (by kernel_rfl) (by kernel_rfl) (by kernel_rfl) (by kernel_rfl) (z7 (z0 hx0 z9) (z7 (z0 hx1 z9) (z7 (z0 hx2 zd) (z7 (z0 hx3 za) zf))))) ?_)
      obtain ⟨⟨x14,H15⟩,hx,h⟩:=bind_some h
      try dsimp only at h
      refine DA.on 23 (DA.aC 23 (some 38) (v:=(Value.bool x14)) 56 #[(Value.pointer (some q2)),(Value.agg #[(Value.int .i64 x13_0),(Value.int .i64 x13_1),(Value.string x13_2),(Sl3.v x13_3)])] (hrec_sort_ends_sort _ _ _ _ _ _ _ _ hx) (DA.tP 24 (some 39) (Value.bool x14) (DA.tP 25 (some 40) (Value.bool x14) (DA.tP 26 (some 4) (Value.bool x14) (DA.dn (WS.nxt (WS.rt ?_)))))))
      cases h
      exact fun a w hs=>bkR (sqR (rtR (rS hs)))
     ·refine DA.fx 32 false (b_not hp) ?_
      refine DA.tskipP 18 (some 33) (by kernel_rfl) (by kernel_rfl) (by kernel_rfl) hcl (fun _ _ _ h=>h) (by kernel_rfl) ?_
      refine DA.tskipP 19 (some 34) (by kernel_rfl) (by kernel_rfl) (by kernel_rfl) hcl (fun _ _ _ h=>h) (by kernel_rfl) ?_
      refine DA.tskipP 20 (some 35) (by kernel_rfl) (by kernel_rfl) (by kernel_rfl) hcl (fun _ _ _ h=>h) (by kernel_rfl) ?_
      refine DA.tskipP 21 (some 36) (by kernel_rfl) (by kernel_rfl) (by kernel_rfl) hcl (fun _ _ _ h=>h) (by kernel_rfl) ?_
      refine DA.tskipP 22 (some 37) (by kernel_rfl) (by kernel_rfl) (by kernel_rfl) hcl (fun _ _ _ h=>h) (by kernel_rfl) ?_
      refine DA.tskipP 23 (some 38) (by kernel_rfl) (by kernel_rfl) (by kernel_rfl) hcl (fun _ _ _ h=>h) (by kernel_rfl) ?_
      refine DA.tP 24 (some 39) (Value.bool false) (DA.tP 25 (some 40) (Value.bool false) (DA.tP 26 (some 4) (Value.bool false) (DA.dn (WS.nxt (WS.rt ?_)))))
      cases h
      exact fun a w hs=>bkR (sqR (rtR (rS hs)))
   ·refine WS.fx 13 false (decide_eq_false hp) (WS.cF (WS.sq (WS.rg (RS.mS 2 [kB 41 (decide (a1_0=6)),kB 42 (decide (a1_0=6))] (RS.dn (WS.nxt ?_))))))
    rcases z8 h with ⟨hp,h⟩ | ⟨hp,h⟩
    ·refine WS.fx 41 true (decide_eq_true hp) (WS.cT (WS.sq ?_))
     refine WS.dr [0,1,2,3,4,5,6,7,8,9,10,11,12,13,14,15] [0,1,3,7,15,31,63,127,255,511,0,1024,0,4096,15360,32767,65535] 17 (fun hcl=>?_)
     refine DA.tK 0 (some 43) (Value.pointer a0) ?_
     obtain ⟨q16,hx,hq16⟩:=bind_some h
     subst hx
     have h:=hq16
     refine DA.tK 1 (some 44) (Value.pointer (some q16)) (DA.tK 2 (some 45) (Value.pointer (some (Addr.add q16 0))) ?_)
     obtain ⟨x17,hx,h⟩:=bind_some h
     refine DA.tD 3 (some 46) (Value.pointer x17) (Abs.det_load (t:=81) (x:=.tmp 45) (a:=(Addr.add q16 0)) (by kernel_rfl) (by kernel_rfl) (by kernel_rfl) (by kernel_rfl) (z0 hx z4m)) ?_
     obtain ⟨q18,hx,hq18⟩:=bind_some h
     subst hx
     have h:=hq18
     refine DA.tK 4 (some 47) (Value.pointer (some q18)) (DA.tK 5 (some 48) (Value.pointer (some (Addr.add q18 0))) ?_)
     obtain ⟨x19,hx,h⟩:=bind_some h
     refine DA.tD 6 (some 49) (Value.pointer x19) (Abs.det_load (t:=66) (x:=.tmp 48) (a:=(Addr.add q18 0)) (by kernel_rfl) (by kernel_rfl) (by kernel_rfl) (by kernel_rfl) (z0 hx z4m)) ?_
     obtain ⟨q20,hx,hq20⟩:=bind_some h
     subst hx
     have h:=hq20
     refine DA.tK 7 (some 50) (Value.pointer (some q20)) (DA.tK 8 (some 51) (Value.pointer (some (Addr.add q20 3))) ?_)
     obtain ⟨x21,hx,h⟩:=bind_some h
     refine DA.tD 9 (some 52) (Value.map x21) (Abs.det_load (t:=94) (x:=.tmp 51) (a:=(Addr.add q20 3)) (by kernel_rfl) (by kernel_rfl) (by kernel_rfl) (by kernel_rfl) (z0 hx z3h)) (DA.tL 10 (some 53) (.loc 0 0) (DA.tL 11 (some 54) (.val (Value.int .i64 a1_0)) (DA.tL 12 (some 55) (.loc 0 2) (DA.tL 13 (some 56) (.val (Value.string a1_2)) (DA.tK 14 (some 57) (Value.agg #[(Value.int .i64 a1_0),(Value.string a1_2)]) ?_)))))
     obtain ⟨x22,hx,h⟩:=bind_some h
     refine DA.tD 15 (some 58) (Value.int .i64 x22) (Abs.det_look (t:=94) (x:=.tmp 52) (y:=.tmp 57) (mm:=x21) (k:=(Value.agg #[(Value.int .i64 a1_0),(Value.string a1_2)])) (by kernel_rfl) (by kernel_rfl) (by kernel_rfl) (by kernel_rfl) (lk1_eq hx z9)) (DA.tP 16 (some 5) (Value.int .i64 x22) (DA.dn (WS.nxt (WS.sq (WS.rg (RS.mS 3 [(62,.val (Value.pointer (some (Addr.add q16 1)))),kP 61 q16,kP 60 q16] ?_))))))
     obtain ⟨x23,hx,h⟩:=bind_some h
     refine RS.ld 63 84 (.tmp 62) (z0 hx z3h) (RS.mS 1 [kI 64 x22] ?_)
     obtain ⟨⟨x24,b25⟩,hx,h⟩:=bind_some h
     try dsimp only at h
     refine RS.o (H':=H) (some 65) (Value.tuple #[(Value.bool x24),(Value.bool b25)]) (Abs.run_look (t:=84) (x:=.tmp 63) (y:=.tmp 64) (mm:=x23) (k:=(Value.int .i64 x22)) (by kernel_rfl) (by kernel_rfl) (by kernel_rfl) (by kernel_rfl) (lkM_eq hx z55)) (RS.mS 5 [kB 7 b25,kB 6 x24,kB 67 b25,kB 66 x24,(59,.val (Value.tuple #[(Value.bool x24),(Value.bool b25)]))] (RS.dn (WS.nxt ?_)))
     obtain ⟨⟨H26,v6_27⟩,hx,h⟩:=bind_some h
     try dsimp only at h
     refine WS.sq ?_
     refine WS.join ([kB 6 v6_27]) ([some (28,[(Value.int .i64 a1_0),(Value.int .i64 a1_1),(Value.string a1_2),(Sl3.v a1_3)])]) H26 ?_ (fun a w hs=>WS.nxt ?_ a w hs)
     ·clear h; rename _=>h
      refine WS.sq (WS.rg (RS.mS 2 [kB 69 (!b25),kB 68 b25] (RS.dn (WS.nxt ?_))))
      rcases z8 h with ⟨hp,h⟩ | ⟨hp,h⟩
      ·refine WS.fx 69 false (nb_not hp) (WS.cF (WS.sk ?_))
       cases h
       exact fun a w hs=>(jsN (hs.sb 1))
      ·refine WS.fx 69 true (z2i hp) (WS.cT (WS.sq (WS.rg (RS.mS 2 [kI 71 x22,kP 70 q16] ?_))))
       obtain ⟨⟨x28,H29⟩,hx,h⟩:=bind_some h
       try dsimp only at h
       refine RS.cl (some 72) (v:=(Value.bool x28)) 89 #[(Value.pointer (some q16)),(Value.int .i64 x22)] (hrec_sort_ends_data _ _ _ _ _ hx) (RS.mS 1 [kB 6 x28] (RS.dn (WS.nxt (WS.rg (RS.mS 3 [(75,.val (Value.pointer (some (Addr.add q16 1)))),kP 74 q16,kP 73 q16] ?_)))))
       obtain ⟨x30,hx,h⟩:=bind_some h
       refine RS.ld 76 84 (.tmp 75) (z0 hx z3h) (RS.mS 2 [kB 78 x28,kI 77 x22] ?_)
       obtain ⟨H31,hx,h⟩:=bind_some h
       refine RS.o (H':=H31) none undef (Abs.run_upM (t:=84) (x:=.tmp 76) (y:=.tmp 77) (z:=.tmp 78) (mm:=x30) (k:=(Value.int .i64 x22)) (v:=(Value.bool x28)) (by kernel_rfl) (by kernel_rfl) (by kernel_rfl) (by kernel_rfl) (by kernel_rfl) hx) (RS.dn ?_)
       cases h
       exact fun a w hs=>(jsN (hs.sb 1))
     ·clear hx
      refine WS.sq (WS.rg (RS.mS 2 [kB 4 v6_27,kB 79 v6_27] (RS.dn (WS.nxt (WS.rt ?_)))))
      cases h
      exact fun a w hs=>bkR (sqR (rtR (rS hs)))
    ·refine WS.fx 41 false (decide_eq_false hp) (WS.cF (WS.sk ?_))
     refine fun a w hs=>bkN ((WS.nxt ?_ a w hs))
     refine WS.sq (WS.rg (RS.mS 1 [kB 4 false] (RS.dn (WS.nxt (WS.rt ?_)))))
     cases h
     exact fun a w hs=>rtR (rS hs)
theorem z79 {E H L rec_sort_ends_sort m q1 x15 v38_17 x19_0 x19_1} (hrec_sort_ends_sort:∀(m:Nat) (H:AH) (a0:Option Addr) (a1_0 a1_1:Int) (a1_2:ByteArray) (a1_3:Sl3) (r:(Bool×AH)),rec_sort_ends_sort m H a0 a1_0 a1_1 a1_2 a1_3=some r→CallS Tryd.prog (NE.plain 1000) m 56 #[(Value.pointer a0),(Value.agg #[(Value.int .i64 a1_0),(Value.int .i64 a1_1),(Value.string a1_2),(Sl3.v a1_3)])] H (z1z r) (z28 H r)):LoopF Tryd.prog (NE.plain 1000) m E Tryd.f89 ((cfst (csnd (csnd (cfst (cfst (csnd (csnd (cfst (cfst (csnd (cfst (csnd (csnd B89)))))))))))))) (zby L rec_sort_ends_sort m q1 x15 v38_17 x19_0 x19_1) (fun s=>s.1) 2 z3s (z42 H) (z24 L rec_sort_ends_sort m q1 x15 v38_17 x19_0 x19_1):=by
 rintro ⟨H20,v45_21⟩ o h
 unfold z24 at h
 try dsimp only at h
 refine WS.sq (WS.rg (RS.mS 1 [kB 46 (decide (v45_21<(x19_1.n:Int)))] (RS.dn (WS.nxt (WS.sq ?_)))))
 rcases z8 h with ⟨hp,h⟩ | ⟨hp,h⟩
 ·refine WS.fx 46 true (decide_eq_true hp) (WS.cT (WS.sk (WS.nxt (WS.sq (WS.bk 3 (WS.sq (WS.rg ?_)))))))
  obtain ⟨p22,hx,h⟩:=bind_some h
  refine RS.ix 47 48 52 (.tmp 43) (.tmp 45) hx ?_
  obtain ⟨x23_0,hx0,h⟩:=bind_some h
  obtain ⟨x23_1,hx1,h⟩:=bind_some h
  obtain ⟨x23_2,hx2,h⟩:=bind_some h
  obtain ⟨x23_3,hx3,h⟩:=bind_some h
  obtain ⟨x23_4,hx4,h⟩:=bind_some h
  refine RS.la 48 52 (.tmp 47) 5 (z7 (z0 hx0 zd) (z7 (z0 hx1 z9) (z7 (z0 hx2 z9) (z7 (z0 hx3 zd) (z7 (z0 hx4 za) zf))))) (RS.mL 2 [kL 8 1 0] ([some (50,[(Value.string x19_0),(Sl3.v x19_1)]),some (52,[(Value.string x23_0),(Value.int .i64 x23_1),(Value.int .i64 x23_2),(Value.string x23_3),(Sl3.v x23_4)])]) (RS.dn (WS.nxt (WS.sq (WS.rg (RS.mS 3 [kA 51 #[(Value.int .i64 x23_1),(Value.int .i64 x23_2),(Value.string x23_3),(Sl3.v x23_4)],kL 50 1 1,kP 49 q1] ?_))))))
  obtain ⟨⟨x24,H25⟩,hx,h⟩:=bind_some h
  try dsimp only at h
  refine RS.cl (some 52) (v:=(Value.bool x24)) 56 #[(Value.pointer (some q1)),(Value.agg #[(Value.int .i64 x23_1),(Value.int .i64 x23_2),(Value.string x23_3),(Sl3.v x23_4)])] (hrec_sort_ends_sort _ _ _ _ _ _ _ _ hx) (RS.mS 1 [kB 53 (!x24)] (RS.dn (WS.nxt ?_)))
  rcases z8 h with ⟨hp,h⟩ | ⟨hp,h⟩
  ·refine WS.fx 53 false (nb_not hp) (WS.cF (WS.sk ?_))
   refine fun a w hs=>bkN ((WS.nxt ?_ a w hs))
   refine WS.rg (RS.mS 2 [kI 45 (IntKind.i64.wrap (v45_21+1)),kI 54 (IntKind.i64.wrap (v45_21+1))] (RS.dn ?_))
   cases h
   exact fun a w hs=>lsN rfl (hs.sb 1)
  ·refine WS.fx 53 true (z2i hp) (WS.cT (WS.sq (WS.rg (RS.mS 1 [kB 4 false] (RS.dn (WS.nxt (WS.rt ?_)))))))
   cases h
   exact fun a w hs=>bkR (sqR (lsR rfl (rS hs)))
 ·refine WS.fx 46 false (decide_eq_false hp) (WS.cF (WS.ex 2 ?_))
  cases h
  exact fun a w hs=>sqE (lsB rfl (hs.sb 1))
theorem z7a {E H L rec_sort_ends_sort m q1 x15} (hrec_sort_ends_sort:∀(m:Nat) (H:AH) (a0:Option Addr) (a1_0 a1_1:Int) (a1_2:ByteArray) (a1_3:Sl3) (r:(Bool×AH)),rec_sort_ends_sort m H a0 a1_0 a1_1 a1_2 a1_3=some r→CallS Tryd.prog (NE.plain 1000) m 56 #[(Value.pointer a0),(Value.agg #[(Value.int .i64 a1_0),(Value.int .i64 a1_1),(Value.string a1_2),(Sl3.v a1_3)])] H (z1z r) (z28 H r)):LoopF Tryd.prog (NE.plain 1000) m E Tryd.f89 ((cfst (csnd (cfst (csnd (csnd B89)))))) (zbw L rec_sort_ends_sort m q1 x15) (fun s=>s.1) 0 z3s (z42 H) (z25 L rec_sort_ends_sort m q1 x15):=by
 rintro ⟨H16,v38_17⟩ o h
 unfold z25 at h
 try dsimp only at h
 refine WS.sq (WS.rg (RS.mS 1 [kB 39 (decide (v38_17<(x15.n:Int)))] (RS.dn (WS.nxt (WS.sq ?_)))))
 rcases z8 h with ⟨hp,h⟩ | ⟨hp,h⟩
 ·refine WS.fx 39 true (decide_eq_true hp) (WS.cT (WS.sk (WS.nxt (WS.sq (WS.bk 1 (WS.sq (WS.rg ?_)))))))
  obtain ⟨p18,hx,h⟩:=bind_some h
  refine RS.ix 40 44 50 (.tmp 36) (.tmp 38) hx ?_
  obtain ⟨x19_0,hx0,h⟩:=bind_some h
  obtain ⟨x19_1,hx1,h⟩:=bind_some h
  refine RS.la 41 50 (.tmp 40) 2 (z7 (z0 hx0 zd) (z7 (z0 hx1 za) zf)) (RS.mL 2 [kL 6 0 0] ([some (50,[(Value.string x19_0),(Sl3.v x19_1)])]) (RS.dn (WS.nxt (WS.sq (WS.rg (RS.mS 4 [kI 45 0,kI 44 (x19_1.n:Int),kS 43 x19_1,kL 42 0 1] (RS.dn (WS.nxt (WS.bk 2 ?_)))))))))
  obtain ⟨o,hl,h⟩:=bind_some h
  rcases o with ⟨H26,v45_27⟩ | r
  ·try dsimp only at h
   refine WS.lI (z79 (L:=L) (E:=E) (m:=m) (H:=H) hrec_sort_ends_sort) (L.ok hl) 1 ?_
   clear hl
   refine fun a w hs=>bkE (bkN ((WS.nxt ?_ a w hs)))
   refine WS.rg (RS.mS 2 [kI 38 (IntKind.i64.wrap (v38_17+1)),kI 55 (IntKind.i64.wrap (v38_17+1))] (RS.dn ?_))
   cases h
   exact fun a w hs=>lsN rfl (hs.sb 0)
  ·try dsimp only at h
   refine WS.lR (z79 (L:=L) (E:=E) (m:=m) (H:=H) hrec_sort_ends_sort) (L.ok hl) 1 ?_
   cases h
   exact fun a w hq=>bkR (bkR (sqR (lsR rfl hq)))
 ·refine WS.fx 39 false (decide_eq_false hp) (WS.cF (WS.ex 0 ?_))
  cases h
  exact fun a w hs=>sqE (lsB rfl (hs.sb 0))
theorem zay {L:LC} {rec_sort_ends_sort:Nat→AH→(Option Addr)→Int→Int→ByteArray→Sl3→Option (Bool×AH)} (hrec_sort_ends_sort:∀(m:Nat) (H:AH) (a0:Option Addr) (a1_0 a1_1:Int) (a1_2:ByteArray) (a1_3:Sl3) (r:(Bool×AH)),rec_sort_ends_sort m H a0 a1_0 a1_1 a1_2 a1_3=some r→CallS Tryd.prog (NE.plain 1000) m 56 #[(Value.pointer a0),(Value.agg #[(Value.int .i64 a1_0),(Value.int .i64 a1_1),(Value.string a1_2),(Sl3.v a1_3)])] H (z1z r) (z28 H r)) {m:Nat} {H:AH} {a0:Option Addr} {a1:Int} {r:(Bool×AH)} (h:z3g L rec_sort_ends_sort m H a0 a1=some r) :
  CallS Tryd.prog (NE.plain 1000) m 89 #[(Value.pointer a0),(Value.int .i64 a1)] H (z3s r) (z42 H r):=by
 refine CallS.mk (args:=[(Value.pointer a0),(Value.int .i64 a1)]) Tryd.func89 (B:=B89) (by kernel_rfl) (fun E _=>?_)
 unfold z3g at h
 refine WS.sq (WS.rg (RS.mS 1 [kB 4 false] (RS.dn (WS.nxt (WS.sq (WS.sq (WS.rg (RS.mS 1 [(9,.val (Value.pointer a0))] ?_))))))))
 obtain ⟨q1,hx,hq1⟩:=bind_some h
 subst hx
 have h:=hq1
 refine RS.mS 2 [(11,.val (Value.pointer (some (Addr.add q1 0)))),kP 10 q1] ?_
 obtain ⟨x2,hx,h⟩:=bind_some h
 refine RS.ld 12 81 (.tmp 11) (z0 hx z4m) ?_
 obtain ⟨q3,hx,hq3⟩:=bind_some h
 subst hx
 have h:=hq3
 refine RS.mS 2 [(14,.val (Value.pointer (some (Addr.add q3 2)))),kP 13 q3] ?_
 obtain ⟨x4,hx,h⟩:=bind_some h
 refine RS.ld 15 76 (.tmp 14) (z0 hx za) (RS.mS 1 [kI 16 a1] ?_)
 obtain ⟨p5,hx,h⟩:=bind_some h
 refine RS.ix 17 76 56 (.tmp 15) (.tmp 16) hx ?_
 obtain ⟨x6,hx,h⟩:=bind_some h
 refine RS.ld 18 56 (.tmp 17) (z0 hx za) (RS.mS 1 [kI 19 a1] ?_)
 obtain ⟨p7,hx,h⟩:=bind_some h
 refine RS.ix 20 56 4 (.tmp 18) (.tmp 19) hx ?_
 obtain ⟨x8,hx,h⟩:=bind_some h
 refine RS.ld 21 4 (.tmp 20) (z0 hx z55) (RS.dn (WS.nxt ?_))
 rcases z8 h with ⟨hp,h⟩ | ⟨hp,h⟩
 ·refine WS.fx 21 true hp (WS.cT (WS.sq (WS.rg (RS.mS 1 [kB 4 false] (RS.dn (WS.nxt (WS.rt ?_)))))))
  cases h
  exact fun a w hs=>sqR (rtR (rS hs))
 ·refine WS.fx 21 false (b_not hp) (WS.cF (WS.sk (WS.nxt (WS.sq (WS.sq (WS.rg (RS.mS 3 [(24,.val (Value.pointer (some (Addr.add q1 0)))),kP 23 q1,kP 22 q1] ?_)))))))
  obtain ⟨x9,hx,h⟩:=bind_some h
  refine RS.ld 25 81 (.tmp 24) (z0 hx z4m) ?_
  obtain ⟨q10,hx,hq10⟩:=bind_some h
  subst hx
  have h:=hq10
  refine RS.mS 2 [(27,.val (Value.pointer (some (Addr.add q10 0)))),kP 26 q10] ?_
  obtain ⟨x11,hx,h⟩:=bind_some h
  refine RS.ld 28 66 (.tmp 27) (z0 hx z4m) ?_
  obtain ⟨q12,hx,hq12⟩:=bind_some h
  subst hx
  have h:=hq12
  refine RS.mS 3 [(31,.val (Value.pointer (some (Addr.add (Addr.add q12 0) 1)))),(30,.val (Value.pointer (some (Addr.add q12 0)))),kP 29 q12] ?_
  obtain ⟨x13,hx,h⟩:=bind_some h
  refine RS.ld 32 30 (.tmp 31) (z0 hx za) (RS.mS 1 [kI 33 a1] ?_)
  obtain ⟨p14,hx,h⟩:=bind_some h
  refine RS.ix 34 30 46 (.tmp 32) (.tmp 33) hx (RS.mS 1 [(35,.val (Value.pointer (some (Addr.add p14 1))))] ?_)
  obtain ⟨x15,hx,h⟩:=bind_some h
  refine RS.ld 36 44 (.tmp 35) (z0 hx za) (RS.mS 2 [kI 38 0,kI 37 (x15.n:Int)] (RS.dn (WS.nxt (WS.bk 0 ?_))))
  obtain ⟨o,hl,h⟩:=bind_some h
  rcases o with ⟨H28,v38_29⟩ | r
  ·try dsimp only at h
   refine WS.lI (z7a (L:=L) (E:=E) (m:=m) (H:=H) hrec_sort_ends_sort) (L.ok hl) 0 ?_
   clear hl
   refine fun a w hs=>bkE ((WS.nxt ?_ a w hs))
   refine WS.sq (WS.rg (RS.mS 1 [kB 4 true] (RS.dn (WS.nxt (WS.rt ?_)))))
   cases h
   exact fun a w hs=>rtR (rS hs)
  ·try dsimp only at h
   refine WS.lR (z7a (L:=L) (E:=E) (m:=m) (H:=H) hrec_sort_ends_sort) (L.ok hl) 0 ?_
   cases h
   exact fun a w hq=>bkR (sqR (rtR hq))
theorem zb2 {L:LC}:∀n,(∀(m:Nat) (H:AH) (a0:Option Addr) (a1_0 a1_1:Int) (a1_2:ByteArray) (a1_3:Sl3) (r:(Bool×AH)),((z1q L n).1) m H a0 a1_0 a1_1 a1_2 a1_3=some r→CallS Tryd.prog (NE.plain 1000) m 56 #[(Value.pointer a0),(Value.agg #[(Value.int .i64 a1_0),(Value.int .i64 a1_1),(Value.string a1_2),(Sl3.v a1_3)])] H (z1z r) (z28 H r))∧(∀(m:Nat) (H:AH) (a0:Option Addr) (a1:Int) (r:(Bool×AH)),((z1q L n).2) m H a0 a1=some r→CallS Tryd.prog (NE.plain 1000) m 89 #[(Value.pointer a0),(Value.int .i64 a1)] H (z3s r) (z42 H r)):=by
 intro n
 induction n with
 | zero=>exact ⟨(fun _ _ _ _ _ _ _ _ h=>(Option.some_ne_none _ h.symm).elim),(fun _ _ _ _ _ h=>(Option.some_ne_none _ h.symm).elim)⟩
 | succ n ih=>exact ⟨(fun _ _ _ _ _ _ _ _ h=>zb0 (L:=L) ih.1 ih.2 h),(fun _ _ _ _ _ h=>zay (L:=L) ih.1 h)⟩
theorem ze8 {L:LC} {m:Nat} {H:AH} {a0:Option Addr} {a1_0 a1_1:Int} {a1_2:ByteArray} {a1_3:Sl3} {r:(Bool×AH)} (h:z7x L m H a0 a1_0 a1_1 a1_2 a1_3=some r) :
  CallS Tryd.prog (NE.plain 1000) m 56 #[(Value.pointer a0),(Value.agg #[(Value.int .i64 a1_0),(Value.int .i64 a1_1),(Value.string a1_2),(Sl3.v a1_3)])] H (z1z r) (z28 H r) :=
 ((zb2 _).1) _ _ _ _ _ _ _ _ h
def zgh:(Bool×AH)→Value
 | (r0,_)=>(Value.bool r0)
def zh4 (_:AH):(Bool×AH)→AH:=fun r=>r.2
noncomputable def B23:Code:=(Tryd.f23.body).getD .skip
noncomputable def z5g (L:LC) (m:Nat) (H:AH) (a0_0 a0_1:Int) (a0_2:ByteArray) (a0_3 a1_0:Sl3) (a1_1 a1_2:Sl3):Option (Bool×AH) :=
 Option.bind (α:=(AH×Bool)) (
  Option.bind (z2m L m H a1_0 a1_1 a1_2) fun (x3,H4) =>
  if x3=0 then
   Option.bind (z6a L m H4 a0_0 a0_1 a0_2 a0_3 a1_0 a1_1 a1_2) fun (x5,H6) =>
   some (H6,(!decide (x5=0)))
  else
   some (H4,true)) fun (H1,v14_2) =>
 if v14_2=true then
  some (false,H1)
 else
  Option.bind (z3z L m H1 a1_0 a1_1 a1_2 1) fun (x7,H8) =>
  Option.bind (newM H8) fun (p9,H10) =>
  Option.bind (newB 86 [(Value.pointer x7),(Value.map (some p9))] H10) fun (p11,H12) =>
  Option.bind (z7x L m H12 (some p11) a0_0 a0_1 a0_2 a0_3) fun (x13,H14) =>
  some (x13,H14)
theorem zb9 {L:LC} {m:Nat} {H:AH} {a0_0 a0_1:Int} {a0_2:ByteArray} {a0_3 a1_0:Sl3} {a1_1 a1_2:Sl3} {r:(Bool×AH)} (h:z5g L m H a0_0 a0_1 a0_2 a0_3 a1_0 a1_1 a1_2=some r) :
  CallS Tryd.prog (NE.plain 1000) m 23 #[(Value.agg #[(Value.int .i64 a0_0),(Value.int .i64 a0_1),(Value.string a0_2),(Sl3.v a0_3)]),(Value.agg #[(Sl3.v a1_0),(Sl3.v a1_1),(Sl3.v a1_2)])] H (zgh r) (zh4 H r):=by
 refine CallS.mk (args:=[(Value.agg #[(Value.int .i64 a0_0),(Value.int .i64 a0_1),(Value.string a0_2),(Sl3.v a0_3)]),(Value.agg #[(Sl3.v a1_0),(Sl3.v a1_1),(Sl3.v a1_2)])]) Tryd.func23 (B:=B23) (by kernel_rfl) (fun E _=>?_)
 unfold z5g at h
 refine WS.sq (WS.rg (RS.mL 3 [kB 4 false,kL 3 1 0,kL 2 0 0] ([some (28,[(Value.int .i64 a0_0),(Value.int .i64 a0_1),(Value.string a0_2),(Sl3.v a0_3)]),some (33,[(Sl3.v a1_0),(Sl3.v a1_1),(Sl3.v a1_2)])]) (RS.dn (WS.nxt (WS.sq ?_)))))
 obtain ⟨⟨H1,v14_2⟩,hx,h⟩:=bind_some h
 try dsimp only at h
 refine WS.sq ?_
 refine WS.join ([kB 14 v14_2,kL 2 0 0,kL 3 1 0]) ([some (28,[(Value.int .i64 a0_0),(Value.int .i64 a0_1),(Value.string a0_2),(Sl3.v a0_3)]),some (33,[(Sl3.v a1_0),(Sl3.v a1_1),(Sl3.v a1_2)])]) H1 ?_ (fun a w hs=>WS.nxt ?_ a w hs)
 ·clear h; rename _=>h
  refine WS.rg (RS.mS 1 [kA 6 #[(Sl3.v a1_0),(Sl3.v a1_1),(Sl3.v a1_2)]] ?_)
  obtain ⟨⟨x3,H4⟩,hx,h⟩:=bind_some h
  try dsimp only at h
  refine RS.cl (some 7) (v:=(Value.int .i64 x3)) 20 #[(Value.agg #[(Sl3.v a1_0),(Sl3.v a1_1),(Sl3.v a1_2)])] (z4d hx) (RS.mS 2 [kB 9 (!decide (x3=0)),kB 8 (!decide (x3=0))] ?_)
  rcases z8 h with ⟨hp,h⟩ | ⟨hp,h⟩
  ·refine RS.fx 9 false (z6w hp) (RS.mS 2 [kA 11 #[(Sl3.v a1_0),(Sl3.v a1_1),(Sl3.v a1_2)],kA 10 #[(Value.int .i64 a0_0),(Value.int .i64 a0_1),(Value.string a0_2),(Sl3.v a0_3)]] ?_)
   obtain ⟨⟨x5,H6⟩,hx,h⟩:=bind_some h
   try dsimp only at h
   refine RS.cl (some 12) (v:=(Value.int .i64 x5)) 18 #[(Value.agg #[(Value.int .i64 a0_0),(Value.int .i64 a0_1),(Value.string a0_2),(Sl3.v a0_3)]),(Value.agg #[(Sl3.v a1_0),(Sl3.v a1_1),(Sl3.v a1_2)])] (zcs hx) (RS.mS 2 [kB 14 (!decide (x5=0)),kB 13 (!decide (x5=0))] (RS.dn ?_))
   cases h
   exact fun a w hs=>(jsN (hs.sb 2))
  ·refine RS.fx 9 true (z5u hp) (RS.mS 5 [kB 14 true,kU 13,kU 12,kU 11,kU 10] (RS.dn ?_))
   cases h
   exact fun a w hs=>(jsN (hs.sb 2))
 ·clear hx
  rcases z8 h with ⟨hp,h⟩ | ⟨hp,h⟩
  ·refine WS.fx 14 true hp (WS.cT (WS.sq (WS.rg (RS.mS 1 [kB 4 false] (RS.dn (WS.nxt (WS.rt ?_)))))))
   cases h
   exact fun a w hs=>sqR (rtR (rS hs))
  ·refine WS.fx 14 false (b_not hp) (WS.cF (WS.sk (WS.nxt (WS.sq (WS.rg (RS.mS 1 [kA 15 #[(Sl3.v a1_0),(Sl3.v a1_1),(Sl3.v a1_2)]] ?_))))))
   obtain ⟨⟨x7,H8⟩,hx,h⟩:=bind_some h
   try dsimp only at h
   refine RS.cl (some 16) (v:=(Value.pointer x7)) 54 #[(Value.agg #[(Sl3.v a1_0),(Sl3.v a1_1),(Sl3.v a1_2)]),(Value.int .i64 1)] (z9l hx) ?_
   obtain ⟨⟨p9,H10⟩,hx,h⟩:=bind_some h
   try dsimp only at h
   refine RS.o (H':=H10) (some 17) (Value.map (some p9)) (Abs.run_newM (by kernel_rfl) hx) (RS.mS 1 [kA 18 #[(Value.pointer x7),(Value.map (some p9))]] ?_)
   obtain ⟨⟨p11,H12⟩,hx,h⟩:=bind_some h
   try dsimp only at h
   refine RS.o (H':=H12) (some 19) (Value.pointer (some p11)) (Abs.run_newB (by kernel_rfl) hx) (RS.mS 1 [kP 5 p11] (RS.dn (WS.nxt (WS.sq (WS.rg (RS.mS 2 [kA 21 #[(Value.int .i64 a0_0),(Value.int .i64 a0_1),(Value.string a0_2),(Sl3.v a0_3)],kP 20 p11] ?_))))))
   obtain ⟨⟨x13,H14⟩,hx,h⟩:=bind_some h
   try dsimp only at h
   refine RS.cl (some 22) (v:=(Value.bool x13)) 56 #[(Value.pointer (some p11)),(Value.agg #[(Value.int .i64 a0_0),(Value.int .i64 a0_1),(Value.string a0_2),(Sl3.v a0_3)])] (ze8 hx) (RS.mS 1 [kB 4 x13] (RS.dn (WS.nxt (WS.rt ?_))))
   cases h
   exact fun a w hs=>rtR (rS hs)
end Go.Proofs.YtccbilfbhecdaaaDoor
