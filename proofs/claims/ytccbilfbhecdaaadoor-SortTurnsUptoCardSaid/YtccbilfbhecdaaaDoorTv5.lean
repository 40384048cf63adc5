/- Parts of the proof: an abstract interpreter of the loaded program and its soundness, printed functions, the law's own texts; part 5. No condition. -/
import Derived.Test.YtccbilfbhecdaaaDoorTv4
namespace Go.Proofs.YtccbilfbhecdaaaDoor
open Go Go.Abs
set_option maxRecDepth 100000
def badC (c:Con):Bool:=decide (c.sels.length > 64)
def badD (d:Dat):Bool:=decide (d.cons.length<1)||(decide (d.cons.length > 64)||d.cons.any badC)
def badF (f:Fnc):Bool:=decide (f.args.len > 64)
def sumL {α:Type} (f:α→Nat):List α→Nat
 | []=>0
 | x :: l=>f x+sumL f l
def cntD (d:Dat):Nat:=d.cons.length+sumL (fun c=>c.sels.length) d.cons
def cntG (g:Sg):Nat:=g.users.length+g.datas.length+g.funs.length+sumL cntD g.datas
def manyS (g:Sg):Bool:=g.datas.any badD||(g.funs.any badF||decide (cntG g > 4096))
theorem zlx {α:Type} {f:α→Nat} {F:Nat}:∀{l:List α},(∀x∈l,f x≤F)→sumL f l≤l.length*F
 | [],_=>by simp [sumL]
 | x :: l,h=>by
  have h1:=h x (by simp)
  have h2:=zlx (l:=l) fun y hy=>h y (by simp [hy])
  simp only [sumL,List.length_cons,Nat.add_mul,Nat.one_mul]
  omega
theorem zhb {α R:Type} {xs:List α} {body:Int×Int→Option (Lp (Int×Int) R)} (f:α→Nat) (bad:α→Option R) (F M:Nat) (hF:∀x,bad x=none→f x≤F)
  (hs:∀(i:Nat) (hi:i<xs.length) (n:Nat),n+F≤M→body ((n:Int),(i:Int))=some (match bad xs[i] with | some r=>.ret r | none=>.next (((n+f xs[i]:Nat):Int),((i+1:Nat):Int))))
  (he:∀n:Nat,body ((n:Int),(xs.length:Int))=some (.brk ((n:Int),(xs.length:Int)))) :
  ∀(d i n:Nat),i+d=xs.length→n+d*F≤M→loopO body ((n:Int),(i:Int))=some (match (xs.drop i).findSome? bad with | some r=>.inr r | none=>.inl (((n+sumL f (xs.drop i):Nat):Int),(xs.length:Int))):=by
 intro d
 induction d with
 | zero =>
  intro i n hi hn
  have:i=xs.length:=by omega
  subst this
  rw [List.drop_length]
  exact zy (he n)
 | succ d ih =>
  intro i n hi hn
  have hlt:i<xs.length:=by omega
  rw [Nat.add_mul,Nat.one_mul] at hn
  have hb:=hs i hlt n (by omega)
  rw [List.drop_eq_getElem_cons hlt,List.findSome?_cons]
  cases hq:bad xs[i] with
  | some r=>rw [hq] at hb; exact z45 hb
  | none =>
   rw [hq] at hb
   have h1:=hF xs[i] hq
   rw [zl hb,ih (i+1) (n+f xs[i]) (by omega) (by omega)]
   simp only [sumL]
   cases (xs.drop (i+1)).findSome? bad with
   | some r=>rfl
   | none=>simp only [Nat.add_assoc]
theorem zet {α R:Type} (l:List α) (p:α→Bool) (r:R):(l.findSome? fun x=>if p x=true then some r else none)=if l.any p=true then some r else none:=by
 induction l with
 | nil=>rfl
 | cons x l ih =>
  rw [List.findSome?_cons,List.any_cons,ih]
  cases p x <;> rfl
theorem zhq {α R:Type} (l:List α) (bad:α→Bool) (r:R) (d:α) :
  (List.range l.length).findSome? (fun i=>if bad (l.getD i d)=true then some r else none)=if l.any bad=true then some r else none:=by
 induction l with
 | nil=>simp
 | cons x l ih =>
  rw [List.length_cons,List.range_succ_eq_map,List.findSome?_cons,List.any_cons]
  cases hx:bad x with
  | true=>simp [hx]
  | false =>
   simp only [List.getD_cons_zero,hx,Bool.false_eq_true,if_false,Bool.false_or,List.findSome?_map,Function.comp_def,List.getD_cons_succ]
   exact ih
theorem zca {a b:Nat} (h:a+b≤maxN):IntKind.i64.wrap ((a:Int)+(b:Int))=((a+b:Nat):Int):=zim (by omega) (by rw [z1r] at h; omega)
theorem zro (c:Nat) {H:AH} {s1 s2 s3 sl:Sl3} {v:Int} {x0:ByteArray} {cs:List Con} (h:SlL ConA 2 H sl cs) (hl:cs.length≤64) {n:Nat} (hn:n+4096≤maxN) :
  loopO (z2z (LCo c) H s1 s2 s3 v x0 sl) ((n:Int),0)=some (if cs.any badC=true then .inr true else .inl (((n+sumL (fun c=>c.sels.length) cs:Nat):Int),(cs.length:Int))):=by
 have hs:loopO (z2z (LCo c) H s1 s2 s3 v x0 sl) ((n:Int),((0:Nat):Int))=_:=zhb (xs:=cs) (body:=z2z (LCo c) H s1 s2 s3 v x0 sl) (fun c=>c.sels.length) (fun c=>if badC c=true then some true else none) 64 (n+4096)
  (fun x hx=>by
   unfold badC at hx
   by_cases h:x.sels.length > 64
   ·simp [h] at hx
   ·omega)
  (fun i hi n' hn'=>by
   unfold z2z
   have hln:=h.n
   obtain ⟨q,h1,h2⟩:=h.get hi (v:=(i:Int)) rfl
   obtain ⟨sx,h3,h4⟩:=h2.ex
   have r0:rd deS H (q.add 0)=some cs[i].n:=by rw [h2.n.rd]; rfl
   have r1:rd deSl H (q.add 1)=some sx:=by rw [h3.rd]; rfl
   simp only [if_pos (show (i:Int)<(sl.n:Int) by omega),h1,Option.bind_some,r0,r1,h4.n]
   unfold badC
   by_cases hb:cs[i].sels.length > 64
   ·have:((cs[i].sels.length:Nat):Int) > 64:=by omega
    simp [hb,this]
   ·have:¬(((cs[i].sels.length:Nat):Int) > 64):=by omega
    rw [if_neg this,zca (by omega),zi hi h.len]
    simp [hb])
  (fun n'=>by
   unfold z2z
   have hln:=h.n
   simp only [if_neg (show ¬((cs.length:Int)<(sl.n:Int)) by omega)])
  cs.length 0 n (by omega) (by omega)
 rw [List.drop_zero,zet] at hs
 refine hs.trans ?_
 cases cs.any badC <;> rfl
theorem zoq (c:Nat) {H:AH} {s1 s2 s3:Sl3} {g:Sg} (h:SigA H s1 s2 s3 g) (hB:SgB g):z8c (LCo c) H s1 s2 s3=some (manyS g):=by
 have eS:maxS=140737488351232:=rfl
 have eN:=z1r
 have hu:=h.u.n; have hd:=h.d.n; have hf:=h.f.n
 have b1:=hB.u; have b2:=hB.d; have b3:=hB.f
 unfold z8c
 have w0:IntKind.i64.wrap (IntKind.i64.wrap ((s1.n:Int)+(s2.n:Int))+(s3.n:Int))=((s1.n+s2.n+s3.n:Nat):Int):=by
  rw [zca (by omega),zca (by omega)]
 rw [w0]
 have hs:loopO (z3r (LCo c) H s1 s2 s3) (((s1.n+s2.n+s3.n:Nat):Int),((0:Nat):Int))=_:=zhb (xs:=g.datas) (body:=z3r (LCo c) H s1 s2 s3) cntD (fun d=>if badD d=true then some true else none) 8256 9000000000000000000
  (fun d hd=>by
   by_cases hb:badD d=true
   ·rw [if_pos hb] at hd; cases hd
   ·simp only [badD,Bool.or_eq_true,decide_eq_true_eq,not_or,List.any_eq_true,not_exists,not_and] at hb
    have:sumL (fun c=>c.sels.length) d.cons≤d.cons.length*64:=zlx fun x hx=>by
     have:=hb.2.2 x hx
     simp only [badC,decide_eq_true_eq] at this
     omega
    unfold cntD
    omega)
  (fun i hi n' hn'=>by
   unfold z3r
   obtain ⟨q,h1,h2⟩:=h.d.get hi (v:=(i:Int)) rfl
   obtain ⟨sx,h3,h4⟩:=h2.ex
   have r0:rd deS H (q.add 0)=some g.datas[i].n:=by rw [h2.n.rd]; rfl
   have r1:rd deSl H (q.add 1)=some sx:=by rw [h3.rd]; rfl
   simp only [if_pos (show (i:Int)<(s2.n:Int) by omega),h1,Option.bind_some,r0,r1,h4.n]
   by_cases c1:g.datas[i].cons.length<1
   ·have:((g.datas[i].cons.length:Nat):Int)<1:=by omega
    simp [badD,c1,this]
   ·have c1':¬(((g.datas[i].cons.length:Nat):Int)<1):=by omega
    rw [if_neg c1']
    by_cases c2:g.datas[i].cons.length > 64
    ·have:((g.datas[i].cons.length:Nat):Int) > 64:=by omega
     simp [badD,c2,this]
    ·have c2':¬(((g.datas[i].cons.length:Nat):Int) > 64):=by omega
     simp only [decide_eq_false c2',Option.bind_some,Bool.false_eq_true,if_false]
     rw [zca (by omega)]
     have hb1:=zro c (s1:=s1) (s2:=s2) (s3:=s3) (v:=(i:Int)) (x0:=g.datas[i].n) h4 (by omega) (n:=n'+g.datas[i].cons.length) (by omega)
     show Option.bind (loopO (z2z (LCo c) H s1 s2 s3 (i:Int) g.datas[i].n sx) (((n'+g.datas[i].cons.length:Nat):Int),0)) _=_
     rw [hb1]
     have hbd:badD g.datas[i]=g.datas[i].cons.any badC:=by simp [badD,c1,c2]
     rw [hbd]
     cases g.datas[i].cons.any badC with
     | true=>rfl
     | false =>
      simp only [Bool.false_eq_true,if_false,Option.bind_some]
      rw [zi hi h.d.len]
      simp only [cntD,Nat.add_assoc])
  (fun n'=>by
   unfold z3r
   simp only [if_neg (show ¬((g.datas.length:Int)<(s2.n:Int)) by omega)])
  g.datas.length 0 (s1.n+s2.n+s3.n) (by omega) (by omega)
 rw [List.drop_zero,zet] at hs
 show Option.bind (loopO (z3r (LCo c) H s1 s2 s3) (((s1.n+s2.n+s3.n:Nat):Int),((0:Nat):Int))) _=_
 rw [hs]
 unfold manyS
 cases g.datas.any badD with
 | true=>rfl
 | false =>
  simp only [Bool.false_eq_true,if_false,Option.bind_some,Bool.false_or]
  have hl:∀v,loopO (z4e (LCo c) H s1 s2 s3 v) 0=some (found g.funs.length ((List.range g.funs.length).findSome? (fun i=>if badF (g.funs.getD i ⟨emptyT,.nil,0,0,emptyT,.nil⟩)=true then some true else none))):=by
   intro v
   refine z4w g.funs.length h.f.len _ (fun i hi=>?_) ?_
   ·unfold z4e
    obtain ⟨q,h1,h2⟩:=h.f.get hi (v:=(i:Int)) rfl
    obtain ⟨sx,h3,h4⟩:=h2.ar
    obtain ⟨sy,k2,k3,k4,k5,k6,k7⟩:=h2.ex
    have r0:rd deS H (q.add 0)=some g.funs[i].n:=by rw [h2.n.rd]; rfl
    have r1:rd deSl H (q.add 1)=some sx:=by rw [h3.rd]; rfl
    have r2:rd (deI .i64) H (q.add 2)=some g.funs[i].k:=by rw [k2.rd]; rfl
    have r3:rd (deI .i64) H (q.add 3)=some g.funs[i].w:=by rw [k3.rd]; rfl
    have r4:rd deS H (q.add 4)=some g.funs[i].sn:=by rw [k4.rd]; rfl
    have r5:rd deSl H (q.add 5)=some sy:=by rw [k5.rd]; rfl
    have:g.funs.getD i ⟨emptyT,.nil,0,0,emptyT,.nil⟩=g.funs[i]:=by simp [List.getD,hi]
    simp only [if_pos (show (i:Int)<(s3.n:Int) by omega),h1,Option.bind_some,r0,r1,r2,r3,r4,r5,this,badF,h4.1]
    by_cases hb:g.funs[i].args.len > 64
    ·have:((g.funs[i].args.len:Nat):Int) > 64:=by omega
     simp [hb,this,stepO]
    ·have:¬(((g.funs[i].args.len:Nat):Int) > 64):=by omega
     simp [hb,this,stepO]
   ·unfold z4e
    rw [if_neg (by omega)]
  show Option.bind (loopO (z4e (LCo c) H s1 s2 s3 _) 0) _=_
  rw [hl,zhq g.funs badF true ⟨emptyT,.nil,0,0,emptyT,.nil⟩]
  cases g.funs.any badF with
  | true=>rfl
  | false =>
   simp only [Bool.false_eq_true,if_false,found,Option.bind_some,Bool.false_or]
   congr 2
   apply propext
   unfold cntG
   omega
end Go.Proofs.YtccbilfbhecdaaaDoor
namespace Go.Proofs.YtccbilfbhecdaaaDoor
open Go Go.Abs
set_option maxRecDepth 100000
def strE:Enc ByteArray:=⟨fun s=>[.string s],1,fun _=>rfl,fun _=>rfl⟩
def selNames (c:Con):List ByteArray:=c.n :: c.sels.map (·.n)
def conNames (d:Dat):List ByteArray:=d.cons.flatMap selNames
def sortNamesS (g:Sg):List ByteArray:=g.users++g.datas.flatMap fun d=>[d.n]
def funNamesS (g:Sg):List ByteArray:=g.datas.flatMap conNames++g.funs.flatMap fun f=>[f.n]
theorem flat_one {α β:Type} (f:α→β) (l:List α):(l.flatMap fun x=>[f x]).length=l.length:=by
 induction l with
 | nil=>rfl
 | cons x l ih=>rw [List.flatMap_cons,List.length_append,ih]; simp; omega
theorem zin (d:Dat):(conNames d).length=cntD d:=by
 unfold conNames cntD
 generalize d.cons=l
 induction l with
 | nil=>rfl
 | cons c l ih =>
  rw [List.flatMap_cons,List.length_append,ih]
  simp only [selNames,List.length_cons,List.length_map,sumL]
  omega
theorem zi0 (l:List Dat):(l.flatMap conNames).length=sumL cntD l:=by
 induction l with
 | nil=>rfl
 | cons c l ih=>rw [List.flatMap_cons,List.length_append,ih,zin]; rfl
theorem zen {g:Sg} (h:manyS g=false):(sortNamesS g).length+(funNamesS g).length≤4096:=by
 unfold manyS at h
 simp only [Bool.or_eq_false_iff,decide_eq_false_iff_not] at h
 have:=h.2.2
 unfold cntG at this
 unfold sortNamesS funNamesS
 rw [List.length_append,List.length_append,flat_one,flat_one,zi0]
 omega
theorem room {n:Nat} (h:n≤100000):(2*n+1000)*16≤281474976710656∧n≤281474976710656:=by omega
theorem own_lt {α:Type} {E:Enc α} {e:TypeId} {m:Nat} {H:AH} {l:List α} {s:Sl3} (h:VecA E e m H l s):∀id,owns s id→id<H.next:=fun id hid=>(VecV.own h id hid).2
theorem zc3 {m:Nat} {H:AH} {l:List ByteArray} {s:Sl3} (h:VecA strE 9 m H l s) (x:ByteArray) (hN:l.length+1≤100000) (hm:m≤H.next) :
  ∃z H1 s' H',newR 9 1 #[(Value.string x)] H=some (z,H1)∧appS m 9 1 16 H1 s z=some (s',H')∧VecA strE 9 m H' (l++[x]) s'∧Ch H s H' s' :=
 VecA.push h x (room hN).1 (room hN).2 hm (own_lt h)
theorem zri {H:AH} {s:Sl3} {l:List ByteArray} (h:SlL StrA 1 H s l):RdV 1 H s l.length (l.flatMap strE.enc):=by
 refine ⟨h.n,fun hp=>?_,fun a ha=>?_,strE.flat_one l⟩
 ·have:l=[]:=by
   cases l with
   | nil=>rfl
   | cons x l =>
    obtain ⟨a,h1,_⟩:=h.at_.get 0 (by simp)
    rw [hp] at h1; cases h1
  subst this; exact ⟨rfl,rfl⟩
 ·have:=z7b (H:=H) (a:=a) (l.flatMap strE.enc) 0 fun i hi=>by
   rw [strE.flat_len] at hi
   have hi':i<l.length:=by
    have:strE.sz=1:=rfl
    rw [this] at hi; omega
   obtain ⟨a',h1,h2⟩:=h.at_.get i hi'
   rw [ha] at h1; cases h1
   have e1:(l.flatMap strE.enc)[i]? = some (.string l[i]):=by
    have:=strE.flat_get (l:=l) (i:=i) (j:=0) hi' (by decide)
    rw [show i*strE.sz+0=i from by show i*1+0=i; omega] at this
    rw [this]; rfl
   rw [List.getElem?_eq_getElem (by rw [strE.flat_len]; exact hi)] at e1
   rw [Option.some.inj e1,Nat.zero_add]
   rw [Nat.zero_add,Nat.mul_one] at h2
   exact h2.1
  rw [strE.flat_len] at this
  exact this
theorem zg0 (c m:Nat) {H:AH} {s:Sl3} {l:List ByteArray} (h:∀H',Ext H H'→RdV 1 H' s l.length (l.flatMap strE.enc)) (hN:l.length≤100000) (hm:m≤H.next) :
  ∃s' H',z54 (LCo c) m H s=some (s',H')∧VecA strE 9 m H' l s'∧Ext H H'∧∀id,owns s' id→H.next≤id:=by
 unfold z54
 cases hnil:isNilS s with
 | true =>
  have hp:s.p=none:=by
   unfold isNilS at hnil
   cases hq:s.p with
   | none=>rfl
   | some a=>rw [hq] at hnil; cases hnil
  have:l=[]:=by
   have:=(h H (Fm.refl _ _)).nil hp
   exact List.length_eq_zero_iff.1 this.1
  subst this
  exact ⟨Sl3.nil,H,rfl,VecA.nil _ _ _ _,Fm.refl _ _,fun id h=>absurd h z3y⟩
 | false =>
  have hp:Ext H (H.push { obj:=.cells #[] 9 (0,0),opn:=false,esz:=0,ro:=false }):=Fm.push _ _ _
  obtain ⟨s',H',a1,a2,a3⟩:=VecA.app (E:=strE) (e:=9) (bytes:=16) (l:=[]) (l':=l) (m:=m) (VecA.zero _ _ _ _ ⟨H.next,0,none⟩ ⟨by simp,rfl⟩) (h _ hp) (by simp only [List.length_nil,Nat.zero_add]; exact (room hN).1) (by simp only [List.length_nil,Nat.zero_add]; exact (room hN).2) (by simp; omega)
  have hx:=a3.ext hp fun id h=>absurd h zhx
  refine ⟨s',H',?_,a2,hx.1,hx.2⟩
  simp only [Bool.false_eq_true,if_false,newR,Option.bind_some]
  have a1':appS m 9 1 16 (H.push { obj:=.cells #[] 9 (0,0),opn:=false,esz:=0,ro:=false }) ⟨some ⟨H.next,0,none⟩,0,0⟩ s=some (s',H'):=a1
  rw [a1']
  rfl
theorem zs0 {H:AH} {s:Sl3} {l:List ByteArray} (h:SlL StrA 1 H s l):∀H',Ext H H'→RdV 1 H' s l.length (l.flatMap strE.enc):=fun H' hx=>zri (h.ext hx fun _ _ h=>Cel.ext h hx)
theorem zk1 {m:Nat} {H:AH} {s:Sl3} {l:List ByteArray} (h:VecA strE 9 m H l s):∀H',Ext H H'→RdV 1 H' s l.length (l.flatMap strE.enc):=fun H' hx=>(VecV.ext h hx).rdv
theorem zf4 {m:Nat} {H:AH} {s:Sl3} {l:List ByteArray} (h:VecA strE 9 m H l s) (hN:l.length≤100000):SlL StrA 1 H s l :=
 VecA.sl h (by rw [z1r]; omega) fun x q hc=>hc 0 _ rfl
end Go.Proofs.YtccbilfbhecdaaaDoor
namespace Go.Proofs.YtccbilfbhecdaaaDoor
open Go Go.Abs
set_option maxRecDepth 100000
theorem zee {α β:Type} (f:α→β) (l:List α):(l.flatMap fun x=>[f x])=l.map f:=by
 induction l with
 | nil=>rfl
 | cons x l ih=>rw [List.flatMap_cons,ih]; rfl
section
variable {m:Nat} {H0 H:AH} {s1 s2 s3:Sl3} {g:Sg} {s:Sl3} {l:List ByteArray}
theorem zqq (c:Nat) {v20 v32:Int} {x8_0 x17_0:ByteArray} {x8_1 s11 sl:Sl3} {ss:List Sel} (h:SlL SelA 5 H0 sl ss) (hm:m≤H0.next) (hv:VecA strE 9 m H l s) (hx:Ext H0 H) (ho:∀id,owns s id→H0.next≤id) (hN:l.length+ss.length≤100000) :
  ∃H' s',loopO (z3a (LCo c) m s1 s2 s3 v20 x8_0 x8_1 s11 v32 x17_0 sl) (H,s,0)=some (.inl (H',s',(ss.length:Int)))∧VecA strE 9 m H' (l++ss.map (·.n)) s'∧Ch H s H' s':=by
 have key:=z9i (E:=strE) (e:=9) (m:=m) (xs:=ss) (body:=z3a (LCo c) m s1 s2 s3 v20 x8_0 x8_1 s11 v32 x17_0 sl) (fun x=>[x.n]) 100000 (H0:=H0)
  (fun i hi G t k hk hG _ hN=>by
   have h':=h.ext hG fun _ _ h=>h.ext hG
   have hln:=h'.n
   obtain ⟨q,g1,g2⟩:=h'.get hi (v:=(i:Int)) rfl
   obtain ⟨z,e1,e2,e3,e4,e5,e6⟩:=g2.ex
   have r0:rd deS G (q.add 0)=some ss[i].n:=by rw [g2.n.rd]; rfl
   have r1:rd (deI .i64) G (q.add 1)=some ss[i].k:=by rw [e1.rd]; rfl
   have r2:rd (deI .i64) G (q.add 2)=some ss[i].w:=by rw [e2.rd]; rfl
   have r3:rd deS G (q.add 3)=some ss[i].sn:=by rw [e3.rd]; rfl
   have r4:rd deSl G (q.add 4)=some z:=by rw [e4.rd]; rfl
   obtain ⟨z1,G1,t1,G2,p1,p2,p3,p4⟩:=zc3 hk ss[i].n (by simpa using hN) (Nat.le_trans hm hG.1)
   refine ⟨G2,t1,?_,p3,p4⟩
   unfold z3a
   simp only [if_pos (show (i:Int)<(sl.n:Int) by omega),g1,Option.bind_some,r0,r1,r2,r3,r4,p1,p2]
   rw [zi hi h.len])
  (fun G t hG=>by
   unfold z3a
   have hln:=h.n
   simp only [if_neg (show ¬((ss.length:Int)<(sl.n:Int)) by omega)])
  ss.length 0 H s l (by omega) hv hx ho (by rw [List.drop_zero,flat_one]; exact hN)
 rw [List.drop_zero,zee] at key
 exact key
theorem zq0 (c:Nat) {v20:Int} {x8_0:ByteArray} {s11 sl:Sl3} {cs:List Con} (h:SlL ConA 2 H0 sl cs) (hm:m≤H0.next) (hv:VecA strE 9 m H l s) (hx:Ext H0 H) (ho:∀id,owns s id→H0.next≤id) (hN:l.length+(cs.flatMap selNames).length≤100000) :
  ∃H' s',loopO (z3b (LCo c) m s1 s2 s3 v20 x8_0 sl s11) (H,s,0)=some (.inl (H',s',(cs.length:Int)))∧VecA strE 9 m H' (l++cs.flatMap selNames) s'∧Ch H s H' s':=by
 have key:=z9i (E:=strE) (e:=9) (m:=m) (xs:=cs) (body:=z3b (LCo c) m s1 s2 s3 v20 x8_0 sl s11) selNames 100000 (H0:=H0)
  (fun i hi G t k hk hG hO hN=>by
   have h':=h.ext hG fun _ _ h=>h.ext hG
   have hln:=h'.n
   obtain ⟨q,g1,g2⟩:=h'.get hi (v:=(i:Int)) rfl
   obtain ⟨z,e1,e2⟩:=g2.ex
   have r0:rd deS G (q.add 0)=some cs[i].n:=by rw [g2.n.rd]; rfl
   have r1:rd deSl G (q.add 1)=some z:=by rw [e1.rd]; rfl
   simp only [selNames,List.length_cons,List.length_map] at hN
   obtain ⟨z1,G1,t1,G2,p1,p2,p3,p4⟩:=zc3 hk cs[i].n (by omega) (Nat.le_trans hm hG.1)
   obtain ⟨x2,o2⟩:=p4.ext hG hO
   obtain ⟨z',f1,f2⟩:∃z',SlL SelA 5 H0 z' cs[i].sels∧z'=z:=by
    obtain ⟨q',k1,k2⟩:=h.get hi (v:=(i:Int)) rfl
    obtain ⟨z',k3,k4⟩:=k2.ex
    rw [g1] at k1; cases k1
    have:=(k3.ext hG).1
    rw [e1.1] at this
    have e:Sl3.v z=Sl3.v z':=Option.some.inj this
    obtain ⟨a,b,d⟩:=z
    obtain ⟨a',b',d'⟩:=z'
    simp only [Sl3.v,Value.slice.injEq] at e
    obtain ⟨rfl,rfl,rfl⟩:=e
    exact ⟨_,k4,rfl⟩
   subst f2
   obtain ⟨G3,t2,w1,w2,w3⟩:=zqq c (s1:=s1) (s2:=s2) (s3:=s3) (v20:=v20) (v32:=(i:Int)) (x8_0:=x8_0) (x17_0:=cs[i].n) (x8_1:=sl) (s11:=s11) f1 hm p3 x2 o2 (by simp; omega)
   refine ⟨G3,t2,?_,by simpa [selNames,List.append_assoc] using w2,p4.trans w3⟩
   unfold z3b
   simp only [if_pos (show (i:Int)<(sl.n:Int) by omega),g1,Option.bind_some,r0,r1,p1,p2]
   show Option.bind (loopO (z3a (LCo c) m s1 s2 s3 v20 x8_0 sl s11 (i:Int) cs[i].n z') (G2,t1,0)) _=_
   rw [w1]
   simp only [Option.bind_some]
   rw [zi hi h.len])
  (fun G t hG=>by
   unfold z3b
   have hln:=h.n
   simp only [if_neg (show ¬((cs.length:Int)<(sl.n:Int)) by omega)])
  cs.length 0 H s l (by omega) hv hx ho (by rw [List.drop_zero]; exact hN)
 rw [List.drop_zero] at key
 exact key
theorem znj {q:Addr} {i:Nat} {z z':Sl3} (h:Cel H0 (q.add i) z'.v) (hx:Ext H0 H) (h':Cel H (q.add i) z.v):z'=z:=by
 have:=(h.ext hx).1
 rw [h'.1] at this
 have e:Sl3.v z=Sl3.v z':=Option.some.inj this
 obtain ⟨a,b,d⟩:=z
 obtain ⟨a',b',d'⟩:=z'
 simp only [Sl3.v,Value.slice.injEq] at e
 obtain ⟨rfl,rfl,rfl⟩:=e
 rfl
theorem zqj (c:Nat) (h:SigA H0 s1 s2 s3 g) (hm:m≤H0.next):∀(d i:Nat) (H:AH) (s4 s5:Sl3) (l4 l5:List ByteArray),i+d=g.datas.length→VecA strE 9 m H l4 s4→VecA strE 9 m H l5 s5→Ext H0 H →
  (∀id,owns s4 id→H0.next≤id)→(∀id,owns s5 id→H0.next≤id)→(∀id,owns s4 id→¬owns s5 id)→l4.length+d≤100000→l5.length+((g.datas.drop i).flatMap conNames).length≤100000 →
  ∃H' s4' s5',loopO (z37 (LCo c) m s1 s2 s3) (H,s4,s5,(i:Int))=some (.inl (H',s4',s5',(g.datas.length:Int)))∧VecA strE 9 m H' (l4++(g.datas.drop i).map (·.n)) s4'∧VecA strE 9 m H' (l5++(g.datas.drop i).flatMap conNames) s5'∧Ext H0 H' ∧
   (∀id,owns s4' id→H0.next≤id)∧(∀id,owns s5' id→H0.next≤id)∧(∀id,owns s4' id→¬owns s5' id):=by
 have hd:=h.d.n
 intro d
 induction d with
 | zero =>
  intro i H s4 s5 l4 l5 hi v4 v5 hx o4 o5 dj n4 n5
  have:i=g.datas.length:=by omega
  subst this
  refine ⟨H,s4,s5,zy ?_,by simpa using v4,by simpa using v5,hx,o4,o5,dj⟩
  unfold z37
  simp only [if_neg (show ¬((g.datas.length:Int)<(s2.n:Int)) by omega)]
 | succ d ih =>
  intro i H s4 s5 l4 l5 hi v4 v5 hx o4 o5 dj n4 n5
  have hlt:i<g.datas.length:=by omega
  rw [List.drop_eq_getElem_cons hlt,List.flatMap_cons,List.length_append] at n5
  have h':=h.d.ext hx fun _ _ h=>h.ext hx
  obtain ⟨q,g1,g2⟩:=h'.get hlt (v:=(i:Int)) rfl
  obtain ⟨z,e1,e2⟩:=g2.ex
  obtain ⟨q',k1,k2⟩:=h.d.get hlt (v:=(i:Int)) rfl
  rw [g1] at k1; cases k1
  obtain ⟨z',k3,k4⟩:=k2.ex
  obtain rfl:=znj k3 hx e1
  have r0:rd deS H (q.add 0)=some g.datas[i].n:=by rw [g2.n.rd]; rfl
  have r1:rd deSl H (q.add 1)=some z':=by rw [e1.rd]; rfl
  obtain ⟨z1,G1,t4,G2,p1,p2,p3,p4⟩:=zc3 v4 g.datas[i].n (by omega) (Nat.le_trans hm hx.1)
  obtain ⟨x2,o42⟩:=p4.ext hx o4
  have v52:VecA strE 9 m G2 l5 s5:=v5.other p4 fun id h5 h4=>dj id h4 h5
  have dj2:∀id,owns t4 id→¬owns s5 id:=fun id h4 h5=>by
   rcases p4.ow id h4 with h | h
   ·exact dj id h h5
   ·have:=own_lt v5 id h5; omega
  obtain ⟨G3,t5,w1,w2,w3⟩:=zq0 c (s1:=s1) (s2:=s2) (s3:=s3) (v20:=(i:Int)) (x8_0:=g.datas[i].n) (s11:=t4) k4 hm v52 x2 o5 (by show l5.length+(conNames g.datas[i]).length≤100000; omega)
  obtain ⟨x3,o53⟩:=w3.ext x2 o5
  have v43:VecA strE 9 m G3 (l4++[g.datas[i].n]) t4:=p3.other w3 dj2
  have dj3:∀id,owns t4 id→¬owns t5 id:=fun id h4 h5=>by
   rcases w3.ow id h5 with h | h
   ·exact dj2 id h4 h
   ·have:=own_lt p3 id h4; omega
  obtain ⟨H',s4',s5',y1,y2,y3,y4,y5,y6,y7⟩:=ih (i+1) G3 t4 t5 _ _ (by omega) v43 w2 x3 o42 o53 dj3 (by simp; omega) (by show (l5++conNames g.datas[i]).length+_≤_; rw [List.length_append]; omega)
  refine ⟨H',s4',s5',?_,?_,?_,y4,y5,y6,y7⟩
  ·have hb:z37 (LCo c) m s1 s2 s3 (H,s4,s5,(i:Int))=some (.next (G3,t4,t5,((i+1:Nat):Int))):=by
    unfold z37
    simp only [if_pos (show (i:Int)<(s2.n:Int) by omega),g1,Option.bind_some,r0,r1,p1,p2]
    show Option.bind (loopO (z3b (LCo c) m s1 s2 s3 (i:Int) g.datas[i].n z' t4) (G2,s5,0)) _=_
    rw [w1]
    simp only [Option.bind_some]
    rw [zi hlt h.d.len]
   rw [zl hb]
   exact y1
  ·rw [List.drop_eq_getElem_cons hlt,List.map_cons]
   simpa [List.append_assoc] using y2
  ·rw [List.drop_eq_getElem_cons hlt,List.flatMap_cons,← List.append_assoc]
   exact y3
theorem zq9 (c:Nat) {v4:Sl3} (h:SigA H0 s1 s2 s3 g) (hm:m≤H0.next) (hv:VecA strE 9 m H l s) (hx:Ext H0 H) (ho:∀id,owns s id→H0.next≤id) (hN:l.length+g.funs.length≤100000) :
  ∃H' s',loopO (z39 (LCo c) m s1 s2 s3 v4) (H,s,0)=some (.inl (H',s',(g.funs.length:Int)))∧VecA strE 9 m H' (l++g.funs.flatMap fun f=>[f.n]) s'∧Ch H s H' s':=by
 have hf:=h.f.n
 have key:=z9i (E:=strE) (e:=9) (m:=m) (xs:=g.funs) (body:=z39 (LCo c) m s1 s2 s3 v4) (fun f=>[f.n]) 100000 (H0:=H0)
  (fun i hi G t k hk hG _ hN=>by
   have h':=h.f.ext hG fun _ _ h=>h.ext hG
   obtain ⟨q,g1,g2⟩:=h'.get hi (v:=(i:Int)) rfl
   obtain ⟨y,f1,_⟩:=g2.ar
   obtain ⟨z,e1,e2,e3,e4,e5,e6⟩:=g2.ex
   have r0:rd deS G (q.add 0)=some g.funs[i].n:=by rw [g2.n.rd]; rfl
   have r1:rd deSl G (q.add 1)=some y:=by rw [f1.rd]; rfl
   have r2:rd (deI .i64) G (q.add 2)=some g.funs[i].k:=by rw [e1.rd]; rfl
   have r3:rd (deI .i64) G (q.add 3)=some g.funs[i].w:=by rw [e2.rd]; rfl
   have r4:rd deS G (q.add 4)=some g.funs[i].sn:=by rw [e3.rd]; rfl
   have r5:rd deSl G (q.add 5)=some z:=by rw [e4.rd]; rfl
   obtain ⟨z1,G1,t1,G2,p1,p2,p3,p4⟩:=zc3 hk g.funs[i].n (by simpa using hN) (Nat.le_trans hm hG.1)
   refine ⟨G2,t1,?_,p3,p4⟩
   unfold z39
   simp only [if_pos (show (i:Int)<(s3.n:Int) by omega),g1,Option.bind_some,r0,r1,r2,r3,r4,r5,p1,p2]
   rw [zi hi h.f.len])
  (fun G t hG=>by
   unfold z39
   simp only [if_neg (show ¬((g.funs.length:Int)<(s3.n:Int)) by omega)])
  g.funs.length 0 H s l (by omega) hv hx ho (by rw [List.drop_zero,flat_one]; exact hN)
 rw [List.drop_zero] at key
 exact key
theorem zma (c:Nat) (h:SigA H0 s1 s2 s3 g) (hm:m≤H0.next) (hs:manyS g=false) :
  ∃x2 x3 H',z78 (LCo c) m H0 s1 s2 s3=some (x2,x3,H')∧VecA strE 9 m H' (sortNamesS g) x2∧VecA strE 9 m H' (funNamesS g) x3∧Ext H0 H'∧(∀id,owns x2 id→H0.next≤id)∧(∀id,owns x3 id→H0.next≤id):=by
 have hsm:=zen hs
 unfold sortNamesS funNamesS at hsm
 simp only [List.length_append,flat_one] at hsm
 obtain ⟨x1,H1,a1,a2,a3,a4⟩:=zg0 c m (zs0 h.str) (by omega) hm
 obtain ⟨H2,s4,s5,b1,b2,b3,b4,b5,b6,b7⟩:=zqj c h hm g.datas.length 0 H1 x1 Sl3.nil g.users [] (by omega) a2 (VecA.nil _ _ _ _) a3 a4 (fun id h=>absurd h z3y) (fun id _ h=>absurd h z3y) (by omega) (by rw [List.drop_zero,List.length_nil]; omega)
 rw [List.drop_zero] at b2 b3
 obtain ⟨H3,t5,c1,c2,c3⟩:=zq9 c (v4:=s4) h hm b3 b4 b6 (by rw [List.nil_append]; omega)
 obtain ⟨x3,o3⟩:=c3.ext b4 b6
 refine ⟨s4,t5,H3,?_,?_,by simpa [funNamesS] using c2,x3,b5,o3⟩
 ·unfold z78
  rw [a1]
  simp only [Option.bind_some]
  show Option.bind (loopO (z37 (LCo c) m s1 s2 s3) (H1,x1,Sl3.nil,((0:Nat):Int))) _=_
  rw [b1]
  simp only [Option.bind_some]
  show Option.bind (loopO (z39 (LCo c) m s1 s2 s3 s4) (H2,s5,0)) _=_
  rw [c1]
  rfl
 ·have:=b2.other c3 b7
  unfold sortNamesS
  rw [zee]
  exact this
end
end Go.Proofs.YtccbilfbhecdaaaDoor
namespace Go.Proofs.YtccbilfbhecdaaaDoor
open Go Go.Abs
set_option maxRecDepth 100000
section
variable {m:Nat} {H0 H:AH} {s1 s2 s3:Sl3} {g:Sg} {s:Sl3} {l:List ByteArray}
def twS (l:List ByteArray):Bool:=(List.range l.length).any fun i=>hasU (l.take i) (l.getD i emptyT)
end
end Go.Proofs.YtccbilfbhecdaaaDoor
namespace Go.Proofs.YtccbilfbhecdaaaDoor
open Go Go.Abs
set_option maxRecDepth 100000
theorem strK:KeyK Tryd.prog 9 (fun s:ByteArray=>Value.string s):=by
 refine ⟨⟨.string,by kernel_rfl,.inl fun a b=>?_⟩,fun a b=>by kernel_rfl,fun a=>?_⟩
 ·show some (a == b)=_
  rw [ba_beq]
 ·show (a == a)=true
  rw [ba_beq]; simp
theorem und102:Tryd.prog.underlying 102=some (.map 9 4):=by kernel_rfl
theorem zero4:(Tryd.prog.info? 4).bind (·.zero)=some (.bool false):=by kernel_rfl
end Go.Proofs.YtccbilfbhecdaaaDoor
namespace Go.Proofs.YtccbilfbhecdaaaDoor
open Go Go.Abs
set_option maxRecDepth 100000
section
variable {m:Nat} {H0 H:AH} {s1 s2 s3:Sl3} {g:Sg} {s:Sl3} {l:List ByteArray}
theorem ze4:twS l=true↔∃i,∃h:i<l.length,hasU (l.take i) l[i]=true:=by
 unfold twS
 rw [List.any_eq_true]
 constructor
 ·rintro ⟨i,hi,h⟩
  have hi:=List.mem_range.1 hi
  refine ⟨i,hi,?_⟩
  have eg:l.getD i emptyT=l[i]:=by simp [List.getD,hi]
  rw [eg] at h
  exact h
 ·rintro ⟨i,hi,h⟩
  refine ⟨i,List.mem_range.2 hi,?_⟩
  have eg:l.getD i emptyT=l[i]:=by simp [List.getD,hi]
  rw [eg]
  exact h
theorem zfx (c:Nat) (h:∀H',Ext H H'→SlL StrA 1 H' s l) (hm:m≤H.next):∃H',z4q (LCo c) m H s=some (twS l,H')∧Ext H H':=by
 have hp:Ext H (H.push mapB):=Fm.push _ _ _
 have hsl:=h _ hp
 have hn:=hsl.n
 obtain ⟨o,h1,h2⟩:=zci (body:=z36 (LCo c) m s H.next) l
  (fun i st=>st.2=(i:Int)∧Fm (fun j=>j=H.next) (H.push mapB) st.1∧st.1.next=H.next+1∧MapA (fun s:ByteArray=>Value.string s) st.1 H.next (fun k=>if hasU (l.take i) k=true then some (.bool true) else none)∧∀j (hj:j<l.length),j<i→hasU (l.take j) l[j]=false)
  (fun o=>∃H',(o=.inr (true,H')∧twS l=true∧Ext H H')∨((∃v,o=.inl (H',v))∧twS l=false∧Ext H H'))
  (fun i st hi hst=>by
   obtain ⟨G,v⟩:=st
   obtain ⟨q1,q2,q3,q4,q5⟩:=hst
   simp only at q1 q2 q3 q4 q5
   subst q1 hi
   refine ⟨(G,(l.length:Int)),?_,G,.inr ⟨⟨_,rfl⟩,?_,?_⟩⟩
   ·unfold z36
    simp only [if_neg (show ¬((l.length:Int)<(s.n:Int)) by omega)]
   ·cases hq:twS l with
    | false=>rfl
    | true =>
     obtain ⟨j,hj,hh⟩:=ze4.1 hq
     rw [q5 j hj hj] at hh; cases hh
   ·exact hp.comp q2 fun id hid _ hw=>by omega)
  (fun i hi st hst=>by
   obtain ⟨G,v⟩:=st
   obtain ⟨q1,q2,q3,q4,q5⟩:=hst
   simp only at q1 q2 q3 q4 q5
   subst q1
   have hx:Ext H G:=hp.comp q2 fun id hid _ hw=>by omega
   obtain ⟨q,g1,g2⟩:=(h G hx).get hi (v:=(i:Int)) rfl
   have r0:rd deS G q=some l[i]:=by rw [Cel.rd g2]; rfl
   have hlk:=zjq strK und102 zero4 rfl q4 l[i] deB
   cases hd:hasU (l.take i) l[i] with
   | true =>
    rw [hd] at hlk
    refine .inl ⟨(true,G),?_,G,.inl ⟨rfl,ze4.2 ⟨i,hi,hd⟩,hx⟩⟩
    unfold z36
    simp only [if_pos (show (i:Int)<(s.n:Int) by omega),g1,Option.bind_some,r0,hlk]
    rfl
   | false =>
    rw [hd] at hlk
    obtain ⟨G',u1,u2,u3,u4⟩:=z99 strK und102 q4 hm l[i] (.bool true)
    refine .inr ⟨(G',((i+1:Nat):Int)),?_,rfl,q2.comp u3 fun _ _ h=>h,u4.trans q3,?_,fun j hj hlt=>?_⟩
    ·unfold z36
     simp only [if_pos (show (i:Int)<(s.n:Int) by omega),g1,Option.bind_some,r0,hlk]
     simp only [Bool.false_eq_true,if_false,Option.getD_none,deB,Option.bind_some,u1]
     rw [zi hi hsl.len]
    ·have e:(fun k'=>if k'=l[i] then some (Value.bool true) else if hasU (l.take i) k'=true then some (.bool true) else none)=fun k=>if hasU (l.take (i+1)) k=true then some (Value.bool true) else none:=by
      funext k
      rw [zhh hi]
      by_cases e:k=l[i]
      ·subst e; simp
      ·have e':¬l[i]=k:=fun h=>e h.symm
       rw [if_neg e,decide_eq_false e',Bool.or_false]
     rw [← e]; exact u2
    ·by_cases e:j=i
     ·subst e; exact hd
     ·exact q5 j hj (by omega))
  (s:=(H.push mapB,0)) ⟨rfl,Fm.refl _ _,by simp,by
   have e:(fun k=>if hasU (l.take 0) k=true then some (Value.bool true) else none)=fun _=>none:=by
    funext k; simp [hasU]
   rw [e]; exact MapA.new _,fun j hj h=>absurd h (Nat.not_lt_zero _)⟩
 obtain ⟨H',hh⟩:=h2
 refine ⟨H',?_,?_⟩
 ·unfold z4q newM
  simp only [Option.bind_some]
  show Option.bind (loopO (z36 (LCo c) m s H.next) (H.push mapB,0)) _=_
  rw [h1]
  rcases hh with ⟨rfl,ht,_⟩ | ⟨⟨v,rfl⟩,ht,_⟩
  ·rw [ht]; rfl
  ·rw [ht]; rfl
 ·rcases hh with ⟨_,_,hx⟩ | ⟨_,_,hx⟩ <;> exact hx
theorem zms (h:SigA H s1 s2 s3 g):∀x∈sortNamesS g++funNamesS g,x.size≤maxS:=by
 intro x hx
 have hU:∀x∈g.users,x.size≤maxS:=fun x hx=>by
  obtain ⟨i,hi,rfl⟩:=List.getElem_of_mem hx
  obtain ⟨q,_,h2⟩:=h.u.get hi (v:=(i:Int)) rfl
  exact h2.2
 have hD:∀d∈g.datas,d.n.size≤maxS∧∀c∈d.cons,c.n.size≤maxS∧∀e∈c.sels,e.n.size≤maxS:=fun d hd=>by
  obtain ⟨i,hi,rfl⟩:=List.getElem_of_mem hd
  obtain ⟨q,_,h2⟩:=h.d.get hi (v:=(i:Int)) rfl
  refine ⟨h2.nm,fun c hc=>?_⟩
  obtain ⟨z,_,h3⟩:=h2.ex
  obtain ⟨j,hj,rfl⟩:=List.getElem_of_mem hc
  obtain ⟨q,_,h4⟩:=h3.get hj (v:=(j:Int)) rfl
  refine ⟨h4.nm,fun e he=>?_⟩
  obtain ⟨z,_,h5⟩:=h4.ex
  obtain ⟨k,hk,rfl⟩:=List.getElem_of_mem he
  obtain ⟨q,_,h6⟩:=h5.get hk (v:=(k:Int)) rfl
  exact h6.nm
 have hF:∀f∈g.funs,f.n.size≤maxS:=fun f hf=>by
  obtain ⟨i,hi,rfl⟩:=List.getElem_of_mem hf
  obtain ⟨q,_,h2⟩:=h.f.get hi (v:=(i:Int)) rfl
  exact h2.nm
 unfold sortNamesS funNamesS conNames selNames at hx
 simp only [List.mem_append,List.mem_flatMap,List.mem_cons,List.not_mem_nil,or_false,List.mem_map] at hx
 rcases hx with (hx | ⟨d,hd,rfl⟩) | ⟨d,hd,c,hc,rfl | ⟨e,he,rfl⟩⟩ | ⟨f,hf,rfl⟩
 ·exact hU x hx
 ·exact (hD d hd).1
 ·exact ((hD d hd).2 c hc).1
 ·exact ((hD d hd).2 c hc).2 e he
 ·exact hF f hf
def namesS (g:Sg):Int:=if (sortNamesS g++funNamesS g).any (fun x=>!nameS x)=true then 42 else if (twS (sortNamesS g)||twS (funNamesS g))=true then 41 else 0
end
end Go.Proofs.YtccbilfbhecdaaaDoor
namespace Go.Proofs.YtccbilfbhecdaaaDoor
open Go Go.Abs
set_option maxRecDepth 100000
structure SrtA where
 k:Int
 w:Int
 n:ByteArray
 s:Sl3
 a:Fo
def srtE:Enc SrtA:=⟨fun x=>[.int .i64 x.k,.int .i64 x.w,.string x.n,Sl3.v x.s],4,fun _=>rfl,fun _=>rfl⟩
def SrtOk (H:AH) (x:SrtA):Prop:=SlF H x.s x.a∧x.n.size≤maxS
theorem SrtOk.ext {H H':AH} {x:SrtA} (h:SrtOk H x) (hf:Ext H H'):SrtOk H' x:=⟨h.1.ext hf,h.2⟩
def Fo.list:Fo→List (Int×Int×ByteArray×Fo)
 | .nil=>[]
 | .cons k w n a r=>(k,w,n,a) :: r.list
def SrtA.er (x:SrtA):Int×Int×ByteArray×Fo:=(x.k,x.w,x.n,x.a)
theorem zll {H:AH} {p:Option Addr}:∀{f:Fo} {i:Nat},FoA H p i f→∃l:List SrtA,l.map SrtA.er=f.list∧l.length=f.len∧(∀x∈l,SrtOk H x)∧∀(j:Nat) (hj:j<l.length),∃a,p=some a∧∀t v,(srtE.enc l[j])[t]? = some v→Cel H ((a.add ((i+j)*4)).add t) v
 | .nil,_,_=>⟨[],rfl,rfl,fun x hx=>(by cases hx),fun j hj=>absurd hj (Nat.not_lt_zero _)⟩
 | .cons k w n a r,i,h=>by
  obtain ⟨⟨q,s,h1,h2,h3,h4,h5⟩,h6⟩:=h
  obtain ⟨l,e1,e2,e3,e4⟩:=zll h6
  refine ⟨⟨k,w,n,s,a⟩ :: l,by simp [Fo.list,SrtA.er,e1],by simp [Fo.len,e2],fun x hx=>?_,fun j hj=>?_⟩
  ·rcases List.mem_cons.1 hx with rfl | hx
   ·exact ⟨⟨h3,h4,h5⟩,h2.hn⟩
   ·exact e3 x hx
  ·cases j with
   | zero =>
    refine ⟨q,h1,fun t v hv=>?_⟩
    match t,hv with
    | 0,hv=>cases hv; exact h2.ck
    | 1,hv=>cases hv; exact h2.cw
    | 2,hv=>cases hv; exact h2.cn
    | 3,hv=>cases hv; exact h2.cs
   | succ j =>
    obtain ⟨b,k1,k2⟩:=e4 j (by simpa using hj)
    exact ⟨b,k1,by rw [show i+(j+1)=i+1+j by omega]; exact k2⟩
theorem zpy {H:AH} {s:Sl3} {f:Fo} (h:SlF H s f):∃l:List SrtA,l.map SrtA.er=f.list∧l.length=f.len∧(∀x∈l,SrtOk H x)∧∀H',Ext H H'→RdV 4 H' s l.length (l.flatMap srtE.enc):=by
 obtain ⟨l,e1,e2,e3,e4⟩:=zll h.2.2
 refine ⟨l,e1,e2,e3,fun H' hx=>⟨by rw [h.1,e2],fun hp=>?_,fun a ha=>?_,srtE.flat_one l⟩⟩
 ·have:l=[]:=by
   cases l with
   | nil=>rfl
   | cons x l =>
    obtain ⟨a,h1,_⟩:=e4 0 (by simp)
    rw [hp] at h1; cases h1
  subst this; exact ⟨rfl,rfl⟩
 ·have:=z7b (H:=H') (a:=a) (l.flatMap srtE.enc) 0 fun i hi=>by
   rw [srtE.flat_len] at hi
   have e4':srtE.sz=4:=rfl
   rw [e4'] at hi
   have hj:i / 4<l.length:=by omega
   obtain ⟨a',h1,h2⟩:=e4 (i / 4) hj
   rw [ha] at h1; cases h1
   have hg:=srtE.flat_get (l:=l) (i:=i / 4) (j:=i % 4) hj (by rw [e4']; omega)
   rw [e4',show i / 4*4+i % 4=i by omega] at hg
   have hi':i<(l.flatMap srtE.enc).length:=by rw [srtE.flat_len,e4']; exact hi
   rw [List.getElem?_eq_getElem hi'] at hg
   have hc:=h2 (i % 4) _ hg.symm
   have hs:a.spot=none:=by
    obtain ⟨a0,z1,z2⟩:=e4 0 (by omega)
    rw [ha] at z1; cases z1
    have hc0:=z2 0 _ rfl
    rw [Nat.zero_add,Nat.zero_mul,add_zero,add_zero] at hc0
    obtain ⟨_,_,_,_,_,_,hs,_⟩:=zez hc0.1
    exact hs
   rw [zb5 hs,Nat.zero_add,show i / 4*4+i % 4=i by omega] at hc
   rw [Nat.zero_add]
   exact (hc.ext hx).1
  rw [srtE.flat_len] at this
  exact this
def sortsE (g:Sg):List (Int×Int×ByteArray×Fo):=(g.datas.flatMap fun d=>d.cons.flatMap fun c=>c.sels.map fun x=>(x.k,x.w,x.sn,x.a))++g.funs.flatMap fun f=>f.args.list++[(f.k,f.w,f.sn,f.a)]
def errS (g:Sg) (x:Int×Int×ByteArray×Fo):Option Int:=if checkS g x.1 x.2.1 x.2.2.1 x.2.2.2=0 then none else some (checkS g x.1 x.2.1 x.2.2.1 x.2.2.2)
def allS (g:Sg):Int:=((sortsE g).findSome? (errS g)).getD 0
def Fnc.dep (f:Fnc):Nat:=max f.args.dep f.a.dep
def Sel.dep (x:Sel):Nat:=x.a.dep
def maxL {α:Type} (f:α→Nat):List α→Nat
 | []=>0
 | x :: l=>max (f x) (maxL f l)
theorem zbl {α:Type} {f:α→Nat}:∀{l:List α} {x:α},x∈l→f x≤maxL f l
 | y :: l,x,h=>by
  simp only [maxL]
  rcases List.mem_cons.1 h with rfl | h
  ·omega
  ·have:=zbl (f:=f) h; omega
def Sg.dep (g:Sg):Nat:=max (maxL (fun d:Dat=>maxL (fun c:Con=>maxL Sel.dep c.sels) d.cons) g.datas) (maxL Fnc.dep g.funs)
theorem zlr {g:Sg} {d:Dat} {c:Con} {x:Sel} (hd:d∈g.datas) (hc:c∈d.cons) (hx:x∈c.sels):x.a.dep≤g.dep:=by
 have h1:=zbl (f:=Sel.dep) hx
 have h2:maxL Sel.dep c.sels≤maxL (fun c:Con=>maxL Sel.dep c.sels) d.cons:=zbl (f:=fun c:Con=>maxL Sel.dep c.sels) hc
 have h3:maxL (fun c:Con=>maxL Sel.dep c.sels) d.cons≤_:=zbl (f:=fun d:Dat=>maxL (fun c:Con=>maxL Sel.dep c.sels) d.cons) hd
 unfold Sg.dep
 have:x.a.dep≤maxL Sel.dep c.sels:=h1
 omega
theorem zgz {g:Sg} {f:Fnc} (hf:f∈g.funs):f.args.dep≤g.dep∧f.a.dep≤g.dep:=by
 have h1:=zbl (f:=Fnc.dep) hf
 unfold Fnc.dep at h1
 unfold Sg.dep
 constructor
 ·have:max f.args.dep f.a.dep≤maxL Fnc.dep g.funs:=h1
  omega
 ·have:max f.args.dep f.a.dep≤maxL Fnc.dep g.funs:=h1
  omega
theorem zj0:∀{f:Fo} {x:Int×Int×ByteArray×Fo},x∈f.list→x.2.2.2.dep≤f.dep
 | .cons k w n a r,x,h=>by
  simp only [Fo.list] at h
  simp only [Fo.dep]
  rcases List.mem_cons.1 h with rfl | h
  ·show a.dep≤_; omega
  ·have:=zj0 h; omega
theorem z8j {α β R:Type} (f:α→List β) (p:β→Option R):∀l:List α,(l.flatMap f).findSome? p=l.findSome? fun x=>(f x).findSome? p
 | []=>rfl
 | x :: l=>by
  rw [List.flatMap_cons,List.findSome?_append,List.findSome?_cons,z8j f p l]
  cases (f x).findSome? p <;> rfl
theorem z9g {α R:Type} (l:List α) (p:α→Option R) (d:α):(List.range l.length).findSome? (fun i=>p (l.getD i d))=l.findSome? p:=by
 induction l with
 | nil=>rfl
 | cons x l ih =>
  rw [List.length_cons,List.range_succ_eq_map,List.findSome?_cons,List.findSome?_cons]
  simp only [List.getD_cons_zero,List.findSome?_map,Function.comp_def,List.getD_cons_succ]
  rw [ih]
theorem err_ok {g:Sg} {x:Int×Int×ByteArray×Fo} {e:Int} (h:errS g x=some e):e=checkS g x.1 x.2.1 x.2.2.1 x.2.2.2∧e≠0:=by
 unfold errS at h
 split at h
 ·cases h
 ·cases h; exact ⟨rfl,by assumption⟩
end Go.Proofs.YtccbilfbhecdaaaDoor
namespace Go.Proofs.YtccbilfbhecdaaaDoor
open Go Go.Abs
set_option maxRecDepth 100000
theorem room4 {n:Nat} (h:n≤1000000):(2*n+1000)*56≤281474976710656∧n≤281474976710656:=by omega
def selE (x:Sel):Int×Int×ByteArray×Fo:=(x.k,x.w,x.sn,x.a)
def conE (c:Con):List (Int×Int×ByteArray×Fo):=c.sels.map selE
def datE (d:Dat):List (Int×Int×ByteArray×Fo):=d.cons.flatMap conE
def fncE (f:Fnc):List (Int×Int×ByteArray×Fo):=f.args.list++[(f.k,f.w,f.sn,f.a)]
theorem zhr (g:Sg):sortsE g=g.datas.flatMap datE++g.funs.flatMap fncE:=rfl
theorem zjc {α β:Type} (f:α→List β) (F:Nat):∀{l:List α},(∀x∈l,(f x).length≤F)→(l.flatMap f).length≤l.length*F
 | [],_=>by simp
 | x :: l,h=>by
  have h1:=h x (by simp)
  have h2:=zjc f F (l:=l) fun y hy=>h y (by simp [hy])
  rw [List.flatMap_cons,List.length_append,List.length_cons,Nat.add_mul,Nat.one_mul]
  omega
section
variable {m:Nat} {H0 H:AH} {s1 s2 s3:Sl3} {g:Sg} {s:Sl3} {l:List SrtA}
theorem zq5 (h:VecA srtE 28 m H l s) (x:SrtA) (hN:l.length+1≤1000000) (hm:m≤H.next) :
  ∃z H1 s' H',newR 28 1 #[(Value.int .i64 x.k),(Value.int .i64 x.w),(Value.string x.n),(Sl3.v x.s)] H=some (z,H1)∧appS m 28 4 56 H1 s z=some (s',H')∧VecA srtE 28 m H' (l++[x]) s'∧Ch H s H' s' :=
 VecA.push h x (room4 hN).1 (room4 hN).2 hm (own_lt h)
theorem add2 {q:Addr} {v:Value} (h:Cel H (q.add 0) v) (i j:Nat):(q.add i).add j=q.add (i+j):=by
 obtain ⟨_,_,_,_,_,_,hs,_⟩:=zez h.1
 rw [add_zero] at hs
 exact zb5 hs i j
end
end Go.Proofs.YtccbilfbhecdaaaDoor
namespace Go.Proofs.YtccbilfbhecdaaaDoor
open Go Go.Abs
set_option maxRecDepth 100000
theorem z7i {α R S:Type} (l:List α) (p:α→Option R) (f:R→S):(l.findSome? fun x=>(p x).map f)=(l.findSome? p).map f:=by
 induction l with
 | nil=>rfl
 | cons x l ih =>
  rw [List.findSome?_cons,List.findSome?_cons,ih]
  cases p x <;> rfl
section
variable {m:Nat} {H0 H:AH} {s1 s2 s3:Sl3} {g:Sg} {p:Addr} {L0 fuel:Nat}
theorem zrj (hF:L0=fuel+1) (hB:Book H p s1 s2 s3 g) {x2 x5 sl:Sl3} {v v':Int} {n5 n8:ByteArray} {ss:List Sel} (h:SlL SelA 5 H sl ss) (hd:∀x∈ss,x.a.dep≤fuel) :
  loopO (z1b (LCo L0) H p x2 v n5 x5 v' n8 sl) 0=some (found ss.length (((ss.map selE).findSome? (errS g)).map fun e=>(e,H))):=by
 have hn:=h.n
 have hl:=z4w (body:=z1b (LCo L0) H p x2 v n5 x5 v' n8 sl) ss.length h.len (fun i=>(errS g (selE (ss.getD i ⟨emptyT,0,0,emptyT,.nil⟩))).map fun e=>(e,H)) (fun i hi=>by
   obtain ⟨q,h1,h2⟩:=h.get hi (v:=(i:Int)) rfl
   obtain ⟨z,e1,e2,e3,e4,e5,e6⟩:=h2.ex
   have r0:rd deS H (q.add 0)=some ss[i].n:=by rw [h2.n.rd]; rfl
   have r1:rd (deI .i64) H (q.add 1)=some ss[i].k:=by rw [e1.rd]; rfl
   have r2:rd (deI .i64) H (q.add 2)=some ss[i].w:=by rw [e2.rd]; rfl
   have r3:rd deS H (q.add 3)=some ss[i].sn:=by rw [e3.rd]; rfl
   have r4:rd deSl H (q.add 4)=some z:=by rw [e4.rd]; rfl
   have eg:ss.getD i ⟨emptyT,0,0,emptyT,.nil⟩=ss[i]:=by simp [List.getD,hi]
   rw [eg]
   unfold z1b
   simp only [if_pos (show (i:Int)<(sl.n:Int) by omega),h1,Option.bind_some,r0,r1,r2,r3,r4,zbt L0 fuel hF hB e6 e5 (hd _ (List.getElem_mem hi))]
   simp only [errS,selE]
   by_cases hz:checkS g ss[i].k ss[i].w ss[i].sn ss[i].a=0
   ·simp [hz,stepO]
   ·simp [hz,stepO]) (by
   unfold z1b
   rw [if_neg (by omega)])
 rw [hl,z9g ss (fun x=>(errS g (selE x)).map fun e=>(e,H)) ⟨emptyT,0,0,emptyT,.nil⟩,z7i,List.findSome?_map]
 rfl
theorem zry (hF:L0=fuel+1) (hB:Book H p s1 s2 s3 g) {x2 sl:Sl3} {v:Int} {n5:ByteArray} {cs:List Con} (h:SlL ConA 2 H sl cs) (hd:∀c∈cs,∀x∈c.sels,x.a.dep≤fuel) :
  loopO (z1e (LCo L0) H p x2 v n5 sl) 0=some (found cs.length (((cs.flatMap conE).findSome? (errS g)).map fun e=>(e,H))):=by
 have hn:=h.n
 have hl:=z4w (body:=z1e (LCo L0) H p x2 v n5 sl) cs.length h.len (fun i=>((conE (cs.getD i ⟨emptyT,[]⟩)).findSome? (errS g)).map fun e=>(e,H)) (fun i hi=>by
   obtain ⟨q,h1,h2⟩:=h.get hi (v:=(i:Int)) rfl
   obtain ⟨z,e1,e2⟩:=h2.ex
   have r0:rd deS H (q.add 0)=some cs[i].n:=by rw [h2.n.rd]; rfl
   have r1:rd deSl H (q.add 1)=some z:=by rw [e1.rd]; rfl
   have eg:cs.getD i ⟨emptyT,[]⟩=cs[i]:=by simp [List.getD,hi]
   rw [eg]
   unfold z1e
   simp only [if_pos (show (i:Int)<(sl.n:Int) by omega),h1,Option.bind_some,r0,r1]
   show Option.bind (loopO (z1b (LCo L0) H p x2 v n5 sl (i:Int) cs[i].n z) 0) _=_
   rw [zrj hF hB e2 (hd _ (List.getElem_mem hi))]
   show _=some (stepO i (((cs[i].sels.map selE).findSome? (errS g)).map fun e=>(e,H)))
   cases (cs[i].sels.map selE).findSome? (errS g) <;> rfl) (by
   unfold z1e
   rw [if_neg (by omega)])
 rw [hl,z9g cs (fun c=>((conE c).findSome? (errS g)).map fun e=>(e,H)) ⟨emptyT,[]⟩,z7i,z8j]
theorem zrn (hF:L0=fuel+1) (hB:Book H p s1 s2 s3 g) {sl:Sl3} {ds:List Dat} (h:SlL DatA 2 H sl ds) (hd:∀d∈ds,∀c∈d.cons,∀x∈c.sels,x.a.dep≤fuel) :
  loopO (z1g (LCo L0) H p sl) 0=some (found ds.length (((ds.flatMap datE).findSome? (errS g)).map fun e=>(e,H))):=by
 have hn:=h.n
 have hl:=z4w (body:=z1g (LCo L0) H p sl) ds.length h.len (fun i=>((datE (ds.getD i ⟨emptyT,[]⟩)).findSome? (errS g)).map fun e=>(e,H)) (fun i hi=>by
   obtain ⟨q,h1,h2⟩:=h.get hi (v:=(i:Int)) rfl
   obtain ⟨z,e1,e2⟩:=h2.ex
   have r0:rd deS H (q.add 0)=some ds[i].n:=by rw [h2.n.rd]; rfl
   have r1:rd deSl H (q.add 1)=some z:=by rw [e1.rd]; rfl
   have eg:ds.getD i ⟨emptyT,[]⟩=ds[i]:=by simp [List.getD,hi]
   rw [eg]
   unfold z1g
   simp only [if_pos (show (i:Int)<(sl.n:Int) by omega),h1,Option.bind_some,r0,r1]
   show Option.bind (loopO (z1e (LCo L0) H p sl (i:Int) ds[i].n z) 0) _=_
   rw [zry hF hB e2 (hd _ (List.getElem_mem hi))]
   show _=some (stepO i (((ds[i].cons.flatMap conE).findSome? (errS g)).map fun e=>(e,H)))
   cases (ds[i].cons.flatMap conE).findSome? (errS g) <;> rfl) (by
   unfold z1g
   rw [if_neg (by omega)])
 rw [hl,z9g ds (fun d=>((datE d).findSome? (errS g)).map fun e=>(e,H)) ⟨emptyT,[]⟩,z7i,z8j]
theorem clone73 (c m:Nat) {H:AH} {s:Sl3} {l:List SrtA} (h:∀H',Ext H H'→RdV 4 H' s l.length (l.flatMap srtE.enc)) (hN:l.length≤1000000) (hm:m≤H.next) :
  ∃s' H',z4s (LCo c) m H s=some (s',H')∧VecA srtE 28 m H' l s'∧Ext H H'∧∀id,owns s' id→H.next≤id:=by
 unfold z4s
 cases hnil:isNilS s with
 | true =>
  have hp:s.p=none:=by
   unfold isNilS at hnil
   cases hq:s.p with
   | none=>rfl
   | some a=>rw [hq] at hnil; cases hnil
  have:l=[]:=by
   have:=(h H (Fm.refl _ _)).nil hp
   exact List.length_eq_zero_iff.1 this.1
  subst this
  exact ⟨Sl3.nil,H,rfl,VecA.nil _ _ _ _,Fm.refl _ _,fun id h=>absurd h z3y⟩
 | false =>
  have hp:Ext H (H.push { obj:=.cells #[] 28 (0,0),opn:=false,esz:=0,ro:=false }):=Fm.push _ _ _
  obtain ⟨s',H',a1,a2,a3⟩:=VecA.app (E:=srtE) (e:=28) (bytes:=56) (l:=[]) (l':=l) (m:=m) (VecA.zero _ _ _ _ ⟨H.next,0,none⟩ ⟨by simp,rfl⟩) (h _ hp) (by simp only [List.length_nil,Nat.zero_add]; exact (room4 hN).1) (by simp only [List.length_nil,Nat.zero_add]; exact (room4 hN).2) (by simp; omega)
  have hx:=a3.ext hp fun id h=>absurd h zhx
  refine ⟨s',H',?_,a2,hx.1,hx.2⟩
  simp only [Bool.false_eq_true,if_false,newR,Option.bind_some]
  have a1':appS m 28 4 56 (H.push { obj:=.cells #[] 28 (0,0),opn:=false,esz:=0,ro:=false }) ⟨some ⟨H.next,0,none⟩,0,0⟩ s=some (s',H'):=a1
  rw [a1']
  rfl
theorem zrs (hF:L0=fuel+1) (hB:Book H p s1 s2 s3 g) {x16 y z sl:Sl3} {v:Int} {n n':ByteArray} {k w:Int} {l:List SrtA} (hv:VecA srtE 28 m H l sl) (hN:l.length≤1000000) (hok:∀x∈l,SrtOk H x) (hd:∀x∈l,x.a.dep≤fuel) :
  loopO (z1h (LCo L0) p x16 v n y k w n' z sl H) 0=some (found l.length (((l.map SrtA.er).findSome? (errS g)).map fun e=>(e,H))):=by
 have hsl:SlL (fun H q (x:SrtA)=>SoC H q x.k x.w x.n x.s∧x∈l) 4 H sl l:=by
  have h1:=VecA.sl (R:=fun H q (x:SrtA)=>Cel H (q.add 0) (.int .i64 x.k)∧Cel H (q.add 1) (.int .i64 x.w)∧Cel H (q.add 2) (.string x.n)∧Cel H (q.add 3) (Sl3.v x.s)) hv (by rw [z1r]; omega) fun x q hc=>⟨hc 0 _ rfl,hc 1 _ rfl,hc 2 _ rfl,hc 3 _ rfl⟩
  refine ⟨h1.n,h1.cap,h1.top,h1.low,LAt.of fun j hj=>?_⟩
  obtain ⟨a,k1,k2⟩:=h1.at_.get j hj
  have hm:=List.getElem_mem hj
  exact ⟨a,k1,⟨k2.1,k2.2.1,k2.2.2.1,k2.2.2.2,(hok _ hm).2⟩,hm⟩
 have hn:=hsl.n
 have hl:=z4w (body:=z1h (LCo L0) p x16 v n y k w n' z sl H) l.length hsl.len (fun i=>(errS g (l.getD i ⟨0,0,emptyT,Sl3.nil,.nil⟩).er).map fun e=>(e,H)) (fun i hi=>by
   obtain ⟨q,h1,h2,hm⟩:=hsl.get hi (v:=(i:Int)) rfl
   have r0:rd (deI .i64) H (q.add 0)=some l[i].k:=by rw [h2.ck.rd]; rfl
   have r1:rd (deI .i64) H (q.add 1)=some l[i].w:=by rw [h2.cw.rd]; rfl
   have r2:rd deS H (q.add 2)=some l[i].n:=by rw [h2.cn.rd]; rfl
   have r3:rd deSl H (q.add 3)=some l[i].s:=by rw [h2.cs.rd]; rfl
   have eg:l.getD i ⟨0,0,emptyT,Sl3.nil,.nil⟩=l[i]:=by simp [List.getD,hi]
   rw [eg]
   unfold z1h
   simp only [if_pos (show (i:Int)<(sl.n:Int) by omega),h1,Option.bind_some,r0,r1,r2,r3,zbt L0 fuel hF hB (hok _ hm).1 (hok _ hm).2 (hd _ hm)]
   simp only [errS,SrtA.er]
   by_cases hz:checkS g l[i].k l[i].w l[i].n l[i].a=0
   ·simp [hz,stepO]
   ·simp [hz,stepO]) (by
   unfold z1h
   rw [if_neg (by omega)])
 rw [hl,z9g l (fun x=>(errS g x.er).map fun e=>(e,H)) ⟨0,0,emptyT,Sl3.nil,.nil⟩,z7i,List.findSome?_map]
 rfl
theorem zqw (hF:L0=fuel+1) (hB:Book H0 p s1 s2 s3 g) {sl:Sl3} {fs:List Fnc} (h:SlL FncA 6 H0 sl fs) (hm:m≤H0.next) (hsz:∀f∈fs,f.args.len≤64) (hd:∀f∈fs,f.args.dep≤fuel∧f.a.dep≤fuel):∀(d i:Nat) (H:AH),i+d=fs.length→Ext H0 H →
  ∃H',loopO (z1c (LCo L0) m p sl) (H,(i:Int))=some (match ((fs.drop i).flatMap fncE).findSome? (errS g) with | some e=>.inr (e,H') | none=>.inl (H',(fs.length:Int)))∧Ext H0 H':=by
 have hn:=h.n
 intro d
 induction d with
 | zero =>
  intro i H hi hx
  have:i=fs.length:=by omega
  subst this
  refine ⟨H,?_,hx⟩
  rw [List.drop_length]
  refine zy ?_
  unfold z1c
  simp only [if_neg (show ¬((fs.length:Int)<(sl.n:Int)) by omega)]
 | succ d ih =>
  intro i H hi hx
  have hlt:i<fs.length:=by omega
  obtain ⟨q,g1,g2⟩:=h.get hlt (v:=(i:Int)) rfl
  obtain ⟨y,f1,f2⟩:=g2.ar
  obtain ⟨z,e1,e2,e3,e4,e5,e6⟩:=g2.ex
  have r0:rd deS H (q.add 0)=some fs[i].n:=by rw [(g2.n.ext hx).rd]; rfl
  have r1:rd deSl H (q.add 1)=some y:=by rw [(f1.ext hx).rd]; rfl
  have r2:rd (deI .i64) H (q.add 2)=some fs[i].k:=by rw [(e1.ext hx).rd]; rfl
  have r3:rd (deI .i64) H (q.add 3)=some fs[i].w:=by rw [(e2.ext hx).rd]; rfl
  have r4:rd deS H (q.add 4)=some fs[i].sn:=by rw [(e3.ext hx).rd]; rfl
  have r5:rd deSl H (q.add 5)=some z:=by rw [(e4.ext hx).rd]; rfl
  obtain ⟨la,a1,a2,a3,a4⟩:=zpy f2
  have hla:la.length≤64:=by rw [a2]; exact hsz _ (List.getElem_mem hlt)
  have hmH:m≤H.next:=Nat.le_trans hm hx.1
  obtain ⟨x21,H22,b1,b2,b3,b4⟩:=clone73 L0 (Nat.max m H.next) (fun H' hx'=>a4 H' (hx.trans hx')) (by omega) (Nat.max_le.2 ⟨hmH,Nat.le_refl _⟩)
  have b2':VecA srtE 28 m H22 la x21:=by
   unfold VecA at b2 ⊢
   cases b2 with
   | nil hn hv=>exact .nil hn hv
   | zero a ha hn hv=>exact .zero a ha hn hv
   | opn id off cs hm' hid hg hl ho hx=>exact .opn id off cs (Nat.le_trans (Nat.le_max_left _ _) hm') hid hg hl ho hx
  have hx22:=hx.trans b3
  have hm22:m≤H22.next:=Nat.le_trans hm hx22.1
  obtain ⟨z1,G2,t2,G3,p1,p2,p3,p4⟩:=zq5 b2' ⟨fs[i].k,fs[i].w,fs[i].sn,z,fs[i].a⟩ (by omega) hm22
  have hx3:=p4.ext hx22 fun id hid=>Nat.le_trans hx.1 (b4 id hid)
  have hok:∀w∈la++[⟨fs[i].k,fs[i].w,fs[i].sn,z,fs[i].a⟩],SrtOk G3 w:=fun w hw=>by
   rcases List.mem_append.1 hw with hw | hw
   ·exact (a3 w hw).ext hx3.1
   ·obtain rfl:=List.mem_singleton.1 hw
    exact SrtOk.ext (H:=H0) ⟨e6,e5⟩ hx3.1
  have hdd:∀w∈la++[⟨fs[i].k,fs[i].w,fs[i].sn,z,fs[i].a⟩],w.a.dep≤fuel:=fun w hw=>by
   have hdi:=hd _ (List.getElem_mem hlt)
   rcases List.mem_append.1 hw with hw | hw
   ·have hmm:w.er∈fs[i].args.list:=by rw [← a1]; exact List.mem_map.2 ⟨w,hw,rfl⟩
    have:=zj0 hmm
    exact Nat.le_trans this hdi.1
   ·obtain rfl:=List.mem_singleton.1 hw
    exact hdi.2
  have hb4:=zrs (m:=m) hF (hB.ext hx3.1) (x16:=sl) (y:=y) (z:=z) (v:=(i:Int)) (n:=fs[i].n) (n':=fs[i].sn) (k:=fs[i].k) (w:=fs[i].w) p3 (by rw [List.length_append]; simp; omega) hok hdd
  have her:(la++[(⟨fs[i].k,fs[i].w,fs[i].sn,z,fs[i].a⟩:SrtA)]).map SrtA.er=fncE fs[i]:=by rw [List.map_append,a1]; rfl
  rw [her] at hb4
  obtain ⟨H',i1,i2⟩:=ih (i+1) G3 (by omega) hx3.1
  have hbody:z1c (LCo L0) m p sl (H,(i:Int))=some (match (fncE fs[i]).findSome? (errS g) with | some e=>.ret (e,G3) | none=>.next (G3,((i+1:Nat):Int))):=by
   unfold z1c
   simp only [if_pos (show (i:Int)<(sl.n:Int) by omega),g1,Option.bind_some,r0,r1,r2,r3,r4,r5,b1]
   have p1':newS 28 [(Value.int .i64 fs[i].k),(Value.int .i64 fs[i].w),(Value.string fs[i].sn),(Sl3.v z)] H22=some (H22.next,G2):=by
    unfold newR at p1
    simp only [Option.some.injEq,Prod.mk.injEq] at p1
    unfold newS pubB
    rw [← p1.2]
   have hz1:z1=⟨some ⟨H22.next,0,none⟩,1,1⟩:=by
    unfold newR at p1
    simp only [Option.some.injEq,Prod.mk.injEq] at p1
    exact p1.1.symm
   rw [p1']
   simp only [Option.bind_some]
   rw [hz1] at p2
   rw [p2]
   simp only [Option.bind_some]
   show Option.bind (loopO (z1h (LCo L0) p sl (i:Int) fs[i].n y fs[i].k fs[i].w fs[i].sn z t2 G3) 0) _=_
   rw [hb4]
   cases (fncE fs[i]).findSome? (errS g) with
   | some e=>rfl
   | none =>
    simp only [Option.map_none,found,Option.bind_some]
    rw [zi hlt h.len]
  rw [List.drop_eq_getElem_cons hlt,List.flatMap_cons,List.findSome?_append]
  cases hq:(fncE fs[i]).findSome? (errS g) with
  | some e =>
   rw [hq] at hbody
   exact ⟨G3,z45 hbody,hx3.1⟩
  | none =>
   rw [hq] at hbody
   exact ⟨H',by rw [zl hbody]; exact i1,i2⟩
theorem zig (hF:L0=fuel+1) (hm:m≤H.next) (hB:Book H p s1 s2 s3 g) (hS:SigA H s1 s2 s3 g) (hs:manyS g=false) (hd:g.dep≤fuel) :
  ∃H',z3q (LCo L0) m H (some p)=some (allS g,H')∧Ext H H':=by
 have hfb:∀f∈g.funs,f.args.len≤64:=by
  unfold manyS at hs
  simp only [Bool.or_eq_false_iff] at hs
  have h2:=hs.2.1
  rw [List.any_eq_false] at h2
  intro f hf
  have:=h2 f hf
  simp only [badF,decide_eq_true_eq] at this
  omega
 have hadd:∀j,(p.add 0).add j=p.add (0+j):=fun j=>add2 hB.c1 0 j
 have r1:rd deSl H ((p.add 0).add 1)=some s2:=by rw [hadd,hB.c2.rd]; rfl
 have r2:rd deSl H ((p.add 0).add 2)=some s3:=by rw [hadd,hB.c3.rd]; rfl
 have h0:=zrn hF hB hS.d fun d hd' c hc x hx=>Nat.le_trans (zlr hd' hc hx) hd
 obtain ⟨H',h3,h4⟩:=zqw hF hB hS.f hm hfb (fun f hf=>⟨Nat.le_trans (zgz hf).1 hd,Nat.le_trans (zgz hf).2 hd⟩) g.funs.length 0 H (by omega) (Fm.refl _ _)
 rw [List.drop_zero] at h3
 unfold z3q allS
 rw [zhr,List.findSome?_append]
 simp only [Option.bind_some,r1]
 show ∃H',Option.bind (loopO (z1g (LCo L0) H p s2) 0) _=_∧_
 rw [h0]
 cases (g.datas.flatMap datE).findSome? (errS g) with
 | some e=>exact ⟨H,rfl,Fm.refl _ _⟩
 | none =>
  refine ⟨H',?_,h4⟩
  simp only [Option.map_none,found,Option.bind_some,r2]
  show Option.bind (loopO (z1c (LCo L0) m p s3) (H,((0:Nat):Int))) _=_
  rw [h3]
  cases (g.funs.flatMap fncE).findSome? (errS g) <;> rfl
end
end Go.Proofs.YtccbilfbhecdaaaDoor
namespace Go.Proofs.YtccbilfbhecdaaaDoor
open Go Go.Abs
set_option maxRecDepth 100000
def natE:Enc Nat:=⟨fun x=>[.int .i64 (x:Int)],1,fun _=>rfl,fun _=>rfl⟩
def IntA (H:AH) (q:Addr) (x:Nat):Prop:=Cel H q (.int .i64 (x:Int))
theorem room8 {n:Nat} (h:n≤10000000000):(2*n+1000)*8≤281474976710656∧n≤281474976710656:=by omega
def ixS (ds:List Dat) (n:ByteArray):Nat:=(dataIx ds n).getD 0
def dtF (ds:List Dat):Fo→List Nat
 | .nil=>[]
 | .cons k _ n a r=>(if k=6 then [ixS ds n] else dtF ds a)++dtF ds r
def dtS (ds:List Dat) (k:Int) (n:ByteArray) (a:Fo):List Nat:=if k=6 then [ixS ds n] else dtF ds a
def dtI (ds:List Dat) (inside:Bool) (k:Int) (n:ByteArray) (a:Fo):List Nat:=if k=6∧inside=false then [ixS ds n] else dtF ds a
theorem zb8 (ds:List Dat):∀a:Fo,(dtF ds a).length≤a.size
 | .nil=>by simp [dtF,Fo.size]
 | .cons k w n a r=>by
  have h1:=zb8 ds a
  have h2:=zb8 ds r
  simp only [dtF,Fo.size,List.length_append]
  split
  ·simp; omega
  ·omega
def stC (ds:List Dat) (c:Con):List Nat:=c.sels.flatMap fun x=>dtS ds x.k x.sn x.a
def stD (ds:List Dat) (d:Dat):List Nat:=d.cons.flatMap (stC ds)
section
variable {m:Nat} {H0 H:AH} {s1 s2 s3:Sl3} {g:Sg} {p:Addr} {L0 fuel:Nat}
theorem nat_sl {l:List Nat} {s:Sl3} (h:VecA natE 3 m H l s) (hN:l.length≤10000000000):SlL IntA 1 H s l:=VecA.sl h (by rw [z1r]; omega) fun x q hc=>hc 0 _ rfl
theorem zgq {s:Sl3} {l:List Nat} (h:SlL IntA 1 H s l):RdV 1 H s l.length (l.flatMap natE.enc):=by
 refine ⟨h.n,fun hp=>?_,fun a ha=>?_,natE.flat_one l⟩
 ·have:l=[]:=by
   cases l with
   | nil=>rfl
   | cons x l =>
    obtain ⟨a,h1,_⟩:=h.at_.get 0 (by simp)
    rw [hp] at h1; cases h1
  subst this; exact ⟨rfl,rfl⟩
 ·have:=z7b (H:=H) (a:=a) (l.flatMap natE.enc) 0 fun i hi=>by
   rw [natE.flat_len] at hi
   have hi':i<l.length:=by
    have:natE.sz=1:=rfl
    rw [this] at hi; omega
   obtain ⟨a',h1,h2⟩:=h.at_.get i hi'
   rw [ha] at h1; cases h1
   have e1:(l.flatMap natE.enc)[i]? = some (.int .i64 (l[i]:Int)):=by
    have:=natE.flat_get (l:=l) (i:=i) (j:=0) hi' (by decide)
    rw [show i*natE.sz+0=i from by show i*1+0=i; omega] at this
    rw [this]; rfl
   rw [List.getElem?_eq_getElem (by rw [natE.flat_len]; exact hi)] at e1
   rw [Option.some.inj e1,Nat.zero_add]
   rw [Nat.zero_add,Nat.mul_one] at h2
   exact h2.1
  rw [natE.flat_len] at this
  exact this
theorem zrp (x:Nat) (H:AH):∃s H',newR 3 1 #[(Value.int .i64 (x:Int))] H=some (s,H')∧SlL IntA 1 H' s [x]∧Ext H H':=by
 refine ⟨_,_,rfl,SlL.push (xs:=[x]) rfl (by rw [z1r]; simp) fun i hi=>?_,Fm.push _ _ _⟩
 obtain rfl:i=0:=by simpa using hi
 exact Cel.push rfl rfl
theorem ze3 (hB:Book H p s1 s2 s3 g) (n:ByteArray):∃id,rd deM H (p.add 3)=some (some id)∧lk1 Tryd.prog 94 (deI .i64) H (some id) (Value.agg #[(Value.int .i64 6),(Value.string n)])=some ((ixS g.datas n:Nat):Int):=by
 obtain ⟨id,q1,q2,q3⟩:=hB.ex
 refine ⟨id,by rw [q1.rd]; rfl,?_⟩
 have hl:=zjq keyK und94 zero3 rfl q3 (6,n) (deI .i64)
 refine hl.trans ?_
 simp only [bookF,if_neg (show ¬((6:Int)=5) by omega),ixS]
 cases dataIx g.datas n <;> rfl
theorem zfm (c:Nat):∀(d fuel:Nat) (H:AH) (k w:Int) (n:ByteArray) (s:Sl3) (a:Fo) (inside:Bool),Book H p s1 s2 s3 g→m≤H.next→SlF H s a→a.size≤1000→a.dep≤fuel→a.dep<d →
  ∃s' H',z1v (LCo c) (fuel+1) m H (some p) k w n s inside=some (s',H')∧SlL IntA 1 H' s' (dtI g.datas inside k n a)∧Ext H H':=by
 intro d
 induction d with
 | zero=>intro fuel H k w n s a inside _ _ _ _ _ h; omega
 | succ d ih =>
  intro fuel H k w n s a inside hB hm h hsz hf hd
  show ∃s' H',z2w (LCo c) (z1v (LCo c) fuel) m H (some p) k w n s inside=_∧_
  unfold z2w dtI
  by_cases hk:k=6∧inside=false
  ·obtain ⟨rfl,rfl⟩:=hk
   obtain ⟨id,r1,r2⟩:=ze3 hB n
   obtain ⟨s',H',t1,t2,t3⟩:=zrp (ixS g.datas n) H
   refine ⟨s',H',?_,t2,t3⟩
   simp only [if_true,Bool.not_false,Option.bind_some,r1,r2,t1]
  ·have hc:(if k=6 then some (!inside) else some false)=some false:=by
    by_cases h6:k=6
    ·rw [if_pos h6]
     cases inside with
     | true=>rfl
     | false=>exact absurd ⟨h6,rfl⟩ hk
    ·rw [if_neg h6]
   rw [hc,if_neg hk]
   simp only [Option.bind_some,Bool.false_eq_true,if_false]
   have loop:∀(f:Fo) (i:Nat) (G:AH) (v:Sl3) (l:List Nat),FoA H s.p i f→s.n=i+f.len→f.dep≤a.dep→f.size≤1000→VecA natE 3 m G l v→Ext H G→(∀id,owns v id→H.next≤id)→l.length+f.size≤10000 →
     ∃G' v',loopO (z1o (LCo c) (z1v (LCo c) fuel) m (some p) k w n s) (G,v,(i:Int))=some (.inl (G',v',(s.n:Int)))∧VecA natE 3 m G' (l++dtF g.datas f) v'∧Ch G v G' v':=by
    intro f
    induction f with
    | nil =>
     intro i G v l hA hn _ _ hv hx ho _
     simp only [Fo.len,Nat.add_zero] at hn
     subst hn
     refine ⟨G,v,zy ?_,by simpa [dtF] using hv,Ch.refl _ _⟩
     unfold z1o
     simp only [if_neg (show ¬((s.n:Int)<(s.n:Int)) by omega)]
    | cons k1 w1 n1 a1 r iha ihr =>
     intro i G v l hA hn hdep hfs hv hx ho hN
     simp only [Fo.len] at hn
     simp only [Fo.dep] at hdep
     simp only [Fo.size] at hfs hN
     obtain ⟨q,t1,q1,q2,q3,q4,q5,q6,q7,q8⟩:=(hA.ext hx).rd (s:=s) (by omega)
     obtain ⟨g',rfl⟩:∃g',fuel=g'+1:=⟨fuel - 1,by omega⟩
     obtain ⟨s',G1,y1,y2,y3⟩:=ih g' G k1 w1 n1 t1 a1 false (hB.ext hx) (Nat.le_trans hm hx.1) q6 (by omega) (by omega) (by omega)
     have hv1:VecA natE 3 m G1 l v:=VecV.ext hv y3
     have hlen:(dtI g.datas false k1 n1 a1).length≤a1.size+1:=by
      unfold dtI
      split
      ·simp
      ·have:=zb8 g.datas a1; omega
     obtain ⟨v2,G2,z1,z2,z3⟩:=VecA.app (E:=natE) (e:=3) (bytes:=8) (l':=dtI g.datas false k1 n1 a1) hv1 (zgq y2) (room8 (by omega)).1 (room8 (by omega)).2 (Nat.le_trans hm (Nat.le_trans hx.1 y3.1))
     have c1:Ch G v G2 v2:=by
      refine ⟨(y3.weak (W':=owns v) fun _ _ h=>h.elim).comp z3.fm fun id _ hn=>hn,fun id hid=>?_⟩
      rcases z3.ow id hid with h | h
      ·exact .inl h
      ·exact .inr (Nat.le_trans y3.1 h)
     obtain ⟨x2,o2⟩:=c1.ext hx ho
     obtain ⟨G3,v3,w1',w2,w3⟩:=ihr (i+1) G2 v2 (l++dtI g.datas false k1 n1 a1) hA.2 (by omega) (by omega) (by omega) z2 x2 o2 (by rw [List.length_append]; omega)
     refine ⟨G3,v3,?_,?_,c1.trans w3⟩
     ·have hb:z1o (LCo c) (z1v (LCo c) (g'+1)) m (some p) k w n s (G,v,(i:Int))=some (.next (G2,v2,((i+1:Nat):Int))):=by
       unfold z1o
       have z1':appS m 3 1 8 G1 v s'=some (v2,G2):=z1
       simp only [if_pos (show (i:Int)<(s.n:Int) by omega),q1,q2,q3,q4,q5,Option.bind_some,y1,z1']
       rw [zi (n:=s.n) (by omega) h.2.1]
      rw [zl hb]
      exact w1'
     ·have e:dtF g.datas (.cons k1 w1 n1 a1 r)=dtI g.datas false k1 n1 a1++dtF g.datas r:=by
       simp [dtF,dtI]
      rw [e,← List.append_assoc]
      exact w2
   obtain ⟨G',v',t1,t2,t3⟩:=loop a 0 H Sl3.nil [] h.2.2 (by rw [h.1]; omega) (Nat.le_refl _) hsz (VecA.nil _ _ _ _) (Fm.refl _ _) (fun id h=>absurd h z3y) (by simp; omega)
   obtain ⟨x2,_⟩:=t3.ext (Fm.refl _ _) fun id h=>absurd h z3y
   refine ⟨v',G',?_,nat_sl (by simpa using t2) (by have:=zb8 g.datas a; omega),x2⟩
   show Option.bind (loopO (z1o (LCo c) (z1v (LCo c) fuel) m (some p) k w n s) (H,Sl3.nil,((0:Nat):Int))) _=_
   rw [t1]
   rfl
end
end Go.Proofs.YtccbilfbhecdaaaDoor
namespace Go.Proofs.YtccbilfbhecdaaaDoor
open Go Go.Abs
set_option maxRecDepth 100000
structure SelG (g:Sg) (x:Sel):Prop where
 sh:shS x.k x.w x.sn x.a=true
 sz:x.a.size≤255
 dp:x.a.dep≤15
 kn:knS g.users g.datas x.k x.sn x.a=true
structure GoodG (g:Sg):Prop where
 many:manyS g=false
 sel:∀d∈g.datas,∀c∈d.cons,∀x∈c.sels,SelG g x
theorem ze2 {g:Sg} (hm:manyS g=false) (ha:allS g=0):GoodG g:=by
 refine ⟨hm,fun d hd c hc x hx=>?_⟩
 have hmem:selE x∈sortsE g:=by
  rw [zhr]
  refine List.mem_append.2 (.inl ?_)
  rw [List.mem_flatMap]
  refine ⟨d,hd,?_⟩
  unfold datE
  rw [List.mem_flatMap]
  exact ⟨c,hc,List.mem_map.2 ⟨x,hx,rfl⟩⟩
 have h0:errS g (selE x)=none:=by
  unfold allS at ha
  cases hq:(sortsE g).findSome? (errS g) with
  | some e =>
   rw [hq] at ha
   obtain ⟨y,hy,hye⟩:=List.exists_of_findSome?_eq_some hq
   have:=(err_ok hye).2
   exact absurd ha this
  | none=>exact List.findSome?_eq_none_iff.1 hq _ hmem
 have hc0:checkS g x.k x.w x.sn x.a=0:=by
  unfold errS at h0
  split at h0
  ·assumption
  ·cases h0
 unfold checkS at hc0
 split at hc0
 ·rename_i hw
  obtain ⟨z1,z2,z3⟩:=zg6 hw
  split at hc0
  ·rename_i hk
   exact ⟨z1,by omega,by omega,hk⟩
  ·cases hc0
 ·rename_i hw
  exact absurd hc0 hw
theorem zs2 (ds:List Dat) (k:Int) (n:ByteArray) (a:Fo):(dtS ds k n a).length≤a.size+1:=by
 unfold dtS
 split
 ·simp
 ·have:=zb8 ds a; omega
theorem zj8 {α:Type} {f:α→Nat}:∀{l:List α} {x:α},x∈l→f x≤sumL f l
 | y :: l,x,h=>by
  simp only [sumL]
  rcases List.mem_cons.1 h with rfl | h
  ·omega
  ·have:=zj8 (f:=f) h; omega
theorem zrr {g:Sg} (hG:GoodG g) {d:Dat} (hd:d∈g.datas) {c:Con} (hc:c∈d.cons):(stC g.datas c).length≤c.sels.length*256 :=
 zjc _ _ fun x hx=>by
  have:=zs2 g.datas x.k x.sn x.a
  have:=(hG.sel d hd c hc x hx).sz
  omega
theorem zqo {g:Sg} (hG:GoodG g) {d:Dat} (hd:d∈g.datas):(stD g.datas d).length≤cntD d*256:=by
 unfold stD cntD
 have key:∀l:List Con,(∀c∈l,c∈d.cons)→(l.flatMap (stC g.datas)).length≤sumL (fun c=>c.sels.length) l*256:=by
  intro l
  induction l with
  | nil=>intro _; simp [sumL]
  | cons c l ih =>
   intro h
   rw [List.flatMap_cons,List.length_append]
   have h1:=zrr hG hd (h c (by simp))
   have h2:=ih fun c hc=>h c (by simp [hc])
   simp only [sumL,Nat.add_mul]
   omega
 have:=key d.cons fun c hc=>hc
 rw [Nat.add_mul]
 omega
theorem znx {g:Sg} (hG:GoodG g):sumL cntD g.datas≤4096:=by
 have:=hG.many
 unfold manyS at this
 simp only [Bool.or_eq_false_iff,decide_eq_false_iff_not] at this
 have:=this.2.2
 unfold cntG at this
 omega
theorem zh8 {g:Sg} (hG:GoodG g) {d:Dat} (hd:d∈g.datas):(stD g.datas d).length≤1048576:=by
 have h1:=zqo hG hd
 have h2:=zj8 (f:=cntD) hd
 have h3:=znx hG
 have:cntD d*256≤4096*256:=Nat.mul_le_mul_right _ (by omega)
 omega
section
variable {m:Nat} {H0 H:AH} {s1 s2 s3:Sl3} {g:Sg} {p:Addr} {L0 fuel:Nat} {s:Sl3} {l:List Nat}
theorem zk8 (hF:L0=fuel+1) (hfu:15≤fuel) (hG:GoodG g) (hB:Book H0 p s1 s2 s3 g) (hm:m≤H0.next) {d:Dat} (hd:d∈g.datas) {c:Con} (hc:c∈d.cons) {x4 sl:Sl3} {v20:Int} {n9:ByteArray} (h:SlL SelA 5 H0 sl c.sels) (hv:VecA natE 3 m H l s) (hx:Ext H0 H) (ho:∀id,owns s id→H0.next≤id) (hN:l.length+(stC g.datas c).length≤2000000) :
  ∃H' s',loopO (z1a (LCo L0) m p x4 v20 n9 sl) (H,s,0)=some (.inl (H',s',(c.sels.length:Int)))∧VecA natE 3 m H' (l++stC g.datas c) s'∧Ch H s H' s':=by
 have key:=z9i (E:=natE) (e:=3) (m:=m) (xs:=c.sels) (body:=z1a (LCo L0) m p x4 v20 n9 sl) (fun x=>dtS g.datas x.k x.sn x.a) 2000000 (H0:=H0)
  (fun i hi G t k hk hx1 hO hN=>by
   have hln:=h.n
   obtain ⟨q,g1,g2⟩:=h.get hi (v:=(i:Int)) rfl
   obtain ⟨z,e1,e2,e3,e4,e5,e6⟩:=g2.ex
   have r0:rd deS G (q.add 0)=some c.sels[i].n:=by rw [(g2.n.ext hx1).rd]; rfl
   have r1:rd (deI .i64) G (q.add 1)=some c.sels[i].k:=by rw [(e1.ext hx1).rd]; rfl
   have r2:rd (deI .i64) G (q.add 2)=some c.sels[i].w:=by rw [(e2.ext hx1).rd]; rfl
   have r3:rd deS G (q.add 3)=some c.sels[i].sn:=by rw [(e3.ext hx1).rd]; rfl
   have r4:rd deSl G (q.add 4)=some z:=by rw [(e4.ext hx1).rd]; rfl
   have hs:=hG.sel d hd c hc _ (List.getElem_mem hi)
   obtain ⟨s',G1,y1,y2,y3⟩:=zfm (m:=m) L0 (c.sels[i].a.dep+1) fuel G c.sels[i].k c.sels[i].w c.sels[i].sn z c.sels[i].a false (hB.ext hx1) (Nat.le_trans hm hx1.1) (e6.ext hx1) (by have:=hs.sz; omega) (by have:=hs.dp; omega) (by omega)
   have e:dtI g.datas false c.sels[i].k c.sels[i].sn c.sels[i].a=dtS g.datas c.sels[i].k c.sels[i].sn c.sels[i].a:=by simp [dtI,dtS]
   rw [e] at y2
   obtain ⟨v2,G2,z1,z2,z3⟩:=VecA.app (E:=natE) (e:=3) (bytes:=8) (l':=dtS g.datas c.sels[i].k c.sels[i].sn c.sels[i].a) (VecV.ext hk y3) (zgq y2) (room8 (by omega)).1 (room8 (by omega)).2 (Nat.le_trans hm (Nat.le_trans hx1.1 y3.1))
   refine ⟨G2,v2,?_,z2,?_⟩
   ·unfold z1a z4r
    have e1:(LCo L0).fuel=fuel+1:=hF
    have z1':appS m 3 1 8 G1 t s'=some (v2,G2):=z1
    rw [e1]
    simp only [if_pos (show (i:Int)<(sl.n:Int) by omega),g1,Option.bind_some,r0,r1,r2,r3,r4,y1,z1']
    rw [zi hi h.len]
   ·refine ⟨(y3.weak (W':=owns t) fun _ _ h=>h.elim).comp z3.fm fun id _ hn=>hn,fun id hid=>?_⟩
    rcases z3.ow id hid with h | h
    ·exact .inl h
    ·exact .inr (Nat.le_trans y3.1 h))
  (fun G t hx1=>by
   unfold z1a
   have hln:=h.n
   simp only [if_neg (show ¬((c.sels.length:Int)<(sl.n:Int)) by omega)])
  c.sels.length 0 H s l (by omega) hv hx ho (by rw [List.drop_zero]; exact hN)
 rw [List.drop_zero] at key
 exact key
theorem zcm (hF:L0=fuel+1) (hfu:15≤fuel) (hG:GoodG g) (hS:SigA H s1 s2 s3 g) (hB:Book H p s1 s2 s3 g) (hm:m≤H.next) {i:Nat} (hi:i<g.datas.length) :
  ∃s' H',z2q (LCo L0) m H (some p) (i:Int)=some (s',H')∧VecA natE 3 m H' (stD g.datas g.datas[i]) s'∧Ext H H'∧∀id,owns s' id→H.next≤id:=by
 have hd:=List.getElem_mem hi
 have hadd:∀j,(p.add 0).add j=p.add (0+j):=fun j=>add2 hB.c1 0 j
 have r1:rd deSl H ((p.add 0).add 1)=some s2:=by rw [hadd,hB.c2.rd]; rfl
 obtain ⟨q,g1,g2⟩:=hS.d.get hi (v:=(i:Int)) rfl
 obtain ⟨z,e1,hc⟩:=g2.ex
 have r2:rd deSl H (q.add 1)=some z:=by rw [e1.rd]; rfl
 have key:=z9i (E:=natE) (e:=3) (m:=m) (xs:=g.datas[i].cons) (body:=z1f (LCo L0) m p z) (stC g.datas) 2000000 (H0:=H)
  (fun j hj G t k hk hx1 hO hN=>by
   have hln:=hc.n
   obtain ⟨q',k1,k2⟩:=hc.get hj (v:=(j:Int)) rfl
   obtain ⟨z',f1,f2⟩:=k2.ex
   have r0:rd deS G (q'.add 0)=some g.datas[i].cons[j].n:=by rw [(k2.n.ext hx1).rd]; rfl
   have r3:rd deSl G (q'.add 1)=some z':=by rw [(f1.ext hx1).rd]; rfl
   obtain ⟨G2,t2,w1,w2,w3⟩:=zk8 hF hfu hG hB hm hd (List.getElem_mem hj) (x4:=z) (v20:=(j:Int)) (n9:=g.datas[i].cons[j].n) f2 hk hx1 hO hN
   refine ⟨G2,t2,?_,w2,w3⟩
   unfold z1f
   simp only [if_pos (show (j:Int)<(z.n:Int) by omega),k1,Option.bind_some,r0,r3]
   show Option.bind (loopO (z1a (LCo L0) m p z (j:Int) g.datas[i].cons[j].n z') (G,t,0)) _=_
   rw [w1]
   simp only [Option.bind_some]
   rw [zi hj hc.len])
  (fun G t hx1=>by
   unfold z1f
   have hln:=hc.n
   simp only [if_neg (show ¬((g.datas[i].cons.length:Int)<(z.n:Int)) by omega)])
  g.datas[i].cons.length 0 H Sl3.nil [] (by omega) (VecA.nil _ _ _ _) (Fm.refl _ _) (fun id h=>absurd h z3y) (by rw [List.drop_zero]; have:=zh8 hG hd; show 0+(stD g.datas g.datas[i]).length≤_; omega)
 rw [List.drop_zero] at key
 obtain ⟨H',s',t1,t2,t3⟩:=key
 obtain ⟨x2,o2⟩:=t3.ext (Fm.refl _ _) fun id h=>absurd h z3y
 refine ⟨s',H',?_,by simpa [stD] using t2,x2,o2⟩
 unfold z2q
 simp only [Option.bind_some,r1,g1,r2]
 show Option.bind (loopO (z1f (LCo L0) m p z) (H,Sl3.nil,0)) _=_
 have t1':loopO (z1f (LCo L0) m p z) (H,Sl3.nil,0)=_:=t1
 rw [t1']
 rfl
end
def EdgS (g:Sg) (i k:Nat):Prop:=∃h:i<g.datas.length,k∈stD g.datas g.datas[i]
inductive Lean1 (g:Sg) (i:Nat):Nat→Prop
 | one {k:Nat} (h:EdgS g i k):Lean1 g i k
 | more {j k:Nat} (h:Lean1 g i j) (h':EdgS g j k):Lean1 g i k
theorem ix_lt {g:Sg} {n:ByteArray} (h:(dataIx g.datas n).isSome=true):ixS g.datas n<g.datas.length:=by
 unfold ixS
 obtain ⟨i,hi⟩:=Option.isSome_iff_exists.1 h
 rw [hi]
 unfold dataIx at hi
 exact (List.findIdx?_eq_some_iff_getElem.1 hi).1
theorem dtF_lt {g:Sg}:∀{a:Fo},shF a=true→knF g.users g.datas a=true→∀k∈dtF g.datas a,k<g.datas.length
 | .nil,_,_,k,hk=>by simp [dtF] at hk
 | .cons k w n a r,hs,h,j,hj=>by
  simp only [knF,Bool.and_eq_true] at h
  simp only [shF,Bool.and_eq_true] at hs
  simp only [dtF,List.mem_append] at hj
  rcases hj with hj | hj
  ·by_cases h6:k=6
   ·subst h6
    simp only [if_true,List.mem_singleton,if_neg (show ¬((6:Int)=5) by omega)] at hj h
    subst hj
    exact ix_lt h.1
   ·rw [if_neg h6] at hj
    by_cases h5:k=5
    ·have:=zgo (k:=k) (w:=w) (n:=n) (a:=a) (by simp only [shS,Bool.and_eq_true]; exact hs.1) (.inl h5)
     subst this
     simp [dtF] at hj
    ·rw [if_neg h5,if_neg h6] at h
     exact dtF_lt hs.1.2 h.1 j hj
  ·exact dtF_lt hs.2 h.2 j hj
theorem dtS_lt {g:Sg} {x:Sel} (h:SelG g x):∀k∈dtS g.datas x.k x.sn x.a,k<g.datas.length:=by
 intro k hk
 have hs:=h.sh
 have hkn:=h.kn
 unfold dtS at hk
 unfold knS at hkn
 by_cases h6:x.k=6
 ·rw [if_pos h6] at hk
  rw [if_neg (by omega),if_pos h6] at hkn
  simp only [List.mem_singleton] at hk
  subst hk
  exact ix_lt hkn
 ·rw [if_neg h6] at hk
  by_cases h5:x.k=5
  ·have:=zgo hs (.inl h5)
   rw [this] at hk
   simp [dtF] at hk
  ·rw [if_neg h5,if_neg h6] at hkn
   simp only [shS,Bool.and_eq_true] at hs
   exact dtF_lt hs.2 hkn k hk
theorem stD_lt {g:Sg} (hG:GoodG g) {d:Dat} (hd:d∈g.datas):∀k∈stD g.datas d,k<g.datas.length:=by
 intro k hk
 unfold stD stC at hk
 simp only [List.mem_flatMap] at hk
 obtain ⟨c,hc,x,hx,hk⟩:=hk
 exact dtS_lt (hG.sel d hd c hc x hx) k hk
theorem edg_lt {g:Sg} (hG:GoodG g) {i k:Nat} (h:EdgS g i k):k<g.datas.length:=by
 obtain ⟨hi,h⟩:=h
 exact stD_lt hG (List.getElem_mem hi) k h
theorem zra {g:Sg} (hG:GoodG g) {i k:Nat} (h:Lean1 g i k):k<g.datas.length:=by
 cases h with
 | one h=>exact edg_lt hG h
 | more _ h=>exact edg_lt hG h
end Go.Proofs.YtccbilfbhecdaaaDoor
namespace Go.Proofs.YtccbilfbhecdaaaDoor
open Go Go.Abs
set_option maxRecDepth 100000
def bV (bl:List Bool):List Value:=bl.map Value.bool
theorem bV_set (bl:List Bool) (i:Nat) (b:Bool):(bV bl).set i (.bool b)=bV (bl.set i b):=by
 unfold bV; rw [List.map_set]
def freeN (bl:List Bool):Nat:=bl.countP fun b=>!b
theorem zhi {bl:List Bool} {i:Nat} (hi:i<bl.length) (hb:bl[i]=false):freeN (bl.set i true)+1=freeN bl:=by
 unfold freeN
 rw [List.countP_set (h:=hi)]
 have hpos:0<bl.countP fun b=>!b:=List.countP_pos_iff.2 ⟨bl[i],List.getElem_mem hi,by simp [hb]⟩
 simp [hb]
 omega
section
variable {m:Nat} {H0 H:AH} {s1 s2 s3:Sl3} {g:Sg} {p:Addr} {L0 fuel:Nat} {s:Sl3} {l:List Nat}
structure Work (g:Sg) (i:Nat) (bl:List Bool) (ql:List Nat):Prop where
 len:bl.length=g.datas.length
 sound:∀k (h:k<bl.length),bl[k]=true→Lean1 g i k
 wait:∀k∈ql,Lean1 g i k
 first:∀k,EdgS g i k→(∃h:k<bl.length,bl[k]=true)∨k∈ql
 next:∀j k,(∃h:j<bl.length,bl[j]=true)→EdgS g j k→(∃h:k<bl.length,bl[k]=true)∨k∈ql
theorem Work.done {i:Nat} {bl:List Bool} (h:Work g i bl []):∀k (hk:k<bl.length),bl[k]=true↔Lean1 g i k:=by
 have key:∀k,Lean1 g i k→∃h:k<bl.length,bl[k]=true:=by
  intro k hk
  induction hk with
  | one h1=>exact (h.first _ h1).resolve_right (by simp)
  | more h1 h2 ih=>exact (h.next _ _ ih h2).resolve_right (by simp)
 exact fun k hk=>⟨h.sound k hk,fun hl=>(key k hl).2⟩
theorem z6v {bl:List Bool} {x k:Nat}:(∃h:k<(bl.set x true).length,(bl.set x true)[k]=true)↔(∃h:k<bl.length,bl[k]=true)∨(k=x∧x<bl.length):=by
 constructor
 ·rintro ⟨h,hb⟩
  have hk:k<bl.length:=by simpa using h
  rw [List.getElem_set] at hb
  split at hb
  ·rename_i e; exact .inr ⟨e.symm,by omega⟩
  ·exact .inl ⟨hk,hb⟩
 ·rintro (⟨h,hb⟩ | ⟨rfl,hx⟩)
  ·refine ⟨by simpa using h,?_⟩
   rw [List.getElem_set]
   split
   ·rfl
   ·exact hb
  ·exact ⟨by simpa using hx,by simp⟩
theorem Work.pop {i x:Nat} {bl:List Bool} {t:List Nat} (h:Work g i bl (x :: t)) (hx:∃h:x<bl.length,bl[x]=true):Work g i bl t:=by
 refine ⟨h.len,h.sound,fun k hk=>h.wait k (by simp [hk]),fun k hk=>?_,fun j k hj hk=>?_⟩
 ·rcases h.first k hk with h1 | h1
  ·exact .inl h1
  ·rcases List.mem_cons.1 h1 with rfl | h1
   ·exact .inl hx
   ·exact .inr h1
 ·rcases h.next j k hj hk with h1 | h1
  ·exact .inl h1
  ·rcases List.mem_cons.1 h1 with rfl | h1
   ·exact .inl hx
   ·exact .inr h1
theorem Work.mark {i x:Nat} {bl:List Bool} {t:List Nat} (h:Work g i bl (x :: t)) (hx:x<g.datas.length):Work g i (bl.set x true) (t++stD g.datas g.datas[x]):=by
 have hlx:Lean1 g i x:=h.wait x (by simp)
 have hxl:x<bl.length:=by rw [h.len]; exact hx
 refine ⟨by simp [h.len],fun k hk hb=>?_,fun k hk=>?_,fun k hk=>?_,fun j k hj hk=>?_⟩
 ·rcases z6v.1 ⟨hk,hb⟩ with ⟨h1,h2⟩ | ⟨rfl,_⟩
  ·exact h.sound k h1 h2
  ·exact hlx
 ·rcases List.mem_append.1 hk with hk | hk
  ·exact h.wait k (by simp [hk])
  ·exact .more hlx ⟨hx,hk⟩
 ·rcases h.first k hk with h1 | h1
  ·exact .inl (z6v.2 (.inl h1))
  ·rcases List.mem_cons.1 h1 with rfl | h1
   ·exact .inl (z6v.2 (.inr ⟨rfl,hxl⟩))
   ·exact .inr (List.mem_append.2 (.inl h1))
 ·rcases z6v.1 hj with h1 | ⟨rfl,_⟩
  ·rcases h.next j k h1 hk with h2 | h2
   ·exact .inl (z6v.2 (.inl h2))
   ·rcases List.mem_cons.1 h2 with rfl | h2
    ·exact .inl (z6v.2 (.inr ⟨rfl,hxl⟩))
    ·exact .inr (List.mem_append.2 (.inl h2))
  ·obtain ⟨_,hk⟩:=hk
   exact .inr (List.mem_append.2 (.inr hk))
theorem zqh (hF:L0=fuel+1) (hfu:15≤fuel) (hG:GoodG g) (hS:SigA H0 s1 s2 s3 g) (hB:Book H0 p s1 s2 s3 g) (hm:m≤H0.next) {id3 idr n:Nat} {x2:Sl3} {rows:List Value} {i:Nat} (hn:n=g.datas.length) (hi:i<n)
  (hrow:rows[i]? = some (Sl3.v ⟨some ⟨idr,0,none⟩,n,n⟩)) (hne:id3≠idr) (h3:H0.next≤id3) (hr:H0.next≤idr):∀(u q:Nat) (bl:List Bool) (ql:List Nat) (H:AH) (v:Sl3),freeN bl=u→ql.length=q→Work g i bl ql→Ext H0 H →
   ArrV 56 m H id3 rows→ArrV 4 m H idr (bV bl)→VecA natE 3 m H ql v→(∀id,owns v id→H0.next≤id∧id≠id3∧id≠idr)→ql.length+u*1048576≤5000000000 →
   ∃H' v' bl',loopO (z16 (LCo L0) m p x2 ⟨some ⟨id3,0,none⟩,n,n⟩ (i:Int)) (H,v)=some (.inl (H',v'))∧Work g i bl' []∧ArrV 56 m H' id3 rows∧ArrV 4 m H' idr (bV bl')∧Ext H0 H'∧Fm (fun id=>id=idr∨owns v id) H H':=by
 intro u
 induction u using Nat.strongRecOn with
 | ind u ihu =>
  intro q
  induction q with
  | zero =>
   intro bl ql H v hu hq hW hx ha3 har hv ho hN
   obtain rfl:ql=[]:=List.length_eq_zero_iff.1 hq
   refine ⟨H,v,bl,zy ?_,hW,ha3,har,hx,Fm.refl _ _⟩
   unfold z16
   have:v.n=0:=hv.n
   simp only [this]
   rw [if_neg (by omega)]
  | succ q ihq =>
   intro bl ql H v hu hq hW hx ha3 har hv ho hN
   cases ql with
   | nil=>simp at hq
   | cons x t =>
    have hxn:x<g.datas.length:=zra hG (hW.wait x (by simp))
    have hxb:x<bl.length:=by rw [hW.len]; exact hxn
    have hvn:v.n=t.length+1:=hv.n
    have hsl:=nat_sl hv (by omega)
    obtain ⟨qa,k1,k2⟩:=hsl.get (i:=0) (by simp) (v:=(0:Int)) rfl
    have r0:rd (deI .i64) H qa=some (x:Int):=by rw [Cel.rd k2]; rfl
    obtain ⟨v1,t1,t2,t3⟩:=hv.tail rfl (by unfold OPEN; simp at hN; omega)
    have r1:rd deSl H ((⟨id3,0,none⟩:Addr).add (i*1))=some ⟨some ⟨idr,0,none⟩,n,n⟩:=by rw [(ha3.cel hrow).rd]; rfl
    have hbx:(bV bl)[x]? = some (.bool bl[x]):=by simp [bV,hxb]
    have r2:rd deB H ((⟨idr,0,none⟩:Addr).add (x*1))=some bl[x]:=by rw [(har.cel hbx).rd]; rfl
    have i3:idxA 1 (⟨some ⟨id3,0,none⟩,n,n⟩:Sl3) (i:Int)=some ((⟨id3,0,none⟩:Addr).add (i*1)):=z5c hi rfl
    have ir:idxA 1 (⟨some ⟨idr,0,none⟩,n,n⟩:Sl3) (x:Int)=some ((⟨idr,0,none⟩:Addr).add (x*1)):=z5c (by omega) rfl
    have o1:∀id,owns v1 id→H0.next≤id∧id≠id3∧id≠idr:=fun id hid=>ho id (t3 id hid)
    simp only [List.length_cons] at hq hN
    cases hb:bl[x] with
    | true =>
     obtain ⟨H',v',bl',w1,w2,w3,w4,w5,w6⟩:=ihq bl t H v1 hu (by omega) (hW.pop ⟨hxb,hb⟩) hx ha3 har t2 o1 (by omega)
     refine ⟨H',v',bl',?_,w2,w3,w4,w5,w6.weak fun id _ h=>?_⟩
     ·have hbody:z16 (LCo L0) m p x2 ⟨some ⟨id3,0,none⟩,n,n⟩ (i:Int) (H,v)=some (.next (H,v1)):=by
       unfold z16
       rw [hb] at r2
       simp only [if_pos (show (v.n:Int) > 0 by omega),k1,Option.bind_some,r0,t1,i3,r1,ir,r2,if_true]
      rw [zl hbody]
      exact w1
     ·rcases h with h | h
      ·exact .inl h
      ·exact .inr (t3 id h)
    | false =>
     obtain ⟨H25,c1,c2,c3,c4⟩:=har.set (i:=x) (by simp [bV]; exact hxb) (.bool true)
     rw [bV_set] at c2
     have xx:Ext H0 H25:=hx.comp c3 fun id hid _ h=>by omega
     have a3':ArrV 56 m H25 id3 rows:=ha3.fr c3 hne
     have v1':VecA natE 3 m H25 t v1:=VecV.fr t2 c3 fun id hid h=>(o1 id hid).2.2 h
     have hmH:m≤H25.next:=Nat.le_trans hm xx.1
     obtain ⟨s',H27,d1,d2,d3,d4⟩:=zcm hF hfu hG (hS.ext xx) (hB.ext xx) hmH hxn
     have hst:=zh8 hG (List.getElem_mem hxn)
     obtain ⟨v2,H29,e1,e2,e3⟩:=VecA.app (E:=natE) (e:=3) (bytes:=8) (l':=stD g.datas g.datas[x]) (VecV.ext v1' d3) (zgq (nat_sl d2 (by omega))) (room8 (by omega)).1 (room8 (by omega)).2 (Nat.le_trans hmH d3.1)
     have f29:Fm (fun id=>id=idr∨owns v id) H H29:=by
      refine (c3.weak (W':=fun id=>id=idr∨owns v id) fun id _ h=>.inl h).comp ((d3.weak (W':=owns v1) fun _ _ h=>h.elim).comp e3.fm fun id _ hn=>hn) fun id hid hn h=>?_
      exact hn (.inr (t3 id h))
     have own2:∀id,owns v2 id→owns v1 id∨H27.next≤id:=e3.ow
     have lt3:=ha3.low
     have ltr:=har.low
     have hge:H.next≤H27.next:=by rw [← c4]; exact d3.1
     have o2:∀id,owns v2 id→H0.next≤id∧id≠id3∧id≠idr:=fun id hid=>by
      rcases own2 id hid with h | h
      ·exact o1 id h
      ·have:=hx.1; omega
     have a329:ArrV 56 m H29 id3 rows:=(a3'.ext d3).fr e3.fm fun h=>(o1 id3 h).2.1 rfl
     have ar29:ArrV 4 m H29 idr (bV (bl.set x true)):=(c2.ext d3).fr e3.fm fun h=>(o1 idr h).2.2 rfl
     have x29:Ext H0 H29:=(xx.trans d3).comp e3.fm fun id hid _ h=>by have:=(o1 id h).1; omega
     have hfree:=zhi hxb hb
     obtain ⟨H',v',bl',w1,w2,w3,w4,w5,w6⟩:=ihu (freeN (bl.set x true)) (by omega) _ (bl.set x true) (t++stD g.datas g.datas[x]) H29 v2 rfl rfl (hW.mark hxn) x29 a329 ar29 e2 o2 (by
      rw [List.length_append]
      have:u=freeN (bl.set x true)+1:=by omega
      rw [this,Nat.add_mul] at hN
      omega)
     refine ⟨H',v',bl',?_,w2,w3,w4,w5,f29.comp w6 fun id hid hn h=>?_⟩
     ·have hbody:z16 (LCo L0) m p x2 ⟨some ⟨id3,0,none⟩,n,n⟩ (i:Int) (H,v)=some (.next (H29,v2)):=by
       unfold z16
       rw [hb] at r2
       have e1':appS m 3 1 8 H27 v1 s'=some (v2,H29):=e1
       simp only [if_pos (show (v.n:Int) > 0 by omega),k1,Option.bind_some,r0,t1,i3,r1,ir,r2,Bool.false_eq_true,if_false,c1,d1,e1']
      rw [zl hbody]
      exact w1
     ·rcases h with h | h
      ·exact hn (.inl h)
      ·rcases own2 id h with h | h
       ·exact hn (.inr (t3 id h))
       ·omega
end
end Go.Proofs.YtccbilfbhecdaaaDoor
namespace Go.Proofs.YtccbilfbhecdaaaDoor
open Go Go.Abs
set_option maxRecDepth 100000
theorem z82 {g:Sg} (hG:GoodG g):g.datas.length≤4096:=by
 have:=hG.many
 unfold manyS at this
 simp only [Bool.or_eq_false_iff,decide_eq_false_iff_not] at this
 have:=this.2.2
 unfold cntG at this
 omega
theorem zhv (n:Nat):freeN (List.replicate n false)=n:=by
 unfold freeN
 rw [List.countP_replicate]
 simp
theorem zfh {α:Type} {xs:List α} {body:AH×Int→Option (Lp (AH×Int) (Bool×AH))} (P:Nat→α→Prop) {H0:AH}
  (step:∀(i:Nat) (hi:i<xs.length) (H:AH),Ext H0 H→∃H',Ext H0 H'∧((P i xs[i]∧body (H,(i:Int))=some (.ret (true,H')))∨(¬P i xs[i]∧body (H,(i:Int))=some (.next (H',((i+1:Nat):Int))))))
  (he:∀H,Ext H0 H→body (H,(xs.length:Int))=some (.brk (H,(xs.length:Int)))) :
  ∀(d i:Nat) (H:AH),i+d=xs.length→Ext H0 H→∃H',Ext H0 H'∧(((∃j,∃h:j<xs.length,i≤j∧P j xs[j])∧loopO body (H,(i:Int))=some (.inr (true,H')))∨((¬∃j,∃h:j<xs.length,i≤j∧P j xs[j])∧loopO body (H,(i:Int))=some (.inl (H',(xs.length:Int))))):=by
 intro d
 induction d with
 | zero =>
  intro i H hi hx
  have:i=xs.length:=by omega
  subst this
  refine ⟨H,hx,.inr ⟨?_,zy (he H hx)⟩⟩
  rintro ⟨j,h,h',_⟩
  omega
 | succ d ih =>
  intro i H hi hx
  have hlt:i<xs.length:=by omega
  obtain ⟨H1,x1,h⟩:=step i hlt H hx
  rcases h with ⟨hp,hb⟩ | ⟨hp,hb⟩
  ·exact ⟨H1,x1,.inl ⟨⟨i,hlt,Nat.le_refl _,hp⟩,z45 hb⟩⟩
  ·obtain ⟨H2,x2,h⟩:=ih (i+1) H1 (by omega) x1
   refine ⟨H2,x2,?_⟩
   rw [zl hb]
   rcases h with ⟨⟨j,hj,h1,h2⟩,h3⟩ | ⟨h1,h3⟩
   ·exact .inl ⟨⟨j,hj,by omega,h2⟩,h3⟩
   ·refine .inr ⟨?_,h3⟩
    rintro ⟨j,hj,h4,h5⟩
    by_cases e:j=i
    ·subst e; exact hp h5
    ·exact h1 ⟨j,hj,by omega,h5⟩
def LeanT (g:Sg) (H:AH) (id3:Nat):Prop:=∀i,i<g.datas.length→∃row:Sl3,Cel H ((⟨id3,0,none⟩:Addr).add (i*1)) row.v∧∀k,k<g.datas.length→∃q b,idxA 1 row (k:Int)=some q∧Cel H q (.bool b)∧(b=true↔Lean1 g i k)
theorem LeanT.ext {g:Sg} {H H':AH} {id3:Nat} (h:LeanT g H id3) (hf:Ext H H'):LeanT g H' id3:=fun i hi=>by
 obtain ⟨row,h1,h2⟩:=h i hi
 exact ⟨row,h1.ext hf,fun k hk=>let ⟨q,b,a1,a2,a3⟩:=h2 k hk; ⟨q,b,a1,a2.ext hf,a3⟩⟩
section
variable {m:Nat} {H0 H:AH} {s1 s2 s3:Sl3} {g:Sg} {p:Addr} {L0 fuel:Nat}
def RowOk (g:Sg) (m:Nat) (H0 H:AH) (id3 n:Nat) (rows:List Value) (j:Nat):Prop :=
 ∃idj bl,rows[j]? = some (Sl3.v ⟨some ⟨idj,0,none⟩,n,n⟩)∧ArrV 4 m H idj (bV bl)∧(∀k (h:k<bl.length),bl[k]=true↔Lean1 g j k)∧bl.length=n∧H0.next≤idj∧idj≠id3
theorem zq4 (hF:L0=fuel+1) (hfu:15≤fuel) (hG:GoodG g) (hS:SigA H0 s1 s2 s3 g) (hB:Book H0 p s1 s2 s3 g) (hm:m≤H0.next) {id3 n:Nat} (hn:n=g.datas.length) (h3:H0.next≤id3):∀(d i:Nat) (H:AH) (rows:List Value),i+d=n→Ext H0 H→ArrV 56 m H id3 rows→rows.length=n →
   (∀j,j<i→RowOk g m H0 H id3 n rows j) →
   ∃H' rows',loopO (z1p (LCo L0) m p s2 ⟨some ⟨id3,0,none⟩,n,n⟩) (H,(i:Int))=some (.inl (H',(n:Int)))∧Ext H0 H'∧ArrV 56 m H' id3 rows'∧∀j,j<n→RowOk g m H0 H' id3 n rows' j:=by
 have hd:=hS.d.n
 have hnn:n≤4096:=by rw [hn]; exact z82 hG
 intro d
 induction d with
 | zero =>
  intro i H rows hi hx ha hl hr
  obtain rfl:i=n:=by omega
  refine ⟨H,rows,zy ?_,hx,ha,hr⟩
  unfold z1p
  simp only [if_neg (show ¬((i:Int)<(s2.n:Int)) by omega)]
 | succ d ih =>
  intro i H rows hi hx ha hl hr
  have hin:i<n:=by omega
  have hig:i<g.datas.length:=by omega
  have hmH:=Nat.le_trans hm hx.1
  obtain ⟨H8,b1,b2,b3,b4⟩:=zh0 (e:=4) (bytes:=1) (m:=m) (H:=H) (z:=.bool false) (n:=n) (by omega) (by omega) hmH
  have hs2:s2.n=n:=by rw [hd,hn]
  have ha8:=ha.ext b3
  obtain ⟨H10,c1,c2,c3,c4⟩:=ha8.set (i:=i) (by omega) (Sl3.v ⟨some ⟨H.next,0,none⟩,n,n⟩)
  have hlow:=ha.low
  have x8:=hx.trans b3
  have x10:Ext H0 H10:=x8.comp c3 fun id hid _ h=>by omega
  have b2':ArrV 4 m H10 H.next (bV (List.replicate n false)):=by
   have:bV (List.replicate n false)=List.replicate n (Value.bool false):=by simp [bV]
   rw [this]
   exact b2.fr c3 (by omega)
  obtain ⟨x11,H12,d1,d2,d3,d4⟩:=zcm hF hfu hG (hS.ext x10) (hB.ext x10) (Nat.le_trans hm x10.1) hig
  have hst:=zh8 hG (List.getElem_mem hig)
  have x12:=x10.trans d3
  have hrow:(rows.set i (Sl3.v ⟨some ⟨H.next,0,none⟩,n,n⟩))[i]? = some (Sl3.v ⟨some ⟨H.next,0,none⟩,n,n⟩):=by simp [hl,hin]
  have hW:Work g i (List.replicate n false) (stD g.datas g.datas[i]):=by
   refine ⟨by simp [hn],fun k hk hb=>by simp at hb,fun k hk=>.one ⟨hig,hk⟩,fun k hk=>?_,fun j k hj _=>?_⟩
   ·obtain ⟨_,hk⟩:=hk; exact .inr hk
   ·obtain ⟨_,hb⟩:=hj; simp at hb
  obtain ⟨H',v',bl',e1,e2,e3,e4,e5,e6⟩:=zqh hF hfu hG hS hB hm (x2:=s2) hn hin hrow (by omega) h3 hx.1 n _ (List.replicate n false) _ H12 x11 (zhv n) rfl hW x12 (c2.ext d3) (b2'.ext d3) d2 (fun id hid=>by have:=d4 id hid; have:=b4; have:=x10.1; omega) (by omega)
  have keep:∀j,j<i→RowOk g m H0 H' id3 n (rows.set i (Sl3.v ⟨some ⟨H.next,0,none⟩,n,n⟩)) j:=by
   intro j hj
   obtain ⟨idj,bl,k1,k2,k3,k4,k5,k6⟩:=hr j hj
   have hlj:=k2.low
   refine ⟨idj,bl,?_,?_,k3,k4,k5,k6⟩
   ·rw [List.getElem?_set_ne (by omega)]; exact k1
   ·refine (((k2.ext b3).fr c3 k6).ext d3).fr e6 fun h=>?_
    rcases h with h | h
    ·omega
    ·have:=d4 idj h; omega
  have mine:RowOk g m H0 H' id3 n (rows.set i (Sl3.v ⟨some ⟨H.next,0,none⟩,n,n⟩)) i :=
   ⟨H.next,bl',hrow,e4,e2.done,by rw [e2.len,hn],hx.1,by omega⟩
  obtain ⟨H2,rows',y1,y2,y3,y4⟩:=ih (i+1) H' _ (by omega) e5 e3 (by simp [hl]) fun j hj=>by
   by_cases e:j=i
   ·subst e; exact mine
   ·exact keep j (by omega)
  refine ⟨H2,rows',?_,y2,y3,y4⟩
  have hbody:z1p (LCo L0) m p s2 ⟨some ⟨id3,0,none⟩,n,n⟩ (H,(i:Int))=some (.next (H',((i+1:Nat):Int))):=by
   unfold z1p
   simp only [hs2,if_pos (show (i:Int)<(n:Int) by omega),b1,Option.bind_some,z5c hin rfl,c1,d1]
   show Option.bind (loopO (z16 (LCo L0) m p s2 ⟨some ⟨id3,0,none⟩,n,n⟩ (i:Int)) (H12,x11)) _=_
   rw [e1]
   simp only [Option.bind_some]
   rw [zi hin (by rw [z1r]; omega)]
  rw [zl hbody]
  exact y1
theorem zft (hF:L0=fuel+1) (hfu:15≤fuel) (hG:GoodG g) (hS:SigA H s1 s2 s3 g) (hB:Book H p s1 s2 s3 g) (hm:m≤H.next) :
  ∃id3 H',z3x (LCo L0) m H (some p)=some (⟨some ⟨id3,0,none⟩,g.datas.length,g.datas.length⟩,H')∧Ext H H'∧LeanT g H' id3:=by
 have hd:=hS.d.n
 have hnn:=z82 hG
 have hadd:∀j,(p.add 0).add j=p.add (0+j):=fun j=>add2 hB.c1 0 j
 have r1:rd deSl H ((p.add 0).add 1)=some s2:=by rw [hadd,hB.c2.rd]; rfl
 obtain ⟨H4,b1,b2,b3,b4⟩:=zh0 (e:=56) (bytes:=24) (m:=m) (H:=H) (z:=Sl3.v Sl3.nil) (n:=g.datas.length) (by omega) (by omega) hm
 obtain ⟨H',rows',c1,c2,c3,c4⟩:=zq4 hF hfu hG hS hB hm (id3:=H.next) rfl (Nat.le_refl _) g.datas.length 0 H4 _ (by omega) b3 b2 (by simp) (fun j hj=>absurd hj (Nat.not_lt_zero _))
 refine ⟨H.next,H',?_,c2,fun i hi=>?_⟩
 ·unfold z3x
  simp only [Option.bind_some,r1,hd,b1]
  show Option.bind (loopO (z1p (LCo L0) m p s2 ⟨some ⟨H.next,0,none⟩,g.datas.length,g.datas.length⟩) (H4,((0:Nat):Int))) _=_
  rw [c1]
  rfl
 ·obtain ⟨idj,bl,k1,k2,k3,k4,k5,k6⟩:=c4 i hi
  refine ⟨_,c3.cel k1,fun k hk=>⟨_,bl[k]'(by omega),z5c hk rfl,k2.cel (by simp [bV,k4,hk]),k3 k (by omega)⟩⟩
def NestX (g:Sg) (i:Nat) (x:Sel):Prop:=∃k∈dtI g.datas true x.k x.sn x.a,k=i∨Lean1 g k i
def NestP (g:Sg):Prop:=∃i,∃h:i<g.datas.length,∃c∈(g.datas[i]).cons,∃x∈c.sels,NestX g i x
theorem dtI_lt {g:Sg} {x:Sel} (h:SelG g x):∀k∈dtI g.datas true x.k x.sn x.a,k<g.datas.length:=by
 intro k hk
 have hk:k∈dtF g.datas x.a:=by simpa [dtI] using hk
 have hs:=h.sh
 have hkn:=h.kn
 unfold knS at hkn
 by_cases h56:x.k=5∨x.k=6
 ·have:=zgo hs h56
  rw [this] at hk
  simp [dtF] at hk
 ·rw [if_neg (by omega),if_neg (by omega)] at hkn
  simp only [shS,Bool.and_eq_true] at hs
  exact dtF_lt hs.2 hkn k hk
theorem zp5 (c:Nat) {id3:Nat} {i:Nat} {x2 x6 x10 x14 x15:Sl3} {v27 v34 y1 y2:Int} {n6 n10 n14 n15:ByteArray} {l:List Nat} (hT:LeanT g H id3) (hi:i<g.datas.length) (hl:SlL IntA 1 H x15 l) (hlt:∀k∈l,k<g.datas.length) :
  loopO (z1l (LCo c) ⟨some ⟨id3,0,none⟩,g.datas.length,g.datas.length⟩ p x2 (i:Int) n6 x6 v27 n10 x10 v34 n14 y1 y2 n15 x14 x15 H) 0=some (found l.length (l.findSome? fun k=>open Classical in if k=i∨Lean1 g k i then some (true,H) else none)):=by
 classical
 have hn:=hl.n
 have hu:=z4w (body:=z1l (LCo c) ⟨some ⟨id3,0,none⟩,g.datas.length,g.datas.length⟩ p x2 (i:Int) n6 x6 v27 n10 x10 v34 n14 y1 y2 n15 x14 x15 H) l.length hl.len (fun j=>if (l.getD j 0)=i∨Lean1 g (l.getD j 0) i then some (true,H) else none) (fun j hj=>by
   obtain ⟨q,h1,h2⟩:=hl.get hj (v:=(j:Int)) rfl
   have r0:rd (deI .i64) H q=some (l[j]:Int):=by rw [Cel.rd h2]; rfl
   have eg:l.getD j 0=l[j]:=by simp [List.getD,hj]
   rw [eg]
   have hkl:=hlt _ (List.getElem_mem hj)
   obtain ⟨row,k1,k2⟩:=hT l[j] hkl
   obtain ⟨q',b,k3,k4,k5⟩:=k2 i hi
   have r1:rd deSl H ((⟨id3,0,none⟩:Addr).add (l[j]*1))=some row:=by rw [k1.rd]; rfl
   have r2:rd deB H q'=some b:=by rw [k4.rd]; rfl
   unfold z1l
   simp only [if_pos (show (j:Int)<(x15.n:Int) by omega),h1,Option.bind_some,r0]
   by_cases e:l[j]=i
   ·have:((l[j]:Nat):Int)=(i:Int):=by omega
    simp [this,e,stepO]
   ·have:¬(((l[j]:Nat):Int)=(i:Int)):=by omega
    simp only [if_neg this,z5c hkl rfl,Option.bind_some,r1,k3,r2]
    cases b with
    | true=>simp [k5.1 rfl,stepO]
    | false =>
     have:¬Lean1 g l[j] i:=fun h=>by have:=k5.2 h; cases this
     simp [this,e,stepO]) (by
   unfold z1l
   rw [if_neg (by omega)])
 rw [hu,z9g l (fun k=>if k=i∨Lean1 g k i then some (true,H) else none) 0]
theorem zp1 {R:Type} (l:List Nat) (P:Nat→Prop) [DecidablePred P] (r:R):((∃k∈l,P k)∧(l.findSome? fun k=>if P k then some r else none)=some r)∨((¬∃k∈l,P k)∧(l.findSome? fun k=>if P k then some r else none)=none):=by
 induction l with
 | nil=>exact .inr ⟨by simp,rfl⟩
 | cons x l ih =>
  rw [List.findSome?_cons]
  by_cases h:P x
  ·rw [if_pos h]; exact .inl ⟨⟨x,by simp,h⟩,rfl⟩
  ·rw [if_neg h]
   rcases ih with ⟨⟨k,hk,hp⟩,h2⟩ | ⟨h1,h2⟩
   ·exact .inl ⟨⟨k,by simp [hk],hp⟩,h2⟩
   ·refine .inr ⟨?_,h2⟩
    rintro ⟨k,hk,hp⟩
    rcases List.mem_cons.1 hk with rfl | hk
    ·exact h hp
    ·exact h1 ⟨k,hk,hp⟩
theorem zpc (hF:L0=fuel+1) (hfu:15≤fuel) (hG:GoodG g) (hB:Book H0 p s1 s2 s3 g) (hm:m≤H0.next) {id3 i:Nat} (hT:LeanT g H0 id3) (hi:i<g.datas.length) {c:Con} (hc:c∈(g.datas[i]).cons) {x2 x6 sl:Sl3} {v27:Int} {n6 n10:ByteArray} (h:SlL SelA 5 H0 sl c.sels) (hx:Ext H0 H) :
  ∃H',Ext H0 H'∧(((∃x∈c.sels,NestX g i x)∧loopO (zx (LCo L0) m ⟨some ⟨id3,0,none⟩,g.datas.length,g.datas.length⟩ p x2 (i:Int) n6 x6 v27 n10 sl) (H,0)=some (.inr (true,H'))) ∨
   ((¬∃x∈c.sels,NestX g i x)∧loopO (zx (LCo L0) m ⟨some ⟨id3,0,none⟩,g.datas.length,g.datas.length⟩ p x2 (i:Int) n6 x6 v27 n10 sl) (H,0)=some (.inl (H',(c.sels.length:Int))))):=by
 classical
 have hln:=h.n
 obtain ⟨H',h1,h2⟩:=zfh (xs:=c.sels) (body:=zx (LCo L0) m ⟨some ⟨id3,0,none⟩,g.datas.length,g.datas.length⟩ p x2 (i:Int) n6 x6 v27 n10 sl) (fun _ x=>NestX g i x) (H0:=H0)
  (fun j hj G hG1=>by
   obtain ⟨q,g1,g2⟩:=h.get hj (v:=(j:Int)) rfl
   obtain ⟨z,e1,e2,e3,e4,e5,e6⟩:=g2.ex
   have r0:rd deS G (q.add 0)=some c.sels[j].n:=by rw [(g2.n.ext hG1).rd]; rfl
   have r1:rd (deI .i64) G (q.add 1)=some c.sels[j].k:=by rw [(e1.ext hG1).rd]; rfl
   have r2:rd (deI .i64) G (q.add 2)=some c.sels[j].w:=by rw [(e2.ext hG1).rd]; rfl
   have r3:rd deS G (q.add 3)=some c.sels[j].sn:=by rw [(e3.ext hG1).rd]; rfl
   have r4:rd deSl G (q.add 4)=some z:=by rw [(e4.ext hG1).rd]; rfl
   have hs:=hG.sel _ (List.getElem_mem hi) c hc _ (List.getElem_mem hj)
   obtain ⟨s',G1,y1,y2,y3⟩:=zfm (m:=m) L0 (c.sels[j].a.dep+1) fuel G c.sels[j].k c.sels[j].w c.sels[j].sn z c.sels[j].a true (hB.ext hG1) (Nat.le_trans hm hG1.1) (e6.ext hG1) (by have:=hs.sz; omega) (by have:=hs.dp; omega) (by omega)
   have hb3:=zp5 (p:=p) L0 (i:=i) (x2:=x2) (x6:=x6) (x10:=sl) (x14:=z) (v27:=v27) (v34:=(j:Int)) (y1:=c.sels[j].k) (y2:=c.sels[j].w) (n6:=n6) (n10:=n10) (n14:=c.sels[j].n) (n15:=c.sels[j].sn) (hT.ext (hG1.trans y3)) hi y2 (dtI_lt hs)
   have e1':(LCo L0).fuel=fuel+1:=hF
   refine ⟨G1,hG1.trans y3,?_⟩
   have hbody:zx (LCo L0) m ⟨some ⟨id3,0,none⟩,g.datas.length,g.datas.length⟩ p x2 (i:Int) n6 x6 v27 n10 sl (G,(j:Int))=(match (found (dtI g.datas true c.sels[j].k c.sels[j].sn c.sels[j].a).length ((dtI g.datas true c.sels[j].k c.sels[j].sn c.sels[j].a).findSome? fun k=>if k=i∨Lean1 g k i then some (true,G1) else none)) with | .inl _=>some (.next (G1,((j+1:Nat):Int))) | .inr r=>some (.ret r)):=by
    unfold zx z4r
    rw [e1']
    simp only [if_pos (show (j:Int)<(sl.n:Int) by omega),g1,Option.bind_some,r0,r1,r2,r3,r4,y1]
    show Option.bind (loopO (z1l (LCo L0) ⟨some ⟨id3,0,none⟩,g.datas.length,g.datas.length⟩ p x2 (i:Int) n6 x6 v27 n10 sl (j:Int) c.sels[j].n c.sels[j].k c.sels[j].w c.sels[j].sn z s' G1) 0) _=_
    rw [hb3,zi hj h.len]
    rfl
   rcases zp1 (dtI g.datas true c.sels[j].k c.sels[j].sn c.sels[j].a) (fun k=>k=i∨Lean1 g k i) (true,G1) with ⟨hp,hf⟩ | ⟨hp,hf⟩
   ·rw [hf] at hbody
    exact .inl ⟨hp,hbody⟩
   ·rw [hf] at hbody
    exact .inr ⟨hp,hbody⟩)
  (fun G hG1=>by
   unfold zx
   simp only [if_neg (show ¬((c.sels.length:Int)<(sl.n:Int)) by omega)])
  c.sels.length 0 H (by omega) hx
 refine ⟨H',h1,?_⟩
 have iff:(∃j,∃h:j<c.sels.length,0≤j∧NestX g i c.sels[j])↔∃x∈c.sels,NestX g i x:=by
  constructor
  ·rintro ⟨j,hj,_,hp⟩; exact ⟨_,List.getElem_mem hj,hp⟩
  ·rintro ⟨x,hx,hp⟩
   obtain ⟨j,hj,rfl⟩:=List.getElem_of_mem hx
   exact ⟨j,hj,Nat.zero_le _,hp⟩
 rw [iff] at h2
 exact h2
theorem zp3 (hF:L0=fuel+1) (hfu:15≤fuel) (hG:GoodG g) (hB:Book H0 p s1 s2 s3 g) (hm:m≤H0.next) {id3 i:Nat} (hT:LeanT g H0 id3) (hi:i<g.datas.length) {x2 sl:Sl3} {n6:ByteArray} (h:SlL ConA 2 H0 sl (g.datas[i]).cons) (hx:Ext H0 H) :
  ∃H',Ext H0 H'∧(((∃c∈(g.datas[i]).cons,∃x∈c.sels,NestX g i x)∧loopO (zw (LCo L0) m ⟨some ⟨id3,0,none⟩,g.datas.length,g.datas.length⟩ p x2 (i:Int) n6 sl) (H,0)=some (.inr (true,H'))) ∨
   ((¬∃c∈(g.datas[i]).cons,∃x∈c.sels,NestX g i x)∧loopO (zw (LCo L0) m ⟨some ⟨id3,0,none⟩,g.datas.length,g.datas.length⟩ p x2 (i:Int) n6 sl) (H,0)=some (.inl (H',((g.datas[i]).cons.length:Int))))):=by
 have hln:=h.n
 obtain ⟨H',h1,h2⟩:=zfh (xs:=(g.datas[i]).cons) (body:=zw (LCo L0) m ⟨some ⟨id3,0,none⟩,g.datas.length,g.datas.length⟩ p x2 (i:Int) n6 sl) (fun _ c=>∃x∈c.sels,NestX g i x) (H0:=H0)
  (fun j hj G hG1=>by
   obtain ⟨q,g1,g2⟩:=h.get hj (v:=(j:Int)) rfl
   obtain ⟨z,e1,e2⟩:=g2.ex
   have r0:rd deS G (q.add 0)=some (g.datas[i]).cons[j].n:=by rw [(g2.n.ext hG1).rd]; rfl
   have r1:rd deSl G (q.add 1)=some z:=by rw [(e1.ext hG1).rd]; rfl
   obtain ⟨G1,k1,k2⟩:=zpc hF hfu hG hB hm hT hi (List.getElem_mem hj) (x2:=x2) (x6:=sl) (v27:=(j:Int)) (n6:=n6) (n10:=(g.datas[i]).cons[j].n) e2 hG1
   refine ⟨G1,k1,?_⟩
   rcases k2 with ⟨hp,hb⟩ | ⟨hp,hb⟩
   ·refine .inl ⟨hp,?_⟩
    unfold zw
    simp only [if_pos (show (j:Int)<(sl.n:Int) by omega),g1,Option.bind_some,r0,r1]
    show Option.bind (loopO (zx (LCo L0) m ⟨some ⟨id3,0,none⟩,g.datas.length,g.datas.length⟩ p x2 (i:Int) n6 sl (j:Int) (g.datas[i]).cons[j].n z) (G,0)) _=_
    rw [hb]
    rfl
   ·refine .inr ⟨hp,?_⟩
    unfold zw
    simp only [if_pos (show (j:Int)<(sl.n:Int) by omega),g1,Option.bind_some,r0,r1]
    show Option.bind (loopO (zx (LCo L0) m ⟨some ⟨id3,0,none⟩,g.datas.length,g.datas.length⟩ p x2 (i:Int) n6 sl (j:Int) (g.datas[i]).cons[j].n z) (G,0)) _=_
    rw [hb]
    simp only [Option.bind_some]
    rw [zi hj h.len])
  (fun G hG1=>by
   unfold zw
   simp only [if_neg (show ¬(((g.datas[i]).cons.length:Int)<(sl.n:Int)) by omega)])
  (g.datas[i]).cons.length 0 H (by omega) hx
 refine ⟨H',h1,?_⟩
 have iff:(∃j,∃h:j<(g.datas[i]).cons.length,0≤j∧∃x∈((g.datas[i]).cons[j]).sels,NestX g i x)↔∃c∈(g.datas[i]).cons,∃x∈c.sels,NestX g i x:=by
  constructor
  ·rintro ⟨j,hj,_,hp⟩; exact ⟨_,List.getElem_mem hj,hp⟩
  ·rintro ⟨x,hx,hp⟩
   obtain ⟨j,hj,rfl⟩:=List.getElem_of_mem hx
   exact ⟨j,hj,Nat.zero_le _,hp⟩
 rw [iff] at h2
 exact h2
theorem zkn (hF:L0=fuel+1) (hfu:15≤fuel) (hG:GoodG g) (hS:SigA H s1 s2 s3 g) (hB:Book H p s1 s2 s3 g) (hm:m≤H.next) {id3:Nat} (hT:LeanT g H id3) :
  ∃b H',z4g (LCo L0) m H (some p) ⟨some ⟨id3,0,none⟩,g.datas.length,g.datas.length⟩=some (b,H')∧Ext H H'∧(b=true↔NestP g):=by
 have hd:=hS.d.n
 have hadd:∀j,(p.add 0).add j=p.add (0+j):=fun j=>add2 hB.c1 0 j
 have r1:rd deSl H ((p.add 0).add 1)=some s2:=by rw [hadd,hB.c2.rd]; rfl
 obtain ⟨H',h1,h2⟩:=zfh (xs:=g.datas) (body:=z1m (LCo L0) m ⟨some ⟨id3,0,none⟩,g.datas.length,g.datas.length⟩ p s2) (fun i d=>∃c∈d.cons,∃x∈c.sels,NestX g i x) (H0:=H)
  (fun i hi G hG1=>by
   obtain ⟨q,g1,g2⟩:=hS.d.get hi (v:=(i:Int)) rfl
   obtain ⟨z,e1,e2⟩:=g2.ex
   have r0:rd deS G (q.add 0)=some (g.datas[i]).n:=by rw [(g2.n.ext hG1).rd]; rfl
   have r1:rd deSl G (q.add 1)=some z:=by rw [(e1.ext hG1).rd]; rfl
   obtain ⟨G1,k1,k2⟩:=zp3 hF hfu hG hB hm hT hi (x2:=s2) (n6:=(g.datas[i]).n) e2 hG1
   refine ⟨G1,k1,?_⟩
   rcases k2 with ⟨hp,hb⟩ | ⟨hp,hb⟩
   ·refine .inl ⟨hp,?_⟩
    unfold z1m
    simp only [if_pos (show (i:Int)<(s2.n:Int) by omega),g1,Option.bind_some,r0,r1]
    show Option.bind (loopO (zw (LCo L0) m ⟨some ⟨id3,0,none⟩,g.datas.length,g.datas.length⟩ p s2 (i:Int) (g.datas[i]).n z) (G,0)) _=_
    rw [hb]
    rfl
   ·refine .inr ⟨hp,?_⟩
    unfold z1m
    simp only [if_pos (show (i:Int)<(s2.n:Int) by omega),g1,Option.bind_some,r0,r1]
    show Option.bind (loopO (zw (LCo L0) m ⟨some ⟨id3,0,none⟩,g.datas.length,g.datas.length⟩ p s2 (i:Int) (g.datas[i]).n z) (G,0)) _=_
    rw [hb]
    simp only [Option.bind_some]
    rw [zi hi hS.d.len])
  (fun G hG1=>by
   unfold z1m
   simp only [if_neg (show ¬((g.datas.length:Int)<(s2.n:Int)) by omega)])
  g.datas.length 0 H (by omega) (Fm.refl _ _)
 have iff:(∃j,∃h:j<g.datas.length,0≤j∧∃c∈(g.datas[j]).cons,∃x∈c.sels,NestX g j x)↔NestP g:=by
  constructor
  ·rintro ⟨j,hj,_,hp⟩; exact ⟨j,hj,hp⟩
  ·rintro ⟨j,hj,hp⟩; exact ⟨j,hj,Nat.zero_le _,hp⟩
 rw [iff] at h2
 unfold z4g
 simp only [Option.bind_some,r1]
 show ∃b H',Option.bind (loopO (z1m (LCo L0) m ⟨some ⟨id3,0,none⟩,g.datas.length,g.datas.length⟩ p s2) (H,((0:Nat):Int))) _=_∧_
 rcases h2 with ⟨hp,hb⟩ | ⟨hp,hb⟩
 ·exact ⟨true,H',by rw [hb]; rfl,h1,by simp [hp]⟩
 ·exact ⟨false,H',by rw [hb]; rfl,h1,by simp [hp]⟩
end
end Go.Proofs.YtccbilfbhecdaaaDoor
namespace Go.Proofs.YtccbilfbhecdaaaDoor
open Go Go.Abs
set_option maxRecDepth 100000
def On (bl:List Bool) (k:Nat):Prop:=∃h:k<bl.length,bl[k]=true
section
variable {m:Nat} {H0 H:AH} {s1 s2 s3:Sl3} {g:Sg} {L0 fuel:Nat}
end
end Go.Proofs.YtccbilfbhecdaaaDoor
namespace Go.Proofs.YtccbilfbhecdaaaDoor
open Go Go.Abs
set_option maxRecDepth 100000
def gF (ds:List Dat) (bl:List Bool):Fo→Bool
 | .nil=>true
 | .cons _ _ _ _ .nil=>true
 | .cons _ _ _ _ (.cons k _ n a _)=>if k=6 then bl.getD (ixS ds n) false else if k=4 then gF ds bl a else true
def gS (ds:List Dat) (bl:List Bool) (k:Int) (n:ByteArray) (a:Fo):Bool:=if k=6 then bl.getD (ixS ds n) false else if k=4 then gF ds bl a else true
def gC (ds:List Dat) (bl:List Bool) (c:Con):Bool:=c.sels.all fun x=>gS ds bl x.k x.sn x.a
def gD (ds:List Dat) (bl:List Bool) (d:Dat):Bool:=d.cons.any (gC ds bl)
theorem z6d {bl:List Bool} {k:Nat}:bl.getD k false=true↔On bl k:=by
 unfold On
 by_cases h:k<bl.length
 ·simp [List.getD,h]
 ·simp [List.getD,h]
theorem zlz {ds:List Dat} {bl bl':List Bool} (hm:∀k,On bl k→On bl' k):∀a:Fo,gF ds bl a=true→gF ds bl' a=true
 | .nil,_=>rfl
 | .cons _ _ _ _ .nil,_=>rfl
 | .cons _ _ _ _ (.cons k _ n a _),h=>by
  unfold gF at h ⊢
  by_cases h6:k=6
  ·rw [if_pos h6] at h ⊢
   exact z6d.2 (hm _ (z6d.1 h))
  ·rw [if_neg h6] at h ⊢
   by_cases h4:k=4
   ·rw [if_pos h4] at h ⊢
    exact zlz hm a h
   ·rw [if_neg h4]
theorem zrq {ds:List Dat} {bl bl':List Bool} (hm:∀k,On bl k→On bl' k) {k:Int} {n:ByteArray} {a:Fo} (h:gS ds bl k n a=true):gS ds bl' k n a=true:=by
 unfold gS at h ⊢
 by_cases h6:k=6
 ·rw [if_pos h6] at h ⊢
  exact z6d.2 (hm _ (z6d.1 h))
 ·rw [if_neg h6] at h ⊢
  by_cases h4:k=4
  ·rw [if_pos h4] at h ⊢
   exact zlz hm a h
  ·rw [if_neg h4]
theorem zr8 {ds:List Dat} {bl bl':List Bool} (hm:∀k,On bl k→On bl' k) {c:Con} (h:gC ds bl c=true):gC ds bl' c=true:=by
 unfold gC at h ⊢
 rw [List.all_eq_true] at h ⊢
 exact fun x hx=>zrq hm (h x hx)
theorem zrm {ds:List Dat} {bl bl':List Bool} (hm:∀k,On bl k→On bl' k) {d:Dat} (h:gD ds bl d=true):gD ds bl' d=true:=by
 unfold gD at h ⊢
 rw [List.any_eq_true] at h ⊢
 obtain ⟨c,hc,h⟩:=h
 exact ⟨c,hc,zr8 hm h⟩
inductive Gd (g:Sg):Nat→Prop
 | mk {i:Nat} (h:i<g.datas.length) (bl:List Bool) (hb:∀k,On bl k→Gd g k) (ho:gD g.datas bl g.datas[i]=true):Gd g i
theorem zjl {g:Sg} {bl:List Bool} (hc:∀i (h:i<g.datas.length),gD g.datas bl g.datas[i]=true→On bl i):∀{k:Nat},Gd g k→On bl k:=by
 intro k hk
 induction hk with
 | mk h bl' hb ho ih=>exact hc _ h (zrm ih ho)
section
variable {m:Nat} {H0 H:AH} {s1 s2 s3:Sl3} {g:Sg} {p:Addr} {L0 fuel:Nat}
theorem zbc {e:TypeId} {idm N:Nat} {bl:List Bool} (ha:ArrV e m H idm (bV bl)) (hl:bl.length=N) {i:Nat} (hi:i<N) :
  ∃q,idxA 1 (⟨some ⟨idm,0,none⟩,N,N⟩:Sl3) (i:Int)=some q∧rd deB H q=some (bl.getD i false):=by
 have hib:i<bl.length:=by omega
 refine ⟨_,z5c hi rfl,?_⟩
 rw [(ha.cel (show (bV bl)[i]? = some (.bool bl[i]) by simp [bV,hib])).rd]
 simp [deB,List.getD,hib]
theorem zid (c:Nat) {idm N:Nat} {bl:List Bool} (hB:Book H p s1 s2 s3 g) (ha:ArrV 4 m H idm (bV bl)) (hl:bl.length=N) (hN:N=g.datas.length):∀(d fuel:Nat) (k w:Int) (n:ByteArray) (s:Sl3) (a:Fo),SlF H s a→shS k w n a=true→knS g.users g.datas k n a=true→a.dep≤fuel→a.dep<d →
  z3k (LCo c) (fuel+1) H (some p) k w n s ⟨some ⟨idm,0,none⟩,N,N⟩=some (gS g.datas bl k n a):=by
 intro d
 induction d with
 | zero=>intro fuel k w n s a _ _ _ _ h; omega
 | succ d ih =>
  intro fuel k w n s a h hsh hkn hf hd
  show z23 (LCo c) (z3k (LCo c) fuel) H (some p) k w n s ⟨some ⟨idm,0,none⟩,N,N⟩=_
  unfold z23 gS
  by_cases h6:k=6
  ·subst h6
   obtain ⟨id,r1,r2⟩:=ze3 hB n
   have hk:=hkn
   unfold knS at hk
   rw [if_neg (by omega),if_pos rfl] at hk
   have hlt:=ix_lt hk
   obtain ⟨q,k1,k2⟩:=zbc ha hl (show ixS g.datas n<N by omega)
   simp only [if_true,Option.bind_some,r1,r2,k1,k2]
  ·rw [if_neg h6,if_neg h6]
   by_cases h4:k=4
   ·rw [if_pos h4,if_pos h4]
    rcases z6x hsh with ⟨_,h'⟩ | ⟨_,k1,w1,n1,a1,k2,w2,n2,a2,rfl,hs1,hs2⟩
    ·omega
    ·unfold knS at hkn
     rw [if_neg (by omega),if_neg h6] at hkn
     simp only [knF,Bool.and_eq_true] at hkn
     have hn2:s.n=2:=h.1
     obtain ⟨_,_,_,_,_,_,_,_,_,q8⟩:=h.2.2.rd (s:=s) (by omega)
     obtain ⟨q,t1,q1,q2,q3,q4,q5,q6,q7,_⟩:=q8.rd (s:=s) (by omega)
     simp only [Fo.dep] at hf hd
     obtain ⟨g',rfl⟩:∃g',fuel=g'+1:=⟨fuel - 1,by omega⟩
     have y:=ih g' k2 w2 n2 t1 a2 q6 hs2 (by unfold knS; exact hkn.2.1) (by omega) (by omega)
     have q1':idxA 4 s 1=some q:=q1
     simp only [q1',q2,q3,q4,q5,Option.bind_some,y]
     simp only [gS,gF]
   ·rw [if_neg h4,if_neg h4]
theorem ziz (hF:L0=fuel+1) (hfu:15≤fuel) (hG:GoodG g) (hB:Book H p s1 s2 s3 g) {p1 p8:Addr} {idm N:Nat} {bl:List Bool} (h1:Cel H p1 (.pointer (some p))) (h8:Cel H p8 (Sl3.v ⟨some ⟨idm,0,none⟩,N,N⟩)) (ha:ArrV 4 m H idm (bV bl)) (hl:bl.length=N) (hN:N=g.datas.length)
  {d:Dat} (hd:d∈g.datas) {c:Con} (hc:c∈d.cons) {sl:Sl3} (h:SlL SelA 5 H sl c.sels):z21 (LCo L0) H sl (some p1) (some p8)=some (!gC g.datas bl c):=by
 have hln:=h.n
 have hlp:=z4w (body:=z1i (LCo L0) H sl (some p1) (some p8)) c.sels.length h.len (fun j=>if (fun x:Sel=>!gS g.datas bl x.k x.sn x.a) (c.sels.getD j ⟨emptyT,0,0,emptyT,.nil⟩)=true then some (j:Int) else none) (fun j hj=>by
  obtain ⟨q,g1,g2⟩:=h.get hj (v:=(j:Int)) rfl
  obtain ⟨z,e1,e2,e3,e4,e5,e6⟩:=g2.ex
  have r0:rd deS H (q.add 0)=some c.sels[j].n:=by rw [g2.n.rd]; rfl
  have r1:rd (deI .i64) H (q.add 1)=some c.sels[j].k:=by rw [e1.rd]; rfl
  have r2:rd (deI .i64) H (q.add 2)=some c.sels[j].w:=by rw [e2.rd]; rfl
  have r3:rd deS H (q.add 3)=some c.sels[j].sn:=by rw [e3.rd]; rfl
  have r4:rd deSl H (q.add 4)=some z:=by rw [e4.rd]; rfl
  have hs:=hG.sel d hd c hc _ (List.getElem_mem hj)
  have y:=zid L0 hB ha hl hN (c.sels[j].a.dep+1) fuel c.sels[j].k c.sels[j].w c.sels[j].sn z c.sels[j].a e6 hs.sh hs.kn (by have:=hs.dp; omega) (by omega)
  have eg:c.sels.getD j ⟨emptyT,0,0,emptyT,.nil⟩=c.sels[j]:=by simp [List.getD,hj]
  have f1:rd deP H p1=some (some p):=by rw [h1.rd]; rfl
  have f8:rd deSl H p8=some ⟨some ⟨idm,0,none⟩,N,N⟩:=by rw [h8.rd]; rfl
  have e1':(LCo L0).fuel=fuel+1:=hF
  rw [eg]
  unfold z1i z4t z63
  rw [e1']
  simp only [if_pos (show (j:Int)<(sl.n:Int) by omega),g1,Option.bind_some,r0,r1,r2,r3,r4,f1,f8,y]
  by_cases hgs:gS g.datas bl c.sels[j].k c.sels[j].sn c.sels[j].a=true <;> simp [hgs,stepO]) (by
  unfold z1i
  rw [if_neg (by omega)])
 unfold z21 z44
 show Option.bind (Option.bind (loopO (z1i (LCo L0) H sl (some p1) (some p8)) 0) _) _=_
 rw [hlp]
 obtain ⟨k1,k2⟩:=zht c.sels (fun x:Sel=>!gS g.datas bl x.k x.sn x.a) (fun i=>(i:Int)) ⟨emptyT,0,0,emptyT,.nil⟩
 have k3:(c.sels.any fun x=>!gS g.datas bl x.k x.sn x.a)=!gC g.datas bl c:=by
  unfold gC
  rw [List.not_all_eq_any_not]
 rw [k3] at k1
 generalize hq:(List.range c.sels.length).findSome? (fun i=>if (fun x:Sel=>!gS g.datas bl x.k x.sn x.a) (c.sels.getD i ⟨emptyT,0,0,emptyT,.nil⟩)=true then some (i:Int) else none)=q at k1 k2
 cases q with
 | none=>rw [← k1]; rfl
 | some x =>
  rw [← k1]
  obtain ⟨i,rfl⟩:=k2 x rfl
  have:(i:Int)≥0:=by omega
  simp [found,this]
theorem zoy (hF:L0=fuel+1) (hfu:15≤fuel) (hG:GoodG g) (hB:Book H p s1 s2 s3 g) {p1 p8:Addr} {idm N:Nat} {bl:List Bool} (h1:Cel H p1 (.pointer (some p))) (h8:Cel H p8 (Sl3.v ⟨some ⟨idm,0,none⟩,N,N⟩)) (ha:ArrV 4 m H idm (bV bl)) (hl:bl.length=N) (hN:N=g.datas.length)
  {i:Nat} (hi:i<g.datas.length) {x14 sl:Sl3} {n19:ByteArray} (h:SlL ConA 2 H sl (g.datas[i]).cons) {H31:AH} (hset:H.setCell m ((⟨idm,0,none⟩:Addr).add (i*1)) (.bool true)=some H31):∀(t j:Nat),j+t=(g.datas[i]).cons.length →
  loopO (z14 (LCo L0) m p1 p8 x14 (i:Int) n19 sl) (H,(j:Int))=some (if ((g.datas[i]).cons.drop j).any (gC g.datas bl)=true then .inr (.inr H31) else .inl (H,((g.datas[i]).cons.length:Int))):=by
 have hln:=h.n
 intro t
 induction t with
 | zero =>
  intro j hj
  obtain rfl:j=(g.datas[i]).cons.length:=by omega
  rw [List.drop_length]
  simp only [List.any_nil,Bool.false_eq_true,if_false]
  refine zy ?_
  unfold z14
  simp only [if_neg (show ¬(((g.datas[i]).cons.length:Int)<(sl.n:Int)) by omega)]
 | succ t ih =>
  intro j hj
  have hjl:j<(g.datas[i]).cons.length:=by omega
  obtain ⟨q,g1,g2⟩:=h.get hjl (v:=(j:Int)) rfl
  obtain ⟨z,e1,e2⟩:=g2.ex
  have r0:rd deS H (q.add 0)=some (g.datas[i]).cons[j].n:=by rw [g2.n.rd]; rfl
  have r1:rd deSl H (q.add 1)=some z:=by rw [e1.rd]; rfl
  have hcon:=ziz hF hfu hG hB h1 h8 ha hl hN (List.getElem_mem hi) (List.getElem_mem hjl) e2
  have f8:rd deSl H p8=some ⟨some ⟨idm,0,none⟩,N,N⟩:=by rw [h8.rd]; rfl
  rw [List.drop_eq_getElem_cons hjl,List.any_cons]
  cases hg:gC g.datas bl (g.datas[i]).cons[j] with
  | true =>
   rw [hg] at hcon
   simp only [Bool.true_or,if_true]
   refine z45 ?_
   unfold z14
   simp only [if_pos (show (j:Int)<(sl.n:Int) by omega),g1,Option.bind_some,r0,r1,hcon,Bool.not_true,Bool.false_eq_true,if_false,f8,z5c (show i<N by omega) rfl,hset]
  | false =>
   rw [hg] at hcon
   have hbody:z14 (LCo L0) m p1 p8 x14 (i:Int) n19 sl (H,(j:Int))=some (.next (H,((j+1:Nat):Int))):=by
    unfold z14
    simp only [if_pos (show (j:Int)<(sl.n:Int) by omega),g1,Option.bind_some,r0,r1,hcon,Bool.not_false,if_true]
    rw [zi hjl h.len]
   rw [zl hbody,ih (j+1) (by omega),Bool.false_or]
def PassG (g:Sg) (m:Nat) (H:AH) (bl:List Bool) (idm N:Nat) (r:Option ((AH×Int)⊕((Sl3×AH)⊕AH))) (i:Nat):Prop :=
 (∃j H',∃hj:j<g.datas.length,r=some (.inr (.inr H'))∧gD g.datas bl g.datas[j]=true∧bl.getD j false=false∧ArrV 4 m H' idm (bV (bl.set j true))∧Fm (fun id=>id=idm) H H') ∨
  (r=some (.inl (H,(N:Int)))∧∀j (hj:j<g.datas.length),i≤j→gD g.datas bl g.datas[j]=true→On bl j)
theorem zoz (hF:L0=fuel+1) (hfu:15≤fuel) (hG:GoodG g) (hS:SigA H s1 s2 s3 g) (hB:Book H p s1 s2 s3 g) {p1 p8:Addr} {idm N:Nat} {bl:List Bool} (h1:Cel H p1 (.pointer (some p))) (h8:Cel H p8 (Sl3.v ⟨some ⟨idm,0,none⟩,N,N⟩)) (ha:ArrV 4 m H idm (bV bl)) (hl:bl.length=N) (hN:N=g.datas.length):∀(t i:Nat),i+t=N →
  PassG g m H bl idm N (loopO (zo (LCo L0) m p1 p8 s2) (H,(i:Int))) i:=by
 have hdn:=hS.d.n
 intro t
 induction t with
 | zero =>
  intro i hi
  obtain rfl:i=N:=by omega
  refine .inr ⟨zy ?_,fun j hj h=>by omega⟩
  unfold zo
  simp only [if_neg (show ¬((i:Int)<(s2.n:Int)) by omega)]
 | succ t ih =>
  intro i hi
  have hin:i<N:=by omega
  have hig:i<g.datas.length:=by omega
  obtain ⟨q,g1,g2⟩:=hS.d.get hig (v:=(i:Int)) rfl
  obtain ⟨z,e1,e2⟩:=g2.ex
  have r0:rd deS H (q.add 0)=some (g.datas[i]).n:=by rw [g2.n.rd]; rfl
  have r1:rd deSl H (q.add 1)=some z:=by rw [e1.rd]; rfl
  have f8:rd deSl H p8=some ⟨some ⟨idm,0,none⟩,N,N⟩:=by rw [h8.rd]; rfl
  obtain ⟨qm,m1,m2⟩:=zbc ha hl hin
  obtain ⟨H31,c1,c2,c3,c4⟩:=ha.set (i:=i) (by simp [bV]; omega) (.bool true)
  rw [bV_set] at c2
  have hb2:=zoy hF hfu hG hB h1 h8 ha hl hN hig (x14:=s2) (n19:=(g.datas[i]).n) e2 c1 (g.datas[i]).cons.length 0 (by omega)
  rw [List.drop_zero] at hb2
  have hD:(g.datas[i]).cons.any (gC g.datas bl)=gD g.datas bl g.datas[i]:=rfl
  rw [hD] at hb2
  have step:zo (LCo L0) m p1 p8 s2 (H,(i:Int))=some (.next (H,((i+1:Nat):Int)))→(gD g.datas bl g.datas[i]=true→On bl i)→PassG g m H bl idm N (loopO (zo (LCo L0) m p1 p8 s2) (H,(i:Int))) i:=fun hbody hon=>by
   rw [zl hbody]
   rcases ih (i+1) (by omega) with ⟨j,H',hj,w1,w2,w3,w4,w5⟩ | ⟨w1,w2⟩
   ·exact .inl ⟨j,H',hj,w1,w2,w3,w4,w5⟩
   ·refine .inr ⟨w1,fun j hj hij hg=>?_⟩
    by_cases e:j=i
    ·subst e; exact hon hg
    ·exact w2 j hj (by omega) hg
  cases hm:bl.getD i false with
  | true =>
   rw [hm] at m2
   refine step ?_ fun _=>z6d.1 hm
   unfold zo
   simp only [if_pos (show (i:Int)<(s2.n:Int) by omega),g1,Option.bind_some,r0,r1,f8,m1,m2,if_true]
   rw [zi hig hS.d.len]
  | false =>
   rw [hm] at m2
   cases hg:gD g.datas bl g.datas[i] with
   | true =>
    rw [hg] at hb2
    simp only [if_true] at hb2
    refine .inl ⟨i,H31,hig,z45 ?_,hg,hm,c2,c3⟩
    unfold zo
    simp only [if_pos (show (i:Int)<(s2.n:Int) by omega),g1,Option.bind_some,r0,r1,f8,m1,m2,Bool.false_eq_true,if_false]
    show Option.bind (loopO (z14 (LCo L0) m p1 p8 s2 (i:Int) (g.datas[i]).n z) (H,((0:Nat):Int))) _=_
    rw [hb2]
    rfl
   | false =>
    rw [hg] at hb2
    simp only [Bool.false_eq_true,if_false] at hb2
    refine step ?_ fun h=>by rw [hg] at h; cases h
    unfold zo
    simp only [if_pos (show (i:Int)<(s2.n:Int) by omega),g1,Option.bind_some,r0,r1,f8,m1,m2,Bool.false_eq_true,if_false]
    show Option.bind (loopO (z14 (LCo L0) m p1 p8 s2 (i:Int) (g.datas[i]).n z) (H,((0:Nat):Int))) _=_
    rw [hb2]
    simp only [Option.bind_some]
    rw [zi hig hS.d.len]
theorem zo2 (hF:L0=fuel+1) (hfu:15≤fuel) (hG:GoodG g) (hS:SigA H0 s1 s2 s3 g) (hB:Book H0 p s1 s2 s3 g) {p1 p8:Addr} {idm N:Nat} (hN:N=g.datas.length) (hid:H0.next≤idm) (hne1:p1.block≠idm) (hne8:p8.block≠idm):∀(u:Nat) (H:AH) (bl:List Bool),freeN bl=u→Ext H0 H→Cel H p1 (.pointer (some p))→Cel H p8 (Sl3.v ⟨some ⟨idm,0,none⟩,N,N⟩)→ArrV 4 m H idm (bV bl)→bl.length=N→(∀k,On bl k→Gd g k) →
  ∃H' bl',loopO (z19 (LCo L0) m p1 p8) H=some (.inl H')∧Cel H' p8 (Sl3.v ⟨some ⟨idm,0,none⟩,N,N⟩)∧ArrV 4 m H' idm (bV bl')∧bl'.length=N∧Fm (fun id=>id=idm) H H'∧∀k,On bl' k↔Gd g k:=by
 intro u
 induction u using Nat.strongRecOn with
 | ind u ih =>
  intro H bl hu hx h1 h8 ha hl hs
  have f1:rd deP H p1=some (some p):=by rw [h1.rd]; rfl
  have hBx:=hB.ext hx
  have hadd:∀j,(p.add 0).add j=p.add (0+j):=fun j=>add2 hB.c1 0 j
  have r1:rd deSl H ((p.add 0).add 1)=some s2:=by rw [hadd,hBx.c2.rd]; rfl
  rcases zoz hF hfu hG (hS.ext hx) hBx h1 h8 ha hl hN N 0 (by omega) with ⟨j,H1,hj,w1,w2,w3,w4,w5⟩ | ⟨w1,w2⟩
  ·have hbody:z19 (LCo L0) m p1 p8 H=some (.next H1):=by
    unfold z19
    simp only [f1,Option.bind_some,r1]
    show Option.bind (loopO (zo (LCo L0) m p1 p8 s2) (H,((0:Nat):Int))) _=_
    rw [w1]
    rfl
   have hjb:j<bl.length:=by omega
   have hf:bl[j]=false:=by simpa [List.getD,hjb] using w3
   have hfree:=zhi hjb hf
   obtain ⟨H',bl',z1,z2,z3,z4,z5,z6⟩:=ih (freeN (bl.set j true)) (by omega) H1 (bl.set j true) rfl (hx.comp w5 fun id hid' _ h=>by omega) (h1.fr w5 hne1) (h8.fr w5 hne8) w4 (by simp [hl]) fun k hk=>by
    rcases z6v.1 hk with h | ⟨rfl,_⟩
    ·exact hs k h
    ·exact .mk hj bl hs w2
   exact ⟨H',bl',by rw [zl hbody]; exact z1,z2,z3,z4,w5.comp z5 fun _ _ h=>h,z6⟩
  ·have hbody:z19 (LCo L0) m p1 p8 H=some (.brk H):=by
    unfold z19
    simp only [f1,Option.bind_some,r1]
    show Option.bind (loopO (zo (LCo L0) m p1 p8 s2) (H,((0:Nat):Int))) _=_
    rw [w1]
    rfl
   exact ⟨H,bl,zy hbody,h8,ha,hl,Fm.refl _ _,fun k=>⟨hs k,zjl fun i hi hg=>w2 i hi (Nat.zero_le _) hg⟩⟩
theorem zep (hF:L0=fuel+1) (hfu:15≤fuel) (hG:GoodG g) (hS:SigA H s1 s2 s3 g) (hB:Book H p s1 s2 s3 g) (hm:m≤H.next) :
  ∃id bl H',z3j (LCo L0) m H (some p)=some (⟨some ⟨id,0,none⟩,g.datas.length,g.datas.length⟩,H')∧Ext H H'∧ArrV 4 m H' id (bV bl)∧bl.length=g.datas.length∧∀k,On bl k↔Gd g k:=by
 have hd:=hS.d.n
 have hnn:=z82 hG
 have hadd:∀j,(p.add 0).add j=p.add (0+j):=fun j=>add2 hB.c1 0 j
 have x2:Ext H (H.push (pubB 66 [(Value.pointer (some p))])):=Fm.push _ _ _
 have c1:Cel (H.push (pubB 66 [(Value.pointer (some p))])) ⟨H.next,0,none⟩ (.pointer (some p)):=Cel.push rfl rfl
 generalize hH2:H.push (pubB 66 [(Value.pointer (some p))])=H2 at x2 c1
 have n2:H2.next=H.next+1:=by rw [← hH2]; simp
 obtain ⟨H7,b1,b2,b3,b4⟩:=zh0 (e:=4) (bytes:=1) (m:=m) (H:=H2) (z:=.bool false) (n:=g.datas.length) (by omega) (by omega) (by omega)
 have b2':ArrV 4 m H7 H2.next (bV (List.replicate g.datas.length false)):=by
  have:bV (List.replicate g.datas.length false)=List.replicate g.datas.length (Value.bool false):=by simp [bV]
  rw [this]; exact b2
 have x9:Ext H7 (H7.push (pubB 56 [(Sl3.v Sl3.nil)])):=Fm.push _ _ _
 have a9:ArrV 56 m (H7.push (pubB 56 [(Sl3.v Sl3.nil)])) H7.next [Sl3.v Sl3.nil]:=⟨AH.get_push_same _ _,by omega,by simp⟩
 generalize hH9:H7.push (pubB 56 [(Sl3.v Sl3.nil)])=H9 at x9 a9
 obtain ⟨H10,d1,d2,d3,d4⟩:=a9.set (i:=0) (by simp) (Sl3.v ⟨some ⟨H2.next,0,none⟩,g.datas.length,g.datas.length⟩)
 have d1':H9.setCell m ⟨H7.next,0,none⟩ (Sl3.v ⟨some ⟨H2.next,0,none⟩,g.datas.length,g.datas.length⟩)=some H10:=by rw [z3i] at d1; exact d1
 have c8:Cel H10 ⟨H7.next,0,none⟩ (Sl3.v ⟨some ⟨H2.next,0,none⟩,g.datas.length,g.datas.length⟩):=by
  have:=d2.cel (i:=0) (v:=Sl3.v ⟨some ⟨H2.next,0,none⟩,g.datas.length,g.datas.length⟩) rfl
  rw [z3i] at this
  exact this
 have x2':Ext H H2:=x2
 have xH:Ext H H10:=((x2'.trans b3).trans x9).comp d3 fun id hid _ h=>by have:=x2'.1; have:=b3.1; omega
 have x210:Ext H2 H10:=(b3.trans x9).comp d3 fun id hid _ h=>by have:=b3.1; omega
 obtain ⟨H',bl',z1,z2,z3,z4,z5,z6⟩:=zo2 hF hfu hG hS hB (m:=m) (p1:=⟨H.next,0,none⟩) (p8:=⟨H7.next,0,none⟩) (idm:=H2.next) rfl (by omega) (by simp; omega) (by simp; omega) g.datas.length H10 (List.replicate g.datas.length false) (zhv _) xH (c1.ext x210) c8 ((b2'.ext x9).fr d3 (by have:=b3.1; omega)) (by simp) (fun k hk=>by obtain ⟨h,hb⟩:=hk; simp at hb)
 refine ⟨H2.next,bl',H',?_,xH.comp z5 fun id hid _ h=>by omega,z3,z4,z6⟩
 have f1:rd deP H2 ⟨H.next,0,none⟩=some (some p):=by rw [c1.rd]; rfl
 have r1:rd deSl H2 ((p.add 0).add 1)=some s2:=by rw [hadd,(hB.c2.ext x2').rd]; rfl
 have f8:rd deSl H' ⟨H7.next,0,none⟩=some ⟨some ⟨H2.next,0,none⟩,g.datas.length,g.datas.length⟩:=by rw [z2.rd]; rfl
 unfold z3j newB
 simp only [Option.bind_some]
 rw [hH2]
 simp only [f1,Option.bind_some,r1,hd,b1]
 rw [hH9]
 simp only [d1',Option.bind_some]
 show Option.bind (loopO (z19 (LCo L0) m ⟨H.next,0,none⟩ ⟨H7.next,0,none⟩) H10) _=_
 rw [z1]
 simp only [Option.bind_some,f8]
theorem zgp (c:Nat) {id n:Nat} {bl:List Bool} (ha:ArrV 4 m H id (bV bl)) (hl:bl.length=n) (hn:n≤4096):z4o (LCo c) H ⟨some ⟨id,0,none⟩,n,n⟩ false=some (!(bl.all fun b=>b)):=by
 have hlp:=z4w (body:=z34 (LCo c) H ⟨some ⟨id,0,none⟩,n,n⟩ false) bl.length (by rw [z1r]; omega) (fun j=>if (fun b:Bool=>!b) (bl.getD j false)=true then some (j:Int) else none) (fun j hj=>by
  obtain ⟨q,k1,k2⟩:=zbc ha hl (i:=j) (by omega)
  unfold z34
  simp only [if_pos (show (j:Int)<(n:Int) by omega),k1,Option.bind_some,k2]
  cases bl.getD j false <;> simp [stepO]) (by
  unfold z34
  simp only []
  rw [if_neg (by omega)])
 unfold z4o z77
 show Option.bind (Option.bind (loopO (z34 (LCo c) H ⟨some ⟨id,0,none⟩,n,n⟩ false) 0) _) _=_
 rw [hlp]
 obtain ⟨k1,k2⟩:=zht bl (fun b:Bool=>!b) (fun i=>(i:Int)) false
 have k3:(bl.any fun b=>!b)=!(bl.all fun b=>b):=by rw [List.not_all_eq_any_not]
 rw [k3] at k1
 generalize hq:(List.range bl.length).findSome? (fun i=>if (fun b:Bool=>!b) (bl.getD i false)=true then some (i:Int) else none)=q at k1 k2
 cases q with
 | none=>rw [← k1]; rfl
 | some x =>
  rw [← k1]
  obtain ⟨i,rfl⟩:=k2 x rfl
  have:(i:Int)≥0:=by omega
  simp [found,this]
end
end Go.Proofs.YtccbilfbhecdaaaDoor
namespace Go.Proofs.YtccbilfbhecdaaaDoor
open Go Go.Abs
set_option maxRecDepth 100000
open Classical in
noncomputable def sigS (g:Sg):Int :=
 if manyS g=true then 3 else if namesS g≠0 then namesS g else if allS g≠0 then allS g else if NestP g then 44 else if ∀k,k<g.datas.length→Gd g k then 0 else 43
theorem all_on {bl:List Bool} {n:Nat} {P:Nat→Prop} (h:∀k,On bl k↔P k) (hl:bl.length=n):(bl.all fun b=>b)=true↔∀k,k<n→P k:=by
 rw [List.all_eq_true]
 constructor
 ·intro ha k hk
  exact (h k).1 ⟨by omega,ha _ (List.getElem_mem (by omega))⟩
 ·intro ha b hb
  obtain ⟨i,hi,rfl⟩:=List.getElem_of_mem hb
  exact ((h i).2 (ha i (by omega))).2
section
variable {m:Nat} {H0 H:AH} {s1 s2 s3:Sl3} {g:Sg} {L0 fuel:Nat}
theorem z5d (hF:L0=fuel+1) (hfu:15≤fuel) (hd:g.dep≤fuel) (hb:SgB g) (hS:SigA H s1 s2 s3 g) (hm:m≤H.next) :
  ∃H',z2m (LCo L0) m H s1 s2 s3=some (sigS g,H')∧Ext H H':=by
 unfold z2m sigS
 rw [zoq L0 hS hb]
 simp only [Option.bind_some]
 cases hmany:manyS g with
 | true=>exact ⟨H,by simp,Fm.refl _ _⟩
 | false =>
  simp only [Bool.false_eq_true,if_false]
  have hsm:=zen hmany
  obtain ⟨x2,x3,H4,a1,a2,a3,a4,o2,o3⟩:=zma L0 hS hm hmany
  have m4:=Nat.le_trans hm a4.1
  obtain ⟨x5,H6,b1,b2,b3,b4⟩:=zg0 L0 m (zk1 a2) (by omega) m4
  have x6:=a4.trans b3
  obtain ⟨x7,H8,c1,c2,c3⟩:=VecA.app (E:=strE) (e:=9) (bytes:=16) (l:=sortNamesS g) (l':=funNamesS g) (m:=m) b2 (zk1 a3 _ b3) (room (by omega)).1 (room (by omega)).2 (Nat.le_trans hm x6.1)
  have x68:Ext H4 H8:=b3.comp c3.fm fun id hid _ h=>by have:=b4 id h; omega
  have x8:Ext H H8:=a4.trans x68
  have hsl:=zf4 c2 (by rw [List.length_append]; omega)
  have hn:=hsl.n
  have hsz:=zms hS
  rw [a1]
  simp only [Option.bind_some,b1]
  have c1':appS m 9 1 16 H6 x5 x3=some (x7,H8):=c1
  rw [c1']
  simp only [Option.bind_some]
  have hl:loopO (z2o (LCo L0) s1 s2 s3 x2 x3 x7 H8) 0=some (found (sortNamesS g++funNamesS g).length ((List.range (sortNamesS g++funNamesS g).length).findSome? (fun i=>if (fun x=>!nameS x) ((sortNamesS g++funNamesS g).getD i emptyT)=true then some ((42:Int),H8) else none))):=by
   generalize hall:sortNamesS g++funNamesS g=all at hsl hn hsz
   refine z4w all.length hsl.len _ (fun i hi=>?_) ?_
   ·unfold z2o
    obtain ⟨q,h1,h2⟩:=hsl.get hi (v:=(i:Int)) rfl
    have r0:rd deS H8 q=some all[i]:=by rw [Cel.rd h2]; rfl
    have eg:all.getD i emptyT=all[i]:=by simp [List.getD,hi]
    simp only [if_pos (show (i:Int)<(x7.n:Int) by omega),h1,Option.bind_some,r0,zhy L0 (zhc (hsz _ (List.getElem_mem hi))),eg]
    cases nameS all[i] <;> rfl
   ·unfold z2o
    rw [if_neg (by omega)]
  show ∃H',Option.bind (loopO (z2o (LCo L0) s1 s2 s3 x2 x3 x7 H8) 0) _=_∧_
  rw [hl,zhq (sortNamesS g++funNamesS g) (fun x=>!nameS x) ((42:Int),H8) emptyT]
  by_cases h42:((sortNamesS g++funNamesS g).any fun x=>!nameS x)=true
  ·have e:namesS g=42:=by unfold namesS; rw [if_pos h42]
   rw [if_pos h42,e]
   simp only [found,Option.bind_some]
   exact ⟨H8,by simp,x8⟩
  ·rw [if_neg h42]
   simp only [found,Option.bind_some]
   have m8:=Nat.le_trans hm x8.1
   obtain ⟨H9,t1,t2⟩:=zfx L0 (H:=H8) (s:=x2) (l:=sortNamesS g) (m:=m) (fun G hG=>zf4 (VecV.ext a2 (x68.trans hG)) (by omega)) m8
   have htw:∃H14,(Option.bind (z4q (LCo L0) m H8 x2) fun (x16,H17)=>if x16=true then some (H17,true) else Option.bind (z4q (LCo L0) m H17 x3) fun (x18,H19)=>some (H19,x18))=some (H14,twS (sortNamesS g)||twS (funNamesS g))∧Ext H8 H14:=by
    rw [t1]
    simp only [Option.bind_some]
    cases htw1:twS (sortNamesS g) with
    | true=>exact ⟨H9,by simp,t2⟩
    | false =>
     obtain ⟨H10,u1,u2⟩:=zfx L0 (H:=H9) (s:=x3) (l:=funNamesS g) (m:=m) (fun G hG=>zf4 (VecV.ext a3 ((x68.trans t2).trans hG)) (by omega)) (Nat.le_trans m8 t2.1)
     refine ⟨H10,?_,t2.trans u2⟩
     simp only [Bool.false_eq_true,if_false,u1,Option.bind_some,Bool.false_or]
   obtain ⟨H14,w1,w2⟩:=htw
   have x14:=x8.trans w2
   rw [w1]
   simp only [Option.bind_some]
   by_cases h41:(twS (sortNamesS g)||twS (funNamesS g))=true
   ·have e:namesS g=41:=by unfold namesS; rw [if_neg h42,if_pos h41]
    rw [if_pos h41,e]
    exact ⟨H14,by simp,x14⟩
   ·have e:namesS g=0:=by unfold namesS; rw [if_neg h42,if_neg h41]
    rw [if_neg h41,e,if_neg (by simp)]
    have m14:=Nat.le_trans hm x14.1
    obtain ⟨p,H21,p1,p2,p3,p4,p5⟩:=zag L0 m (hS.ext x14) m14
    have x21:=x14.trans p2
    have m21:=Nat.le_trans hm x21.1
    obtain ⟨H23,q1,q2⟩:=zig hF m21 p3 (hS.ext x21) hmany hd
    have x23:=x21.trans q2
    rw [p1]
    simp only [Option.bind_some,q1]
    by_cases ha0:allS g=0
    ·rw [if_pos ha0,if_neg (by simp [ha0])]
     have hG:=ze2 hmany ha0
     have m23:=Nat.le_trans hm x23.1
     obtain ⟨id3,H25,l1,l2,l3⟩:=zft hF hfu hG (hS.ext x23) (p3.ext q2) m23
     have x25:=x23.trans l2
     obtain ⟨b,H27,n1,n2,n3⟩:=zkn hF hfu hG (hS.ext x25) (p3.ext (q2.trans l2)) (Nat.le_trans hm x25.1) l3
     have x27:=x25.trans n2
     rw [l1]
     simp only [Option.bind_some,n1]
     cases b with
     | true =>
      rw [if_pos (n3.1 rfl)]
      exact ⟨H27,rfl,x27⟩
     | false =>
      rw [if_neg (show ¬NestP g from fun h=>absurd (n3.2 h) (by simp))]
      obtain ⟨id,bl,H29,d1,d2,d3,d4,d5⟩:=zep hF hfu hG (hS.ext x27) (p3.ext ((q2.trans l2).trans n2)) (Nat.le_trans hm x27.1)
      rw [d1]
      simp only [Bool.false_eq_true,if_false,Option.bind_some,zgp L0 d3 d4 (z82 hG)]
      refine ⟨H29,?_,x27.trans d2⟩
      by_cases ha:(bl.all fun b=>b)=true
      ·rw [ha,if_pos ((all_on d5 d4).1 ha)]
       rfl
      ·rw [if_neg fun h=>ha ((all_on d5 d4).2 h)]
       have ha':(bl.all fun b=>b)=false:=by simpa using ha
       rw [ha']
       rfl
    ·rw [if_neg ha0,if_pos ha0]
     exact ⟨H23,rfl,x23⟩
end
end Go.Proofs.YtccbilfbhecdaaaDoor
namespace Go.Proofs.YtccbilfbhecdaaaDoor
open Go Go.Abs
set_option maxRecDepth 100000
def arrO:Option Nat→Option Nat→Option Nat
 | _,none=>none
 | x,some t=>if t=1 then some 1 else x.map fun s=>t ^ s
def mulO:Option Nat→Option Nat→Option Nat
 | some a,some b=>some (a*b)
 | _,_=>none
def addO:Option Nat→Option Nat→Option Nat
 | some a,some b=>some (a+b)
 | _,_=>none
def one_ (ds:List Dat) (f:Nat→Option Nat) (k w:Int) (n:ByteArray) (l:List (Option Nat)):Option Nat :=
 if k=1 then some 2 else if k=3 then some (2 ^ w.toNat) else if k=4 then arrO (l.getD 0 none) (l.getD 1 none) else if k=6 then f (ixS ds n) else none
def cL (ds:List Dat) (f:Nat→Option Nat):Fo→List (Option Nat)
 | .nil=>[]
 | .cons k w n a r=>one_ ds f k w n (cL ds f a) :: cL ds f r
def cS (ds:List Dat) (f:Nat→Option Nat) (k w:Int) (n:ByteArray) (a:Fo):Option Nat:=one_ ds f k w n (cL ds f a)
def cC (ds:List Dat) (f:Nat→Option Nat) (l:List Sel):Option Nat:=(l.map fun x=>cS ds f x.k x.w x.sn x.a).foldr mulO (some 1)
def cD (ds:List Dat) (f:Nat→Option Nat) (l:List Con):Option Nat:=(l.map fun c=>cC ds f c.sels).foldr addO (some 0)
def leO (a b:Option Nat):Prop:=∀v,a=some v→b=some v
theorem leO.refl (a:Option Nat):leO a a:=fun _ h=>h
theorem leO.none (a:Option Nat):leO none a:=fun _ h=>by cases h
theorem znv {a a' b b':Option Nat} (ha:leO a a') (hb:leO b b'):leO (arrO a b) (arrO a' b'):=by
 intro v h
 cases b with
 | none=>cases h
 | some t =>
  rw [hb t rfl]
  simp only [arrO] at h ⊢
  by_cases h1:t=1
  ·rw [if_pos h1] at h ⊢; exact h
  ·rw [if_neg h1] at h ⊢
   cases a with
   | none=>cases h
   | some s=>rw [ha s rfl]; exact h
theorem zpa {a a' b b':Option Nat} (ha:leO a a') (hb:leO b b'):leO (mulO a b) (mulO a' b'):=by
 intro v h
 cases a with
 | none=>cases h
 | some x =>
  cases b with
  | none=>cases h
  | some y=>rw [ha x rfl,hb y rfl]; exact h
theorem zo6 {a a' b b':Option Nat} (ha:leO a a') (hb:leO b b'):leO (addO a b) (addO a' b'):=by
 intro v h
 cases a with
 | none=>cases h
 | some x =>
  cases b with
  | none=>cases h
  | some y=>rw [ha x rfl,hb y rfl]; exact h
section
variable {ds:List Dat} {f f':Nat→Option Nat}
theorem ziv (hf:∀i,leO (f i) (f' i)) {k w:Int} {n:ByteArray} {l l':List (Option Nat)} (hl:∀i,leO (l.getD i none) (l'.getD i none)):leO (one_ ds f k w n l) (one_ ds f' k w n l'):=by
 unfold one_
 by_cases h1:k=1
 ·rw [if_pos h1,if_pos h1]; exact .refl _
 rw [if_neg h1,if_neg h1]
 by_cases h3:k=3
 ·rw [if_pos h3,if_pos h3]; exact .refl _
 rw [if_neg h3,if_neg h3]
 by_cases h4:k=4
 ·rw [if_pos h4,if_pos h4]; exact znv (hl 0) (hl 1)
 rw [if_neg h4,if_neg h4]
 by_cases h6:k=6
 ·rw [if_pos h6,if_pos h6]; exact hf _
 rw [if_neg h6,if_neg h6]; exact .refl _
theorem zh5 (hf:∀i,leO (f i) (f' i)):∀(a:Fo) (i:Nat),leO ((cL ds f a).getD i none) ((cL ds f' a).getD i none)
 | .nil,_=>.refl _
 | .cons k w n a r,0=>ziv hf (zh5 hf a)
 | .cons k w n a r,i+1=>by
  simp only [cL,List.getD_cons_succ]
  exact zh5 hf r i
theorem zr5 (hf:∀i,leO (f i) (f' i)) (k w:Int) (n:ByteArray) (a:Fo):leO (cS ds f k w n a) (cS ds f' k w n a):=ziv hf (zh5 hf a)
theorem zlm (hf:∀i,leO (f i) (f' i)):∀l:List Sel,leO (cC ds f l) (cC ds f' l)
 | []=>.refl _
 | x :: l=>zpa (zr5 hf _ _ _ _) (zlm hf l)
theorem zlp (hf:∀i,leO (f i) (f' i)):∀l:List Con,leO (cD ds f l) (cD ds f' l)
 | []=>.refl _
 | c :: l=>zo6 (zlm hf _) (zlp hf l)
end
def tcD (g:Sg):Nat→Nat→Option Nat
 | 0,_=>none
 | r+1,i=>if h:i<g.datas.length then cD g.datas (tcD g r) (g.datas[i]).cons else none
theorem zlq {g:Sg} {i:Nat} (h:¬i<g.datas.length):∀r,tcD g r i=none
 | 0=>rfl
 | r+1=>by simp only [tcD,dif_neg h]
theorem z93 (g:Sg):∀r i,leO (tcD g r i) (tcD g (r+1) i)
 | 0,i=>.none _
 | r+1,i=>by
  show leO (if h:i<g.datas.length then cD g.datas (tcD g r) (g.datas[i]).cons else none) (if h:i<g.datas.length then cD g.datas (tcD g (r+1)) (g.datas[i]).cons else none)
  by_cases h:i<g.datas.length
  ·rw [dif_pos h,dif_pos h]
   exact zlp (z93 g r) _
  ·rw [dif_neg h,dif_neg h]; exact .refl _
def knN (g:Sg) (r:Nat):Nat:=(List.range g.datas.length).countP fun i=>(tcD g r i).isSome
theorem knN_le (g:Sg) (r:Nat):knN g r≤knN g (r+1):=by
 unfold knN
 refine List.countP_mono_left fun i _ h=>?_
 obtain ⟨v,hv⟩:=Option.isSome_iff_exists.1 h
 rw [z93 g r i v hv]; rfl
theorem zm0 (g:Sg) (r:Nat):knN g r≤g.datas.length:=by
 unfold knN
 have:=List.countP_le_length (p:=fun i=>(tcD g r i).isSome) (l:=List.range g.datas.length)
 simpa using this
theorem zda {α:Type} {p q:α→Bool}:∀{l:List α},(∀x∈l,p x=true→q x=true)→l.countP p=l.countP q→∀x∈l,q x=true→p x=true
 | [],_,_,x,hx,_=>by cases hx
 | y :: l,h,he,x,hx,hq=>by
  have hle:l.countP p≤l.countP q:=List.countP_mono_left fun z hz=>h z (by simp [hz])
  rw [List.countP_cons,List.countP_cons] at he
  have h0:=h y (by simp)
  have hl:l.countP p=l.countP q∧(q y=true→p y=true):=by
   cases hpy:p y with
   | true=>rw [hpy,h0 hpy] at he; simp at he; exact ⟨he,fun _=>rfl⟩
   | false =>
    cases hqy:q y with
    | true=>rw [hpy,hqy] at he; simp at he; omega
    | false=>rw [hpy,hqy] at he; simp at he; exact ⟨he,fun h=>by cases h⟩
  rcases List.mem_cons.1 hx with rfl | hx
  ·exact hl.2 hq
  ·exact zda (fun z hz=>h z (by simp [hz])) hl.1 x hx hq
theorem zjz {g:Sg} {r:Nat} (h:knN g r=knN g (r+1)):tcD g (r+1)=tcD g r:=by
 funext i
 by_cases hi:i<g.datas.length
 ·have:=zda (p:=fun i=>(tcD g r i).isSome) (q:=fun i=>(tcD g (r+1) i).isSome) (l:=List.range g.datas.length) (fun i _ h=>by
   obtain ⟨v,hv⟩:=Option.isSome_iff_exists.1 h
   rw [z93 g r i v hv]; rfl) h i (by simpa using hi)
  cases hq:tcD g (r+1) i with
  | none =>
   cases hp:tcD g r i with
   | none=>rfl
   | some v=>rw [z93 g r i v hp] at hq; cases hq
  | some v =>
   obtain ⟨u,hu⟩:=Option.isSome_iff_exists.1 (this (by simp [hq]))
   rw [hu]
   have:=z93 g r i u hu
   rw [hq] at this
   exact this
 ·rw [zlq hi,zlq hi]
theorem zfc {g:Sg} {r:Nat} (h:tcD g (r+1)=tcD g r):∀s,r≤s→tcD g s=tcD g r:=by
 intro s hs
 induction hs with
 | refl=>rfl
 | @step s _ ih =>
  have:tcD g (s+1)=tcD g (r+1):=by
   funext i
   show (if h:i<g.datas.length then cD g.datas (tcD g s) (g.datas[i]).cons else none)=(if h:i<g.datas.length then cD g.datas (tcD g r) (g.datas[i]).cons else none)
   rw [ih]
  exact this.trans h
theorem zhm (g:Sg):∀r,r≤knN g r∨∃s,s≤r∧tcD g (s+1)=tcD g s
 | 0=>.inl (Nat.zero_le _)
 | r+1=>by
  rcases zhm g r with h | ⟨s,h1,h2⟩
  ·by_cases e:knN g r=knN g (r+1)
   ·exact .inr ⟨r,by omega,zjz e⟩
   ·have:=knN_le g r
    exact .inl (by omega)
  ·exact .inr ⟨s,by omega,h2⟩
def Tc (g:Sg):Nat→Option Nat:=tcD g g.datas.length
theorem zog (g:Sg):∀s,g.datas.length≤s→tcD g s=Tc g:=by
 have key:tcD g (g.datas.length+1)=tcD g g.datas.length:=by
  rcases zhm g g.datas.length with h | ⟨s,h1,h2⟩
  ·refine zjz ?_
   have h1:=zm0 g g.datas.length
   have h2:=zm0 g (g.datas.length+1)
   have h3:=knN_le g g.datas.length
   omega
  ·rw [zfc h2 _ (by omega),zfc h2 _ h1]
 exact zfc key
theorem Tc_fix {g:Sg} {i:Nat} (h:i<g.datas.length):Tc g i=cD g.datas (Tc g) (g.datas[i]).cons:=by
 have:=congrFun (zog g (g.datas.length+1) (by omega)) i
 rw [← this]
 show (if h:i<g.datas.length then cD g.datas (tcD g g.datas.length) (g.datas[i]).cons else none)=_
 rw [dif_pos h]
 rfl
def posO (a:Option Nat):Prop:=∀v,a=some v→1≤v
theorem zq2 {a b:Option Nat} (hb:posO b):posO (arrO a b):=by
 intro v h
 cases b with
 | none=>cases h
 | some t =>
  simp only [arrO] at h
  by_cases h1:t=1
  ·rw [if_pos h1] at h; cases h; exact Nat.le_refl _
  ·rw [if_neg h1] at h
   cases a with
   | none=>cases h
   | some s=>cases h; exact Nat.pow_pos (hb t rfl)
section
variable {ds:List Dat} {f:Nat→Option Nat}
theorem zlv (hf:∀i,posO (f i)) {k w:Int} {n:ByteArray} {l:List (Option Nat)} (hl:∀i,posO (l.getD i none)):posO (one_ ds f k w n l):=by
 unfold one_
 split
 ·intro v h; cases h; omega
 split
 ·intro v h; cases h; exact Nat.pow_pos (by omega)
 split
 ·exact zq2 (hl 1)
 split
 ·exact hf _
 ·intro v h; cases h
theorem cL_pos (hf:∀i,posO (f i)):∀(a:Fo) (i:Nat),posO ((cL ds f a).getD i none)
 | .nil,_=>fun v h=>by simp [cL] at h
 | .cons k w n a r,0=>zlv hf (cL_pos hf a)
 | .cons k w n a r,i+1=>by
  simp only [cL,List.getD_cons_succ]
  exact cL_pos hf r i
theorem cS_pos (hf:∀i,posO (f i)) (k w:Int) (n:ByteArray) (a:Fo):posO (cS ds f k w n a):=zlv hf (cL_pos hf a)
theorem cC_pos (hf:∀i,posO (f i)):∀l:List Sel,posO (cC ds f l)
 | []=>fun v h=>by cases h; exact Nat.le_refl _
 | x :: l=>fun v h=>by
  have h:mulO (cS ds f x.k x.w x.sn x.a) (cC ds f l)=some v:=h
  cases h1:cS ds f x.k x.w x.sn x.a with
  | none=>rw [h1] at h; cases h
  | some a =>
   cases h2:cC ds f l with
   | none=>rw [h1,h2] at h; cases h
   | some b =>
    rw [h1,h2] at h; cases h
    exact Nat.mul_pos (cS_pos hf _ _ _ _ a h1) (cC_pos hf l b h2)
theorem cD_pos (hf:∀i,posO (f i)):∀l:List Con,l≠[]→posO (cD ds f l)
 | [],h=>absurd rfl h
 | c :: l,_=>fun v h=>by
  have h:addO (cC ds f c.sels) (cD ds f l)=some v:=h
  cases h1:cC ds f c.sels with
  | none=>rw [h1] at h; cases h
  | some a =>
   cases h2:cD ds f l with
   | none=>rw [h1,h2] at h; cases h
   | some b =>
    rw [h1,h2] at h; cases h
    have:=cC_pos hf _ a h1
    omega
end
theorem zrf {g:Sg} (hG:GoodG g) {d:Dat} (hd:d∈g.datas):d.cons≠[]:=by
 have:=hG.many
 unfold manyS at this
 simp only [Bool.or_eq_false_iff] at this
 have:=List.any_eq_false.1 this.1 d hd
 unfold badD at this
 simp only [Bool.or_eq_true,decide_eq_true_eq,not_or] at this
 intro e
 rw [e] at this
 simp at this
theorem zli {g:Sg} (hG:GoodG g):∀r i,posO (tcD g r i)
 | 0,i=>fun v h=>by cases h
 | r+1,i=>by
  show posO (if h:i<g.datas.length then cD g.datas (tcD g r) (g.datas[i]).cons else none)
  by_cases h:i<g.datas.length
  ·rw [dif_pos h]
   exact cD_pos (zli hG r) _ (zrf hG (List.getElem_mem h))
  ·rw [dif_neg h]; intro v h; cases h
theorem Tc_pos {g:Sg} (hG:GoodG g) (i:Nat):posO (Tc g i):=zli hG _ i
theorem zl7 (a:Option Nat):mulO a none=none:=by cases a <;> rfl
theorem zk9 (a:Option Nat):addO a none=none:=by cases a <;> rfl
theorem zlo {ds:List Dat} {f:Nat→Option Nat}:∀{l:List Sel} {x:Sel},x∈l→cS ds f x.k x.w x.sn x.a=none→cC ds f l=none
 | y :: l,x,h,hx=>by
  show mulO (cS ds f y.k y.w y.sn y.a) (cC ds f l)=none
  rcases List.mem_cons.1 h with rfl | h
  ·rw [hx]; rfl
  ·rw [zlo h hx]; exact zl7 _
theorem zly {ds:List Dat} {f:Nat→Option Nat}:∀{l:List Con} {c:Con},c∈l→cC ds f c.sels=none→cD ds f l=none
 | y :: l,c,h,hx=>by
  show addO (cC ds f y.sels) (cD ds f l)=none
  rcases List.mem_cons.1 h with rfl | h
  ·rw [hx]; rfl
  ·rw [zly h hx]; exact zk9 _
theorem zmu {g:Sg} {i k:Nat} (h:Lean1 g i k):∃j,EdgS g i j∧(j=k∨Lean1 g j k):=by
 induction h with
 | one h=>exact ⟨_,h,.inl rfl⟩
 | more h1 h2 ih =>
  obtain ⟨j,e1,e2⟩:=ih
  refine ⟨j,e1,.inr ?_⟩
  rcases e2 with rfl | e2
  ·exact .one h2
  ·exact .more e2 h2
theorem zqr {g:Sg} {i j k:Nat} (h:EdgS g i j) (h':Lean1 g j k):Lean1 g i k:=by
 induction h' with
 | one h1=>exact .more (.one h) h1
 | more _ h2 ih=>exact .more ih h2
theorem zm9 {g:Sg} {i j k:Nat} (h:Lean1 g i j) (h':Lean1 g j k):Lean1 g i k:=by
 induction h' with
 | one h1=>exact .more h h1
 | more _ h2 ih=>exact .more ih h2
theorem zqc {g:Sg} (hG:GoodG g) (hN:¬NestP g):∀r i,Lean1 g i i→tcD g r i=none:=by
 intro r
 induction r with
 | zero=>intro i _; rfl
 | succ r ih =>
  intro i hi
  obtain ⟨j,⟨hil,hj⟩,hji⟩:=zmu hi
  have hjj:Lean1 g j j:=by
   rcases hji with rfl | h
   ·exact hi
   ·exact zm9 h (.one ⟨hil,hj⟩)
  have hjl:j=i∨Lean1 g j i:=hji
  have hj':=hj
  unfold stD stC at hj
  simp only [List.mem_flatMap] at hj
  obtain ⟨c,hc,x,hx,hj⟩:=hj
  have hs:=hG.sel _ (List.getElem_mem hil) c hc x hx
  have hcS:cS g.datas (tcD g r) x.k x.w x.sn x.a=none:=by
   unfold dtS at hj
   by_cases h6:x.k=6
   ·rw [if_pos h6] at hj
    simp only [List.mem_singleton] at hj
    unfold cS one_
    rw [if_neg (by omega),if_neg (by omega),if_neg (by omega),if_pos h6,← hj]
    exact ih j hjj
   ·rw [if_neg h6] at hj
    exfalso
    refine hN ⟨i,hil,c,hc,x,hx,j,?_,hjl⟩
    unfold dtI
    rw [if_neg (by simp)]
    exact hj
  show (if h:i<g.datas.length then cD g.datas (tcD g r) (g.datas[i]).cons else none)=none
  rw [dif_pos hil]
  exact zly hc (zlo hx hcS)
theorem Tc_cyc {g:Sg} (hG:GoodG g) (hN:¬NestP g) {i:Nat} (h:Lean1 g i i):Tc g i=none:=zqc hG hN _ i h
def cap (m:Nat):Option Nat→Nat
 | some v=>if v≤m then v else 0
 | none=>0
theorem cap_le (m:Nat) (a:Option Nat):cap m a≤m:=by
 cases a with
 | none=>exact Nat.zero_le _
 | some v=>simp only [cap]; split <;> omega
def tim (m a b:Nat):Nat:=if a=0∨b=0∨m / b<a then 0 else a*b
theorem z1x {m v:Nat} (h:v≤m):cap m (some v)=v:=if_pos h
theorem cap_no {m v:Nat} (h:¬v≤m):cap m (some v)=0:=if_neg h
theorem tim_z1 (m b:Nat):tim m 0 b=0:=if_pos (.inl rfl)
theorem tim_z2 (m a:Nat):tim m a 0=0:=if_pos (.inr (.inl rfl))
theorem zln {m:Nat} {x y:Option Nat} (hx:posO x) (hy:posO y):tim m (cap m x) (cap m y)=cap m (mulO x y):=by
 cases x with
 | none=>exact tim_z1 _ _
 | some a =>
  cases y with
  | none=>exact tim_z2 _ _
  | some b =>
   have h1:=hx a rfl
   have h2:=hy b rfl
   show tim m (cap m (some a)) (cap m (some b))=cap m (some (a*b))
   by_cases ha:a≤m
   ·by_cases hb:b≤m
    ·rw [z1x ha,z1x hb]
     by_cases hd:m / b<a
     ·rw [cap_no]
      ·exact if_pos (.inr (.inr hd))
      ·intro h
       have:a≤m / b:=(Nat.le_div_iff_mul_le h2).2 h
       omega
     ·rw [z1x]
      ·exact if_neg (by omega)
      ·exact (Nat.le_div_iff_mul_le h2).1 (by omega)
    ·rw [cap_no hb,tim_z2]
     refine (cap_no fun h=>?_).symm
     have:b≤a*b:=Nat.le_mul_of_pos_left b h1
     omega
   ·rw [cap_no ha,tim_z1]
    refine (cap_no fun h=>?_).symm
    have:a≤a*b:=Nat.le_mul_of_pos_right a h2
    omega
def powN (m b:Nat):Nat→Nat
 | 0=>1
 | s+1=>tim m (powN m b s) b
theorem zjw {m t:Nat} (hm:1≤m) (ht:1≤t):∀s,powN m (cap m (some t)) s=cap m (some (t ^ s))
 | 0=>by simp [powN,cap,hm]
 | s+1=>by
  have h1:posO (some (t ^ s)):=fun v h=>by cases h; exact Nat.pow_pos ht
  have h2:posO (some t):=fun v h=>by cases h; exact ht
  simp only [powN]
  rw [zjw hm ht s,zln h1 h2]
  rfl
theorem zdf (m:Nat):∀s,1≤s→powN m 0 s=0
 | s+1,_=>by simp [powN,tim]
end Go.Proofs.YtccbilfbhecdaaaDoor
namespace Go.Proofs.YtccbilfbhecdaaaDoor
open Go Go.Abs
set_option maxRecDepth 100000
def keyN (i:Nat):Value:=.int .i64 (i:Int)
theorem natK:KeyK Tryd.prog 3 keyN:=by
 refine ⟨⟨.int .i64,by kernel_rfl,.inl fun a b=>?_⟩,fun a b=>by kernel_rfl,fun a=>?_⟩
 ·show some ((a:Int) == (b:Int))=_
  congr 1
  by_cases h:a=b
  ·subst h; simp
  ·have e:¬((a:Int)=(b:Int)):=by omega
   rw [decide_eq_false h]
   exact beq_false_of_ne e
 ·show (((IntKind.i64 == IntKind.i64)&&((a:Int) == (a:Int))):Bool)=true
  simp
theorem und115:Tryd.prog.underlying 115=some (.map 3 3):=by kernel_rfl
theorem und84:Tryd.prog.underlying 84=some (.map 3 4):=by kernel_rfl
end Go.Proofs.YtccbilfbhecdaaaDoor
namespace Go.Proofs.YtccbilfbhecdaaaDoor
open Go Go.Abs
set_option maxRecDepth 100000
theorem zr2 {m b:Nat} {x:Option Nat} (hx:posO x) (hb:1≤b):tim m (cap m x) b=cap m (mulO x (some b)):=by
 cases x with
 | none=>exact tim_z1 _ _
 | some a =>
  have h1:=hx a rfl
  show tim m (cap m (some a)) b=cap m (some (a*b))
  by_cases ha:a≤m
  ·rw [z1x ha]
   by_cases hd:m / b<a
   ·rw [cap_no]
    ·exact if_pos (.inr (.inr hd))
    ·intro h
     have:a≤m / b:=(Nat.le_div_iff_mul_le hb).2 h
     omega
   ·rw [z1x]
    ·exact if_neg (by omega)
    ·exact (Nat.le_div_iff_mul_le hb).1 (by omega)
  ·rw [cap_no ha,tim_z1]
   refine (cap_no fun h=>?_).symm
   have:a≤a*b:=Nat.le_mul_of_pos_right a hb
   omega
theorem zj7 {m:Nat} (hm:1≤m):∀s,powN m 2 s=cap m (some (2 ^ s))
 | 0=>by simp [powN,cap,hm]
 | s+1=>by
  have h1:posO (some (2 ^ s)):=fun v h=>by cases h; exact Nat.pow_pos (by omega)
  simp only [powN]
  rw [zj7 hm s,zr2 h1 (by omega)]
  rfl
theorem zmt (n:Nat):n<2 ^ n:=Nat.lt_two_pow_self
theorem zr7 {m:Nat} (hm:1≤m) {x y:Option Nat} (hx:posO x) (hy:posO y) :
  (if cap m y=1 then 1 else if cap m x=0 then 0 else powN m (cap m y) (cap m x))=cap m (arrO x y):=by
 have z:∀s,(if cap m x=0 then 0 else powN m 0 s)=0∨s=0:=fun s=>by
  by_cases h:s=0
  ·exact .inr h
  ·rw [zdf m s (by omega)]; simp
 cases y with
 | none =>
  show (if (0:Nat)=1 then 1 else if cap m x=0 then 0 else powN m 0 (cap m x))=0
  rw [if_neg (by omega)]
  by_cases h:cap m x=0
  ·rw [if_pos h]
  ·rw [if_neg h,zdf m _ (by omega)]
 | some t =>
  have ht:=hy t rfl
  by_cases h1:t=1
  ·subst h1
   rw [z1x hm,if_pos rfl]
   cases x <;> exact (z1x hm).symm
  ·have harr:arrO x (some t)=x.map fun s=>t ^ s:=by cases x <;> simp [arrO,h1]
   rw [harr]
   by_cases hc:t≤m
   ·rw [z1x hc,if_neg h1]
    cases x with
    | none=>rfl
    | some s =>
     have hs:=hx s rfl
     by_cases hsm:s≤m
     ·rw [z1x hsm,if_neg (by omega)]
      have:=zjw hm ht s
      rw [z1x hc] at this
      exact this
     ·rw [cap_no hsm,if_pos rfl]
      refine (cap_no fun h=>?_).symm
      have h:t ^ s≤m:=h
      have h2:=zmt s
      have h3:2 ^ s≤t ^ s:=Nat.pow_le_pow_left (by omega) s
      omega
   ·rw [cap_no hc,if_neg (by omega)]
    have e:(if cap m x=0 then 0 else powN m 0 (cap m x))=0:=by
     by_cases h:cap m x=0
     ·rw [if_pos h]
     ·rw [if_neg h,zdf m _ (by omega)]
    rw [e]
    cases x with
    | none=>rfl
    | some s =>
     have hs:=hx s rfl
     refine (cap_no fun h=>?_).symm
     have h:t ^ s≤m:=h
     have:t ^ 1≤t ^ s:=Nat.pow_le_pow_right (by omega) hs
     rw [Nat.pow_one] at this
     omega
theorem zni (a b c:Option Nat):mulO (mulO a b) c=mulO a (mulO b c):=by
 cases a <;> cases b <;> cases c <;> simp [mulO,Nat.mul_assoc]
theorem zcg (a b c:Option Nat):addO (addO a b) c=addO a (addO b c):=by
 cases a <;> cases b <;> cases c <;> simp [addO,Nat.add_assoc]
theorem zph (a:Option Nat):mulO (some 1) a=a:=by cases a <;> simp [mulO]
theorem zqm {a b:Option Nat} (ha:posO a) (hb:posO b):posO (mulO a b):=by
 intro v h
 cases a with
 | none=>cases h
 | some x =>
  cases b with
  | none=>cases h
  | some y=>cases h; exact Nat.mul_pos (ha x rfl) (hb y rfl)
open Classical in
noncomputable def rk (g:Sg) (i:Nat):Nat:=if Lean1 g i i then 0 else (List.range g.datas.length).countP fun k=>decide (Lean1 g i k)
theorem rk_lt {g:Sg} (hG:GoodG g) {i j:Nat} (hi:¬Lean1 g i i) (h:EdgS g i j):rk g j<rk g i:=by
 classical
 have hj:=edg_lt hG h
 have e:rk g i=(List.range g.datas.length).countP fun k=>decide (Lean1 g i k):=by unfold rk; rw [if_neg hi]
 by_cases hjj:Lean1 g j j
 ·have e2:rk g j=0:=by unfold rk; rw [if_pos hjj]
  rw [e2,e]
  exact List.countP_pos_iff.2 ⟨j,by simpa using hj,by simpa using Lean1.one h⟩
 ·have e2:rk g j=(List.range g.datas.length).countP fun k=>decide (Lean1 g j k):=by unfold rk; rw [if_neg hjj]
  rw [e2,e]
  have sub:∀x∈List.range g.datas.length,(fun k=>decide (Lean1 g j k)) x=true→(fun k=>decide (Lean1 g i k)) x=true:=fun x _ hx=>by
   have:Lean1 g j x:=by simpa using hx
   simpa using zqr h this
  have hle:=List.countP_mono_left sub
  rcases Nat.lt_or_eq_of_le hle with h1 | h1
  ·exact h1
  ·have:=zda sub h1 j (by simpa using hj) (by simpa using Lean1.one h)
   exact absurd (by simpa using this) hjj
theorem rk_le (g:Sg) (i:Nat):rk g i≤g.datas.length:=by
 classical
 unfold rk
 split
 ·exact Nat.zero_le _
 ·have:=List.countP_le_length (p:=fun k=>decide (Lean1 g i k)) (l:=List.range g.datas.length)
  simpa using this
structure CntI (H0:AH) (q p:Addr) (id3 idk mst:Nat) (g:Sg) (H:AH):Prop where
 x:Ext H0 H
 c0:Cel H (q.add 0) (.pointer (some p))
 c1:Cel H (q.add 1) (.int .i64 (mst:Int))
 c2:Cel H (q.add 2) (Sl3.v ⟨some ⟨id3,0,none⟩,g.datas.length,g.datas.length⟩)
 c3:Cel H (q.add 3) (.map (some idk))
 kn:∃F:Nat→Option Value,MapA keyN H idk F∧∀i v,F i=some v→v=.int .i64 ((cap mst (Tc g i):Nat):Int)
section
variable {m:Nat} {H0 H:AH} {q p:Addr} {id3 idk mst:Nat} {s1 s2 s3:Sl3} {g:Sg}
theorem zpi (a b:Nat):Int.tdiv (a:Int) (b:Int)=((a / b:Nat):Int):=by
 rw [Int.natCast_ediv]
 exact Int.tdiv_eq_ediv_of_nonneg (by omega)
theorem zbz (c:Nat) (h1:Cel H (q.add 1) (.int .i64 (mst:Int))) (hmst:mst≤maxN) (a b:Nat):z1y (LCo c) H (some q) (a:Int) (b:Int)=some ((tim mst a b:Nat):Int):=by
 have hN:=z1r
 have r1:rd (deI .i64) H (q.add 1)=some (mst:Int):=by rw [h1.rd]; rfl
 unfold z1y
 by_cases ha:a=0
 ·subst ha
  rw [tim_z1]
  simp
 ·rw [if_neg (show ¬((a:Int)=0) by omega)]
  by_cases hb:b=0
  ·subst hb
   rw [tim_z2]
   simp
  ·have hb':¬((b:Int)=0):=by omega
   rw [if_neg hb']
   simp only [Option.bind_some,r1,if_neg hb',zpi]
   have hle:mst / b≤mst:=Nat.div_le_self _ _
   by_cases hd:mst / b<a
   ·have e:tim mst a b=0:=if_pos (.inr (.inr hd))
    rw [e]
    generalize mst / b=dq at hd hle ⊢
    rw [z3p (by omega) (by omega),decide_eq_true (show (a:Int) > ((dq:Nat):Int) by omega)]
    rfl
   ·have e:tim mst a b=a*b:=if_neg (by omega)
    have hm:a*b≤mst:=(Nat.le_div_iff_mul_le (by omega)).1 (by omega)
    rw [e]
    generalize mst / b=dq at hd hle ⊢
    rw [z3p (by omega) (by omega),decide_eq_false (show ¬((a:Int) > ((dq:Nat):Int)) by omega)]
    simp only [Bool.false_eq_true,if_false]
    rw [← Int.natCast_mul]
    generalize a*b=ab at hm ⊢
    rw [z3p (by omega) (by omega)]
theorem zot (c:Nat) (h1:Cel H (q.add 1) (.int .i64 (mst:Int))) (hmst:mst≤maxN) {k:Int} {n:ByteArray} {s:Sl3} {w:Nat} (hw:w≤4096):∀(t i:Nat),i+t=w→loopO (z1k (LCo c) H (some q) k (w:Int) n s) (((powN mst 2 i:Nat):Int),(i:Int))=some (.inl (((powN mst 2 w:Nat):Int),(w:Int))):=by
 intro t
 induction t with
 | zero =>
  intro i hi
  obtain rfl:i=w:=by omega
  refine zy ?_
  unfold z1k
  simp only [if_neg (show ¬((i:Int)<(i:Int)) by omega)]
 | succ t ih =>
  intro i hi
  have hb:z1k (LCo c) H (some q) k (w:Int) n s (((powN mst 2 i:Nat):Int),(i:Int))=some (.next (((powN mst 2 (i+1):Nat):Int),((i+1:Nat):Int))):=by
   unfold z1k
   have:=zbz c h1 hmst (powN mst 2 i) 2
   have e2:((2:Nat):Int)=2:=rfl
   rw [e2] at this
   simp only [if_pos (show (i:Int)<(w:Int) by omega),this,Option.bind_some]
   rw [zi (n:=w) (by omega) (by rw [z1r]; omega)]
   rfl
  rw [zl hb]
  exact ih (i+1) (by omega)
theorem zn9 (c:Nat) (h1:Cel H (q.add 1) (.int .i64 (mst:Int))) (hmst:mst≤maxN) {k w:Int} {n:ByteArray} {s:Sl3} {b fr:Nat} (hf:fr≤mst):∀(t i:Nat),i+t=fr→∃v,loopO (z12 (LCo c) (some q) (fr:Int) k w n s (b:Int) H) (((powN mst b i:Nat):Int),(i:Int))=some (.inl (((powN mst b fr:Nat):Int),v)):=by
 intro t
 induction t with
 | zero =>
  intro i hi
  obtain rfl:i=fr:=by omega
  refine ⟨(i:Int),zy ?_⟩
  unfold z12
  simp only [if_neg (show ¬((i:Int)<(i:Int)) by omega)]
 | succ t ih =>
  intro i hi
  have ht:=zbz c h1 hmst (powN mst b i) b
  by_cases hz:powN mst b (i+1)=0
  ·have stay:∀d,powN mst b (i+1+d)=0:=by
    intro d
    induction d with
    | zero=>exact hz
    | succ d ih=>show tim mst (powN mst b (i+1+d)) b=0; rw [ih,tim_z1]
   have hfr:powN mst b fr=0:=by
    have:=stay (fr - (i+1))
    rwa [show i+1+(fr - (i+1))=fr by omega] at this
   refine ⟨(i:Int),zy ?_⟩
   unfold z12
   have hz':tim mst (powN mst b i) b=0:=hz
   rw [hz'] at ht
   simp only [if_pos (show (i:Int)<(fr:Int) by omega),ht,Option.bind_some,hfr]
   rfl
  ·obtain ⟨v,hv⟩:=ih (i+1) (by omega)
   refine ⟨v,?_⟩
   have hb:z12 (LCo c) (some q) (fr:Int) k w n s (b:Int) H (((powN mst b i:Nat):Int),(i:Int))=some (.next (((powN mst b (i+1):Nat):Int),((i+1:Nat):Int))):=by
    unfold z12
    have hz':¬(((tim mst (powN mst b i) b:Nat):Int)=0):=fun h=>hz (by show tim mst (powN mst b i) b=0; omega)
    simp only [if_pos (show (i:Int)<(fr:Int) by omega),ht,Option.bind_some,if_neg hz']
    rw [zi (n:=fr) (by omega) (by omega)]
    rfl
   rw [zl hb]
   exact hv
end
end Go.Proofs.YtccbilfbhecdaaaDoor
namespace Go.Proofs.YtccbilfbhecdaaaDoor
open Go Go.Abs
set_option maxRecDepth 100000
structure CtC (m:Nat) (H0:AH) (q p:Addr) (id3 idk mst:Nat) (s1 s2 s3:Sl3) (g:Sg):Prop where
 good:GoodG g
 nest:¬NestP g
 book:Book H0 p s1 s2 s3 g
 sig:SigA H0 s1 s2 s3 g
 lean:LeanT g H0 id3
 low:H0.next≤idk
 ne:q.block≠idk
 own:m≤idk
 one:1≤mst
 top:mst≤maxN
section
variable {m:Nat} {H0 H:AH} {q p:Addr} {id3 idk mst:Nat} {s1 s2 s3:Sl3} {g:Sg}
def SortP (m:Nat) (H0:AH) (q p:Addr) (id3 idk mst:Nat) (g:Sg) (rec_:Nat→AH→Option Addr→Int→Int→ByteArray→Sl3→Option (Int×AH)) (k w:Int) (n:ByteArray) (s:Sl3) (a:Fo):Prop :=
 ∀H,CntI H0 q p id3 idk mst g H→∃H',rec_ m H (some q) k w n s=some (((cap mst (cS g.datas (Tc g) k w n a):Nat):Int),H')∧CntI H0 q p id3 idk mst g H'∧Fm (fun i=>i=idk) H H'
theorem znr (a:Option Nat):addO (some 0) a=a:=by cases a <;> simp [addO]
theorem zrb (c:Nat) (hC:CtC m H0 q p id3 idk mst s1 s2 s3 g) {rec_:Nat→AH→Option Addr→Int→Int→ByteArray→Sl3→Option (Int×AH)} {l:List Sel} {x11 sl:Sl3} {v5 v34:Int} {n16:ByteArray} (h:SlL SelA 5 H0 sl l) (hrec:∀x∈l,∀s',SlF H0 s' x.a→SortP m H0 q p id3 idk mst g rec_ x.k x.w x.sn s' x.a) :
  ∀(t j:Nat) (v:Option Nat) (H:AH),j+t=l.length→posO v→CntI H0 q p id3 idk mst g H →
   ∃H',loopO (z1j (LCo c) rec_ m q x11 v5 v34 n16 sl) (H,((cap mst v:Nat):Int),(j:Int))=some (.inl (H',((cap mst (mulO v (cC g.datas (Tc g) (l.drop j))):Nat):Int),(l.length:Int)))∧CntI H0 q p id3 idk mst g H'∧Fm (fun i=>i=idk) H H':=by
 have hln:=h.n
 intro t
 induction t with
 | zero =>
  intro j v H hj hv hI
  obtain rfl:j=l.length:=by omega
  refine ⟨H,zy ?_,hI,Fm.refl _ _⟩
  unfold z1j
  simp only [if_neg (show ¬((l.length:Int)<(sl.n:Int)) by omega)]
  rw [List.drop_length]
  have:mulO v (cC g.datas (Tc g) [])=v:=by cases v <;> simp [cC,mulO]
  rw [this]
 | succ t ih =>
  intro j v H hj hv hI
  have hjl:j<l.length:=by omega
  obtain ⟨q',g1,g2⟩:=h.get hjl (v:=(j:Int)) rfl
  obtain ⟨z,e1,e2,e3,e4,e5,e6⟩:=g2.ex
  have r0:rd deS H (q'.add 0)=some l[j].n:=by rw [(g2.n.ext hI.x).rd]; rfl
  have r1:rd (deI .i64) H (q'.add 1)=some l[j].k:=by rw [(e1.ext hI.x).rd]; rfl
  have r2:rd (deI .i64) H (q'.add 2)=some l[j].w:=by rw [(e2.ext hI.x).rd]; rfl
  have r3:rd deS H (q'.add 3)=some l[j].sn:=by rw [(e3.ext hI.x).rd]; rfl
  have r4:rd deSl H (q'.add 4)=some z:=by rw [(e4.ext hI.x).rd]; rfl
  obtain ⟨H1,a1,a2,a3⟩:=hrec _ (List.getElem_mem hjl) z e6 H hI
  have hx:=cS_pos (ds:=g.datas) (Tc_pos hC.good) l[j].k l[j].w l[j].sn l[j].a
  have ht:=zbz (H:=H1) (q:=q) c a2.c1 hC.top (cap mst v) (cap mst (cS g.datas (Tc g) l[j].k l[j].w l[j].sn l[j].a))
  rw [zln hv hx] at ht
  obtain ⟨H2,b1,b2,b3⟩:=ih (j+1) (mulO v (cS g.datas (Tc g) l[j].k l[j].w l[j].sn l[j].a)) H1 (by omega) (zqm hv hx) a2
  refine ⟨H2,?_,b2,a3.comp b3 fun _ _ h=>h⟩
  have hbody:z1j (LCo c) rec_ m q x11 v5 v34 n16 sl (H,((cap mst v:Nat):Int),(j:Int))=some (.next (H1,((cap mst (mulO v (cS g.datas (Tc g) l[j].k l[j].w l[j].sn l[j].a)):Nat):Int),((j+1:Nat):Int))):=by
   unfold z1j
   simp only [if_pos (show (j:Int)<(sl.n:Int) by omega),g1,Option.bind_some,r0,r1,r2,r3,r4,a1,ht]
   rw [zi hjl h.len]
  rw [zl hbody,b1,List.drop_eq_getElem_cons hjl,zni]
  rfl
theorem zqx (c:Nat) (hC:CtC m H0 q p id3 idk mst s1 s2 s3 g) {rec_:Nat→AH→Option Addr→Int→Int→ByteArray→Sl3→Option (Int×AH)} {l:List Con} {sc:Sl3} (h:SlL ConA 2 H0 sc l) (hrec:∀d∈l,∀x∈d.sels,∀s',SlF H0 s' x.a→SortP m H0 q p id3 idk mst g rec_ x.k x.w x.sn s' x.a) :
  ∀(t j s:Nat) (H:AH),j+t=l.length→s≤mst→CntI H0 q p id3 idk mst g H →
   ∃H',CntI H0 q p id3 idk mst g H'∧Fm (fun i=>i=idk) H H' ∧
    ((∃v,addO (some s) (cD g.datas (Tc g) (l.drop j))=some v∧v≤mst∧loopO (zq (LCo c) rec_ m q sc) (H,(s:Int),(j:Int))=some (.inl (H',(v:Int),(l.length:Int)))) ∨
     (cap mst (addO (some s) (cD g.datas (Tc g) (l.drop j)))=0∧loopO (zq (LCo c) rec_ m q sc) (H,(s:Int),(j:Int))=some (.inr (0,H')))):=by
 have hln:=h.n
 have hN:=z1r
 have hone:=hC.one
 have htop:=hC.top
 intro t
 induction t with
 | zero =>
  intro j s H hj hs hI
  obtain rfl:j=l.length:=by omega
  refine ⟨H,hI,Fm.refl _ _,.inl ⟨s,?_,hs,zy ?_⟩⟩
  ·rw [List.drop_length]; simp [cD,addO]
  ·unfold zq
   simp only [if_neg (show ¬((l.length:Int)<(sc.n:Int)) by omega)]
 | succ t ih =>
  intro j s H hj hs hI
  have hjl:j<l.length:=by omega
  obtain ⟨q',g1,g2⟩:=h.get hjl (v:=(j:Int)) rfl
  obtain ⟨z,e1,e2⟩:=g2.ex
  have r0:rd deS H (q'.add 0)=some l[j].n:=by rw [(g2.n.ext hI.x).rd]; rfl
  have r1:rd deSl H (q'.add 1)=some z:=by rw [(e1.ext hI.x).rd]; rfl
  obtain ⟨H1,a1,a2,a3⟩:=zrb c hC (x11:=sc) (v5:=(s:Int)) (v34:=(j:Int)) (n16:=l[j].n) e2 (hrec _ (List.getElem_mem hjl)) l[j].sels.length 0 (some 1) H (by omega) (fun v h=>by cases h; omega) hI
  rw [List.drop_zero,zph,z1x hone] at a1
  have a1':(LCo c).run (z1j (LCo c) rec_ m q sc (s:Int) (j:Int) l[j].n z) (H,1,0)=_:=a1
  have rm:rd (deI .i64) H1 (q.add 1)=some (mst:Int):=by rw [a2.c1.rd]; rfl
  have hpos:=cC_pos (ds:=g.datas) (Tc_pos hC.good) l[j].sels
  have htot:addO (some s) (cD g.datas (Tc g) (l.drop j))=addO (addO (some s) (cC g.datas (Tc g) l[j].sels)) (cD g.datas (Tc g) (l.drop (j+1))):=by
   rw [List.drop_eq_getElem_cons hjl,zcg]; rfl
  have hle:=cap_le mst (cC g.datas (Tc g) l[j].sels)
  have stop:(cap mst (cC g.datas (Tc g) l[j].sels)=0∨mst - cap mst (cC g.datas (Tc g) l[j].sels)<s)→cap mst (addO (some s) (cD g.datas (Tc g) (l.drop j)))=0∧loopO (zq (LCo c) rec_ m q sc) (H,(s:Int),(j:Int))=some (.inr (0,H1)):=fun hst=>by
   constructor
   ·rw [htot]
    cases hcc:cC g.datas (Tc g) l[j].sels with
    | none=>cases cD g.datas (Tc g) (l.drop (j+1)) <;> rfl
    | some u =>
     have hu:=hpos u hcc
     cases hcd:cD g.datas (Tc g) (l.drop (j+1)) with
     | none=>rfl
     | some w =>
      show cap mst (some (s+u+w))=0
      refine cap_no fun hle2=>?_
      rw [hcc] at hst
      rw [z1x (by omega)] at hst
      omega
   ·refine z45 ?_
    unfold zq
    simp only [if_pos (show (j:Int)<(sc.n:Int) by omega),g1,Option.bind_some,r0,r1,a1']
    generalize cap mst (cC g.datas (Tc g) l[j].sels)=u at hst hle
    have hcond:(if (u:Int)=0 then some true else Option.bind (rd (deI .i64) H1 (q.add 1)) fun x29=>some (decide ((s:Int) > IntKind.i64.wrap (x29 - (u:Int)))))=some true:=by
     by_cases hu:u=0
     ·subst hu; rfl
     ·rw [if_neg (by omega),rm]
      simp only [Option.bind_some]
      rw [z3p (by omega) (by omega),decide_eq_true (by omega)]
    rw [hcond]
    rfl
  by_cases hst:cap mst (cC g.datas (Tc g) l[j].sels)=0∨mst - cap mst (cC g.datas (Tc g) l[j].sels)<s
  ·exact ⟨H1,a2,a3,.inr (stop hst)⟩
  ·obtain ⟨u,hcc,hum⟩:∃u,cC g.datas (Tc g) l[j].sels=some u∧u≤mst:=by
    cases hcc:cC g.datas (Tc g) l[j].sels with
    | none=>rw [hcc] at hst; exact absurd (.inl rfl) hst
    | some u =>
     refine ⟨u,rfl,?_⟩
     rw [hcc] at hst
     rcases Nat.lt_or_ge mst u with h' | h'
     ·exact absurd (.inl (cap_no (by omega))) hst
     ·exact h'
   rw [hcc,z1x hum] at hst
   rw [hcc,z1x hum] at a1'
   obtain ⟨H2,b1,b2,b3⟩:=ih (j+1) (s+u) H1 (by omega) (by omega) a2
   have hbody:zq (LCo c) rec_ m q sc (H,(s:Int),(j:Int))=some (.next (H1,((s+u:Nat):Int),((j+1:Nat):Int))):=by
    unfold zq
    simp only [if_pos (show (j:Int)<(sc.n:Int) by omega),g1,Option.bind_some,r0,r1,a1']
    have hcond:(if (u:Int)=0 then some true else Option.bind (rd (deI .i64) H1 (q.add 1)) fun x29=>some (decide ((s:Int) > IntKind.i64.wrap (x29 - (u:Int)))))=some false:=by
     rw [if_neg (by omega),rm]
     simp only [Option.bind_some]
     rw [z3p (by omega) (by omega),decide_eq_false (by omega)]
    rw [hcond]
    simp only [Option.bind_some,Bool.false_eq_true,if_false]
    rw [zi hjl h.len,← Int.natCast_add,z3p (by omega) (by omega)]
   rw [zl hbody,htot,hcc]
   exact ⟨H2,b1,a3.comp b2 fun _ _ h=>h,b3⟩
theorem zqb (c:Nat) (hC:CtC m H0 q p id3 idk mst s1 s2 s3 g) {rec_:Nat→AH→Option Addr→Int→Int→ByteArray→Sl3→Option (Int×AH)} {i:Nat} (hi:i<g.datas.length) (hrec:¬Lean1 g i i→∀d∈(g.datas[i]).cons,∀x∈d.sels,∀s',SlF H0 s' x.a→SortP m H0 q p id3 idk mst g rec_ x.k x.w x.sn s' x.a) (hI:CntI H0 q p id3 idk mst g H) :
  ∃H',z2j (LCo c) rec_ m H (some q) (i:Int)=some (((cap mst (Tc g i):Nat):Int),H')∧CntI H0 q p id3 idk mst g H'∧Fm (fun i=>i=idk) H H':=by
 obtain ⟨row,k1,k2⟩:=hC.lean i hi
 obtain ⟨q',b,k3,k4,k5⟩:=k2 i hi
 have r2:rd deSl H (q.add 2)=some ⟨some ⟨id3,0,none⟩,g.datas.length,g.datas.length⟩:=by rw [hI.c2.rd]; rfl
 have r3:rd deSl H ((⟨id3,0,none⟩:Addr).add (i*1))=some row:=by rw [(k1.ext hI.x).rd]; rfl
 have r4:rd deB H q'=some b:=by rw [(k4.ext hI.x).rd]; rfl
 unfold z2j
 simp only [Option.bind_some,r2,z5c hi rfl,r3,k3,r4]
 cases b with
 | true =>
  simp only [if_true]
  rw [Tc_cyc hC.good hC.nest (k5.1 rfl)]
  exact ⟨H,rfl,hI,Fm.refl _ _⟩
 | false =>
  have hnc:¬Lean1 g i i:=fun h=>absurd (k5.2 h) (by simp)
  have r0:rd deP H (q.add 0)=some (some p):=by rw [hI.c0.rd]; rfl
  have hadd:∀j,(p.add 0).add j=p.add (0+j):=fun j=>add2 hC.book.c1 0 j
  have r1:rd deSl H ((p.add 0).add 1)=some s2:=by rw [hadd,(hC.book.c2.ext hI.x).rd]; rfl
  obtain ⟨qk,gk1,gk2⟩:=hC.sig.d.get hi (v:=(i:Int)) rfl
  obtain ⟨sc,gk3,hc⟩:=gk2.ex
  have r5:rd deSl H (qk.add 1)=some sc:=by rw [(gk3.ext hI.x).rd]; rfl
  obtain ⟨H',b1,b2,b3⟩:=zqx c hC hc (hrec hnc) (g.datas[i]).cons.length 0 0 H (by omega) (Nat.zero_le _) hI
  rw [List.drop_zero,znr,← Tc_fix hi] at b3
  refine ⟨H',?_,b1,b2⟩
  simp only [Bool.false_eq_true,if_false,r0,Option.bind_some,r1,gk1,r5]
  show Option.bind (loopO (zq (LCo c) rec_ m q sc) (H,((0:Nat):Int),((0:Nat):Int))) _=_
  rcases b3 with ⟨v,c1,c2,c3⟩ | ⟨c1,c3⟩
  ·rw [c3,c1,z1x c2]; rfl
  ·rw [c3,c1]; rfl
end
end Go.Proofs.YtccbilfbhecdaaaDoor
namespace Go.Proofs.YtccbilfbhecdaaaDoor
open Go Go.Abs
set_option maxRecDepth 100000
section
variable {m:Nat} {H0 H:AH} {q p:Addr} {id3 idk mst:Nat} {s1 s2 s3:Sl3} {g:Sg}
theorem CntI.known (hC:CtC m H0 q p id3 idk mst s1 s2 s3 g) (hI:CntI H0 q p id3 idk mst g H) {H':AH} (hf:Fm (fun i=>i=idk) H H') {F:Nat→Option Value} (hM:MapA keyN H' idk F) (hF:∀i v,F i=some v→v=.int .i64 ((cap mst (Tc g i):Nat):Int)):CntI H0 q p id3 idk mst g H':=by
 have hlow:=hC.low
 refine ⟨hI.x.comp hf fun id hid _ h=>by omega,hI.c0.fr hf ?_,hI.c1.fr hf ?_,hI.c2.fr hf ?_,hI.c3.fr hf ?_,F,hM,hF⟩ <;> (rw [z1u]; exact hC.ne)
theorem zil (c:Nat) (hC:CtC m H0 q p id3 idk mst s1 s2 s3 g):∀(R d F:Nat) (k w:Int) (n:ByteArray) (s:Sl3) (a:Fo),SlF H0 s a→shS k w n a=true→knS g.users g.datas k n a=true→a.dep≤15→a.dep<d→(∀i∈dtS g.datas k n a,rk g i<R)→40*R+2*a.dep+1≤F →
  SortP m H0 q p id3 idk mst g (zj (LCo c) F).1 k w n s a:=by
 have hN:=z1r
 have hone:=hC.one
 have htop:=hC.top
 intro R
 induction R using Nat.strongRecOn with
 | ind R ihR =>
  intro d
  induction d with
  | zero=>intro F k w n s a _ _ _ _ h; omega
  | succ d ihd =>
   intro F k w n s a h hsh hkn hdp hd hrk hF H hI
   obtain ⟨F,rfl⟩:∃f,F=f+1:=⟨F - 1,by omega⟩
   have hx:=hI.x
   have rq:∀{G:AH},CntI H0 q p id3 idk mst g G→rd (deI .i64) G (q.add 1)=some (mst:Int):=fun hG=>by rw [hG.c1.rd]; rfl
   show ∃H',z2k (LCo c) (zj (LCo c) F).1 (zj (LCo c) F).2.1 (zj (LCo c) F).2.2 m H (some q) k w n s=_∧_
   unfold z2k
   have fin:∀(G:AH) (v:Nat),CntI H0 q p id3 idk mst g G→(Option.bind (some q) fun q31=>Option.bind (rd (deI .i64) G (Addr.add q31 1)) fun x32=>if (v:Int) > x32 then some ((0:Int),G) else some ((v:Int),G))=some (((cap mst (some v):Nat):Int),G):=fun G v hG=>by
    simp only [Option.bind_some,rq hG]
    by_cases hv:v≤mst
    ·rw [if_neg (by omega),z1x hv]
    ·rw [if_pos (by omega),cap_no hv]; rfl
   by_cases h1:k=1
   ·rw [if_pos h1]
    refine ⟨H,?_,hI,Fm.refl _ _⟩
    have e:cS g.datas (Tc g) k w n a=some 2:=by unfold cS one_; rw [if_pos h1]
    rw [e]
    exact fin H 2 hI
   rw [if_neg h1]
   by_cases h3:k=3
   ·have hw:1≤w∧w≤4096:=by
     rcases z6x hsh with ⟨_,h'⟩ | ⟨h',_⟩
     ·omega
     ·omega
    obtain ⟨wn,rfl⟩:∃wn:Nat,w=(wn:Int):=⟨w.toNat,by omega⟩
    rw [if_pos h3]
    have hl:=zot c hI.c1 htop (k:=k) (n:=n) (s:=s) (w:=wn) (by omega) wn 0 (by omega)
    have hl':(LCo c).run (z1k (LCo c) H (some q) k (wn:Int) n s) (1,0)=_:=hl
    refine ⟨H,?_,hI,Fm.refl _ _⟩
    have e:cS g.datas (Tc g) k wn n a=some (2 ^ wn):=by
     unfold cS one_; rw [if_neg h1,if_pos h3]; simp
    rw [hl',e,zj7 hone]
    have:=fin H (cap mst (some (2 ^ wn))) hI
    rw [z1x (cap_le _ _)] at this
    exact this
   rw [if_neg h3]
   by_cases h4:k=4
   ·rw [if_pos h4]
    rcases z6x hsh with ⟨_,h'⟩ | ⟨_,k1,w1,n1,a1,k2,w2,n2,a2,rfl,hs1,hs2⟩
    ·omega
    ·unfold knS at hkn
     rw [if_neg (by omega),if_neg (by omega)] at hkn
     simp only [knF,Bool.and_eq_true] at hkn
     have hn2:s.n=2:=h.1
     have rd0:=fun (G:AH) (hG:Ext H0 G)=>(h.2.2.ext hG).rd (s:=s) (by omega)
     obtain ⟨qa,ta,qa1,qa2,qa3,qa4,qa5,qa6,qa7,_⟩:=rd0 H hx
     obtain ⟨qz,tz,qz1,_,_,_,_,qz6,_,qz8⟩:=rd0 H0 (Fm.refl _ _)
     obtain ⟨_,_,_,_,_,_,qaS,_,_,_⟩:=rd0 H hx
     simp only [Fo.dep] at hdp hd hF
     have first:∃q0 t0,SlF H0 t0 a1∧∀G,Ext H0 G→idxA 4 s 0=some q0∧rd (deI .i64) G (q0.add 0)=some k1∧rd (deI .i64) G (q0.add 1)=some w1∧rd deS G (q0.add 2)=some n1∧rd deSl G (q0.add 3)=some t0:=by
      obtain ⟨⟨qq,ss,z1,z2,z3,z4,z5⟩,_⟩:=h.2.2
      refine ⟨qq.add (0*4),ss,⟨z3,z4,z5⟩,fun G hG=>⟨z46 z1 rfl (by omega),?_,?_,?_,?_⟩⟩
      ·rw [(z2.ck.ext hG).rd]; rfl
      ·rw [(z2.cw.ext hG).rd]; rfl
      ·rw [(z2.cn.ext hG).rd]; rfl
      ·rw [(z2.cs.ext hG).rd]; rfl
     have second:∃q0 t0,SlF H0 t0 a2∧∀G,Ext H0 G→idxA 4 s 1=some q0∧rd (deI .i64) G (q0.add 0)=some k2∧rd (deI .i64) G (q0.add 1)=some w2∧rd deS G (q0.add 2)=some n2∧rd deSl G (q0.add 3)=some t0:=by
      obtain ⟨_,⟨qq,ss,z1,z2,z3,z4,z5⟩,_⟩:=h.2.2
      refine ⟨qq.add ((0+1)*4),ss,⟨z3,z4,z5⟩,fun G hG=>⟨z46 z1 rfl (by omega),?_,?_,?_,?_⟩⟩
      ·rw [(z2.ck.ext hG).rd]; rfl
      ·rw [(z2.cw.ext hG).rd]; rfl
      ·rw [(z2.cn.ext hG).rd]; rfl
      ·rw [(z2.cs.ext hG).rd]; rfl
     obtain ⟨q0,t0,f1,f2⟩:=first
     obtain ⟨q2,t2,g1,g2⟩:=second
     have hdt:∀i,i∈dtS g.datas k1 n1 a1∨i∈dtS g.datas k2 n2 a2→i∈dtS g.datas k n (.cons k1 w1 n1 a1 (.cons k2 w2 n2 a2 .nil)):=fun i hi=>by
      unfold dtS at hi ⊢
      rw [if_neg (by omega)]
      simp only [dtF,List.append_nil,List.mem_append]
      exact hi
     obtain ⟨u0,u1,u2,u3,u4⟩:=f2 H hx
     obtain ⟨H1,b1,b2,b3⟩:=ihd F k1 w1 n1 t0 a1 f1 hs1 (by unfold knS; exact hkn.1) (by omega) (by omega) (fun i hi=>hrk i (hdt i (.inl hi))) (by omega) H hI
     obtain ⟨v0,v1,v2,v3,v4⟩:=g2 H1 b2.x
     obtain ⟨_,y1,y2,y3,y4⟩:=g2 H hx
     obtain ⟨F,rfl⟩:∃f,F=f+1:=⟨F - 1,by omega⟩
     obtain ⟨H2,d1,d2,d3⟩:=ihd F k2 w2 n2 t2 a2 g1 hs2 (by unfold knS; exact hkn.2.1) (by omega) (by omega) (fun i hi=>hrk i (hdt i (.inr hi))) (by omega) H1 b2
     have px:=cS_pos (ds:=g.datas) (Tc_pos hC.good) k1 w1 n1 a1
     have py:=cS_pos (ds:=g.datas) (Tc_pos hC.good) k2 w2 n2 a2
     have hac:=zr7 hone px py
     have e:cS g.datas (Tc g) k w n (.cons k1 w1 n1 a1 (.cons k2 w2 n2 a2 .nil))=arrO (cS g.datas (Tc g) k1 w1 n1 a1) (cS g.datas (Tc g) k2 w2 n2 a2):=by
      unfold cS one_
      rw [if_neg h1,if_neg h3,if_pos h4]
      rfl
     rw [e,← hac]
     have hxle:=cap_le mst (cS g.datas (Tc g) k1 w1 n1 a1)
     have harr:(zj (LCo c) (F+1)).2.1 m H1 (some q) ((cap mst (cS g.datas (Tc g) k1 w1 n1 a1):Nat):Int) k2 w2 n2 t2=some (((if cap mst (cS g.datas (Tc g) k2 w2 n2 a2)=1 then 1 else if cap mst (cS g.datas (Tc g) k1 w1 n1 a1)=0 then 0 else powN mst (cap mst (cS g.datas (Tc g) k2 w2 n2 a2)) (cap mst (cS g.datas (Tc g) k1 w1 n1 a1)):Nat):Int),H2):=by
      show z22 (LCo c) (zj (LCo c) F).1 m H1 (some q) ((cap mst (cS g.datas (Tc g) k1 w1 n1 a1):Nat):Int) k2 w2 n2 t2=_
      unfold z22
      rw [d1]
      simp only [Option.bind_some]
      generalize cap mst (cS g.datas (Tc g) k2 w2 n2 a2)=bs
      generalize cap mst (cS g.datas (Tc g) k1 w1 n1 a1)=fr at hxle
      by_cases hb1:bs=1
      ·rw [if_pos (by omega),if_pos hb1]; rfl
      ·rw [if_neg (by omega),if_neg hb1]
       by_cases hf0:fr=0
       ·rw [if_pos (by omega),if_pos hf0]; rfl
       ·rw [if_neg (by omega),if_neg hf0]
        obtain ⟨v,hv⟩:=zn9 c d2.c1 htop (H:=H2) (k:=k2) (w:=w2) (n:=n2) (s:=t2) (b:=bs) hxle fr 0 (by omega)
        have hv':(LCo c).run (z12 (LCo c) (some q) (fr:Int) k2 w2 n2 t2 (bs:Int) H2) (1,0)=_:=hv
        rw [hv']
        rfl
     refine ⟨H2,?_,d2,b3.comp d3 fun _ _ h=>h⟩
     simp only [u0,u1,u2,u3,u4,Option.bind_some,b1,v0,v1,v2,v3,v4,harr,y1,y2,y3,y4,if_true,Option.map_some]
   rw [if_neg h4]
   by_cases h6:k=6
   ·rw [if_pos h6]
    subst h6
    have hk:=hkn
    unfold knS at hk
    rw [if_neg (by omega),if_pos rfl] at hk
    have hlt:=ix_lt hk
    have hri:rk g (ixS g.datas n)<R:=hrk _ (by unfold dtS; rw [if_pos rfl]; simp)
    obtain ⟨idb,r1,r2⟩:=ze3 (hC.book.ext hx) n
    have r0:rd deP H (q.add 0)=some (some p):=by rw [hI.c0.rd]; rfl
    have rmap:∀{G:AH},CntI H0 q p id3 idk mst g G→rd deM G (q.add 3)=some (some idk):=fun hG=>by rw [hG.c3.rd]; rfl
    obtain ⟨Fk,hM,hFk⟩:=hI.kn
    have hlk:=zc2 natK und115 zero3 rfl hM (ixS g.datas n) (deI .i64)
    have hlk':lkM Tryd.prog 115 (deI .i64) H (some idk) (Value.int .i64 ((ixS g.datas n:Nat):Int))=_:=hlk
    have e:cS g.datas (Tc g) 6 w n a=Tc g (ixS g.datas n):=by
     unfold cS one_
     rw [if_neg (by omega),if_neg (by omega),if_neg (by omega),if_pos rfl]
    have capcap:cap mst (some (cap mst (Tc g (ixS g.datas n))))=cap mst (Tc g (ixS g.datas n)):=z1x (cap_le _ _)
    rw [e]
    cases hq:Fk (ixS g.datas n) with
    | some v =>
     have hv:=hFk _ _ hq
     subst hv
     rw [hq] at hlk'
     have hlk2:lkM Tryd.prog 115 (deI .i64) H (some idk) (Value.int .i64 ((ixS g.datas n:Nat):Int))=some (((cap mst (Tc g (ixS g.datas n)):Nat):Int),true):=hlk'
     refine ⟨H,?_,hI,Fm.refl _ _⟩
     simp only [Option.bind_some,r0,r1,r2,rmap hI,hlk2,if_true]
     have:=fin H (cap mst (Tc g (ixS g.datas n))) hI
     rw [capcap] at this
     exact this
    | none =>
     rw [hq] at hlk'
     have hlk2:lkM Tryd.prog 115 (deI .i64) H (some idk) (Value.int .i64 ((ixS g.datas n:Nat):Int))=some ((0:Int),false):=hlk'
     obtain ⟨F,rfl⟩:∃f,F=f+1:=⟨F - 1,by omega⟩
     obtain ⟨H1,b1,b2,b3⟩:=zqb c hC hlt (rec_:=(zj (LCo c) F).1) (fun hnc d hd x hx s' hs'=>by
      have hs:=hC.good.sel _ (List.getElem_mem hlt) d hd x hx
      refine ihR (rk g (ixS g.datas n)) hri 16 F x.k x.w x.sn s' x.a hs' hs.sh hs.kn hs.dp (by have:=hs.dp; omega) (fun i hi=>rk_lt hC.good hnc ⟨hlt,?_⟩) (by have:=hs.dp; omega)
      unfold stD stC
      simp only [List.mem_flatMap]
      exact ⟨d,hd,x,hx,hi⟩) hI
     have b1':(zj (LCo c) (F+1)).2.2 m H (some q) ((ixS g.datas n:Nat):Int)=some (((cap mst (Tc g (ixS g.datas n)):Nat):Int),H1):=b1
     obtain ⟨F2,hM2,hF2⟩:=b2.kn
     obtain ⟨H2,c1,c2,c3,c4⟩:=z99 natK und115 hM2 hC.own (ixS g.datas n) (.int .i64 ((cap mst (Tc g (ixS g.datas n)):Nat):Int))
     have c1':upM Tryd.prog m 115 H1 (some idk) (Value.int .i64 ((ixS g.datas n:Nat):Int)) (Value.int .i64 ((cap mst (Tc g (ixS g.datas n)):Nat):Int))=some H2:=c1
     have hI2:CntI H0 q p id3 idk mst g H2:=CntI.known hC b2 c3 c2 fun i v hv=>by
      split at hv
      ·rename_i e; subst e; cases hv; rfl
      ·exact hF2 i v hv
     refine ⟨H2,?_,hI2,b3.comp c3 fun _ _ h=>h⟩
     simp only [Option.bind_some,r0,r1,r2,rmap hI,hlk2,Bool.false_eq_true,if_false,b1',rmap b2,c1']
     have:=fin H2 (cap mst (Tc g (ixS g.datas n))) hI2
     rw [capcap] at this
     exact this
   ·rw [if_neg h6]
    refine ⟨H,?_,hI,Fm.refl _ _⟩
    have e:cS g.datas (Tc g) k w n a=none:=by
     unfold cS one_; rw [if_neg h1,if_neg h3,if_neg h4,if_neg h6]
    rw [e]
    have:=fin H 0 hI
    rw [z1x (Nat.zero_le _)] at this
    exact this
end
end Go.Proofs.YtccbilfbhecdaaaDoor
namespace Go.Proofs.YtccbilfbhecdaaaDoor
open Go Go.Abs
set_option maxRecDepth 100000
theorem zof (g:Sg) (k w:Int) (n:ByteArray) (a:Fo):checkS g k w n a=0∨checkS g k w n a=3∨checkS g k w n a=40:=by
 unfold checkS wrongS
 split <;> split <;> simp_all
 split at*<;> simp_all
theorem zh3 (g:Sg):allS g=0∨allS g=3∨allS g=40:=by
 unfold allS
 cases hq:(sortsE g).findSome? (errS g) with
 | none=>exact .inl rfl
 | some e =>
  obtain ⟨y,hy,hye⟩:=List.exists_of_findSome?_eq_some hq
  rw [(err_ok hye).1]
  exact zof g _ _ _ _
theorem zdw (g:Sg):namesS g=0∨namesS g=42∨namesS g=41:=by
 unfold namesS
 split
 ·simp
 ·split <;> simp
theorem zbu {g:Sg} (h:sigS g=0∨sigS g=43):GoodG g:=by
 classical
 unfold sigS at h
 by_cases h1:manyS g=true
 ·rw [if_pos h1] at h; omega
 ·rw [if_neg h1] at h
  by_cases h2:namesS g≠0
  ·rw [if_pos h2] at h
   have:=zdw g
   omega
  ·rw [if_neg h2] at h
   by_cases h3:allS g≠0
   ·rw [if_pos h3] at h
    have:=zh3 g
    omega
   ·exact ze2 (by simpa using h1) (by simpa using h3)
section
variable {H:AH} {s1 s2 s3:Sl3} {g:Sg} {L0 fuel:Nat}
end
end Go.Proofs.YtccbilfbhecdaaaDoor
namespace Go.Proofs.YtccbilfbhecdaaaDoor
open Go Go.Abs
set_option maxRecDepth 100000
theorem sig_ok {g:Sg} (h:sigS g=0):GoodG g∧¬NestP g∧∀k,k<g.datas.length→Gd g k:=by
 classical
 refine ⟨zbu (.inl h),fun hn=>?_,?_⟩
 ·unfold sigS at h
  split at h
  ·omega
  ·split at h
   ·exact absurd h (by assumption)
   ·split at h
    ·exact absurd h (by assumption)
    ·omega
 ·unfold sigS at h
  split at h
  ·omega
  ·split at h
   ·exact absurd h (by assumption)
   ·split at h
    ·exact absurd h (by assumption)
    ·split at h
     ·omega
     ·split at h
      ·assumption
      ·omega
theorem zf3 {g:Sg} {k w:Int} {n:ByteArray} {a:Fo} (h:checkS g k w n a=0):shS k w n a=true∧a.dep≤15∧a.size≤255∧knS g.users g.datas k n a=true:=by
 unfold checkS at h
 split at h
 ·rename_i hw
  obtain ⟨z1,z2,z3⟩:=zg6 hw
  split at h
  ·rename_i hk
   exact ⟨z1,by omega,by omega,hk⟩
  ·cases h
 ·rename_i hw
  exact absurd h hw
section
variable {m:Nat} {H0 H:AH} {s1 s2 s3:Sl3} {g:Sg} {L0 fuel mst:Nat}
theorem zct (hF:L0=fuel+1) (hfu:15≤fuel) (hG:GoodG g) (hN:¬NestP g) (hS:SigA H s1 s2 s3 g) (hm:m≤H.next) (h1:1≤mst) (hmst:mst≤maxN) :
  ∃q p id3 idk H4 H',z3z (LCo L0) m H s1 s2 s3 (mst:Int)=some (some q,H')∧Ext H H'∧Ext H H4∧CtC m H4 q p id3 idk mst s1 s2 s3 g∧CntI H4 q p id3 idk mst g H'∧H.next≤idk∧q.block<H'.next∧idk<H'.next:=by
 obtain ⟨p,H2,p1,p2,p3,p4,p5⟩:=zag L0 m hS hm
 obtain ⟨id3,H4,l1,l2,l3⟩:=zft hF hfu hG (hS.ext p2) p3 (Nat.le_trans hm p2.1)
 have x4:=p2.trans l2
 have x6:Ext H4 (H4.push mapB):=Fm.push _ _ _
 have M6:MapA keyN (H4.push mapB) H4.next fun _=>none:=MapA.new keyN
 have n6:(H4.push mapB).next=H4.next+1:=by simp
 generalize hH6:H4.push mapB=H6 at x6 M6 n6
 have x8:Ext H6 (H6.push (pubB 117 [.pointer (some p),.int .i64 (mst:Int),Sl3.v ⟨some ⟨id3,0,none⟩,g.datas.length,g.datas.length⟩,.map (some H4.next)])):=Fm.push _ _ _
 have cel:∀(i:Nat) (v:Value),[.pointer (some p),.int .i64 (mst:Int),Sl3.v ⟨some ⟨id3,0,none⟩,g.datas.length,g.datas.length⟩,.map (some H4.next)][i]? = some v→Cel (H6.push (pubB 117 [.pointer (some p),.int .i64 (mst:Int),Sl3.v ⟨some ⟨id3,0,none⟩,g.datas.length,g.datas.length⟩,.map (some H4.next)])) ((⟨H6.next,0,none⟩:Addr).add i) v:=fun i v hv=>by
  rw [z3i]
  have:(⟨H6.next,0+i,none⟩:Addr)=⟨H6.next,i,none⟩:=by rw [Nat.zero_add]
  rw [this]
  exact Cel.push (c:=[.pointer (some p),.int .i64 (mst:Int),Sl3.v ⟨some ⟨id3,0,none⟩,g.datas.length,g.datas.length⟩,.map (some H4.next)].toArray) rfl (by simpa using hv)
 have n8:(H6.push (pubB 117 [.pointer (some p),.int .i64 (mst:Int),Sl3.v ⟨some ⟨id3,0,none⟩,g.datas.length,g.datas.length⟩,.map (some H4.next)])).next=H6.next+1:=by simp
 generalize hH8:H6.push (pubB 117 [.pointer (some p),.int .i64 (mst:Int),Sl3.v ⟨some ⟨id3,0,none⟩,g.datas.length,g.datas.length⟩,.map (some H4.next)])=H8 at x8 cel n8
 have x48:=x6.trans x8
 have:=x4.1
 refine ⟨⟨H6.next,0,none⟩,p,id3,H4.next,H4,H8,?_,x4.trans x48,x4,⟨hG,hN,p3.ext l2,hS.ext x4,l3,Nat.le_refl _,?_,by omega,h1,hmst⟩,⟨x48,cel 0 _ rfl,cel 1 _ rfl,cel 2 _ rfl,cel 3 _ rfl,_,M6.fr x8 (by omega) fun h=>h,fun i v hv=>by cases hv⟩,by omega,?_,by omega⟩
 ·unfold z3z newM newB
  rw [p1]
  simp only [Option.bind_some,l1]
  rw [hH6]
  simp only [hH8]
 ·show H6.next≠H4.next; omega
 ·show H6.next<H8.next; omega
noncomputable def countS (g:Sg) (k w:Int) (n:ByteArray) (a:Fo) (most:Int):Nat:=if most<1∨sigS g≠0∨checkS g k w n a≠0 then 0 else cap most.toNat (cS g.datas (Tc g) k w n a)
theorem zg3 (hF:L0=fuel+1) (hfu:15≤fuel) (hd:g.dep≤fuel) (hb:SgB g) (hS:SigA H s1 s2 s3 g) (hm:m≤H.next) {k w:Int} {n:ByteArray} {s:Sl3} {a:Fo} (h:SlF H s a) (hn:n.size≤maxS) (hda:a.dep≤fuel) (hfn:40*(g.datas.length+1)+31≤L0) {most:Int} (hmo:most<9223372036854775808) :
  ∃H',z6b (LCo L0) m H k w n s s1 s2 s3 most=some (((countS g k w n a most:Nat):Int),decide (countS g k w n a most > 0),H')∧Ext H H':=by
 have hN:=z1r
 unfold z6b countS
 by_cases h1:most<1
 ·rw [if_pos h1,if_pos (show most<1∨sigS g≠0∨checkS g k w n a≠0 from .inl h1)]
  exact ⟨H,rfl,Fm.refl _ _⟩
 ·rw [if_neg h1]
  obtain ⟨H4,a1,a2⟩:=z5d hF hfu hd hb hS hm
  rw [a1]
  simp only [Option.bind_some]
  by_cases h2:sigS g=0
  ·rw [if_pos h2]
   obtain ⟨H6,b1,b2⟩:=zgk L0 fuel hF (m:=m) (hS.ext a2) (Nat.le_trans hm a2.1) (h.ext a2) hn hda (k:=k) (w:=w)
   rw [b1]
   simp only [Option.bind_some]
   have x6:=a2.trans b2
   by_cases h3:checkS g k w n a=0
   ·rw [if_neg (show ¬(most<1∨sigS g≠0∨checkS g k w n a≠0) by rintro (h | h | h); exact h1 h; exact h h2; exact h h3)]
    rw [decide_eq_true h3]
    simp only [Bool.not_true,Bool.false_eq_true,if_false]
    obtain ⟨hG,hNe,_⟩:=sig_ok h2
    obtain ⟨c1,c2,c3,c4⟩:=zf3 h3
    have m6:=Nat.le_trans hm x6.1
    have hmax:Nat.max m H6.next=H6.next:=Nat.max_eq_right m6
    obtain ⟨mst,rfl⟩:∃mst:Nat,most=(mst:Int):=⟨most.toNat,by omega⟩
    obtain ⟨q,p,id3,idk,H4',H8,e1,e2,e3,e4,e5,e6,_,_⟩:=zct (m:=H6.next) hF hfu hG hNe (hS.ext x6) (Nat.le_refl _) (mst:=mst) (by omega) (by omega)
    have e4':CtC m H4' q p id3 idk mst s1 s2 s3 g:=⟨e4.good,e4.nest,e4.book,e4.sig,e4.lean,e4.low,e4.ne,Nat.le_trans m6 e4.own,e4.one,e4.top⟩
    have x6':=x6.trans e3
    obtain ⟨H10,f1,f2,f3⟩:=zil L0 e4' (g.datas.length+1) 16 L0 k w n s a (h.ext x6') c1 c4 c2 (by omega) (fun i _=>by have:=rk_le g i; omega) (by omega) H8 e5
    have f1':z40 (LCo L0) m H8 (some q) k w n s=_:=f1
    have e7:=e3.1
    have e8:=e2.1
    refine ⟨H10,?_,(x6.trans e2).comp f3 fun id hid _ hw=>by have:=e6; have:=x6.1; omega⟩
    rw [hmax,e1]
    simp only [Option.bind_some,f1',Int.toNat_natCast]
    congr 3
    rw [Bool.eq_iff_iff]
    simp
   ·rw [decide_eq_false h3,if_pos (show most<1∨sigS g≠0∨checkS g k w n a≠0 from .inr (.inr h3))]
    exact ⟨H6,rfl,x6⟩
  ·rw [if_neg h2,if_pos (show most<1∨sigS g≠0∨checkS g k w n a≠0 from .inr (.inl h2))]
   exact ⟨H4,rfl,a2⟩
end
end Go.Proofs.YtccbilfbhecdaaaDoor
namespace Go.Proofs.YtccbilfbhecdaaaDoor
open Go Go.Abs
set_option maxRecDepth 100000
theorem zg4 {α:Type} {xs:List α} {body:AH×Int→Option (Lp (AH×Int) (Bool×AH))} (Inv:AH→Prop) (W:Nat→Prop) (P:α→Bool)
  (step:∀(i:Nat) (hi:i<xs.length) (H:AH),Inv H→∃H',Inv H'∧Fm W H H'∧body (H,(i:Int))=some (if P xs[i]=true then .next (H',((i+1:Nat):Int)) else .ret (false,H')))
  (he:∀H,Inv H→body (H,(xs.length:Int))=some (.brk (H,(xs.length:Int)))) :
  ∀(d i:Nat) (H:AH),i+d=xs.length→Inv H→∃H',Inv H'∧Fm W H H'∧loopO body (H,(i:Int))=some (if (xs.drop i).all P=true then .inl (H',(xs.length:Int)) else .inr (false,H')):=by
 intro d
 induction d with
 | zero =>
  intro i H hi hI
  obtain rfl:i=xs.length:=by omega
  refine ⟨H,hI,Fm.refl _ _,?_⟩
  rw [List.drop_length]
  exact zy (he H hI)
 | succ d ih =>
  intro i H hi hI
  have hlt:i<xs.length:=by omega
  obtain ⟨H1,a1,a2,a3⟩:=step i hlt H hI
  rw [List.drop_eq_getElem_cons hlt,List.all_cons]
  cases hp:P xs[i] with
  | false =>
   rw [hp] at a3
   exact ⟨H1,a1,a2,z45 a3⟩
  | true =>
   rw [hp] at a3
   obtain ⟨H2,b1,b2,b3⟩:=ih (i+1) H1 (by omega) a1
   refine ⟨H2,b1,a2.comp b2 fun _ _ h=>h,?_⟩
   rw [zl (by simpa using a3),Bool.true_and]
   exact b3
theorem zlg {ds:List Dat} {f:Nat→Option Nat}:∀l:List Sel,(cC ds f l).isSome=l.all fun x=>(cS ds f x.k x.w x.sn x.a).isSome
 | []=>rfl
 | x :: l=>by
  show (mulO (cS ds f x.k x.w x.sn x.a) (cC ds f l)).isSome=_
  rw [List.all_cons,← zlg l]
  cases cS ds f x.k x.w x.sn x.a <;> cases cC ds f l <;> rfl
theorem zlk {ds:List Dat} {f:Nat→Option Nat}:∀l:List Con,(cD ds f l).isSome=l.all fun c=>(cC ds f c.sels).isSome
 | []=>rfl
 | c :: l=>by
  show (addO (cC ds f c.sels) (cD ds f l)).isSome=_
  rw [List.all_cons,← zlk l]
  cases cC ds f c.sels <;> cases cD ds f l <;> rfl
section
variable {m:Nat} {H0 H:AH} {q e p:Addr} {id3 idk idm:Nat} {s1 s2 s3:Sl3} {g:Sg} {L0:Nat}
structure CtE (m:Nat) (H0:AH) (q e p:Addr) (id3 idk idm:Nat) (s1 s2 s3:Sl3) (g:Sg) (L0:Nat):Prop where
 c:CtC m H0 q p id3 idk 1 s1 s2 s3 g
 low:H0.next≤idm
 nk:idm≠idk
 qm:q.block≠idm
 ek:e.block≠idk
 em:e.block≠idm
 own:m≤idm
 fu:40*(g.datas.length+1)+31≤L0
structure EndI (H0:AH) (q e p:Addr) (id3 idk idm:Nat) (g:Sg) (H:AH):Prop where
 c:CntI H0 q p id3 idk 1 g H
 e0:Cel H (e.add 0) (.pointer (some q))
 e1:Cel H (e.add 1) (.map (some idm))
 lt:idk<H.next∧idm<H.next
 kn:∃F:Nat→Option Value,MapA keyN H idm F∧∀i v,F i=some v→v=.bool (Tc g i).isSome
theorem EndI.cnt (hE:CtE m H0 q e p id3 idk idm s1 s2 s3 g L0) (hI:EndI H0 q e p id3 idk idm g H) {H':AH} (hc:CntI H0 q p id3 idk 1 g H') (hf:Fm (fun i=>i=idk) H H'):EndI H0 q e p id3 idk idm g H':=by
 obtain ⟨F,h1,h2⟩:=hI.kn
 have:=hf.1
 have:=hI.lt
 exact ⟨hc,hI.e0.fr hf (by rw [z1u]; exact hE.ek),hI.e1.fr hf (by rw [z1u]; exact hE.ek),⟨by omega,by omega⟩,F,h1.fr hf hI.lt.2 hE.nk,h2⟩
theorem EndI.known (hE:CtE m H0 q e p id3 idk idm s1 s2 s3 g L0) (hI:EndI H0 q e p id3 idk idm g H) {H':AH} (hf:Fm (fun i=>i=idm) H H') {F:Nat→Option Value} (hM:MapA keyN H' idm F) (hF:∀i v,F i=some v→v=.bool (Tc g i).isSome):EndI H0 q e p id3 idk idm g H':=by
 have hlow:=hE.low
 have:=hf.1
 have:=hI.lt
 obtain ⟨Fk,k1,k2⟩:=hI.c.kn
 have qm:∀j,(q.add j).block≠idm:=fun j=>by rw [z1u]; exact hE.qm
 exact ⟨⟨hI.c.x.comp hf fun id hid _ h=>by omega,hI.c.c0.fr hf (qm 0),hI.c.c1.fr hf (qm 1),hI.c.c2.fr hf (qm 2),hI.c.c3.fr hf (qm 3),Fk,k1.fr hf hI.lt.1 fun h=>hE.nk h.symm,k2⟩,
  hI.e0.fr hf (by rw [z1u]; exact hE.em),hI.e1.fr hf (by rw [z1u]; exact hE.em),⟨by omega,by omega⟩,F,hM,hF⟩
def FinP (m:Nat) (H0:AH) (q e p:Addr) (id3 idk idm:Nat) (g:Sg) (rec_:Nat→AH→Option Addr→Int→Int→ByteArray→Sl3→Option (Bool×AH)) (k w:Int) (n:ByteArray) (s:Sl3) (a:Fo):Prop :=
 ∀H,EndI H0 q e p id3 idk idm g H→∃H',rec_ m H (some e) k w n s=some ((cS g.datas (Tc g) k w n a).isSome,H')∧EndI H0 q e p id3 idk idm g H'∧Fm (fun i=>i=idk∨i=idm) H H'
theorem zp9 (c:Nat) (hE:CtE m H0 q e p id3 idk idm s1 s2 s3 g L0) {rec_:Nat→AH→Option Addr→Int→Int→ByteArray→Sl3→Option (Bool×AH)} {i:Nat} (hi:i<g.datas.length) (hrec:¬Lean1 g i i→∀d∈(g.datas[i]).cons,∀x∈d.sels,∀s',SlF H0 s' x.a→FinP m H0 q e p id3 idk idm g rec_ x.k x.w x.sn s' x.a) (hI:EndI H0 q e p id3 idk idm g H) :
  ∃H',z3g (LCo c) rec_ m H (some e) (i:Int)=some ((Tc g i).isSome,H')∧EndI H0 q e p id3 idk idm g H'∧Fm (fun i=>i=idk∨i=idm) H H':=by
 have hC:=hE.c
 obtain ⟨row,k1,k2⟩:=hC.lean i hi
 obtain ⟨q',b,k3,k4,k5⟩:=k2 i hi
 have re:rd deP H (e.add 0)=some (some q):=by rw [hI.e0.rd]; rfl
 have r2:rd deSl H (q.add 2)=some ⟨some ⟨id3,0,none⟩,g.datas.length,g.datas.length⟩:=by rw [hI.c.c2.rd]; rfl
 have r3:rd deSl H ((⟨id3,0,none⟩:Addr).add (i*1))=some row:=by rw [(k1.ext hI.c.x).rd]; rfl
 have r4:rd deB H q'=some b:=by rw [(k4.ext hI.c.x).rd]; rfl
 unfold z3g
 simp only [Option.bind_some,re,r2,z5c hi rfl,r3,k3,r4]
 cases b with
 | true =>
  simp only [if_true]
  rw [Tc_cyc hC.good hC.nest (k5.1 rfl)]
  exact ⟨H,rfl,hI,Fm.refl _ _⟩
 | false =>
  have hnc:¬Lean1 g i i:=fun h=>absurd (k5.2 h) (by simp)
  have r0:rd deP H (q.add 0)=some (some p):=by rw [hI.c.c0.rd]; rfl
  have hadd:∀j,(p.add 0).add j=p.add (0+j):=fun j=>add2 hC.book.c1 0 j
  have r1:rd deSl H ((p.add 0).add 1)=some s2:=by rw [hadd,(hC.book.c2.ext hI.c.x).rd]; rfl
  obtain ⟨qk,gk1,gk2⟩:=hC.sig.d.get hi (v:=(i:Int)) rfl
  obtain ⟨sc,gk3,hc⟩:=gk2.ex
  have r5:rd deSl H (qk.add 1)=some sc:=by rw [(gk3.ext hI.c.x).rd]; rfl
  have hcn:=hc.n
  obtain ⟨H',b1,b2,b3⟩:=zg4 (xs:=(g.datas[i]).cons) (body:=z25 (LCo c) rec_ m e sc) (EndI H0 q e p id3 idk idm g) (fun i=>i=idk∨i=idm) (fun c=>(cC g.datas (Tc g) c.sels).isSome)
   (fun j hj G hG=>by
    obtain ⟨qc,c1,c2⟩:=hc.get hj (v:=(j:Int)) rfl
    obtain ⟨z,c3,c4⟩:=c2.ex
    have w0:rd deS G (qc.add 0)=some (g.datas[i]).cons[j].n:=by rw [(c2.n.ext hG.c.x).rd]; rfl
    have w1:rd deSl G (qc.add 1)=some z:=by rw [(c3.ext hG.c.x).rd]; rfl
    have hzn:=c4.n
    obtain ⟨G',d1,d2,d3⟩:=zg4 (xs:=(g.datas[i]).cons[j].sels) (body:=z24 (LCo c) rec_ m e sc (j:Int) (g.datas[i]).cons[j].n z) (EndI H0 q e p id3 idk idm g) (fun i=>i=idk∨i=idm) (fun x=>(cS g.datas (Tc g) x.k x.w x.sn x.a).isSome)
     (fun t ht K hK=>by
      obtain ⟨qs,u1,u2⟩:=c4.get ht (v:=(t:Int)) rfl
      obtain ⟨y,f1,f2,f3,f4,f5,f6⟩:=u2.ex
      have x0:rd deS K (qs.add 0)=some (g.datas[i]).cons[j].sels[t].n:=by rw [(u2.n.ext hK.c.x).rd]; rfl
      have x1:rd (deI .i64) K (qs.add 1)=some (g.datas[i]).cons[j].sels[t].k:=by rw [(f1.ext hK.c.x).rd]; rfl
      have x2:rd (deI .i64) K (qs.add 2)=some (g.datas[i]).cons[j].sels[t].w:=by rw [(f2.ext hK.c.x).rd]; rfl
      have x3:rd deS K (qs.add 3)=some (g.datas[i]).cons[j].sels[t].sn:=by rw [(f3.ext hK.c.x).rd]; rfl
      have x4:rd deSl K (qs.add 4)=some y:=by rw [(f4.ext hK.c.x).rd]; rfl
      obtain ⟨K',a1,a2,a3⟩:=hrec hnc _ (List.getElem_mem hj) _ (List.getElem_mem ht) y f6 K hK
      refine ⟨K',a2,a3,?_⟩
      unfold z24
      simp only [if_pos (show (t:Int)<(z.n:Int) by omega),u1,Option.bind_some,x0,x1,x2,x3,x4,a1]
      rw [zi ht c4.len]
      split <;> rfl)
     (fun K hK=>by
      unfold z24
      simp only [if_neg (show ¬(((g.datas[i]).cons[j].sels.length:Int)<(z.n:Int)) by omega)])
     (g.datas[i]).cons[j].sels.length 0 G (by omega) hG
    rw [List.drop_zero,← zlg] at d3
    refine ⟨G',d1,d2,?_⟩
    unfold z25
    simp only [if_pos (show (j:Int)<(sc.n:Int) by omega),c1,Option.bind_some,w0,w1]
    show Option.bind (loopO (z24 (LCo c) rec_ m e sc (j:Int) (g.datas[i]).cons[j].n z) (G,((0:Nat):Int))) _=_
    rw [d3,zi hj hc.len]
    by_cases hq:(cC g.datas (Tc g) (g.datas[i]).cons[j].sels).isSome=true
    ·rw [if_pos hq,if_pos hq]; rfl
    ·rw [if_neg hq,if_neg hq]; rfl)
   (fun G hG=>by
    unfold z25
    simp only [if_neg (show ¬(((g.datas[i]).cons.length:Int)<(sc.n:Int)) by omega)])
   (g.datas[i]).cons.length 0 H (by omega) hI
  rw [List.drop_zero,← zlk,← Tc_fix hi] at b3
  refine ⟨H',?_,b1,b2⟩
  simp only [Bool.false_eq_true,if_false,r0,Option.bind_some,r1,gk1,r5]
  show Option.bind (loopO (z25 (LCo c) rec_ m e sc) (H,((0:Nat):Int))) _=_
  rw [b3]
  by_cases hq:(Tc g i).isSome=true
  ·rw [if_pos hq,hq]; rfl
  ·rw [if_neg hq]
   have:(Tc g i).isSome=false:=by simpa using hq
   rw [this]; rfl
theorem zo8 (hE:CtE m H0 q e p id3 idk idm s1 s2 s3 g L0):∀(R d F:Nat) (k w:Int) (n:ByteArray) (s:Sl3) (a:Fo),SlF H0 s a→shS k w n a=true→knS g.users g.datas k n a=true→a.dep≤15→a.dep<d→(∀i∈dtS g.datas k n a,rk g i<R)→40*R+2*a.dep+1≤F →
  FinP m H0 q e p id3 idk idm g (z1q (LCo L0) F).1 k w n s a:=by
 have hC:=hE.c
 have hfu:=hE.fu
 intro R
 induction R using Nat.strongRecOn with
 | ind R ihR =>
  intro d
  induction d with
  | zero=>intro F k w n s a _ _ _ _ h; omega
  | succ d ihd =>
   intro F k w n s a h hsh hkn hdp hd hrk hF H hI
   obtain ⟨F,rfl⟩:∃f,F=f+1:=⟨F - 1,by omega⟩
   have hx:=hI.c.x
   show ∃H',z3f (LCo L0) (z1q (LCo L0) F).1 (z1q (LCo L0) F).2 m H (some e) k w n s=_∧_
   unfold z3f
   have hc:(if k=1 then some true else some (decide (k=3)))=some (decide (k=1∨k=3)):=by
    by_cases h1:k=1 <;> simp [h1]
   rw [hc]
   simp only [Option.bind_some]
   by_cases h13:k=1∨k=3
   ·rw [decide_eq_true h13]
    refine ⟨H,?_,hI,Fm.refl _ _⟩
    have e:(cS g.datas (Tc g) k w n a).isSome=true:=by
     unfold cS one_
     rcases h13 with h | h
     ·rw [if_pos h]; rfl
     ·rw [if_neg (by omega),if_pos h]; rfl
    rw [e]
    rfl
   rw [decide_eq_false h13]
   simp only [Bool.false_eq_true,if_false]
   have h1:¬k=1:=fun h=>h13 (.inl h)
   have h3:¬k=3:=fun h=>h13 (.inr h)
   have re:∀{G:AH},EndI H0 q e p id3 idk idm g G→rd deP G (e.add 0)=some (some q):=fun hG=>by rw [hG.e0.rd]; rfl
   by_cases h4:k=4
   ·rw [if_pos h4]
    rcases z6x hsh with ⟨_,h'⟩ | ⟨_,k1,w1,n1,a1,k2,w2,n2,a2,rfl,hs1,hs2⟩
    ·omega
    ·unfold knS at hkn
     rw [if_neg (by omega),if_neg (by omega)] at hkn
     simp only [knF,Bool.and_eq_true] at hkn
     have hn2:s.n=2:=h.1
     simp only [Fo.dep] at hdp hd hF
     have first:∃q0 t0,SlF H0 t0 a1∧∀G,Ext H0 G→idxA 4 s 0=some q0∧rd (deI .i64) G (q0.add 0)=some k1∧rd (deI .i64) G (q0.add 1)=some w1∧rd deS G (q0.add 2)=some n1∧rd deSl G (q0.add 3)=some t0:=by
      obtain ⟨⟨qq,ss,z1,z2,z3,z4,z5⟩,_⟩:=h.2.2
      refine ⟨qq.add (0*4),ss,⟨z3,z4,z5⟩,fun G hG=>⟨z46 z1 rfl (by omega),?_,?_,?_,?_⟩⟩
      ·rw [(z2.ck.ext hG).rd]; rfl
      ·rw [(z2.cw.ext hG).rd]; rfl
      ·rw [(z2.cn.ext hG).rd]; rfl
      ·rw [(z2.cs.ext hG).rd]; rfl
     have second:∃q0 t0,SlF H0 t0 a2∧∀G,Ext H0 G→idxA 4 s 1=some q0∧rd (deI .i64) G (q0.add 0)=some k2∧rd (deI .i64) G (q0.add 1)=some w2∧rd deS G (q0.add 2)=some n2∧rd deSl G (q0.add 3)=some t0:=by
      obtain ⟨_,⟨qq,ss,z1,z2,z3,z4,z5⟩,_⟩:=h.2.2
      refine ⟨qq.add ((0+1)*4),ss,⟨z3,z4,z5⟩,fun G hG=>⟨z46 z1 rfl (by omega),?_,?_,?_,?_⟩⟩
      ·rw [(z2.ck.ext hG).rd]; rfl
      ·rw [(z2.cw.ext hG).rd]; rfl
      ·rw [(z2.cn.ext hG).rd]; rfl
      ·rw [(z2.cs.ext hG).rd]; rfl
     obtain ⟨q0,t0,f1,f2⟩:=first
     obtain ⟨q2,t2,g1,g2⟩:=second
     have hdt:∀i,i∈dtS g.datas k1 n1 a1∨i∈dtS g.datas k2 n2 a2→i∈dtS g.datas k n (.cons k1 w1 n1 a1 (.cons k2 w2 n2 a2 .nil)):=fun i hi=>by
      unfold dtS at hi ⊢
      rw [if_neg (by omega)]
      simp only [dtF,List.append_nil,List.mem_append]
      exact hi
     have hks2:knS g.users g.datas k2 n2 a2=true:=by unfold knS; exact hkn.2.1
     obtain ⟨v0,v1,v2,v3,v4⟩:=g2 H hx
     obtain ⟨H1,b1,b2,b3⟩:=zil L0 hC (g.datas.length+1) 16 L0 k2 w2 n2 t2 a2 g1 hs2 hks2 (by omega) (by omega) (fun i _=>by have:=rk_le g i; omega) (by omega) H hI.c
     have b1':z40 (LCo L0) m H (some q) k2 w2 n2 t2=_:=b1
     have hI1:=EndI.cnt hE hI b2 b3
     have py:=cS_pos (ds:=g.datas) (Tc_pos hC.good) k2 w2 n2 a2
     have ecs:cS g.datas (Tc g) k w n (.cons k1 w1 n1 a1 (.cons k2 w2 n2 a2 .nil))=arrO (cS g.datas (Tc g) k1 w1 n1 a1) (cS g.datas (Tc g) k2 w2 n2 a2):=by
      unfold cS one_
      rw [if_neg h1,if_neg h3,if_pos h4]
      rfl
     rw [ecs]
     have w13:Fm (fun i=>i=idk∨i=idm) H H1:=b3.weak fun _ _ h=>.inl h
     by_cases hone:cap 1 (cS g.datas (Tc g) k2 w2 n2 a2)=1
     ·have hy:cS g.datas (Tc g) k2 w2 n2 a2=some 1:=by
       cases hq:cS g.datas (Tc g) k2 w2 n2 a2 with
       | none=>rw [hq] at hone; cases hone
       | some t =>
        have ht:=py t hq
        rw [hq] at hone
        by_cases h':t≤1
        ·rw [z1x h'] at hone; rw [hone]
        ·rw [cap_no h'] at hone; cases hone
      refine ⟨H1,?_,hI1,w13⟩
      simp only [re hI,v0,v1,v2,v3,v4,Option.bind_some,b1',hone]
      rw [hy]
      cases cS g.datas (Tc g) k1 w1 n1 a1 <;> rfl
     ·have hne:¬(((cap 1 (cS g.datas (Tc g) k2 w2 n2 a2):Nat):Int)=1):=by omega
      have harr:(arrO (cS g.datas (Tc g) k1 w1 n1 a1) (cS g.datas (Tc g) k2 w2 n2 a2)).isSome=((cS g.datas (Tc g) k1 w1 n1 a1).isSome&&(cS g.datas (Tc g) k2 w2 n2 a2).isSome):=by
       cases hq:cS g.datas (Tc g) k2 w2 n2 a2 with
       | none=>cases cS g.datas (Tc g) k1 w1 n1 a1 <;> rfl
       | some t =>
        have:¬t=1:=fun ht=>by rw [hq,ht] at hone; exact hone rfl
        cases cS g.datas (Tc g) k1 w1 n1 a1 <;> simp [arrO,this]
      obtain ⟨u0,u1,u2,u3,u4⟩:=f2 H1 hI1.c.x
      obtain ⟨H2,c1,c2,c3⟩:=ihd F k1 w1 n1 t0 a1 f1 hs1 (by unfold knS; exact hkn.1) (by omega) (by omega) (fun i hi=>hrk i (hdt i (.inl hi))) (by omega) H1 hI1
      rw [harr]
      cases hfa:(cS g.datas (Tc g) k1 w1 n1 a1).isSome with
      | false =>
       rw [hfa] at c1
       refine ⟨H2,?_,c2,w13.comp c3 fun _ _ h=>h⟩
       simp only [re hI,v0,v1,v2,v3,v4,Option.bind_some,b1',if_neg hne,u0,u1,u2,u3,u4,c1,Bool.false_eq_true,if_false,Bool.false_and]
      | true =>
       rw [hfa] at c1
       obtain ⟨y0,y1,y2,y3,y4⟩:=g2 H2 c2.c.x
       obtain ⟨H3,d1,d2,d3⟩:=ihd F k2 w2 n2 t2 a2 g1 hs2 hks2 (by omega) (by omega) (fun i hi=>hrk i (hdt i (.inr hi))) (by omega) H2 c2
       refine ⟨H3,?_,d2,(w13.comp c3 fun _ _ h=>h).comp d3 fun _ _ h=>h⟩
       simp only [re hI,v0,v1,v2,v3,v4,Option.bind_some,b1',if_neg hne,u0,u1,u2,u3,u4,c1,if_true,y1,y2,y3,y4,d1,Bool.true_and]
   rw [if_neg h4]
   by_cases h6:k=6
   ·rw [if_pos h6]
    subst h6
    have hk:=hkn
    unfold knS at hk
    rw [if_neg (by omega),if_pos rfl] at hk
    have hlt:=ix_lt hk
    have hri:rk g (ixS g.datas n)<R:=hrk _ (by unfold dtS; rw [if_pos rfl]; simp)
    obtain ⟨idb,r1,r2⟩:=ze3 (hC.book.ext hx) n
    have r0:rd deP H (q.add 0)=some (some p):=by rw [hI.c.c0.rd]; rfl
    have rmap:∀{G:AH},EndI H0 q e p id3 idk idm g G→rd deM G (e.add 1)=some (some idm):=fun hG=>by rw [hG.e1.rd]; rfl
    obtain ⟨Fk,hM,hFk⟩:=hI.kn
    have hlk:=zc2 natK und84 zero4 rfl hM (ixS g.datas n) deB
    have hlk':lkM Tryd.prog 84 deB H (some idm) (Value.int .i64 ((ixS g.datas n:Nat):Int))=_:=hlk
    have ecs:cS g.datas (Tc g) 6 w n a=Tc g (ixS g.datas n):=by
     unfold cS one_
     rw [if_neg (by omega),if_neg (by omega),if_neg (by omega),if_pos rfl]
    rw [ecs]
    cases hq:Fk (ixS g.datas n) with
    | some v =>
     have hv:=hFk _ _ hq
     subst hv
     rw [hq] at hlk'
     have hlk2:lkM Tryd.prog 84 deB H (some idm) (Value.int .i64 ((ixS g.datas n:Nat):Int))=some ((Tc g (ixS g.datas n)).isSome,true):=hlk'
     refine ⟨H,?_,hI,Fm.refl _ _⟩
     simp only [Option.bind_some,re hI,r0,r1,r2,rmap hI,hlk2,if_true]
    | none =>
     rw [hq] at hlk'
     have hlk2:lkM Tryd.prog 84 deB H (some idm) (Value.int .i64 ((ixS g.datas n:Nat):Int))=some (false,false):=hlk'
     obtain ⟨F,rfl⟩:∃f,F=f+1:=⟨F - 1,by omega⟩
     obtain ⟨H1,b1,b2,b3⟩:=zp9 L0 hE hlt (rec_:=(z1q (LCo L0) F).1) (fun hnc d hd x hx s' hs'=>by
      have hs:=hC.good.sel _ (List.getElem_mem hlt) d hd x hx
      refine ihR (rk g (ixS g.datas n)) hri 16 F x.k x.w x.sn s' x.a hs' hs.sh hs.kn hs.dp (by have:=hs.dp; omega) (fun i hi=>rk_lt hC.good hnc ⟨hlt,?_⟩) (by have:=hs.dp; omega)
      unfold stD stC
      simp only [List.mem_flatMap]
      exact ⟨d,hd,x,hx,hi⟩) hI
     have b1':(z1q (LCo L0) (F+1)).2 m H (some e) ((ixS g.datas n:Nat):Int)=some ((Tc g (ixS g.datas n)).isSome,H1):=b1
     obtain ⟨F2,hM2,hF2⟩:=b2.kn
     obtain ⟨H2,c1,c2,c3,c4⟩:=z99 natK und84 hM2 hE.own (ixS g.datas n) (.bool (Tc g (ixS g.datas n)).isSome)
     have c1':upM Tryd.prog m 84 H1 (some idm) (Value.int .i64 ((ixS g.datas n:Nat):Int)) (Value.bool (Tc g (ixS g.datas n)).isSome)=some H2:=c1
     have hI2:EndI H0 q e p id3 idk idm g H2:=EndI.known hE b2 c3 c2 fun i v hv=>by
      split at hv
      ·rename_i e; subst e; cases hv; rfl
      ·exact hF2 i v hv
     refine ⟨H2,?_,hI2,b3.comp c3 fun _ _ h h'=>h (.inr h')⟩
     simp only [Option.bind_some,re hI,r0,r1,r2,rmap hI,hlk2,Bool.false_eq_true,if_false,b1',rmap b2,c1']
   ·rw [if_neg h6]
    refine ⟨H,?_,hI,Fm.refl _ _⟩
    have ecs:cS g.datas (Tc g) k w n a=none:=by
     unfold cS one_; rw [if_neg h1,if_neg h3,if_neg h4,if_neg h6]
    rw [ecs]
    rfl
end
end Go.Proofs.YtccbilfbhecdaaaDoor
namespace Go.Proofs.YtccbilfbhecdaaaDoor
open Go Go.Abs
set_option maxRecDepth 100000
noncomputable def finS (g:Sg) (k w:Int) (n:ByteArray) (a:Fo):Bool:=decide (sigS g=0∧checkS g k w n a=0)&&(cS g.datas (Tc g) k w n a).isSome
section
variable {m:Nat} {H0 H:AH} {q p:Addr} {id3 idk mst:Nat} {s1 s2 s3:Sl3} {g:Sg} {L0 fuel:Nat}
theorem CntI.ext {H':AH} (hI:CntI H0 q p id3 idk mst g H) (hlt:idk<H.next) (hf:Ext H H'):CntI H0 q p id3 idk mst g H':=by
 obtain ⟨F,h1,h2⟩:=hI.kn
 exact ⟨hI.x.trans hf,hI.c0.ext hf,hI.c1.ext hf,hI.c2.ext hf,hI.c3.ext hf,F,h1.fr hf hlt fun h=>h,h2⟩
theorem zeo (hF:L0=fuel+1) (hfu:15≤fuel) (hd:g.dep≤fuel) (hb:SgB g) (hS:SigA H s1 s2 s3 g) (hm:m≤H.next) {k w:Int} {n:ByteArray} {s:Sl3} {a:Fo} (h:SlF H s a) (hn:n.size≤maxS) (hda:a.dep≤fuel) (hfn:40*(g.datas.length+1)+31≤L0) :
  ∃H',z5g (LCo L0) m H k w n s s1 s2 s3=some (finS g k w n a,H')∧Ext H H':=by
 unfold z5g finS
 obtain ⟨H4,a1,a2⟩:=z5d hF hfu hd hb hS hm
 rw [a1]
 simp only [Option.bind_some]
 by_cases h2:sigS g=0
 ·rw [if_pos h2]
  obtain ⟨H6,b1,b2⟩:=zgk L0 fuel hF (m:=m) (hS.ext a2) (Nat.le_trans hm a2.1) (h.ext a2) hn hda (k:=k) (w:=w)
  rw [b1]
  simp only [Option.bind_some]
  have x6:=a2.trans b2
  by_cases h3:checkS g k w n a=0
  ·rw [decide_eq_true h3,decide_eq_true (show sigS g=0∧checkS g k w n a=0 from ⟨h2,h3⟩)]
   simp only [Bool.not_true,Bool.false_eq_true,if_false,Bool.true_and]
   obtain ⟨hG,hNe,_⟩:=sig_ok h2
   obtain ⟨c1,c2,c3,c4⟩:=zf3 h3
   have m6:=Nat.le_trans hm x6.1
   obtain ⟨q,p,id3,idk,H4',H8,e1,e2,e3,e4,e5,e6,e7,e8⟩:=zct (m:=m) hF hfu hG hNe (hS.ext x6) m6 (mst:=1) (Nat.le_refl _) (by rw [z1r]; omega)
   have x10:Ext H8 (H8.push mapB):=Fm.push _ _ _
   have M10:MapA keyN (H8.push mapB) H8.next fun _=>none:=MapA.new keyN
   have n10:(H8.push mapB).next=H8.next+1:=by simp
   generalize hH10:H8.push mapB=H10 at x10 M10 n10
   have x12:Ext H10 (H10.push (pubB 86 [.pointer (some q),.map (some H8.next)])):=Fm.push _ _ _
   have cel:∀(i:Nat) (v:Value),[.pointer (some q),.map (some H8.next)][i]? = some v→Cel (H10.push (pubB 86 [.pointer (some q),.map (some H8.next)])) ((⟨H10.next,0,none⟩:Addr).add i) v:=fun i v hv=>by
    rw [z3i]
    have:(⟨H10.next,0+i,none⟩:Addr)=⟨H10.next,i,none⟩:=by rw [Nat.zero_add]
    rw [this]
    exact Cel.push (c:=[.pointer (some q),.map (some H8.next)].toArray) rfl (by simpa using hv)
   have n12:(H10.push (pubB 86 [.pointer (some q),.map (some H8.next)])).next=H10.next+1:=by simp
   generalize hH12:H10.push (pubB 86 [.pointer (some q),.map (some H8.next)])=H12 at x12 cel n12
   have x812:=x10.trans x12
   have y1:=e3.1
   have y2:=e2.1
   have y3:=x6.1
   have y4:=e5.x.1
   have hE:CtE m H4' q ⟨H10.next,0,none⟩ p id3 idk H8.next s1 s2 s3 g L0:=⟨e4,by omega,by omega,by omega,by show H10.next≠idk; omega,by show H10.next≠H8.next; omega,by omega,hfn⟩
   have hI:EndI H4' q ⟨H10.next,0,none⟩ p id3 idk H8.next g H12:=⟨e5.ext e8 x812,cel 0 _ rfl,cel 1 _ rfl,⟨by omega,by omega⟩,_,M10.fr x12 (by omega) fun h=>h,fun i v hv=>by cases hv⟩
   obtain ⟨H14,f1,f2,f3⟩:=zo8 hE (g.datas.length+1) 16 L0 k w n s a (h.ext (x6.trans e3)) c1 c4 c2 (by omega) (fun i _=>by have:=rk_le g i; omega) (by omega) H12 hI
   have f1':z7x (LCo L0) m H12 (some ⟨H10.next,0,none⟩) k w n s=_:=f1
   refine ⟨H14,?_,((x6.trans e2).trans x812).comp f3 fun id hid _ hw=>by omega⟩
   have e1':z3z (LCo L0) m H6 s1 s2 s3 1=some (some q,H8):=e1
   rw [e1']
   unfold newM newB
   simp only [Option.bind_some]
   rw [hH10]
   simp only [hH12,f1',Option.bind_some]
  ·rw [decide_eq_false h3,decide_eq_false (show ¬(sigS g=0∧checkS g k w n a=0) from fun h=>h3 h.2)]
   exact ⟨H6,rfl,x6⟩
 ·rw [if_neg h2,decide_eq_false (show ¬(sigS g=0∧checkS g k w n a=0) from fun h=>h2 h.1)]
  exact ⟨H4,rfl,a2⟩
end
end Go.Proofs.YtccbilfbhecdaaaDoor
namespace Go.Proofs.YtccbilfbhecdaaaDoor
open Go Go.Abs
set_option maxRecDepth 100000
section
variable {H:AH} {s1 s2 s3:Sl3} {g:Sg} {L0 fuel:Nat}
theorem zhe {k w:Int} {n:ByteArray} {a:Fo} {mo:Int} (h0:¬mo<1) (h1:sigS g=0) (h2:checkS g k w n a=0):countS g k w n a mo=cap mo.toNat (cS g.datas (Tc g) k w n a):=by
 unfold countS
 rw [if_neg]
 rintro (h | h | h)
 ·exact h0 h
 ·exact h h1
 ·exact h h2
end
end Go.Proofs.YtccbilfbhecdaaaDoor
namespace Go.Proofs.YtccbilfbhecdaaaDoor
open Go Go.Abs
set_option maxRecDepth 100000
theorem zpf {α:Type} {e:Option α} {k:α→Option (Bool×AH)} (Q:α→Prop) (h1:∃x,e=some x∧Q x) (h2:∀x,Q x→∃H',k x=some (true,H')):∃H',Option.bind e k=some (true,H'):=by
 obtain ⟨x,h,hq⟩:=h1
 rw [h]
 exact h2 x hq
section
variable {H:AH} {s1 s2 s3:Sl3} {g:Sg} {L0 fuel:Nat}
end
end Go.Proofs.YtccbilfbhecdaaaDoor
namespace Go.Proofs.YtccbilfbhecdaaaDoor
open Go Go.Abs
set_option maxRecDepth 100000
theorem tw_ne {l:List ByteArray} (h:twS l=false) {i j:Nat} (hij:i<j) (hj:j<l.length):l[i]'(by omega)≠l[j]:=by
 intro e
 have:twS l=true:=ze4.2 ⟨j,hj,by
  unfold hasU
  rw [List.any_eq_true]
  refine ⟨l[i]'(by omega),?_,decide_eq_true e⟩
  rw [List.mem_take_iff_getElem]
  exact ⟨i,by omega,rfl⟩⟩
 rw [h] at this
 cases this
section
variable {g:Sg}
theorem zbh {i:Nat} (hi:i<g.datas.length):∃h:g.users.length+i<(sortNamesS g).length,(sortNamesS g)[g.users.length+i]=(g.datas[i]).n:=by
 have hl:(g.datas.flatMap fun d=>[d.n])=g.datas.map fun d=>d.n:=by
  induction g.datas with
  | nil=>rfl
  | cons x l ih=>rw [List.flatMap_cons,ih]; rfl
 unfold sortNamesS
 rw [hl]
 refine ⟨by simp; omega,?_⟩
 rw [List.getElem_append_right (by omega)]
 simp
variable {H:AH} {s1 s2 s3:Sl3} {L0 fuel:Nat}
end
end Go.Proofs.YtccbilfbhecdaaaDoor
namespace Go.Proofs.YtccbilfbhecdaaaDoor
open Go Go.Abs
set_option maxRecDepth 100000
theorem zab {ds:List Dat} {n:ByteArray} {i:Nat} (h:dataIx ds n=some i):∃hi:i<ds.length,ds[i].n=n∧∀j (hj:j<i),(ds[j]'(by omega)).n≠n:=by
 unfold dataIx at h
 rw [List.findIdx?_eq_some_iff_getElem] at h
 obtain ⟨h1,h2,h3⟩:=h
 exact ⟨h1,by simpa using h2,fun j hj=>by simpa using h3 j hj⟩
structure Iso (g h:Sg) (σ:Nat→Nat):Prop where
 len:h.datas.length=g.datas.length
 lt:∀i,i<g.datas.length→σ i<g.datas.length
 inv:∀i,i<g.datas.length→σ (σ i)=i
 dat:∀i (h1:i<g.datas.length) (h2:σ i<h.datas.length),(h.datas[σ i]).cons.Perm (g.datas[i]).cons
 ix:∀n i,dataIx g.datas n=some i→dataIx h.datas n=some (σ i)
 ix':∀n,dataIx g.datas n=none→dataIx h.datas n=none
 us:∀n,hasU h.users n=hasU g.users n
section
variable {g h:Sg} {σ:Nat→Nat}
theorem Iso.symm (I:Iso g h σ):Iso h g σ:=by
 refine ⟨I.len.symm,fun i hi=>by rw [I.len] at hi ⊢; exact I.lt i hi,fun i hi=>I.inv i (by rw [← I.len]; exact hi),fun i h1 h2=>?_,fun n i hi=>?_,fun n hn=>?_,fun n=>(I.us n).symm⟩
 ·have hi:i<g.datas.length:=by rw [← I.len]; exact h1
  have e:=I.inv i hi
  have:=I.dat (σ i) h2 (by rw [e]; exact h1)
  simp only [e] at this
  exact this.symm
 ·cases hq:dataIx g.datas n with
  | none=>rw [I.ix' n hq] at hi; cases hi
  | some j =>
   obtain ⟨hj,_⟩:=zab hq
   rw [I.ix n j hq] at hi
   cases hi
   rw [I.inv j hj]
 ·cases hq:dataIx g.datas n with
  | none=>rfl
  | some j=>rw [I.ix n j hq] at hn; cases hn
theorem Iso.isSome (I:Iso g h σ) (n:ByteArray):(dataIx h.datas n).isSome=(dataIx g.datas n).isSome:=by
 cases hq:dataIx g.datas n with
 | none=>rw [I.ix' n hq]
 | some i=>rw [I.ix n i hq]; rfl
theorem Iso.knF (I:Iso g h σ):∀a:Fo,knF h.users h.datas a=knF g.users g.datas a
 | .nil=>rfl
 | .cons k w n a r=>by
  simp only [Go.Proofs.YtccbilfbhecdaaaDoor.knF]
  rw [I.us,I.isSome,Iso.knF I a,Iso.knF I r]
theorem Iso.knS (I:Iso g h σ) (k:Int) (n:ByteArray) (a:Fo):knS h.users h.datas k n a=knS g.users g.datas k n a:=by
 unfold Go.Proofs.YtccbilfbhecdaaaDoor.knS
 rw [I.us,I.isSome,I.knF]
theorem Iso.checkS (I:Iso g h σ) (k w:Int) (n:ByteArray) (a:Fo):checkS h k w n a=checkS g k w n a:=by
 unfold Go.Proofs.YtccbilfbhecdaaaDoor.checkS
 rw [I.knS]
theorem Iso.ixS (I:Iso g h σ) {n:ByteArray} {i:Nat} (hi:dataIx g.datas n=some i):Go.Proofs.YtccbilfbhecdaaaDoor.ixS h.datas n=σ i∧Go.Proofs.YtccbilfbhecdaaaDoor.ixS g.datas n=i:=by
 unfold Go.Proofs.YtccbilfbhecdaaaDoor.ixS
 rw [I.ix n i hi,hi]
 exact ⟨rfl,rfl⟩
theorem zf1 {P:Int→Int→ByteArray→Fo→Prop} (hb:∀k w n,k≠4→k≠6→P k w n .nil) (hd:∀w n i,dataIx g.datas n=some i→P 6 w n .nil)
  (ha:∀w n k1 w1 n1 a1 k2 w2 n2 a2,P k1 w1 n1 a1→P k2 w2 n2 a2→P 4 w n (.cons k1 w1 n1 a1 (.cons k2 w2 n2 a2 .nil))):∀(d:Nat) (k w:Int) (n:ByteArray) (a:Fo),a.dep<d→shS k w n a=true→knS g.users g.datas k n a=true→P k w n a:=by
 intro d
 induction d with
 | zero=>intro k w n a h; omega
 | succ d ih =>
  intro k w n a hdp hs hk
  rcases z6x hs with ⟨rfl,hk'⟩ | ⟨rfl,k1,w1,n1,a1,k2,w2,n2,a2,rfl,hs1,hs2⟩
  ·by_cases h6:k=6
   ·subst h6
    unfold Go.Proofs.YtccbilfbhecdaaaDoor.knS at hk
    rw [if_neg (by omega),if_pos rfl] at hk
    obtain ⟨i,hi⟩:=Option.isSome_iff_exists.1 hk
    exact hd w n i hi
   ·exact hb k w n (by omega) h6
  ·unfold Go.Proofs.YtccbilfbhecdaaaDoor.knS at hk
   rw [if_neg (by omega),if_neg (by omega)] at hk
   simp only [Go.Proofs.YtccbilfbhecdaaaDoor.knF,Bool.and_eq_true] at hk
   simp only [Fo.dep] at hdp
   exact ha w n k1 w1 n1 a1 k2 w2 n2 a2 (ih _ _ _ _ (by omega) hs1 (by unfold Go.Proofs.YtccbilfbhecdaaaDoor.knS; exact hk.1)) (ih _ _ _ _ (by omega) hs2 (by unfold Go.Proofs.YtccbilfbhecdaaaDoor.knS; exact hk.2.1))
theorem Iso.dts (I:Iso g h σ) {k w:Int} {n:ByteArray} {a:Fo} (hs:shS k w n a=true) (hk:Go.Proofs.YtccbilfbhecdaaaDoor.knS g.users g.datas k n a=true):dtS h.datas k n a=(dtS g.datas k n a).map σ∧dtF h.datas a=(dtF g.datas a).map σ:=by
 refine zf1 (g:=g) (P:=fun k w n a=>dtS h.datas k n a=(dtS g.datas k n a).map σ∧dtF h.datas a=(dtF g.datas a).map σ) ?_ ?_ ?_ (a.dep+1) k w n a (by omega) hs hk
 ·intro k w n _ h6
  unfold dtS
  rw [if_neg h6,if_neg h6]
  exact ⟨rfl,rfl⟩
 ·intro w n i hi
  obtain ⟨e1,e2⟩:=I.ixS hi
  unfold dtS
  rw [if_pos rfl,if_pos rfl,e1,e2]
  exact ⟨rfl,rfl⟩
 ·intro w n k1 w1 n1 a1 k2 w2 n2 a2 h1 h2
  have e:∀ds,dtF ds (.cons k1 w1 n1 a1 (.cons k2 w2 n2 a2 .nil))=dtS ds k1 n1 a1++(dtS ds k2 n2 a2++[]):=fun ds=>rfl
  have key:dtF h.datas (.cons k1 w1 n1 a1 (.cons k2 w2 n2 a2 .nil))=(dtF g.datas (.cons k1 w1 n1 a1 (.cons k2 w2 n2 a2 .nil))).map σ:=by
   rw [e,e,h1.1,h2.1]
   simp
  refine ⟨?_,key⟩
  unfold dtS
  rw [if_neg (by omega),if_neg (by omega)]
  exact key
theorem Iso.cs (I:Iso g h σ) {f f':Nat→Option Nat} (hf:∀i,i<g.datas.length→f' (σ i)=f i) {k w:Int} {n:ByteArray} {a:Fo} (hs:shS k w n a=true) (hk:Go.Proofs.YtccbilfbhecdaaaDoor.knS g.users g.datas k n a=true):cS h.datas f' k w n a=cS g.datas f k w n a:=by
 refine zf1 (g:=g) (P:=fun k w n a=>cS h.datas f' k w n a=cS g.datas f k w n a) ?_ ?_ ?_ (a.dep+1) k w n a (by omega) hs hk
 ·intro k w n h4 h6
  unfold cS one_
  rw [if_neg h4,if_neg h4,if_neg h6,if_neg h6]
 ·intro w n i hi
  obtain ⟨e1,e2⟩:=I.ixS hi
  obtain ⟨hl,_⟩:=zab hi
  unfold cS one_
  simp only [if_pos]
  rw [if_neg (by omega),if_neg (by omega),if_neg (by omega),if_neg (by omega),if_neg (by omega),if_neg (by omega),e1,e2,hf i hl]
 ·intro w n k1 w1 n1 a1 k2 w2 n2 a2 h1 h2
  have e:∀ds f,cS ds f 4 w n (.cons k1 w1 n1 a1 (.cons k2 w2 n2 a2 .nil))=arrO (cS ds f k1 w1 n1 a1) (cS ds f k2 w2 n2 a2):=fun ds f=>rfl
  rw [e,e,h1,h2]
theorem Iso.gs (I:Iso g h σ) {bl bl':List Bool} (hf:∀i,i<g.datas.length→bl'.getD (σ i) false=bl.getD i false) {k w:Int} {n:ByteArray} {a:Fo} (hs:shS k w n a=true) (hk:Go.Proofs.YtccbilfbhecdaaaDoor.knS g.users g.datas k n a=true):gS h.datas bl' k n a=gS g.datas bl k n a:=by
 refine zf1 (g:=g) (P:=fun k w n a=>gS h.datas bl' k n a=gS g.datas bl k n a) ?_ ?_ ?_ (a.dep+1) k w n a (by omega) hs hk
 ·intro k w n h4 h6
  unfold gS
  rw [if_neg h4,if_neg h4,if_neg h6,if_neg h6]
 ·intro w n i hi
  obtain ⟨e1,e2⟩:=I.ixS hi
  obtain ⟨hl,_⟩:=zab hi
  unfold gS
  rw [if_pos rfl,if_pos rfl,e1,e2,hf i hl]
 ·intro w n k1 w1 n1 a1 k2 w2 n2 a2 h1 h2
  have e:∀ds bl,gS ds bl 4 n (.cons k1 w1 n1 a1 (.cons k2 w2 n2 a2 .nil))=gS ds bl k2 n2 a2:=fun ds bl=>rfl
  rw [e,e,h2]
theorem Iso.edge (I:Iso g h σ) (hG:GoodG g) {i k:Nat} (he:EdgS g i k):EdgS h (σ i) (σ k):=by
 obtain ⟨hi,hk⟩:=he
 have h2:σ i<h.datas.length:=by rw [I.len]; exact I.lt i hi
 refine ⟨h2,?_⟩
 unfold stD stC at hk ⊢
 simp only [List.mem_flatMap] at hk ⊢
 obtain ⟨c,hc,x,hx,hk⟩:=hk
 have hs:=hG.sel _ (List.getElem_mem hi) c hc x hx
 refine ⟨c,(I.dat i hi h2).mem_iff.2 hc,x,hx,?_⟩
 rw [(I.dts hs.sh hs.kn).1]
 exact List.mem_map.2 ⟨k,hk,rfl⟩
theorem Iso.lean (I:Iso g h σ) (hG:GoodG g) {i k:Nat} (he:Lean1 g i k):Lean1 h (σ i) (σ k):=by
 induction he with
 | one h=>exact .one (I.edge hG h)
 | more _ h2 ih=>exact .more ih (I.edge hG h2)
theorem Iso.nest (I:Iso g h σ) (hG:GoodG g) (he:NestP g):NestP h:=by
 obtain ⟨i,hi,c,hc,x,hx,k,hk,hl⟩:=he
 have h2:σ i<h.datas.length:=by rw [I.len]; exact I.lt i hi
 have hs:=hG.sel _ (List.getElem_mem hi) c hc x hx
 refine ⟨σ i,h2,c,(I.dat i hi h2).mem_iff.2 hc,x,hx,σ k,?_,?_⟩
 ·have e:∀ds,dtI ds true x.k x.sn x.a=dtF ds x.a:=fun ds=>by
   unfold dtI
   rw [if_neg (by simp)]
  rw [e] at hk ⊢
  rw [(I.dts hs.sh hs.kn).2]
  exact List.mem_map.2 ⟨k,hk,rfl⟩
 ·rcases hl with rfl | hl
  ·exact .inl rfl
  ·exact .inr (I.lean hG hl)
theorem Iso.gd (I:Iso g h σ) (hG:GoodG g) {i:Nat} (he:Gd g i):Gd h (σ i):=by
 induction he with
 | @mk i hi bl hb ho ih =>
  have h2:σ i<h.datas.length:=by rw [I.len]; exact I.lt i hi
  let bl':List Bool:=(List.range g.datas.length).map fun j=>bl.getD (σ j) false
  have hget:∀j,j<g.datas.length→bl'.getD j false=bl.getD (σ j) false:=fun j hj=>by
   simp [bl',List.getD,hj]
  have hf:∀j,j<g.datas.length→bl'.getD (σ j) false=bl.getD j false:=fun j hj=>by
   rw [hget _ (I.lt j hj),I.inv j hj]
  refine .mk h2 bl' (fun k hk=>?_) ?_
  ·have hkl:k<g.datas.length:=by
    obtain ⟨hk,_⟩:=hk
    simpa [bl'] using hk
   have h3:=z6d.2 hk
   rw [hget k hkl] at h3
   have:=ih (σ k) (z6d.1 h3)
   rw [I.inv k hkl] at this
   exact this
  ·unfold gD at ho ⊢
   rw [List.any_eq_true] at ho ⊢
   obtain ⟨c,hc,hq⟩:=ho
   refine ⟨c,(I.dat i hi h2).mem_iff.2 hc,?_⟩
   unfold gC at hq ⊢
   rw [List.all_eq_true] at hq ⊢
   intro x hx
   have hs:=hG.sel _ (List.getElem_mem hi) c hc x hx
   rw [I.gs hf hs.sh hs.kn]
   exact hq x hx
theorem zol (a b:Option Nat):addO a b=addO b a:=by
 cases a <;> cases b <;> simp [addO,Nat.add_comm]
theorem zrt {ds:List Dat} {f:Nat→Option Nat} {l l':List Con} (h:l.Perm l'):cD ds f l=cD ds f l':=by
 induction h with
 | nil=>rfl
 | cons x _ ih=>show addO _ (cD ds f _)=addO _ (cD ds f _); rw [ih]
 | swap x y l =>
  show addO (cC ds f y.sels) (addO (cC ds f x.sels) (cD ds f l))=addO (cC ds f x.sels) (addO (cC ds f y.sels) (cD ds f l))
  rw [← zcg,← zcg,zol (cC ds f y.sels)]
 | trans _ _ h1 h2=>exact h1.trans h2
theorem zjr {ds ds':List Dat} {f f':Nat→Option Nat}:∀{l:List Sel},(∀x∈l,cS ds f x.k x.w x.sn x.a=cS ds' f' x.k x.w x.sn x.a)→cC ds f l=cC ds' f' l
 | [],_=>rfl
 | x :: l,h=>by
  show mulO (cS ds f x.k x.w x.sn x.a) (cC ds f l)=mulO (cS ds' f' x.k x.w x.sn x.a) (cC ds' f' l)
  rw [h x (by simp),zjr fun y hy=>h y (by simp [hy])]
theorem zjd {ds ds':List Dat} {f f':Nat→Option Nat}:∀{l:List Con},(∀c∈l,cC ds f c.sels=cC ds' f' c.sels)→cD ds f l=cD ds' f' l
 | [],_=>rfl
 | c :: l,h=>by
  show addO (cC ds f c.sels) (cD ds f l)=addO (cC ds' f' c.sels) (cD ds' f' l)
  rw [h c (by simp),zjd fun y hy=>h y (by simp [hy])]
theorem Iso.tcd (I:Iso g h σ) (hG:GoodG g):∀r i,i<g.datas.length→tcD h r (σ i)=tcD g r i
 | 0,_,_=>rfl
 | r+1,i,hi=>by
  have h2:σ i<h.datas.length:=by rw [I.len]; exact I.lt i hi
  show (if q:σ i<h.datas.length then cD h.datas (tcD h r) (h.datas[σ i]).cons else none)=(if q:i<g.datas.length then cD g.datas (tcD g r) (g.datas[i]).cons else none)
  rw [dif_pos h2,dif_pos hi,zrt (I.dat i hi h2)]
  exact zjd fun c hc=>zjr fun x hx=>by
   have hs:=hG.sel _ (List.getElem_mem hi) c hc x hx
   exact I.cs (fun j hj=>Iso.tcd I hG r j hj) hs.sh hs.kn
theorem Iso.tc (I:Iso g h σ) (hG:GoodG g) {i:Nat} (hi:i<g.datas.length):Tc h (σ i)=Tc g i:=by
 unfold Tc
 rw [I.len]
 exact I.tcd hG _ i hi
theorem zha {g:Sg}:allS g=0↔∀x∈sortsE g,Go.Proofs.YtccbilfbhecdaaaDoor.checkS g x.1 x.2.1 x.2.2.1 x.2.2.2=0:=by
 unfold allS
 constructor
 ·intro h x hx
  cases hq:(sortsE g).findSome? (errS g) with
  | none =>
   rw [List.findSome?_eq_none_iff] at hq
   have:=hq x hx
   unfold errS at this
   split at this
   ·assumption
   ·cases this
  | some v =>
   rw [hq] at h
   obtain ⟨y,_,hy⟩:=List.exists_of_findSome?_eq_some hq
   unfold errS at hy
   split at hy
   ·cases hy
   ·cases hy
    simp only [Option.getD_some] at h
    contradiction
 ·intro h
  have:(sortsE g).findSome? (errS g)=none:=by
   rw [List.findSome?_eq_none_iff]
   intro x hx
   unfold errS
   rw [if_pos (h x hx)]
  rw [this]; rfl
theorem zch {g:Sg}:sigS g=0↔(manyS g=false∧namesS g=0∧allS g=0∧¬NestP g)∧∀k,k<g.datas.length→Gd g k:=by
 classical
 have h1:=zdw g
 have h2:=zh3 g
 unfold sigS
 constructor
 ·intro h
  split at h
  ·omega
  ·rename_i q1
   split at h
   ·rename_i q2; exact absurd h q2
   ·rename_i q2
    split at h
    ·rename_i q3; exact absurd h q3
    ·rename_i q3
     split at h
     ·omega
     ·rename_i q4
      split at h
      ·rename_i q5
       exact ⟨⟨by simpa using q1,by simpa using q2,by simpa using q3,q4⟩,q5⟩
      ·omega
 ·rintro ⟨⟨q1,q2,q3,q4⟩,q5⟩
  rw [if_neg (by simp [q1]),if_neg (by simp [q2]),if_neg (by simp [q3]),if_neg q4,if_pos q5]
theorem z5t {g:Sg}:(sigS g=0∨sigS g=43)↔(manyS g=false∧namesS g=0∧allS g=0∧¬NestP g):=by
 classical
 have h1:=zdw g
 have h2:=zh3 g
 unfold sigS
 constructor
 ·intro h
  split at h
  ·omega
  ·rename_i q1
   split at h
   ·rename_i q2; omega
   ·rename_i q2
    split at h
    ·rename_i q3; omega
    ·rename_i q3
     split at h
     ·omega
     ·rename_i q4
      exact ⟨by simpa using q1,by simpa using q2,by simpa using q3,q4⟩
 ·rintro ⟨q1,q2,q3,q4⟩
  rw [if_neg (by simp [q1]),if_neg (by simp [q2]),if_neg (by simp [q3]),if_neg q4]
  split
  ·exact .inl rfl
  ·exact .inr rfl
end
end Go.Proofs.YtccbilfbhecdaaaDoor
namespace Go.Proofs.YtccbilfbhecdaaaDoor
open Go Go.Abs
set_option maxRecDepth 100000
def turnD (d:Dat):Dat:=⟨d.n,d.cons.reverse⟩
def turnG (g:Sg):Sg:=⟨g.users.reverse,(g.datas.map turnD).reverse,g.funs.reverse⟩
theorem z2y (g:Sg):(turnG g).datas.length=g.datas.length:=by simp [turnG]
theorem zf8 {g:Sg} {i:Nat} (hi:i<(turnG g).datas.length):(turnG g).datas[i]=turnD (g.datas[g.datas.length - 1 - i]'(by have:=z2y g; omega)):=by
 simp [turnG,List.getElem_reverse]
theorem za9 {l:List ByteArray}:twS l=false↔l.Nodup:=by
 constructor
 ·intro h
  refine List.pairwise_iff_getElem.2 fun i j hi hj hij=>tw_ne h hij hj
 ·intro h
  cases hq:twS l with
  | false=>rfl
  | true =>
   exfalso
   obtain ⟨i,hi,hh⟩:=ze4.1 hq
   unfold hasU at hh
   rw [List.any_eq_true] at hh
   obtain ⟨x,hx,e⟩:=hh
   rw [List.mem_take_iff_getElem] at hx
   obtain ⟨j,hj,rfl⟩:=hx
   have:=List.pairwise_iff_getElem.1 h j i (by omega) hi (by omega)
   exact this (of_decide_eq_true e)
theorem zj3 {l l':List ByteArray} (h:l.Perm l'):twS l=twS l':=by
 cases hq:twS l with
 | false=>exact (za9.2 (h.nodup_iff.1 (za9.1 hq))).symm
 | true =>
  cases hr:twS l' with
  | true=>rfl
  | false=>rw [za9.2 (h.nodup_iff.2 (za9.1 hr))] at hq; cases hq
theorem zi1 (d:Dat):(conNames (turnD d)).Perm (conNames d):=by
 unfold conNames turnD
 exact List.Perm.flatMap_right _ (List.reverse_perm _)
theorem zco {α β:Type} {f f':α→List β}:∀{l:List α},(∀x∈l,(f x).Perm (f' x))→(l.flatMap f).Perm (l.flatMap f')
 | [],_=>.refl _
 | x :: l,h=>by
  rw [List.flatMap_cons,List.flatMap_cons]
  exact (h x (by simp)).append (zco fun y hy=>h y (by simp [hy]))
theorem zb7 (g:Sg):(sortNamesS (turnG g)).Perm (sortNamesS g):=by
 unfold sortNamesS turnG
 refine (List.reverse_perm _).append ?_
 refine (List.Perm.flatMap_right _ (List.reverse_perm _)).trans ?_
 rw [List.flatMap_map]
 exact .refl _
theorem zcl (g:Sg):(funNamesS (turnG g)).Perm (funNamesS g):=by
 unfold funNamesS turnG
 refine List.Perm.append ?_ (List.Perm.flatMap_right _ (List.reverse_perm _))
 refine (List.Perm.flatMap_right _ (List.reverse_perm _)).trans ?_
 rw [List.flatMap_map]
 exact zco fun d _=>zi1 d
theorem zkb (g:Sg):namesS (turnG g)=namesS g:=by
 unfold namesS
 rw [((zb7 g).append (zcl g)).any_eq,zj3 (zb7 g),zj3 (zcl g)]
theorem zew {α:Type} (f:α→Nat):∀l l':List α,sumL f (l++l')=sumL f l+sumL f l'
 | [],l'=>by simp [sumL]
 | x :: l,l'=>by
  simp only [List.cons_append,sumL,zew f l l']
  omega
theorem z9a {α:Type} (f:α→Nat):∀l:List α,sumL f l.reverse=sumL f l
 | []=>rfl
 | x :: l=>by
  rw [List.reverse_cons,zew,z9a f l]
  simp only [sumL]
  omega
theorem zjm {α β:Type} (f:β→Nat) (t:α→β):∀l:List α,sumL f (l.map t)=sumL (fun x=>f (t x)) l
 | []=>rfl
 | x :: l=>by simp only [List.map_cons,sumL,zjm f t l]
theorem zpb (d:Dat):badD (turnD d)=badD d:=by
 unfold badD turnD
 rw [List.length_reverse,List.any_reverse]
theorem znn (d:Dat):cntD (turnD d)=cntD d:=by
 unfold cntD turnD
 rw [List.length_reverse,z9a]
theorem zgb (g:Sg):manyS (turnG g)=manyS g:=by
 unfold manyS
 have e1:(turnG g).datas.any badD=g.datas.any badD:=by
  unfold turnG
  rw [List.any_reverse,List.any_map]
  congr 1
  funext d
  exact zpb d
 have e2:(turnG g).funs.any badF=g.funs.any badF:=by
  unfold turnG
  rw [List.any_reverse]
 have e3:cntG (turnG g)=cntG g:=by
  unfold cntG turnG
  simp only [List.length_reverse,List.length_map]
  rw [z9a,zjm]
  congr 2
  funext d
  exact znn d
 rw [e1,e2,e3]
theorem zrk {g:Sg} (h:namesS g=0) {i j:Nat} (hi:i<g.datas.length) (hj:j<g.datas.length) (hne:i≠j):(g.datas[i]).n≠(g.datas[j]).n:=by
 have h2:twS (sortNamesS g)=false:=by
  unfold namesS at h
  split at h
  ·omega
  ·split at h
   ·omega
   ·rename_i hq
    have hq:(twS (sortNamesS g)||twS (funNamesS g))=false:=by simpa using hq
    rw [Bool.or_eq_false_iff] at hq
    exact hq.1
 obtain ⟨a1,a2⟩:=zbh hi
 obtain ⟨b1,b2⟩:=zbh hj
 rcases Nat.lt_or_ge i j with hlt | hge
 ·have:=tw_ne h2 (i:=g.users.length+i) (j:=g.users.length+j) (by omega) b1
  rwa [a2,b2] at this
 ·have:=tw_ne h2 (i:=g.users.length+j) (j:=g.users.length+i) (by omega) a1
  rw [a2,b2] at this
  exact fun e=>this e.symm
theorem z6u {g:Sg} (h:namesS g=0):Iso g (turnG g) (fun i=>g.datas.length - 1 - i):=by
 refine ⟨z2y g,fun i hi=>by omega,fun i hi=>by omega,fun i h1 h2=>?_,fun n i hi=>?_,fun n hn=>?_,fun n=>?_⟩
 ·rw [zf8 h2]
  have e:g.datas.length - 1 - (g.datas.length - 1 - i)=i:=by omega
  simp only [e]
  exact List.reverse_perm _
 ·obtain ⟨hl,e1,e2⟩:=zab hi
  have hl2:g.datas.length - 1 - i<(turnG g).datas.length:=by rw [z2y]; omega
  unfold dataIx
  rw [List.findIdx?_eq_some_iff_getElem]
  refine ⟨hl2,?_,fun j hj=>?_⟩
  ·have e:g.datas.length - 1 - (g.datas.length - 1 - i)=i:=by omega
   rw [zf8 hl2]
   simp only [e]
   exact decide_eq_true e1
  ·rw [zf8 (by rw [z2y]; omega)]
   have hne:=zrk h (i:=g.datas.length - 1 - j) (j:=i) (by omega) hl (by omega)
   rw [e1] at hne
   exact fun e=>hne (of_decide_eq_true e)
 ·unfold dataIx at hn ⊢
  rw [List.findIdx?_eq_none_iff] at hn ⊢
  intro d hd
  unfold turnG at hd
  simp only [List.mem_reverse,List.mem_map] at hd
  obtain ⟨d0,hd0,rfl⟩:=hd
  exact hn d0 hd0
 ·unfold hasU turnG
  rw [List.any_reverse]
theorem zei {g:Sg} {x:Int×Int×ByteArray×Fo}:x∈sortsE (turnG g)↔x∈sortsE g:=by
 unfold sortsE turnG
 simp only [List.mem_append,List.mem_flatMap,List.mem_reverse,List.mem_map]
 constructor
 ·rintro (⟨d,⟨d0,h0,rfl⟩,c,hc,y,hy,rfl⟩ | h)
  ·exact .inl ⟨d0,h0,c,by simpa [turnD] using hc,y,hy,rfl⟩
  ·exact .inr h
 ·rintro (⟨d,hd,c,hc,y,hy,rfl⟩ | h)
  ·exact .inl ⟨turnD d,⟨d,hd,rfl⟩,c,by simpa [turnD] using hc,y,hy,rfl⟩
  ·exact .inr h
section
variable {g:Sg}
theorem zhn (h:namesS g=0):allS (turnG g)=0↔allS g=0:=by
 have I:=z6u h
 rw [zha,zha]
 constructor
 ·intro hq x hx
  rw [← I.checkS]
  exact hq x (zei.2 hx)
 ·intro hq x hx
  rw [I.checkS]
  exact hq x (zei.1 hx)
theorem z5r:(sigS (turnG g)=0∨sigS (turnG g)=43)↔(sigS g=0∨sigS g=43):=by
 rw [z5t,z5t,zgb,zkb]
 constructor
 ·rintro ⟨h1,h2,h3,h4⟩
  have I:=z6u h2
  have a0:=(zhn h2).1 h3
  exact ⟨h1,h2,a0,fun hn=>h4 (I.nest (ze2 h1 a0) hn)⟩
 ·rintro ⟨h1,h2,h3,h4⟩
  have I:=z6u h2
  have a0:=(zhn h2).2 h3
  exact ⟨h1,h2,a0,fun hn=>h4 (I.symm.nest (ze2 (by rw [zgb]; exact h1) a0) hn)⟩
theorem zgm (h:sigS g=0∨sigS g=43) {i:Nat} (hi:i<g.datas.length):Gd (turnG g) (g.datas.length - 1 - i)↔Gd g i:=by
 have hG:=zbu h
 have hG':=zbu (z5r.2 h)
 obtain ⟨_,h2,_,_⟩:=z5t.1 h
 have I:=z6u h2
 constructor
 ·intro hq
  have:=I.symm.gd hG' hq
  have e:g.datas.length - 1 - (g.datas.length - 1 - i)=i:=by omega
  simp only [e] at this
  exact this
 ·exact fun hq=>I.gd hG hq
theorem z87:sigS (turnG g)=0↔sigS g=0:=by
 constructor
 ·intro h
  have h0:=z5r.1 (.inl h)
  obtain ⟨_,hk⟩:=zch.1 h
  refine zch.2 ⟨z5t.1 h0,fun k hk'=>?_⟩
  exact (zgm h0 hk').1 (hk _ (by rw [z2y]; omega))
 ·intro h
  obtain ⟨_,hk⟩:=zch.1 h
  refine zch.2 ⟨z5t.1 (z5r.2 (.inl h)),fun k hk'=>?_⟩
  rw [z2y] at hk'
  have:=(zgm (.inl h) (i:=g.datas.length - 1 - k) (by omega)).2 (hk _ (by omega))
  have e:g.datas.length - 1 - (g.datas.length - 1 - k)=k:=by omega
  rwa [e] at this
theorem zlu (h:sigS g=0) {k w:Int} {n:ByteArray} {a:Fo} (hc:checkS g k w n a=0):cS (turnG g).datas (Tc (turnG g)) k w n a=cS g.datas (Tc g) k w n a:=by
 obtain ⟨hG,_,_⟩:=sig_ok h
 obtain ⟨_,h2,_,_⟩:=z5t.1 (.inl h)
 obtain ⟨c1,_,_,c4⟩:=zf3 hc
 have I:=z6u h2
 exact I.cs (fun i hi=>I.tc hG hi) c1 c4
theorem zk2 (k w:Int) (n:ByteArray) (a:Fo) (mo:Int):countS (turnG g) k w n a mo=countS g k w n a mo:=by
 by_cases h0:mo<1
 ·unfold countS
  rw [if_pos (.inl h0),if_pos (.inl h0)]
 by_cases h1:sigS g=0
 ·obtain ⟨_,h2,_,_⟩:=z5t.1 (.inl h1)
  have I:=z6u h2
  by_cases h3:checkS g k w n a=0
  ·rw [zhe h0 h1 h3,zhe h0 (z87.2 h1) (by rw [I.checkS]; exact h3),zlu h1 h3]
  ·unfold countS
   rw [if_pos (show mo<1∨sigS (turnG g)≠0∨checkS (turnG g) k w n a≠0 from .inr (.inr (by rw [I.checkS]; exact h3))),if_pos (show mo<1∨sigS g≠0∨checkS g k w n a≠0 from .inr (.inr h3))]
 ·unfold countS
  rw [if_pos (show mo<1∨sigS (turnG g)≠0∨checkS (turnG g) k w n a≠0 from .inr (.inl fun h=>h1 (z87.1 h))),if_pos (show mo<1∨sigS g≠0∨checkS g k w n a≠0 from .inr (.inl h1))]
theorem zo0 (k w:Int) (n:ByteArray) (a:Fo):finS (turnG g) k w n a=finS g k w n a:=by
 unfold finS
 by_cases h1:sigS g=0
 ·obtain ⟨_,h2,_,_⟩:=z5t.1 (.inl h1)
  have I:=z6u h2
  by_cases h3:checkS g k w n a=0
  ·rw [zlu h1 h3,decide_eq_true (show sigS (turnG g)=0∧checkS (turnG g) k w n a=0 from ⟨z87.2 h1,by rw [I.checkS]; exact h3⟩),decide_eq_true (show sigS g=0∧checkS g k w n a=0 from ⟨h1,h3⟩)]
  ·rw [decide_eq_false (show ¬(sigS g=0∧checkS g k w n a=0) from fun h=>h3 h.2),decide_eq_false (show ¬(sigS (turnG g)=0∧checkS (turnG g) k w n a=0) from fun h=>h3 (by rw [← I.checkS]; exact h.2))]
   rfl
 ·rw [decide_eq_false (show ¬(sigS g=0∧checkS g k w n a=0) from fun h=>h1 h.1),decide_eq_false (show ¬(sigS (turnG g)=0∧checkS (turnG g) k w n a=0) from fun h=>h1 (z87.1 h.1))]
  rfl
end
end Go.Proofs.YtccbilfbhecdaaaDoor
namespace Go.Proofs.YtccbilfbhecdaaaDoor
open Go Go.Abs
set_option maxRecDepth 100000
def zgd:(Sl3×AH)→Value
 | (r0,_)=>(Sl3.v r0)
def zgr (_:AH):(Sl3×AH)→AH:=fun r=>r.2
noncomputable def B25:Code:=(Tryd.f25.body).getD .skip
noncomputable def z5h (L:LC) (m:Nat) (H:AH) (a0_0 a0_1 a0_2:Sl3):Option (Sl3×AH) :=
 Option.bind (z2m L m H a0_0 a0_1 a0_2) fun (x1,H2) =>
 Option.bind (α:=Bool) (
  if x1=0 then
   some false
  else
   some (!decide (x1=43))) fun v11_3 =>
 if v11_3=true then
  some (Sl3.nil,H2)
 else
  Option.bind (z58 L m H2 a0_0 a0_1 a0_2) fun (x4,H5) =>
  Option.bind (z3j L m H5 x4) fun (x6,H7) =>
  some (x6,H7)
theorem zbm {L:LC} {m:Nat} {H:AH} {a0_0 a0_1 a0_2:Sl3} {r:(Sl3×AH)} (h:z5h L m H a0_0 a0_1 a0_2=some r) :
  CallS Tryd.prog (NE.plain 1000) m 25 #[(Value.agg #[(Sl3.v a0_0),(Sl3.v a0_1),(Sl3.v a0_2)])] H (zgd r) (zgr H r):=by
 refine CallS.mk (args:=[(Value.agg #[(Sl3.v a0_0),(Sl3.v a0_1),(Sl3.v a0_2)])]) Tryd.func25 (B:=B25) (by kernel_rfl) (fun E _=>?_)
 unfold z5h at h
 refine WS.sq (WS.rg (RS.mL 2 [kS 2 Sl3.nil,kL 1 0 0] ([some (33,[(Sl3.v a0_0),(Sl3.v a0_1),(Sl3.v a0_2)])]) (RS.dn (WS.nxt (WS.sq (WS.sq (WS.rg (RS.mS 1 [kA 4 #[(Sl3.v a0_0),(Sl3.v a0_1),(Sl3.v a0_2)]] ?_))))))))
 obtain ⟨⟨x1,H2⟩,hx,h⟩:=bind_some h
 try dsimp only at h
 refine RS.cl (some 5) (v:=(Value.int .i64 x1)) 20 #[(Value.agg #[(Sl3.v a0_0),(Sl3.v a0_1),(Sl3.v a0_2)])] (z4d hx) (RS.mS 1 [kI 3 x1] (RS.dn (WS.nxt ?_)))
 obtain ⟨v11_3,hx,h⟩:=bind_some h
 refine WS.sq ?_
 refine WS.join ([kB 11 v11_3,kL 1 0 0]) ([some (33,[(Sl3.v a0_0),(Sl3.v a0_1),(Sl3.v a0_2)])]) H2 ?_ (fun a w hs=>WS.nxt ?_ a w hs)
 ·clear h; rename _=>h
  refine WS.rg (RS.mS 3 [kB 8 (!decide (x1=0)),kB 7 (!decide (x1=0)),kI 6 x1] ?_)
  rcases z8 h with ⟨hp,h⟩ | ⟨hp,h⟩
  ·refine RS.fx 8 false (z6w hp) (RS.mS 3 [kB 11 false,kU 10,kU 9] (RS.dn ?_))
   cases h
   exact fun a w hs=>(jsN (hs.sb 1))
  ·refine RS.fx 8 true (z5u hp) (RS.mS 3 [kB 11 (!decide (x1=43)),kB 10 (!decide (x1=43)),kI 9 x1] (RS.dn ?_))
   cases h
   exact fun a w hs=>(jsN (hs.sb 1))
 ·clear hx
  rcases z8 h with ⟨hp,h⟩ | ⟨hp,h⟩
  ·refine WS.fx 11 true hp (WS.cT (WS.sq (WS.rg (RS.mS 1 [kS 2 Sl3.nil] (RS.dn (WS.nxt (WS.rt ?_)))))))
   cases h
   exact fun a w hs=>sqR (rtR (rS hs))
  ·refine WS.fx 11 false (b_not hp) (WS.cF (WS.sk (WS.nxt (WS.sq (WS.rg (RS.mS 1 [kA 12 #[(Sl3.v a0_0),(Sl3.v a0_1),(Sl3.v a0_2)]] ?_))))))
   obtain ⟨⟨x4,H5⟩,hx,h⟩:=bind_some h
   try dsimp only at h
   refine RS.cl (some 13) (v:=(Value.pointer x4)) 36 #[(Value.agg #[(Sl3.v a0_0),(Sl3.v a0_1),(Sl3.v a0_2)])] (z7q hx) ?_
   obtain ⟨⟨x6,H7⟩,hx,h⟩:=bind_some h
   try dsimp only at h
   refine RS.cl (some 14) (v:=(Sl3.v x6)) 48 #[(Value.pointer x4)] (z7s hx) (RS.mS 1 [kS 2 x6] (RS.dn (WS.nxt (WS.rt ?_))))
   cases h
   exact fun a w hs=>rtR (rS hs)
end Go.Proofs.YtccbilfbhecdaaaDoor
namespace Go.Proofs.YtccbilfbhecdaaaDoor
open Go Go.Abs
set_option maxRecDepth 100000
theorem zr3 {m:Nat} {H:AH} {l:List ByteArray} {s:Sl3} (h:VecA strE 9 m H l s) (hN:l.length≤maxN) (hl:∀x∈l,x.size≤maxS):SlL StrM 1 H s l:=by
 have h1:SlL StrA 1 H s l:=VecA.sl h hN fun x q hx=>by
  have:=hx 0 (.string x) rfl
  rwa [add_zero] at this
 refine ⟨h1.n,h1.2,h1.3,h1.4,LAt.of fun j hj=>?_⟩
 obtain ⟨a,e1,e2⟩:=h1.at_.get j hj
 exact ⟨a,e1,e2,hl _ (List.getElem_mem hj)⟩
theorem zpz {H:AH} {l:List ByteArray} {s:Sl3} (h:SlL StrM 1 H s l):∀x∈l,x.size≤maxS:=fun x hx=>by
 obtain ⟨i,hi,rfl⟩:=List.getElem_of_mem hx
 obtain ⟨a,_,e2⟩:=h.at_.get i hi
 exact e2.2
section
variable {H:AH} {s1 s2 s3:Sl3} {g:Sg} {L0 fuel:Nat}
end
end Go.Proofs.YtccbilfbhecdaaaDoor
namespace Go.Proofs.YtccbilfbhecdaaaDoor
open Go Go.Abs
set_option maxRecDepth 100000
def z4f:(Sl3×Sl3×Sl3×AH)→Value
 | (r0,r1,r2,_)=>(Value.agg #[(Sl3.v r0),(Sl3.v r1),(Sl3.v r2)])
def z4p (_:AH):(Sl3×Sl3×Sl3×AH)→AH:=fun r=>r.2.2.2
noncomputable def B27:Code:=(Tryd.f27.body).getD .skip
noncomputable def z2b (_L:LC) (m:Nat) (a0_0 _a0_1 _a0_2:Sl3):(AH×Int×Sl3×Sl3×Sl3)→Option (Lp (AH×Int×Sl3×Sl3×Sl3) (Sl3×Sl3×Sl3×AH)):=fun (H1,v4_2,w2_3,w2_4,w2_5) =>
 if v4_2≥0 then
  Option.bind (idxA 1 a0_0 v4_2) fun p6 =>
  Option.bind (rd deS H1 p6) fun x7 =>
  Option.bind (newR 9 1 #[(Value.string x7)] H1) fun (s8,H9) =>
  Option.bind (appS m 9 1 16 H9 w2_3 s8) fun (s10,H11) =>
  some (.next (H11,(IntKind.i64.wrap (v4_2 - 1)),s10,w2_4,w2_5))
 else
  some (.brk (H1,v4_2,w2_3,w2_4,w2_5))
def ze0 (_L:LC) (_m:Nat) (a0_0 a0_1 a0_2:Sl3):(AH×Int×Sl3×Sl3×Sl3)→KN×Lcs:=fun (_,v4_2,w2_3,w2_4,w2_5)=>([kI 4 v4_2,kL 1 0 0,kL 2 1 0,kL 3 2 0],[some (33,[(Sl3.v a0_0),(Sl3.v a0_1),(Sl3.v a0_2)]),some (33,[(Sl3.v Sl3.nil),(Sl3.v Sl3.nil),(Sl3.v Sl3.nil)]),some (33,[(Sl3.v w2_3),(Sl3.v w2_4),(Sl3.v w2_5)])])
noncomputable def z2f (_L:LC) (m:Nat) (_a0_0 a0_1 _a0_2:Sl3) (v5_18:Int) (_w2_19 _w2_20 _w2_21:Sl3):(AH×Int×ByteArray×Sl3)→Option (Lp (AH×Int×ByteArray×Sl3) (Sl3×Sl3×Sl3×AH)):=fun (H26,v7_27,w3_28,w3_29) =>
 if v7_27≥0 then
  Option.bind (idxA 2 a0_1 v5_18) fun p30 =>
  Option.bind (rd deSl H26 (Addr.add p30 1)) fun x31 =>
  Option.bind (idxA 2 x31 v7_27) fun p32 =>
  Option.bind (rd deS H26 (Addr.add p32 0)) fun x33_0 =>
  Option.bind (rd deSl H26 (Addr.add p32 1)) fun x33_1 =>
  Option.bind (newR 50 1 #[(Value.string x33_0),(Sl3.v x33_1)] H26) fun (s34,H35) =>
  Option.bind (appS m 50 2 40 H35 w3_29 s34) fun (s36,H37) =>
  some (.next (H37,(IntKind.i64.wrap (v7_27 - 1)),w3_28,s36))
 else
  some (.brk (H26,v7_27,w3_28,w3_29))
def zdl (_L:LC) (_m:Nat) (a0_0 a0_1 a0_2:Sl3) (v5_18:Int) (w2_19 w2_20 w2_21:Sl3):(AH×Int×ByteArray×Sl3)→KN×Lcs:=fun (_,v7_27,w3_28,w3_29)=>([kI 7 v7_27,kL 1 0 0,kL 2 1 0,kL 3 2 0,kI 5 v5_18,kL 6 3 0],[some (33,[(Sl3.v a0_0),(Sl3.v a0_1),(Sl3.v a0_2)]),some (33,[(Sl3.v Sl3.nil),(Sl3.v Sl3.nil),(Sl3.v Sl3.nil)]),some (33,[(Sl3.v w2_19),(Sl3.v w2_20),(Sl3.v w2_21)]),some (46,[(Value.string w3_28),(Sl3.v w3_29)])])
noncomputable def z2c (L:LC) (m:Nat) (a0_0 a0_1 a0_2:Sl3):(AH×Int×Sl3×Sl3×Sl3)→Option (Lp (AH×Int×Sl3×Sl3×Sl3) (Sl3×Sl3×Sl3×AH)):=fun (H17,v5_18,w2_19,w2_20,w2_21) =>
 if v5_18≥0 then
  Option.bind (idxA 2 a0_1 v5_18) fun p22 =>
  Option.bind (rd deS H17 (Addr.add p22 0)) fun x23 =>
  Option.bind (idxA 2 a0_1 v5_18) fun p24 =>
  Option.bind (rd deSl H17 (Addr.add p24 1)) fun x25 =>
  Option.bind (L.run (z2f L m a0_0 a0_1 a0_2 v5_18 w2_19 w2_20 w2_21) (H17,(IntKind.i64.wrap ((x25.n:Int) - 1)),x23,Sl3.nil)) fun o=>match o with
  | .inl (H38,_,w3_40,w3_41) =>
   Option.bind (newR 46 1 #[(Value.string w3_40),(Sl3.v w3_41)] H38) fun (s42,H43) =>
   Option.bind (appS m 46 2 40 H43 w2_20 s42) fun (s44,H45) =>
   some (.next (H45,(IntKind.i64.wrap (v5_18 - 1)),w2_19,s44,w2_21))
  | .inr r=>some (.ret r)
 else
  some (.brk (H17,v5_18,w2_19,w2_20,w2_21))
def zd5 (_L:LC) (_m:Nat) (a0_0 a0_1 a0_2:Sl3):(AH×Int×Sl3×Sl3×Sl3)→KN×Lcs:=fun (_,v5_18,w2_19,w2_20,w2_21)=>([kI 5 v5_18,kL 1 0 0,kL 2 1 0,kL 3 2 0],[some (33,[(Sl3.v a0_0),(Sl3.v a0_1),(Sl3.v a0_2)]),some (33,[(Sl3.v Sl3.nil),(Sl3.v Sl3.nil),(Sl3.v Sl3.nil)]),some (33,[(Sl3.v w2_19),(Sl3.v w2_20),(Sl3.v w2_21)])])
noncomputable def z2e (_L:LC) (m:Nat) (_a0_0 _a0_1 a0_2:Sl3):(AH×Int×Sl3×Sl3×Sl3)→Option (Lp (AH×Int×Sl3×Sl3×Sl3) (Sl3×Sl3×Sl3×AH)):=fun (H51,v8_52,w2_53,w2_54,w2_55) =>
 if v8_52≥0 then
  Option.bind (idxA 6 a0_2 v8_52) fun p56 =>
  Option.bind (rd deS H51 (Addr.add p56 0)) fun x57_0 =>
  Option.bind (rd deSl H51 (Addr.add p56 1)) fun x57_1 =>
  Option.bind (rd (deI .i64) H51 (Addr.add p56 2)) fun x57_2 =>
  Option.bind (rd (deI .i64) H51 (Addr.add p56 3)) fun x57_3 =>
  Option.bind (rd deS H51 (Addr.add p56 4)) fun x57_4 =>
  Option.bind (rd deSl H51 (Addr.add p56 5)) fun x57_5 =>
  Option.bind (newR 89 1 #[(Value.string x57_0),(Sl3.v x57_1),(Value.int .i64 x57_2),(Value.int .i64 x57_3),(Value.string x57_4),(Sl3.v x57_5)] H51) fun (s58,H59) =>
  Option.bind (appS m 89 6 96 H59 w2_55 s58) fun (s60,H61) =>
  some (.next (H61,(IntKind.i64.wrap (v8_52 - 1)),w2_53,w2_54,s60))
 else
  some (.brk (H51,v8_52,w2_53,w2_54,w2_55))
def zdi (_L:LC) (_m:Nat) (a0_0 a0_1 a0_2:Sl3):(AH×Int×Sl3×Sl3×Sl3)→KN×Lcs:=fun (_,v8_52,w2_53,w2_54,w2_55)=>([kI 8 v8_52,kL 1 0 0,kL 2 1 0,kL 3 2 0],[some (33,[(Sl3.v a0_0),(Sl3.v a0_1),(Sl3.v a0_2)]),some (33,[(Sl3.v Sl3.nil),(Sl3.v Sl3.nil),(Sl3.v Sl3.nil)]),some (33,[(Sl3.v w2_53),(Sl3.v w2_54),(Sl3.v w2_55)])])
noncomputable def z5m (L:LC) (m:Nat) (H:AH) (a0_0 a0_1 a0_2:Sl3):Option (Sl3×Sl3×Sl3×AH) :=
 Option.bind (L.run (z2b L m a0_0 a0_1 a0_2) (H,(IntKind.i64.wrap ((a0_0.n:Int) - 1)),Sl3.nil,Sl3.nil,Sl3.nil)) fun o=>match o with
 | .inl (H12,_,w2_14,w2_15,w2_16) =>
  Option.bind (L.run (z2c L m a0_0 a0_1 a0_2) (H12,(IntKind.i64.wrap ((a0_1.n:Int) - 1)),w2_14,w2_15,w2_16)) fun o=>match o with
  | .inl (H46,_,w2_48,w2_49,w2_50) =>
   Option.bind (L.run (z2e L m a0_0 a0_1 a0_2) (H46,(IntKind.i64.wrap ((a0_2.n:Int) - 1)),w2_48,w2_49,w2_50)) fun o=>match o with
   | .inl (H62,_,w2_64,w2_65,w2_66) =>
    some (w2_64,w2_65,w2_66,H62)
   | .inr r=>some r
  | .inr r=>some r
 | .inr r=>some r
theorem z8a {E H L m a0_0 a0_1 a0_2} :LoopF Tryd.prog (NE.plain 1000) m E Tryd.f27 ((cfst (csnd (cfst (csnd (csnd B27)))))) (ze0 L m a0_0 a0_1 a0_2) (fun s=>s.1) 0 z4f (z4p H) (z2b L m a0_0 a0_1 a0_2):=by
 rintro ⟨H1,v4_2,w2_3,w2_4,w2_5⟩ o h
 unfold z2b at h
 try dsimp only at h
 refine WS.sq (WS.sq (WS.rg (RS.mS 2 [kB 14 (decide (v4_2≥0)),kI 13 v4_2] (RS.dn (WS.nxt ?_)))))
 rcases z8 h with ⟨hp,h⟩ | ⟨hp,h⟩
 ·refine WS.fx 14 true (decide_eq_true hp) (WS.cT (WS.sk (WS.nxt (WS.sq (WS.bk 1 ?_)))))
  refine WS.dr [0,1,2,3,4,5,6] [0,1,0,4,0,28,60,124,255,511,1023] 11 (fun hcl=>?_)
  refine DA.tL 0 (some 17) (.loc 2 0) (DA.tL 1 (some 18) (.val (Sl3.v w2_3)) (DA.tL 2 (some 19) (.loc 0 0) (DA.tL 3 (some 20) (.val (Sl3.v a0_0)) (DA.tK 4 (some 21) (Value.int .i64 v4_2) ?_))))
  obtain ⟨p6,hx,h⟩:=bind_some h
  refine DA.tD 5 (some 22) (Value.pointer (some p6)) (Abs.det_idx (s:=a0_0) (k:=.i64) (t:=29) (e:=9) (x:=.tmp 20) (y:=.tmp 21) (by kernel_rfl) (by kernel_rfl) (by kernel_rfl) (by kernel_rfl) (by kernel_rfl) hx) ?_
  obtain ⟨x7,hx,h⟩:=bind_some h
  refine DA.tD 6 (some 23) (Value.string x7) (Abs.det_load (t:=9) (x:=.tmp 22) (a:=p6) (by kernel_rfl) (by kernel_rfl) (by kernel_rfl) (by kernel_rfl) (z0 hx zd)) ?_
  obtain ⟨⟨s8,H9⟩,hx,h⟩:=bind_some h
  try dsimp only at h
  refine DA.on 7 (DA.aHk (H':=H9) 7 (some 24) false (Sl3.v s8) (Abs.run_newR (by kernel_rfl) (by kernel_rfl) hx) ?_)
  obtain ⟨⟨s10,H11⟩,hx,h⟩:=bind_some h
  try dsimp only at h
  refine DA.on 8 (DA.aH (H':=H11) 8 (some 25) (Sl3.v s10) (Abs.run_app (x:=.tmp 18) (y:=.tmp 24) (ts:=#[29,29]) (s:=w2_3) (z:=s8) (by kernel_rfl) (by kernel_rfl) (by kernel_rfl) (by kernel_rfl) hx) (DA.tPL 9 (some 26) (.loc 2 0) (DA.on 10 (DA.aL 10 none (.val undef) ([some (33,[(Sl3.v a0_0),(Sl3.v a0_1),(Sl3.v a0_2)]),some (33,[(Sl3.v Sl3.nil),(Sl3.v Sl3.nil),(Sl3.v Sl3.nil)]),some (33,[(Sl3.v s10),(Sl3.v w2_4),(Sl3.v w2_5)])]) false (DA.dn ?_)))))
  refine fun a w hs=>bkN ((WS.nxt ?_ a w hs))
  refine WS.rg (RS.mS 3 [kI 4 (IntKind.i64.wrap (v4_2 - 1)),kI 16 (IntKind.i64.wrap (v4_2 - 1)),kI 15 v4_2] (RS.dn ?_))
  cases h
  exact fun a w hs=>lsN rfl (hs.sb 3)
 ·refine WS.fx 14 false (decide_eq_false hp) (WS.cF (WS.ex 0 ?_))
  cases h
  exact fun a w hs=>sqE (lsB rfl (hs.sb 3))
theorem z8g {E H L m a0_0 a0_1 a0_2 v5_18 w2_19 w2_20 w2_21} :LoopF Tryd.prog (NE.plain 1000) m E Tryd.f27 ((cfst (csnd (cfst (csnd (cfst (cfst (csnd (cfst (cfst (csnd (cfst (csnd (csnd (csnd B27))))))))))))))) (zdl L m a0_0 a0_1 a0_2 v5_18 w2_19 w2_20 w2_21) (fun s=>s.1) 4 z4f (z4p H) (z2f L m a0_0 a0_1 a0_2 v5_18 w2_19 w2_20 w2_21):=by
 rintro ⟨H26,v7_27,w3_28,w3_29⟩ o h
 unfold z2f at h
 try dsimp only at h
 refine WS.sq (WS.sq (WS.rg (RS.mS 2 [kB 51 (decide (v7_27≥0)),kI 50 v7_27] (RS.dn (WS.nxt ?_)))))
 rcases z8 h with ⟨hp,h⟩ | ⟨hp,h⟩
 ·refine WS.fx 51 true (decide_eq_true hp) (WS.cT (WS.sk (WS.nxt (WS.sq (WS.bk 5 ?_)))))
  refine WS.dr [0,1,2,3,4,5,6,7,8,9,10] [0,1,0,4,0,28,60,124,0,508,1020,2044,4095,8191,16383] 15 (fun hcl=>?_)
  refine DA.tL 0 (some 54) (.loc 3 1) (DA.tL 1 (some 55) (.val (Sl3.v w3_29)) (DA.tL 2 (some 56) (.loc 0 1) (DA.tL 3 (some 57) (.val (Sl3.v a0_1)) (DA.tK 4 (some 58) (Value.int .i64 v5_18) ?_))))
  obtain ⟨p30,hx,h⟩:=bind_some h
  refine DA.tD 5 (some 59) (Value.pointer (some p30)) (Abs.det_idx (s:=a0_1) (k:=.i64) (t:=30) (e:=46) (x:=.tmp 57) (y:=.tmp 58) (by kernel_rfl) (by kernel_rfl) (by kernel_rfl) (by kernel_rfl) (by kernel_rfl) hx) (DA.tK 6 (some 60) (Value.pointer (some (Addr.add p30 1))) ?_)
  obtain ⟨x31,hx,h⟩:=bind_some h
  refine DA.tD 7 (some 61) (Sl3.v x31) (Abs.det_load (t:=44) (x:=.tmp 60) (a:=(Addr.add p30 1)) (by kernel_rfl) (by kernel_rfl) (by kernel_rfl) (by kernel_rfl) (z0 hx za)) (DA.tK 8 (some 62) (Value.int .i64 v7_27) ?_)
  obtain ⟨p32,hx,h⟩:=bind_some h
  refine DA.tD 9 (some 63) (Value.pointer (some p32)) (Abs.det_idx (s:=x31) (k:=.i64) (t:=44) (e:=50) (x:=.tmp 61) (y:=.tmp 62) (by kernel_rfl) (by kernel_rfl) (by kernel_rfl) (by kernel_rfl) (by kernel_rfl) hx) ?_
  obtain ⟨x33_0,hx0,h⟩:=bind_some h
  obtain ⟨x33_1,hx1,h⟩:=bind_some h
  refine DA.tD 10 (some 64) (Value.agg #[(Value.string x33_0),(Sl3.v x33_1)]) (Abs.det_loadA (t:=50) (x:=.tmp 63) (a:=p32) (k:=2) (by kernel_rfl) (by kernel_rfl) (by kernel_rfl) (by kernel_rfl) (z7 (z0 hx0 zd) (z7 (z0 hx1 za) zf))) ?_
  obtain ⟨⟨s34,H35⟩,hx,h⟩:=bind_some h
  try dsimp only at h
  refine DA.on 11 (DA.aHk (H':=H35) 11 (some 65) false (Sl3.v s34) (Abs.run_newR (by kernel_rfl) (by kernel_rfl) hx) ?_)
  obtain ⟨⟨s36,H37⟩,hx,h⟩:=bind_some h
  try dsimp only at h
  refine DA.on 12 (DA.aH (H':=H37) 12 (some 66) (Sl3.v s36) (Abs.run_app (x:=.tmp 55) (y:=.tmp 65) (ts:=#[44,44]) (s:=w3_29) (z:=s34) (by kernel_rfl) (by kernel_rfl) (by kernel_rfl) (by kernel_rfl) hx) (DA.tPL 13 (some 67) (.loc 3 1) (DA.on 14 (DA.aL 14 none (.val undef) ([some (33,[(Sl3.v a0_0),(Sl3.v a0_1),(Sl3.v a0_2)]),some (33,[(Sl3.v Sl3.nil),(Sl3.v Sl3.nil),(Sl3.v Sl3.nil)]),some (33,[(Sl3.v w2_19),(Sl3.v w2_20),(Sl3.v w2_21)]),some (46,[(Value.string w3_28),(Sl3.v s36)])]) false (DA.dn ?_)))))
  refine fun a w hs=>bkN ((WS.nxt ?_ a w hs))
  refine WS.rg (RS.mS 3 [kI 7 (IntKind.i64.wrap (v7_27 - 1)),kI 53 (IntKind.i64.wrap (v7_27 - 1)),kI 52 v7_27] (RS.dn ?_))
  cases h
  exact fun a w hs=>lsN rfl (hs.sb 4)
 ·refine WS.fx 51 false (decide_eq_false hp) (WS.cF (WS.ex 4 ?_))
  cases h
  exact fun a w hs=>sqE (lsB rfl (hs.sb 4))
theorem z8e {E H L m a0_0 a0_1 a0_2} :LoopF Tryd.prog (NE.plain 1000) m E Tryd.f27 ((cfst (csnd (cfst (csnd (csnd (csnd B27))))))) (zd5 L m a0_0 a0_1 a0_2) (fun s=>s.1) 2 z4f (z4p H) (z2c L m a0_0 a0_1 a0_2):=by
 rintro ⟨H17,v5_18,w2_19,w2_20,w2_21⟩ o h
 unfold z2c at h
 try dsimp only at h
 refine WS.sq (WS.sq (WS.rg (RS.mS 2 [kB 32 (decide (v5_18≥0)),kI 31 v5_18] (RS.dn (WS.nxt ?_)))))
 rcases z8 h with ⟨hp,h⟩ | ⟨hp,h⟩
 ·refine WS.fx 32 true (decide_eq_true hp) (WS.cT (WS.sk (WS.nxt (WS.sq (WS.bk 3 (WS.sq (WS.rg (RS.mS 3 [kI 37 v5_18,kS 36 a0_1,kL 35 0 1] ?_))))))))
  obtain ⟨p22,hx,h⟩:=bind_some h
  refine RS.ix 38 30 46 (.tmp 36) (.tmp 37) hx (RS.mS 1 [(39,.val (Value.pointer (some (Addr.add p22 0))))] ?_)
  obtain ⟨x23,hx,h⟩:=bind_some h
  refine RS.ld 40 9 (.tmp 39) (z0 hx zd) (RS.mL 3 [kL 6 3 0,kA 41 #[(Value.string x23),(Sl3.v Sl3.nil)]] ([some (33,[(Sl3.v a0_0),(Sl3.v a0_1),(Sl3.v a0_2)]),some (33,[(Sl3.v Sl3.nil),(Sl3.v Sl3.nil),(Sl3.v Sl3.nil)]),some (33,[(Sl3.v w2_19),(Sl3.v w2_20),(Sl3.v w2_21)]),some (46,[(Value.string x23),(Sl3.v Sl3.nil)])]) (RS.dn (WS.nxt (WS.sq (WS.sq (WS.rg (RS.mS 3 [kI 44 v5_18,kS 43 a0_1,kL 42 0 1] ?_)))))))
  obtain ⟨p24,hx,h⟩:=bind_some h
  refine RS.ix 45 30 46 (.tmp 43) (.tmp 44) hx (RS.mS 1 [(46,.val (Value.pointer (some (Addr.add p24 1))))] ?_)
  obtain ⟨x25,hx,h⟩:=bind_some h
  refine RS.ld 47 44 (.tmp 46) (z0 hx za) (RS.mS 3 [kI 7 (IntKind.i64.wrap ((x25.n:Int) - 1)),kI 49 (IntKind.i64.wrap ((x25.n:Int) - 1)),kI 48 (x25.n:Int)] (RS.dn (WS.nxt (WS.bk 4 ?_))))
  obtain ⟨o,hl,h⟩:=bind_some h
  rcases o with ⟨H38,v7_39,w3_40,w3_41⟩ | r
  ·try dsimp only at h
   refine WS.lI (z8g (L:=L) (E:=E) (m:=m) (H:=H)) (L.ok hl) 4 ?_
   clear hl
   refine fun a w hs=>bkE ((WS.nxt ?_ a w hs))
   refine WS.rg (RS.mS 3 [kA 70 #[(Value.string w3_40),(Sl3.v w3_41)],kS 69 w2_20,kL 68 2 1] ?_)
   obtain ⟨⟨s42,H43⟩,hx,h⟩:=bind_some h
   try dsimp only at h
   refine RS.o (H':=H43) (some 71) (Sl3.v s42) (Abs.run_newR (by kernel_rfl) (by kernel_rfl) hx) ?_
   obtain ⟨⟨s44,H45⟩,hx,h⟩:=bind_some h
   try dsimp only at h
   refine RS.o (H':=H45) (some 72) (Sl3.v s44) (Abs.run_app (x:=.tmp 69) (y:=.tmp 71) (ts:=#[30,30]) (s:=w2_20) (z:=s42) (by kernel_rfl) (by kernel_rfl) (by kernel_rfl) (by kernel_rfl) hx) (RS.mL 2 [kL 73 2 1] ([some (33,[(Sl3.v a0_0),(Sl3.v a0_1),(Sl3.v a0_2)]),some (33,[(Sl3.v Sl3.nil),(Sl3.v Sl3.nil),(Sl3.v Sl3.nil)]),some (33,[(Sl3.v w2_19),(Sl3.v s44),(Sl3.v w2_21)]),some (46,[(Value.string w3_40),(Sl3.v w3_41)])]) (RS.dn ?_))
   refine fun a w hs=>bkN ((WS.nxt ?_ a w hs))
   refine WS.rg (RS.mS 3 [kI 5 (IntKind.i64.wrap (v5_18 - 1)),kI 34 (IntKind.i64.wrap (v5_18 - 1)),kI 33 v5_18] (RS.dn ?_))
   cases h
   exact fun a w hs=>lsN rfl (hs.sb 3)
  ·try dsimp only at h
   refine WS.lR (z8g (L:=L) (E:=E) (m:=m) (H:=H)) (L.ok hl) 4 ?_
   cases h
   exact fun a w hq=>bkR (sqR (bkR (sqR (lsR rfl hq))))
 ·refine WS.fx 32 false (decide_eq_false hp) (WS.cF (WS.ex 2 ?_))
  cases h
  exact fun a w hs=>sqE (lsB rfl (hs.sb 3))
theorem z8b {E H L m a0_0 a0_1 a0_2} :LoopF Tryd.prog (NE.plain 1000) m E Tryd.f27 ((cfst (csnd (cfst (csnd (csnd (csnd (csnd B27)))))))) (zdi L m a0_0 a0_1 a0_2) (fun s=>s.1) 6 z4f (z4p H) (z2e L m a0_0 a0_1 a0_2):=by
 rintro ⟨H51,v8_52,w2_53,w2_54,w2_55⟩ o h
 unfold z2e at h
 try dsimp only at h
 refine WS.sq (WS.sq (WS.rg (RS.mS 2 [kB 79 (decide (v8_52≥0)),kI 78 v8_52] (RS.dn (WS.nxt ?_)))))
 rcases z8 h with ⟨hp,h⟩ | ⟨hp,h⟩
 ·refine WS.fx 79 true (decide_eq_true hp) (WS.cT (WS.sk (WS.nxt (WS.sq (WS.bk 7 ?_)))))
  refine WS.dr [0,1,2,3,4,5,6] [0,1,0,4,0,28,60,124,255,511,1023] 11 (fun hcl=>?_)
  refine DA.tL 0 (some 82) (.loc 2 2) (DA.tL 1 (some 83) (.val (Sl3.v w2_55)) (DA.tL 2 (some 84) (.loc 0 2) (DA.tL 3 (some 85) (.val (Sl3.v a0_2)) (DA.tK 4 (some 86) (Value.int .i64 v8_52) ?_))))
  obtain ⟨p56,hx,h⟩:=bind_some h
  refine DA.tD 5 (some 87) (Value.pointer (some p56)) (Abs.det_idx (s:=a0_2) (k:=.i64) (t:=31) (e:=89) (x:=.tmp 85) (y:=.tmp 86) (by kernel_rfl) (by kernel_rfl) (by kernel_rfl) (by kernel_rfl) (by kernel_rfl) hx) ?_
  obtain ⟨x57_0,hx0,h⟩:=bind_some h
  obtain ⟨x57_1,hx1,h⟩:=bind_some h
  obtain ⟨x57_2,hx2,h⟩:=bind_some h
  obtain ⟨x57_3,hx3,h⟩:=bind_some h
  obtain ⟨x57_4,hx4,h⟩:=bind_some h
  obtain ⟨x57_5,hx5,h⟩:=bind_some h
  refine DA.tD 6 (some 88) (Value.agg #[(Value.string x57_0),(Sl3.v x57_1),(Value.int .i64 x57_2),(Value.int .i64 x57_3),(Value.string x57_4),(Sl3.v x57_5)]) (Abs.det_loadA (t:=89) (x:=.tmp 87) (a:=p56) (k:=6) (by kernel_rfl) (by kernel_rfl) (by kernel_rfl) (by kernel_rfl) (z7 (z0 hx0 zd) (z7 (z0 hx1 za) (z7 (z0 hx2 z9) (z7 (z0 hx3 z9) (z7 (z0 hx4 zd) (z7 (z0 hx5 za) zf))))))) ?_
  obtain ⟨⟨s58,H59⟩,hx,h⟩:=bind_some h
  try dsimp only at h
  refine DA.on 7 (DA.aHk (H':=H59) 7 (some 89) false (Sl3.v s58) (Abs.run_newR (by kernel_rfl) (by kernel_rfl) hx) ?_)
  obtain ⟨⟨s60,H61⟩,hx,h⟩:=bind_some h
  try dsimp only at h
  refine DA.on 8 (DA.aH (H':=H61) 8 (some 90) (Sl3.v s60) (Abs.run_app (x:=.tmp 83) (y:=.tmp 89) (ts:=#[31,31]) (s:=w2_55) (z:=s58) (by kernel_rfl) (by kernel_rfl) (by kernel_rfl) (by kernel_rfl) hx) (DA.tPL 9 (some 91) (.loc 2 2) (DA.on 10 (DA.aL 10 none (.val undef) ([some (33,[(Sl3.v a0_0),(Sl3.v a0_1),(Sl3.v a0_2)]),some (33,[(Sl3.v Sl3.nil),(Sl3.v Sl3.nil),(Sl3.v Sl3.nil)]),some (33,[(Sl3.v w2_53),(Sl3.v w2_54),(Sl3.v s60)])]) false (DA.dn ?_)))))
  refine fun a w hs=>bkN ((WS.nxt ?_ a w hs))
  refine WS.rg (RS.mS 3 [kI 8 (IntKind.i64.wrap (v8_52 - 1)),kI 81 (IntKind.i64.wrap (v8_52 - 1)),kI 80 v8_52] (RS.dn ?_))
  cases h
  exact fun a w hs=>lsN rfl (hs.sb 3)
 ·refine WS.fx 79 false (decide_eq_false hp) (WS.cF (WS.ex 6 ?_))
  cases h
  exact fun a w hs=>sqE (lsB rfl (hs.sb 3))
theorem zgj {L:LC} {m:Nat} {H:AH} {a0_0 a0_1 a0_2:Sl3} {r:(Sl3×Sl3×Sl3×AH)} (h:z5m L m H a0_0 a0_1 a0_2=some r) :
  CallS Tryd.prog (NE.plain 1000) m 27 #[(Value.agg #[(Sl3.v a0_0),(Sl3.v a0_1),(Sl3.v a0_2)])] H (z4f r) (z4p H r):=by
 refine CallS.mk (args:=[(Value.agg #[(Sl3.v a0_0),(Sl3.v a0_1),(Sl3.v a0_2)])]) Tryd.func27 (B:=B27) (by kernel_rfl) (fun E _=>?_)
 unfold z5m at h
 refine WS.sq (WS.rg (RS.mL 2 [kL 2 1 0,kL 1 0 0] ([some (33,[(Sl3.v a0_0),(Sl3.v a0_1),(Sl3.v a0_2)]),some (33,[(Sl3.v Sl3.nil),(Sl3.v Sl3.nil),(Sl3.v Sl3.nil)])]) (RS.dn (WS.nxt (WS.sq (WS.rg (RS.mL 1 [kL 3 2 0] ([some (33,[(Sl3.v a0_0),(Sl3.v a0_1),(Sl3.v a0_2)]),some (33,[(Sl3.v Sl3.nil),(Sl3.v Sl3.nil),(Sl3.v Sl3.nil)]),some (33,[(Sl3.v Sl3.nil),(Sl3.v Sl3.nil),(Sl3.v Sl3.nil)])]) (RS.dn (WS.nxt ?_)))))))))
 refine WS.sq (WS.sq (WS.rg (RS.mS 5 [kI 4 (IntKind.i64.wrap ((a0_0.n:Int) - 1)),kI 12 (IntKind.i64.wrap ((a0_0.n:Int) - 1)),kI 11 (a0_0.n:Int),kS 10 a0_0,kL 9 0 0] (RS.dn (WS.nxt (WS.bk 0 ?_))))))
 obtain ⟨o,hl,h⟩:=bind_some h
 rcases o with ⟨H12,v4_13,w2_14,w2_15,w2_16⟩ | r
 ·try dsimp only at h
  refine WS.lI (z8a (L:=L) (E:=E) (m:=m) (H:=H)) (L.ok hl) 3 ?_
  clear hl
  refine fun a w hs=>bkE ((WS.nxt ?_ a w hs))
  refine WS.sq (WS.sq (WS.rg (RS.mS 5 [kI 5 (IntKind.i64.wrap ((a0_1.n:Int) - 1)),kI 30 (IntKind.i64.wrap ((a0_1.n:Int) - 1)),kI 29 (a0_1.n:Int),kS 28 a0_1,kL 27 0 1] (RS.dn (WS.nxt (WS.bk 2 ?_))))))
  obtain ⟨o,hl,h⟩:=bind_some h
  rcases o with ⟨H46,v5_47,w2_48,w2_49,w2_50⟩ | r
  ·try dsimp only at h
   refine WS.lI (z8e (L:=L) (E:=E) (m:=m) (H:=H)) (L.ok hl) 3 ?_
   clear hl
   refine fun a w hs=>bkE ((WS.nxt ?_ a w hs))
   refine WS.sq (WS.sq (WS.rg (RS.mS 5 [kI 8 (IntKind.i64.wrap ((a0_2.n:Int) - 1)),kI 77 (IntKind.i64.wrap ((a0_2.n:Int) - 1)),kI 76 (a0_2.n:Int),kS 75 a0_2,kL 74 0 2] (RS.dn (WS.nxt (WS.bk 6 ?_))))))
   obtain ⟨o,hl,h⟩:=bind_some h
   rcases o with ⟨H62,v8_63,w2_64,w2_65,w2_66⟩ | r
   ·try dsimp only at h
    refine WS.lI (z8b (L:=L) (E:=E) (m:=m) (H:=H)) (L.ok hl) 3 ?_
    clear hl
    refine fun a w hs=>bkE ((WS.nxt ?_ a w hs))
    refine WS.sq (WS.rg (RS.mL 2 [kA 92 #[(Sl3.v w2_64),(Sl3.v w2_65),(Sl3.v w2_66)]] ([some (33,[(Sl3.v a0_0),(Sl3.v a0_1),(Sl3.v a0_2)]),some (33,[(Sl3.v w2_64),(Sl3.v w2_65),(Sl3.v w2_66)]),some (33,[(Sl3.v w2_64),(Sl3.v w2_65),(Sl3.v w2_66)])]) (RS.dn (WS.nxt (WS.rt ?_)))))
    cases h
    exact fun a w hs=>rtR (rS hs)
   ·try dsimp only at h
    refine WS.lR (z8b (L:=L) (E:=E) (m:=m) (H:=H)) (L.ok hl) 3 ?_
    cases h
    exact fun a w hq=>bkR (sqR (rtR hq))
  ·try dsimp only at h
   refine WS.lR (z8e (L:=L) (E:=E) (m:=m) (H:=H)) (L.ok hl) 3 ?_
   cases h
   exact fun a w hq=>bkR (sqR (rtR hq))
 ·try dsimp only at h
  refine WS.lR (z8a (L:=L) (E:=E) (m:=m) (H:=H)) (L.ok hl) 3 ?_
  cases h
  exact fun a w hq=>bkR (sqR (rtR hq))
def z7r:(Bool×AH)→Value
 | (r0,_)=>(Value.bool r0)
def z88 (_:AH):(Bool×AH)→AH:=fun r=>r.2
noncomputable def B10:Code:=(Tryd.f10.body).getD .skip
noncomputable def z10 (_L:LC) (_a0_0 _a0_1:Int) (_a0_2:ByteArray) (_a0_3 _a1_0:Sl3) (_a1_1 _a1_2:Sl3) (_x1_0 _x1_1:Sl3) (_x1_2 x9 x11:Sl3) (H13:AH):Int→Option (Lp Int (Bool×AH)):=fun v14_24 =>
 if v14_24<(x9.n:Int) then
  Option.bind (idxA 1 x9 v14_24) fun p25 =>
  Option.bind (rd deB H13 p25) fun x26 =>
  Option.bind (idxA 1 x11 (IntKind.i64.wrap ((IntKind.i64.wrap ((x11.n:Int) - 1)) - v14_24))) fun p27 =>
  Option.bind (rd deB H13 p27) fun x28 =>
  if (x26 == x28)=true then
   some (.next (IntKind.i64.wrap (v14_24+1)))
  else
   some (.ret (false,H13))
 else
  some (.brk v14_24)
def zbp (_L:LC) (a0_0 a0_1:Int) (a0_2:ByteArray) (a0_3 a1_0:Sl3) (a1_1 a1_2:Sl3) (x1_0 x1_1:Sl3) (x1_2 x9 x11:Sl3) (_H13:AH):Int→KN×Lcs:=fun v14_24=>([kI 14 v14_24,kS 12 x9,kS 13 x11],[some (28,[(Value.int .i64 a0_0),(Value.int .i64 a0_1),(Value.string a0_2),(Sl3.v a0_3)]),some (33,[(Sl3.v a1_0),(Sl3.v a1_1),(Sl3.v a1_2)]),some (33,[(Sl3.v x1_0),(Sl3.v x1_1),(Sl3.v x1_2)])])
noncomputable def z5j (L:LC) (m:Nat) (H:AH) (a0_0 a0_1:Int) (a0_2:ByteArray) (a0_3 a1_0:Sl3) (a1_1 a1_2:Sl3) (a2:Int):Option (Bool×AH) :=
 Option.bind (z5m L m H a1_0 a1_1 a1_2) fun (x1_0,x1_1,x1_2,H2) =>
 Option.bind (z6b L m H2 a0_0 a0_1 a0_2 a0_3 a1_0 a1_1 a1_2 a2) fun (x3,x4,H5) =>
 Option.bind (z6b L m H5 a0_0 a0_1 a0_2 a0_3 x1_0 x1_1 x1_2 a2) fun (x6,x7,H8) =>
 Option.bind (z5h L (Nat.max m H8.next) H8 a1_0 a1_1 a1_2) fun (x9,H10) =>
 Option.bind (z5h L m H10 x1_0 x1_1 x1_2) fun (x11,H12) =>
 Option.bind (α:=(AH×Bool)) (
  Option.bind (z6m L H12) fun x15 =>
  if x15=true then
   Option.bind (z2m L (Nat.max m H12.next) H12 a1_0 a1_1 a1_2) fun (x16,H17) =>
   Option.bind (z2m L (Nat.max m H17.next) H17 x1_0 x1_1 x1_2) fun (x18,H19) =>
   if ((decide (x16=0)) == (decide (x18=0)))=true then
    if x3=x6 then
     if (x4 == x7)=true then
      Option.bind (z5g L (Nat.max m H19.next) H19 a0_0 a0_1 a0_2 a0_3 a1_0 a1_1 a1_2) fun (x20,H21) =>
      Option.bind (z5g L m H21 a0_0 a0_1 a0_2 a0_3 x1_0 x1_1 x1_2) fun (x22,H23) =>
      if (x20 == x22)=true then
       some (H23,(!decide ((x9.n:Int)=(x11.n:Int))))
      else
       some (H23,true)
     else
      some (H19,true)
    else
     some (H19,true)
   else
    some (H19,true)
  else
   some (H12,true)) fun (H13,v71_14) =>
 if v71_14=true then
  some (false,H13)
 else
  Option.bind (L.run (z10 L a0_0 a0_1 a0_2 a0_3 a1_0 a1_1 a1_2 x1_0 x1_1 x1_2 x9 x11 H13) 0) fun o=>match o with
  | .inl _ =>
   some (true,H13)
  | .inr r=>some r
theorem z6z {E m H L a0_0 a0_1 a0_2 a0_3 a1_0 a1_1 a1_2 x1_0 x1_1 x1_2 x9 x11 H13} :LoopF Tryd.prog (NE.plain 1000) m E Tryd.f10 ((cfst (csnd (cfst (csnd (csnd (csnd (csnd (csnd (csnd B10)))))))))) (zbp L a0_0 a0_1 a0_2 a0_3 a1_0 a1_1 a1_2 x1_0 x1_1 x1_2 x9 x11 H13) (fun _=>H13) 0 z7r (z88 H) (z10 L a0_0 a0_1 a0_2 a0_3 a1_0 a1_1 a1_2 x1_0 x1_1 x1_2 x9 x11 H13):=by
 rintro v14_24 o h
 unfold z10 at h
 try dsimp only at h
 refine WS.sq (WS.sq (WS.rg (RS.mS 4 [kB 75 (decide (v14_24<(x9.n:Int))),kI 74 (x9.n:Int),kS 73 x9,kI 72 v14_24] (RS.dn (WS.nxt ?_)))))
 rcases z8 h with ⟨hp,h⟩ | ⟨hp,h⟩
 ·refine WS.fx 75 true (decide_eq_true hp) (WS.cT (WS.sk (WS.nxt (WS.sq (WS.bk 1 (WS.sq ?_))))))
  refine WS.dr [0,1,2,3,4,5,6,7,8,9,10,11] [0,0,3,7,0,0,32,96,0,480,1008,2032,4095] 13 (fun hcl=>?_)
  refine DA.tK 0 (some 78) (Sl3.v x9) (DA.tK 1 (some 79) (Value.int .i64 v14_24) ?_)
  obtain ⟨p25,hx,h⟩:=bind_some h
  refine DA.tD 2 (some 80) (Value.pointer (some p25)) (Abs.det_idx (s:=x9) (k:=.i64) (t:=56) (e:=4) (x:=.tmp 78) (y:=.tmp 79) (by kernel_rfl) (by kernel_rfl) (by kernel_rfl) (by kernel_rfl) (by kernel_rfl) hx) ?_
  obtain ⟨x26,hx,h⟩:=bind_some h
  refine DA.tD 3 (some 81) (Value.bool x26) (Abs.det_load (t:=4) (x:=.tmp 80) (a:=p25) (by kernel_rfl) (by kernel_rfl) (by kernel_rfl) (by kernel_rfl) (z0 hx z55)) (DA.tK 4 (some 82) (Sl3.v x11) (DA.tK 5 (some 83) (Sl3.v x11) (DA.tK 6 (some 84) (Value.int .i64 (x11.n:Int)) (DA.tK 7 (some 85) (Value.int .i64 (IntKind.i64.wrap ((x11.n:Int) - 1))) (DA.tK 8 (some 86) (Value.int .i64 v14_24) (DA.tK 9 (some 87) (Value.int .i64 (IntKind.i64.wrap ((IntKind.i64.wrap ((x11.n:Int) - 1)) - v14_24))) ?_))))))
  obtain ⟨p27,hx,h⟩:=bind_some h
  refine DA.tD 10 (some 88) (Value.pointer (some p27)) (Abs.det_idx (s:=x11) (k:=.i64) (t:=56) (e:=4) (x:=.tmp 82) (y:=.tmp 87) (by kernel_rfl) (by kernel_rfl) (by kernel_rfl) (by kernel_rfl) (by kernel_rfl) hx) ?_
  obtain ⟨x28,hx,h⟩:=bind_some h
  refine DA.tD 11 (some 89) (Value.bool x28) (Abs.det_load (t:=4) (x:=.tmp 88) (a:=p27) (by kernel_rfl) (by kernel_rfl) (by kernel_rfl) (by kernel_rfl) (z0 hx z55)) (DA.tP 12 (some 90) (Value.bool (!(x26 == x28))) (DA.dn (WS.nxt ?_)))
  rcases z8 h with ⟨hp,h⟩ | ⟨hp,h⟩
  ·refine WS.fx 90 false (nb_not hp) (WS.cF (WS.sk ?_))
   refine fun a w hs=>bkN ((WS.nxt ?_ a w hs))
   refine WS.rg (RS.mS 3 [kI 14 (IntKind.i64.wrap (v14_24+1)),kI 77 (IntKind.i64.wrap (v14_24+1)),kI 76 v14_24] (RS.dn ?_))
   cases h
   exact fun a w hs=>lsN rfl (hs.sb 3)
  ·refine WS.fx 90 true (z2i hp) (WS.cT (WS.sq (WS.rg (RS.mS 1 [kB 6 false] (RS.dn (WS.nxt (WS.rt ?_)))))))
   cases h
   exact fun a w hs=>bkR (sqR (lsR rfl (rS hs)))
 ·refine WS.fx 75 false (decide_eq_false hp) (WS.cF (WS.ex 0 ?_))
  cases h
  exact fun a w hs=>sqE (lsB rfl (hs.sb 3))
theorem zdg {L:LC} {m:Nat} {H:AH} {a0_0 a0_1:Int} {a0_2:ByteArray} {a0_3 a1_0:Sl3} {a1_1 a1_2:Sl3} {a2:Int} {r:(Bool×AH)} (h:z5j L m H a0_0 a0_1 a0_2 a0_3 a1_0 a1_1 a1_2 a2=some r) :
  CallS Tryd.prog (NE.plain 1000) m 10 #[(Value.agg #[(Value.int .i64 a0_0),(Value.int .i64 a0_1),(Value.string a0_2),(Sl3.v a0_3)]),(Value.agg #[(Sl3.v a1_0),(Sl3.v a1_1),(Sl3.v a1_2)]),(Value.int .i64 a2)] H (z7r r) (z88 H r):=by
 refine CallS.mk (args:=[(Value.agg #[(Value.int .i64 a0_0),(Value.int .i64 a0_1),(Value.string a0_2),(Sl3.v a0_3)]),(Value.agg #[(Sl3.v a1_0),(Sl3.v a1_1),(Sl3.v a1_2)]),(Value.int .i64 a2)]) Tryd.func10 (B:=B10) (by kernel_rfl) (fun E _=>?_)
 unfold z5j at h
 refine WS.sq (WS.rg (RS.mL 3 [kB 6 false,kL 4 1 0,kL 3 0 0] ([some (28,[(Value.int .i64 a0_0),(Value.int .i64 a0_1),(Value.string a0_2),(Sl3.v a0_3)]),some (33,[(Sl3.v a1_0),(Sl3.v a1_1),(Sl3.v a1_2)])]) (RS.dn (WS.nxt (WS.sq (WS.rg (RS.mS 1 [kA 15 #[(Sl3.v a1_0),(Sl3.v a1_1),(Sl3.v a1_2)]] ?_)))))))
 obtain ⟨⟨x1_0,x1_1,x1_2,H2⟩,hx,h⟩:=bind_some h
 try dsimp only at h
 refine RS.cl (some 16) (v:=(Value.agg #[(Sl3.v x1_0),(Sl3.v x1_1),(Sl3.v x1_2)])) 27 #[(Value.agg #[(Sl3.v a1_0),(Sl3.v a1_1),(Sl3.v a1_2)])] (zgj hx) (RS.mL 2 [kL 7 2 0] ([some (28,[(Value.int .i64 a0_0),(Value.int .i64 a0_1),(Value.string a0_2),(Sl3.v a0_3)]),some (33,[(Sl3.v a1_0),(Sl3.v a1_1),(Sl3.v a1_2)]),some (33,[(Sl3.v x1_0),(Sl3.v x1_1),(Sl3.v x1_2)])]) (RS.dn (WS.nxt (WS.sq (WS.rg (RS.mS 3 [kI 20 a2,kA 19 #[(Sl3.v a1_0),(Sl3.v a1_1),(Sl3.v a1_2)],kA 18 #[(Value.int .i64 a0_0),(Value.int .i64 a0_1),(Value.string a0_2),(Sl3.v a0_3)]] ?_))))))
 obtain ⟨⟨x3,x4,H5⟩,hx,h⟩:=bind_some h
 try dsimp only at h
 refine RS.cl (some 21) (v:=(Value.tuple #[(Value.int .i64 x3),(Value.bool x4)])) 22 #[(Value.agg #[(Value.int .i64 a0_0),(Value.int .i64 a0_1),(Value.string a0_2),(Sl3.v a0_3)]),(Value.agg #[(Sl3.v a1_0),(Sl3.v a1_1),(Sl3.v a1_2)]),(Value.int .i64 a2)] (zcn hx) (RS.mS 5 [kB 9 x4,kI 8 x3,kB 23 x4,kI 22 x3,(17,.val (Value.tuple #[(Value.int .i64 x3),(Value.bool x4)]))] (RS.dn (WS.nxt (WS.sq (WS.rg (RS.mS 3 [kI 27 a2,kA 26 #[(Sl3.v x1_0),(Sl3.v x1_1),(Sl3.v x1_2)],kA 25 #[(Value.int .i64 a0_0),(Value.int .i64 a0_1),(Value.string a0_2),(Sl3.v a0_3)]] ?_))))))
 obtain ⟨⟨x6,x7,H8⟩,hx,h⟩:=bind_some h
 try dsimp only at h
 refine RS.cl (some 28) (v:=(Value.tuple #[(Value.int .i64 x6),(Value.bool x7)])) 22 #[(Value.agg #[(Value.int .i64 a0_0),(Value.int .i64 a0_1),(Value.string a0_2),(Sl3.v a0_3)]),(Value.agg #[(Sl3.v x1_0),(Sl3.v x1_1),(Sl3.v x1_2)]),(Value.int .i64 a2)] (zcn hx) (RS.mS 5 [kB 11 x7,kI 10 x6,kB 30 x7,kI 29 x6,(24,.val (Value.tuple #[(Value.int .i64 x6),(Value.bool x7)]))] (RS.dn (WS.nxt (WS.sq ?_))))
 refine WS.dr [0,2] [0,1,0,7,15,31] 6 (fun hcl=>?_)
 refine DA.tL 0 (some 31) (.val (Value.agg #[(Sl3.v a1_0),(Sl3.v a1_1),(Sl3.v a1_2)])) (DA.tL 2 (some 33) (.val (Value.agg #[(Sl3.v x1_0),(Sl3.v x1_1),(Sl3.v x1_2)])) ?_)
 obtain ⟨⟨x9,H10⟩,hx,h⟩:=bind_some h
 try dsimp only at h
 refine DA.on 1 (DA.aCk 1 (some 32) false (v:=(Sl3.v x9)) 25 #[(Value.agg #[(Sl3.v a1_0),(Sl3.v a1_1),(Sl3.v a1_2)])] (zbm hx) ?_)
 obtain ⟨⟨x11,H12⟩,hx,h⟩:=bind_some h
 try dsimp only at h
 refine DA.on 3 (DA.aC 3 (some 34) (v:=(Sl3.v x11)) 25 #[(Value.agg #[(Sl3.v x1_0),(Sl3.v x1_1),(Sl3.v x1_2)])] (zbm hx) (DA.tP 4 (some 12) (Sl3.v x9) (DA.tP 5 (some 13) (Sl3.v x11) (DA.dn (WS.nxt (WS.sq ?_))))))
 obtain ⟨⟨H13,v71_14⟩,hx,h⟩:=bind_some h
 try dsimp only at h
 refine WS.sq ?_
 refine WS.join ([kB 71 v71_14,kS 12 x9,kS 13 x11]) ([some (28,[(Value.int .i64 a0_0),(Value.int .i64 a0_1),(Value.string a0_2),(Sl3.v a0_3)]),some (33,[(Sl3.v a1_0),(Sl3.v a1_1),(Sl3.v a1_2)]),some (33,[(Sl3.v x1_0),(Sl3.v x1_1),(Sl3.v x1_2)])]) H13 ?_ (fun a w hs=>WS.nxt ?_ a w hs)
 ·clear h; rename _=>h
  refine WS.dr [] [0,1,3,7,15,31,7,95,223,511,1023,2047,4095,4095,16383,32767,65535,131071,131071,524287,1048575,2097151,4194303,4194303,16777215,4194303,4194303,134217727,268435455,536870911,1073741823,2147483647,4294967295,2147483647,10737418239,34359738367,68719476735] 37 (fun hcl=>?_)
  obtain ⟨x15,hx,h⟩:=bind_some h
  refine DA.on 0 (DA.aC 0 (some 35) (v:=(Value.bool x15)) 17 #[] (zgw hx) (DA.tP 1 (some 36) (Value.bool (!x15)) (DA.tP 2 (some 37) (Value.bool (!x15)) ?_)))
  rcases z8 h with ⟨hp,h⟩ | ⟨hp,h⟩
  ·refine DA.fx 37 false (nb_not hp) (DA.restart [3,6] (by kernel_rfl) (DA.tL 3 (some 38) (.val (Value.agg #[(Sl3.v a1_0),(Sl3.v a1_1),(Sl3.v a1_2)])) (DA.tL 6 (some 41) (.val (Value.agg #[(Sl3.v x1_0),(Sl3.v x1_1),(Sl3.v x1_2)])) ?_)))
   obtain ⟨⟨x16,H17⟩,hx,h⟩:=bind_some h
   try dsimp only at h
   refine DA.on 4 (DA.aCk 4 (some 39) true (v:=(Value.int .i64 x16)) 20 #[(Value.agg #[(Sl3.v a1_0),(Sl3.v a1_1),(Sl3.v a1_2)])] (z4d hx) (DA.restart [3,5,6] (by kernel_rfl) (DA.tK 5 (some 40) (Value.bool (decide (x16=0))) ?_)))
   obtain ⟨⟨x18,H19⟩,hx,h⟩:=bind_some h
   try dsimp only at h
   refine DA.on 7 (DA.aCk 7 (some 42) true (v:=(Value.int .i64 x18)) 20 #[(Value.agg #[(Sl3.v x1_0),(Sl3.v x1_1),(Sl3.v x1_2)])] (z4d hx) (DA.on 8 (DA.aHk (H':=H19) 8 (some 43) false (Value.bool (decide (x18=0))) (by kernel_rfl) (DA.tP 9 (some 44) (Value.bool (!((decide (x16=0)) == (decide (x18=0))))) (DA.tP 10 (some 45) (Value.bool (!((decide (x16=0)) == (decide (x18=0))))) (DA.tP 11 (some 46) (Value.bool (!((decide (x16=0)) == (decide (x18=0))))) ?_))))))
   rcases z8 h with ⟨hp,h⟩ | ⟨hp,h⟩
   ·refine DA.fx 46 false (nb_not hp) (DA.tP 12 (some 47) (Value.int .i64 x3) (DA.tP 13 (some 48) (Value.int .i64 x6) (DA.tP 14 (some 49) (Value.bool (!decide (x3=x6))) (DA.tP 15 (some 50) (Value.bool (!decide (x3=x6))) (DA.tP 16 (some 51) (Value.bool (!decide (x3=x6))) ?_)))))
    rcases z8 h with ⟨hp,h⟩ | ⟨hp,h⟩
    ·refine DA.fx 51 false (z6w hp) (DA.tP 17 (some 52) (Value.bool x4) (DA.tP 18 (some 53) (Value.bool x7) (DA.tP 19 (some 54) (Value.bool (!(x4 == x7))) (DA.tP 20 (some 55) (Value.bool (!(x4 == x7))) (DA.tP 21 (some 56) (Value.bool (!(x4 == x7))) ?_)))))
     rcases z8 h with ⟨hp,h⟩ | ⟨hp,h⟩
     ·refine DA.fx 56 false (nb_not hp) (DA.restart [3,5,6,22,23,25,26] (by kernel_rfl) (DA.tL 22 (some 57) (.val (Value.agg #[(Value.int .i64 a0_0),(Value.int .i64 a0_1),(Value.string a0_2),(Sl3.v a0_3)])) (DA.tL 23 (some 58) (.val (Value.agg #[(Sl3.v a1_0),(Sl3.v a1_1),(Sl3.v a1_2)])) (DA.tL 25 (some 60) (.val (Value.agg #[(Value.int .i64 a0_0),(Value.int .i64 a0_1),(Value.string a0_2),(Sl3.v a0_3)])) (DA.tL 26 (some 61) (.val (Value.agg #[(Sl3.v x1_0),(Sl3.v x1_1),(Sl3.v x1_2)])) ?_)))))
      obtain ⟨⟨x20,H21⟩,hx,h⟩:=bind_some h
      try dsimp only at h
      refine DA.on 24 (DA.aCk 24 (some 59) false (v:=(Value.bool x20)) 23 #[(Value.agg #[(Value.int .i64 a0_0),(Value.int .i64 a0_1),(Value.string a0_2),(Sl3.v a0_3)]),(Value.agg #[(Sl3.v a1_0),(Sl3.v a1_1),(Sl3.v a1_2)])] (zb9 hx) ?_)
      obtain ⟨⟨x22,H23⟩,hx,h⟩:=bind_some h
      try dsimp only at h
      refine DA.on 27 (DA.aC 27 (some 62) (v:=(Value.bool x22)) 23 #[(Value.agg #[(Value.int .i64 a0_0),(Value.int .i64 a0_1),(Value.string a0_2),(Sl3.v a0_3)]),(Value.agg #[(Sl3.v x1_0),(Sl3.v x1_1),(Sl3.v x1_2)])] (zb9 hx) (DA.tP 28 (some 63) (Value.bool (!(x20 == x22))) (DA.tP 29 (some 64) (Value.bool (!(x20 == x22))) (DA.tP 30 (some 65) (Value.bool (!(x20 == x22))) ?_))))
      rcases z8 h with ⟨hp,h⟩ | ⟨hp,h⟩
      ·refine DA.fx 65 false (nb_not hp) (DA.tP 31 (some 66) (Sl3.v x9) (DA.tP 32 (some 67) (Value.int .i64 (x9.n:Int)) (DA.tP 33 (some 68) (Sl3.v x11) (DA.tP 34 (some 69) (Value.int .i64 (x11.n:Int)) (DA.tP 35 (some 70) (Value.bool (!decide ((x9.n:Int)=(x11.n:Int)))) (DA.tP 36 (some 71) (Value.bool (!decide ((x9.n:Int)=(x11.n:Int)))) (DA.dn ?_)))))))
       cases h
       exact fun a w hs=>(jsN (hs.sb 3))
      ·refine DA.fx 65 true (z2i hp) ?_
       refine DA.tskipP 31 (some 66) (by kernel_rfl) (by kernel_rfl) (by kernel_rfl) hcl (fun _ _ _ h=>h) (by kernel_rfl) ?_
       refine DA.tskipP 32 (some 67) (by kernel_rfl) (by kernel_rfl) (by kernel_rfl) hcl (fun _ _ _ h=>h) (by kernel_rfl) ?_
       refine DA.tskipP 33 (some 68) (by kernel_rfl) (by kernel_rfl) (by kernel_rfl) hcl (fun _ _ _ h=>h) (by kernel_rfl) ?_
       refine DA.tskipP 34 (some 69) (by kernel_rfl) (by kernel_rfl) (by kernel_rfl) hcl (fun _ _ _ h=>h) (by kernel_rfl) ?_
       refine DA.tskipP 35 (some 70) (by kernel_rfl) (by kernel_rfl) (by kernel_rfl) hcl (fun _ _ _ h=>h) (by kernel_rfl) ?_
       refine DA.tP 36 (some 71) (Value.bool true) (DA.dn ?_)
       cases h
       exact fun a w hs=>(jsN (hs.sb 3))
     ·refine DA.fx 56 true (z2i hp) ?_
      refine DA.tskipP 22 (some 57) (by kernel_rfl) (by kernel_rfl) (by kernel_rfl) hcl (fun _ _ _ h=>h) (by kernel_rfl) ?_
      refine DA.tskipP 23 (some 58) (by kernel_rfl) (by kernel_rfl) (by kernel_rfl) hcl (fun _ _ _ h=>h) (by kernel_rfl) ?_
      refine DA.tskipP 24 (some 59) (by kernel_rfl) (by kernel_rfl) (by kernel_rfl) hcl (fun _ _ _ h=>h) (by kernel_rfl) ?_
      refine DA.tskipP 25 (some 60) (by kernel_rfl) (by kernel_rfl) (by kernel_rfl) hcl (fun _ _ _ h=>h) (by kernel_rfl) ?_
      refine DA.tskipP 26 (some 61) (by kernel_rfl) (by kernel_rfl) (by kernel_rfl) hcl (fun _ _ _ h=>h) (by kernel_rfl) ?_
      refine DA.tskipP 27 (some 62) (by kernel_rfl) (by kernel_rfl) (by kernel_rfl) hcl (fun _ _ _ h=>h) (by kernel_rfl) ?_
      refine DA.tskipP 28 (some 63) (by kernel_rfl) (by kernel_rfl) (by kernel_rfl) hcl (fun _ _ _ h=>h) (by kernel_rfl) ?_
      refine DA.tP 29 (some 64) (Value.bool true) (DA.tP 30 (some 65) (Value.bool true) ?_)
      refine DA.tskipP 31 (some 66) (by kernel_rfl) (by kernel_rfl) (by kernel_rfl) hcl (fun _ _ _ h=>h) (by kernel_rfl) ?_
      refine DA.tskipP 32 (some 67) (by kernel_rfl) (by kernel_rfl) (by kernel_rfl) hcl (fun _ _ _ h=>h) (by kernel_rfl) ?_
      refine DA.tskipP 33 (some 68) (by kernel_rfl) (by kernel_rfl) (by kernel_rfl) hcl (fun _ _ _ h=>h) (by kernel_rfl) ?_
      refine DA.tskipP 34 (some 69) (by kernel_rfl) (by kernel_rfl) (by kernel_rfl) hcl (fun _ _ _ h=>h) (by kernel_rfl) ?_
      refine DA.tskipP 35 (some 70) (by kernel_rfl) (by kernel_rfl) (by kernel_rfl) hcl (fun _ _ _ h=>h) (by kernel_rfl) ?_
      refine DA.tP 36 (some 71) (Value.bool true) (DA.dn ?_)
      cases h
      exact fun a w hs=>(jsN (hs.sb 3))
    ·refine DA.fx 51 true (z5u hp) ?_
     refine DA.tskipP 17 (some 52) (by kernel_rfl) (by kernel_rfl) (by kernel_rfl) hcl (fun _ _ _ h=>h) (by kernel_rfl) ?_
     refine DA.tskipP 18 (some 53) (by kernel_rfl) (by kernel_rfl) (by kernel_rfl) hcl (fun _ _ _ h=>h) (by kernel_rfl) ?_
     refine DA.tskipP 19 (some 54) (by kernel_rfl) (by kernel_rfl) (by kernel_rfl) hcl (fun _ _ _ h=>h) (by kernel_rfl) ?_
     refine DA.tP 20 (some 55) (Value.bool true) (DA.tP 21 (some 56) (Value.bool true) ?_)
     refine DA.tskipP 22 (some 57) (by kernel_rfl) (by kernel_rfl) (by kernel_rfl) hcl (fun _ _ _ h=>h) (by kernel_rfl) ?_
     refine DA.tskipP 23 (some 58) (by kernel_rfl) (by kernel_rfl) (by kernel_rfl) hcl (fun _ _ _ h=>h) (by kernel_rfl) ?_
     refine DA.tskipP 24 (some 59) (by kernel_rfl) (by kernel_rfl) (by kernel_rfl) hcl (fun _ _ _ h=>h) (by kernel_rfl) ?_
     refine DA.tskipP 25 (some 60) (by kernel_rfl) (by kernel_rfl) (by kernel_rfl) hcl (fun _ _ _ h=>h) (by kernel_rfl) ?_
     refine DA.tskipP 26 (some 61) (by kernel_rfl) (by kernel_rfl) (by kernel_rfl) hcl (fun _ _ _ h=>h) (by kernel_rfl) ?_
     refine DA.tskipP 27 (some 62) (by kernel_rfl) (by kernel_rfl) (by kernel_rfl) hcl (fun _ _ _ h=>h) (by kernel_rfl) ?_
     refine DA.tskipP 28 (some 63) (by kernel_rfl) (by kernel_rfl) (by kernel_rfl) hcl (fun _ _ _ h=>h) (by kernel_rfl) ?_
     refine DA.tP 29 (some 64) (Value.bool true) (DA.tP 30 (some 65) (Value.bool true) ?_)
     refine DA.tskipP 31 (some 66) (by kernel_rfl) (by kernel_rfl) (by kernel_rfl) hcl (fun _ _ _ h=>h) (by kernel_rfl) ?_
     refine DA.tskipP 32 (some 67) (by kernel_rfl) (by kernel_rfl) (by kernel_rfl) hcl (fun _ _ _ h=>h) (by kernel_rfl) ?_
     refine DA.tskipP 33 (some 68) (by kernel_rfl) (by kernel_rfl) (by kernel_rfl) hcl (fun _ _ _ h=>h) (by kernel_rfl) ?_
     refine DA.tskipP 34 (some 69) (by kernel_rfl) (by kernel_rfl) (by kernel_rfl) hcl (fun _ _ _ h=>h) (by kernel_rfl) ?_
     refine DA.tskipP 35 (some 70) (by kernel_rfl) (by kernel_rfl) (by kernel_rfl) hcl (fun _ _ _ h=>h) (by kernel_rfl) ?_
     refine DA.tP 36 (some 71) (Value.bool true) (DA.dn ?_)
     cases h
     exact fun a w hs=>(jsN (hs.sb 3))
   ·refine DA.fx 46 true (z2i hp) ?_
    refine DA.tskipP 12 (some 47) (by kernel_rfl) (by kernel_rfl) (by kernel_rfl) hcl (fun _ _ _ h=>h) (by kernel_rfl) ?_
    refine DA.tskipP 13 (some 48) (by kernel_rfl) (by kernel_rfl) (by kernel_rfl) hcl (fun _ _ _ h=>h) (by kernel_rfl) ?_
    refine DA.tskipP 14 (some 49) (by kernel_rfl) (by kernel_rfl) (by kernel_rfl) hcl (fun _ _ _ h=>h) (by kernel_rfl) ?_
    refine DA.tP 15 (some 50) (Value.bool true) (DA.tP 16 (some 51) (Value.bool true) ?_)
    refine DA.tskipP 17 (some 52) (by kernel_rfl) (by kernel_rfl) (by kernel_rfl) hcl (fun _ _ _ h=>h) (by kernel_rfl) ?_
    refine DA.tskipP 18 (some 53) (by kernel_rfl) (by kernel_rfl) (by kernel_rfl) hcl (fun _ _ _ h=>h) (by kernel_rfl) ?_
    refine DA.tskipP 19 (some 54) (by kernel_rfl) (by kernel_rfl) (by kernel_rfl) hcl (fun _ _ _ h=>h) (by kernel_rfl) ?_
    refine DA.tP 20 (some 55) (Value.bool true) (DA.tP 21 (some 56) (Value.bool true) ?_)
    refine DA.tskipP 22 (some 57) (by kernel_rfl) (by kernel_rfl) (by kernel_rfl) hcl (fun _ _ _ h=>h) (by kernel_rfl) ?_
    refine DA.tskipP 23 (some 58) (by kernel_rfl) (by kernel_rfl) (by kernel_rfl) hcl (fun _ _ _ h=>h) (by kernel_rfl) ?_
    refine DA.tskipP 24 (some 59) (by kernel_rfl) (by kernel_rfl) (by kernel_rfl) hcl (fun _ _ _ h=>h) (by kernel_rfl) ?_
    refine DA.tskipP 25 (some 60) (by kernel_rfl) (by kernel_rfl) (by kernel_rfl) hcl (fun _ _ _ h=>h) (by kernel_rfl) ?_
    refine DA.tskipP 26 (some 61) (by kernel_rfl) (by kernel_rfl) (by kernel_rfl) hcl (fun _ _ _ h=>h) (by kernel_rfl) ?_
    refine DA.tskipP 27 (some 62) (by kernel_rfl) (by kernel_rfl) (by kernel_rfl) hcl (fun _ _ _ h=>h) (by kernel_rfl) ?_
    refine DA.tskipP 28 (some 63) (by kernel_rfl) (by kernel_rfl) (by kernel_rfl) hcl (fun _ _ _ h=>h) (by kernel_rfl) ?_
    refine DA.tP 29 (some 64) (Value.bool true) (DA.tP 30 (some 65) (Value.bool true) ?_)
    refine DA.tskipP 31 (some 66) (by kernel_rfl) (by kernel_rfl) (by kernel_rfl) hcl (fun _ _ _ h=>h) (by kernel_rfl) ?_
    refine DA.tskipP 32 (some 67) (by kernel_rfl) (by kernel_rfl) (by kernel_rfl) hcl (fun _ _ _ h=>h) (by kernel_rfl) ?_
    refine DA.tskipP 33 (some 68) (by kernel_rfl) (by kernel_rfl) (by kernel_rfl) hcl (fun _ _ _ h=>h) (by kernel_rfl) ?_
    refine DA.tskipP 34 (some 69) (by kernel_rfl) (by kernel_rfl) (by kernel_rfl) hcl (fun _ _ _ h=>h) (by kernel_rfl) ?_
    refine DA.tskipP 35 (some 70) (by kernel_rfl) (by kernel_rfl) (by kernel_rfl) hcl (fun _ _ _ h=>h) (by kernel_rfl) ?_
    refine DA.tP 36 (some 71) (Value.bool true) (DA.dn ?_)
    cases h
    exact fun a w hs=>(jsN (hs.sb 3))
  ·refine DA.fx 37 true (z2i hp) ?_
   refine DA.tskipP 3 (some 38) (by kernel_rfl) (by kernel_rfl) (by kernel_rfl) hcl (fun _ _ _ h=>h) (by kernel_rfl) ?_
   refine DA.tskipP 4 (some 39) (by kernel_rfl) (by kernel_rfl) (by kernel_rfl) hcl (fun _ _ _ h=>h) (by kernel_rfl) ?_
   refine DA.tskipP 5 (some 40) (by kernel_rfl) (by kernel_rfl) (by kernel_rfl) hcl (fun _ _ _ h=>h) (by kernel_rfl) ?_
   refine DA.tskipP 6 (some 41) (by kernel_rfl) (by kernel_rfl) (by kernel_rfl) hcl (fun _ _ _ h=>h) (by kernel_rfl) ?_
   refine DA.tskipP 7 (some 42) (by kernel_rfl) (by kernel_rfl) (by kernel_rfl) hcl (fun _ _ _ h=>h) (by kernel_rfl) ?_
   refine DA.tskipP 8 (some 43) (by kernel_rfl) (by kernel_rfl) (by kernel_rfl) hcl (fun _ _ _ h=>h) (by kernel_rfl) ?_
   refine DA.tskipP 9 (some 44) (by kernel_rfl) (by kernel_rfl) (by kernel_rfl) hcl (fun _ _ _ h=>h) (by kernel_rfl) ?_
   refine DA.tP 10 (some 45) (Value.bool true) (DA.tP 11 (some 46) (Value.bool true) ?_)
   refine DA.tskipP 12 (some 47) (by kernel_rfl) (by kernel_rfl) (by kernel_rfl) hcl (fun _ _ _ h=>h) (by kernel_rfl) ?_
   refine DA.tskipP 13 (some 48) (by kernel_rfl) (by kernel_rfl) (by kernel_rfl) hcl (fun _ _ _ h=>h) (by kernel_rfl) ?_
   refine DA.tskipP 14 (some 49) (by kernel_rfl) (by kernel_rfl) (by kernel_rfl) hcl (fun _ _ _ h=>h) (by kernel_rfl) ?_
   refine DA.tP 15 (some 50) (Value.bool true) (DA.tP 16 (some 51) (Value.bool true) ?_)
   refine DA.tskipP 17 (some 52) (by kernel_rfl) (by kernel_rfl) (by kernel_rfl) hcl (fun _ _ _ h=>h) (by kernel_rfl) ?_
   refine DA.tskipP 18 (some 53) (by kernel_rfl) (by kernel_rfl) (by kernel_rfl) hcl (fun _ _ _ h=>h) (by kernel_rfl) ?_
   refine DA.tskipP 19 (some 54) (by kernel_rfl) (by kernel_rfl) (by kernel_rfl) hcl (fun _ _ _ h=>h) (by kernel_rfl) ?_
   refine DA.tP 20 (some 55) (Value.bool true) (DA.tP 21 (some 56) (Value.bool true) ?_)
   refine DA.tskipP 22 (some 57) (by kernel_rfl) (by kernel_rfl) (by kernel_rfl) hcl (fun _ _ _ h=>h) (by kernel_rfl) ?_
   refine DA.tskipP 23 (some 58) (by kernel_rfl) (by kernel_rfl) (by kernel_rfl) hcl (fun _ _ _ h=>h) (by kernel_rfl) ?_
   refine DA.tskipP 24 (some 59) (by kernel_rfl) (by kernel_rfl) (by kernel_rfl) hcl (fun _ _ _ h=>h) (by kernel_rfl) ?_
   refine DA.tskipP 25 (some 60) (by kernel_rfl) (by kernel_rfl) (by kernel_rfl) hcl (fun _ _ _ h=>h) (by kernel_rfl) ?_
   refine DA.tskipP 26 (some 61) (by kernel_rfl) (by kernel_rfl) (by kernel_rfl) hcl (fun _ _ _ h=>h) (by kernel_rfl) ?_
   refine DA.tskipP 27 (some 62) (by kernel_rfl) (by kernel_rfl) (by kernel_rfl) hcl (fun _ _ _ h=>h) (by kernel_rfl) ?_
   refine DA.tskipP 28 (some 63) (by kernel_rfl) (by kernel_rfl) (by kernel_rfl) hcl (fun _ _ _ h=>h) (by kernel_rfl) ?_
   refine DA.tP 29 (some 64) (Value.bool true) (DA.tP 30 (some 65) (Value.bool true) ?_)
   refine DA.tskipP 31 (some 66) (by kernel_rfl) (by kernel_rfl) (by kernel_rfl) hcl (fun _ _ _ h=>h) (by kernel_rfl) ?_
   refine DA.tskipP 32 (some 67) (by kernel_rfl) (by kernel_rfl) (by kernel_rfl) hcl (fun _ _ _ h=>h) (by kernel_rfl) ?_
   refine DA.tskipP 33 (some 68) (by kernel_rfl) (by kernel_rfl) (by kernel_rfl) hcl (fun _ _ _ h=>h) (by kernel_rfl) ?_
   refine DA.tskipP 34 (some 69) (by kernel_rfl) (by kernel_rfl) (by kernel_rfl) hcl (fun _ _ _ h=>h) (by kernel_rfl) ?_
   refine DA.tskipP 35 (some 70) (by kernel_rfl) (by kernel_rfl) (by kernel_rfl) hcl (fun _ _ _ h=>h) (by kernel_rfl) ?_
   refine DA.tP 36 (some 71) (Value.bool true) (DA.dn ?_)
   cases h
   exact fun a w hs=>(jsN (hs.sb 3))
 ·clear hx
  rcases z8 h with ⟨hp,h⟩ | ⟨hp,h⟩
  ·refine WS.fx 71 true hp (WS.cT (WS.sq (WS.rg (RS.mS 1 [kB 6 false] (RS.dn (WS.nxt (WS.rt ?_)))))))
   cases h
   exact fun a w hs=>sqR (rtR (rS hs))
  ·refine WS.fx 71 false (b_not hp) (WS.cF (WS.sk (WS.nxt (WS.sq (WS.sq (WS.rg (RS.mS 1 [kI 14 0] (RS.dn (WS.nxt ?_)))))))))
   refine WS.bk 0 ?_
   obtain ⟨o,hl,h⟩:=bind_some h
   rcases o with v14_29 | r
   ·try dsimp only at h
    refine WS.lI (z6z (L:=L) (E:=E) (m:=m) (H:=H)) (L.ok hl) 3 ?_
    clear hl
    refine fun a w hs=>bkE ((WS.nxt ?_ a w hs))
    refine WS.sq (WS.rg (RS.mS 1 [kB 6 true] (RS.dn (WS.nxt (WS.rt ?_)))))
    cases h
    exact fun a w hs=>rtR (rS hs)
   ·try dsimp only at h
    refine WS.lR (z6z (L:=L) (E:=E) (m:=m) (H:=H)) (L.ok hl) 3 ?_
    cases h
    exact fun a w hq=>bkR (sqR (rtR hq))
end Go.Proofs.YtccbilfbhecdaaaDoor
