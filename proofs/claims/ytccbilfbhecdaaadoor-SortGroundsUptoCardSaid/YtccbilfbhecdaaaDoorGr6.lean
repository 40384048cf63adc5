/- SortGrounds is proved where what it reads is of bulk at most 1048576: it returns true and its arguments read as before. No condition beyond the row's own (five listed tables of Go's library as the text lays them). -/
import Derived.Test.YtccbilfbhecdaaaDoorGr5
namespace Go.Proofs.YtccbilfbhecdaaaDoor
open Go Go.Abs
set_option maxRecDepth 100000
def On (bl:List Bool) (k:Nat):Prop:=∃h:k<bl.length,bl[k]=true
theorem zl9 {α R:Type} {xs:List α} {body:AH×Int→Option (Lp (AH×Int) R)} (r:AH→R) (P:Nat→α→Prop) {H0:AH}
  (step:∀(i:Nat) (hi:i<xs.length) (H:AH),Ext H0 H→∃H',Ext H0 H'∧((P i xs[i]∧body (H,(i:Int))=some (.ret (r H')))∨(¬P i xs[i]∧body (H,(i:Int))=some (.next (H',((i+1:Nat):Int))))))
  (he:∀H,Ext H0 H→body (H,(xs.length:Int))=some (.brk (H,(xs.length:Int)))) :
  ∀(d i:Nat) (H:AH),i+d=xs.length→Ext H0 H→∃H',Ext H0 H'∧(((∃j,∃h:j<xs.length,i≤j∧P j xs[j])∧loopO body (H,(i:Int))=some (.inr (r H')))∨((¬∃j,∃h:j<xs.length,i≤j∧P j xs[j])∧loopO body (H,(i:Int))=some (.inl (H',(xs.length:Int))))):=by
 intro d
 induction d with
 | zero =>
  intro i H hi hx
  have:i=xs.length:=by omega
  subst this
  refine ⟨H,hx,.inr ⟨?_,zl (he H hx)⟩⟩
  rintro ⟨j,h,h',_⟩
  omega
 | succ d ih =>
  intro i H hi hx
  have hlt:i<xs.length:=by omega
  obtain ⟨H1,x1,h⟩:=step i hlt H hx
  rcases h with ⟨hp,hb⟩ | ⟨hp,hb⟩
  ·exact ⟨H1,x1,.inl ⟨⟨i,hlt,Nat.le_refl _,hp⟩,z41 hb⟩⟩
  ·obtain ⟨H2,x2,h⟩:=ih (i+1) H1 (by omega) x1
   refine ⟨H2,x2,?_⟩
   rw [zj hb]
   rcases h with ⟨⟨j,hj,h1,h2⟩,h3⟩ | ⟨h1,h3⟩
   ·exact .inl ⟨⟨j,hj,by omega,h2⟩,h3⟩
   ·refine .inr ⟨?_,h3⟩
    rintro ⟨j,hj,h4,h5⟩
    by_cases e:j=i
    ·subst e; exact hp h5
    ·exact h1 ⟨j,hj,by omega,h5⟩
theorem zem {a b:List Bool} (hl:a.length=b.length) (hm:∀k,On a k→On b k):freeN b≤freeN a:=by
 have hm':∀k (h:k<a.length) (h':k<b.length),a[k]=true→b[k]=true:=fun k h _ hh=>(hm k ⟨h,hh⟩).2
 by_cases e:∃k,∃h:k<a.length,∃h':k<b.length,b[k]=true∧a[k]=false
 ·exact Nat.le_of_lt (zej a b hl hm' e)
 ·have:a=b:=by
   refine List.ext_getElem hl fun i h1 h2=>?_
   cases hai:a[i] with
   | true=>rw [hm' i h1 h2 hai]
   | false =>
    cases hbi:b[i] with
    | false=>rfl
    | true=>exact absurd ⟨i,h1,h2,hbi,hai⟩ e
  rw [this]
  exact Nat.le_refl _
section
variable {m:Nat} {H0 H:AH} {s1 s2 s3:Sl3} {g:Sg} {L0 fuel:Nat}
theorem zqy (hF:L0=fuel+1) (hfu:15≤fuel) (hG:GoodG g) (hS:SigA H0 s1 s2 s3 g) (hm:m≤H0.next) {idm n d0:Nat} (hn:n=g.datas.length) (hid:H0.next≤idm):∀(t i:Nat) (H:AH) (bl:List Bool) (v:Bool),i+t=n→Ext H0 H→ArrV 4 m H idm (bV bl)→bl.length=n→(∀k,On bl k→Lean1 g d0 k) →
  ∃H' bl' v',loopO (z1l (LCo L0) m s1 s2 s3 ⟨some ⟨idm,0,none⟩,n,n⟩) (H,v,(i:Int))=some (.inl (H',v',(n:Int)))∧ArrV 4 m H' idm (bV bl')∧bl'.length=n∧Fm (fun j=>j=idm) H H' ∧
   (∀k,On bl' k→Lean1 g d0 k)∧(∀k,On bl k→On bl' k)∧(v=true→v'=true)∧(v'=true→v=true∨freeN bl'<freeN bl)∧(v'=false→bl'=bl∧∀j k,i≤j→On bl j→EdgS g j k→On bl k):=by
 have hnn:n≤4096:=by rw [hn]; exact z28 hG
 intro t
 induction t with
 | zero =>
  intro i H bl v hi hx ha hl hs
  obtain rfl:i=n:=by omega
  refine ⟨H,bl,v,zl ?_,ha,hl,Fm.refl _ _,hs,fun _ h=>h,fun h=>h,fun h=>.inl h,fun _=>⟨rfl,fun j k hj h=>?_⟩⟩
  ·unfold z1l
   simp only [if_neg (show ¬((i:Int)<(i:Int)) by omega)]
  ·obtain ⟨h1,_⟩:=h; omega
 | succ t ih =>
  intro i H bl v hi hx ha hl hs
  have hin:i<n:=by omega
  have hib:i<bl.length:=by omega
  have hig:i<g.datas.length:=by omega
  have rm:rd deB H ((⟨idm,0,none⟩:Addr).add (i*1))=some bl[i]:=by rw [(ha.cel (show (bV bl)[i]? = some (.bool bl[i]) by simp [bV,hib])).rd]; rfl
  have im:idxA 1 (⟨some ⟨idm,0,none⟩,n,n⟩:Sl3) (i:Int)=some ((⟨idm,0,none⟩:Addr).add (i*1)):=z34 hin rfl
  cases hb:bl[i] with
  | false =>
   obtain ⟨H',bl',v',w1,w2,w3,w4,w5,w6,w7,w8,w9⟩:=ih (i+1) H bl v (by omega) hx ha hl hs
   refine ⟨H',bl',v',?_,w2,w3,w4,w5,w6,w7,w8,fun hv=>⟨(w9 hv).1,fun j k hj h he=>?_⟩⟩
   ·have hbody:z1l (LCo L0) m s1 s2 s3 ⟨some ⟨idm,0,none⟩,n,n⟩ (H,v,(i:Int))=some (.next (H,v,((i+1:Nat):Int))):=by
     unfold z1l
     rw [hb] at rm
     simp only [if_pos (show (i:Int)<(n:Int) by omega),im,rm,Option.bind_some,Bool.false_eq_true,if_false]
     rw [zd hin (by rw [z1n]; omega)]
    rw [zj hbody]
    exact w1
   ·by_cases e:j=i
    ·subst e
     obtain ⟨_,h⟩:=h
     rw [hb] at h; cases h
    ·exact (w9 hv).2 j k (by omega) h he
  | true =>
   have hmH:m≤H.next:=Nat.le_trans hm hx.1
   obtain ⟨idn,nb,H1,c1,c2,c3,c4,c5,c6⟩:=zcv hF hfu hG (hS.ext hx) hmH hig false
   have hlow:=ha.low
   have hnbl:nb.length=n:=by rw [c5,hn]
   have e1:(⟨some ⟨idn,0,none⟩,g.datas.length,g.datas.length⟩:Sl3)=⟨some ⟨idn,0,none⟩,n,n⟩:=by rw [hn]
   rw [e1] at c1
   obtain ⟨H2,bl1,v1,d1,d2,d3,d4,d5,d6⟩:=zse (m:=m) (s1:=s1) (s2:=s2) (s3:=s3) L0 (v7:=(i:Int)) (v6:=v) (show idm≠idn by omega) hnbl hl hnn (ha.ext c2) c4
   have x2:Ext H0 H2:=(hx.trans c2).comp d4 fun id hid' _ h=>by omega
   have on1:∀k,On bl1 k↔(On bl k∨EdgS g i k):=fun k=>by
    constructor
    ·rintro ⟨h,h'⟩
     rcases (d5 k h (by omega) (by omega)).1 h' with h1 | h1
     ·exact .inl ⟨by omega,h1⟩
     ·exact .inr ((zgy hig).1 ((c6 k (by omega)).1 h1))
    ·rintro (⟨h,h'⟩ | h)
     ·exact ⟨by omega,(d5 k (by omega) h (by omega)).2 (.inl h')⟩
     ·have hk:=edg_lt hG h
      exact ⟨by omega,(d5 k (by omega) (by omega) (by omega)).2 (.inr ((c6 k (by omega)).2 ((zgy hig).2 h)))⟩
   have li:Lean1 g d0 i:=hs i ⟨hib,hb⟩
   have s1':∀k,On bl1 k→Lean1 g d0 k:=fun k hk=>by
    rcases (on1 k).1 hk with h | h
    ·exact hs k h
    ·exact .more li h
   obtain ⟨H',bl',v',w1,w2,w3,w4,w5,w6,w7,w8,w9⟩:=ih (i+1) H2 bl1 v1 (by omega) x2 d2 d3 s1'
   have fm2:Fm (fun j=>j=idm) H H2:=(c2.weak (W':=fun j=>j=idm) fun _ _ h=>h.elim).comp d4 fun _ _ h=>h
   refine ⟨H',bl',v',?_,w2,w3,fm2.comp w4 fun _ _ h=>h,w5,fun k hk=>w6 k ((on1 k).2 (.inl hk)),fun h=>w7 (d6.2 (.inl h)),fun h=>?_,fun hv=>?_⟩
   ·have hbody:z1l (LCo L0) m s1 s2 s3 ⟨some ⟨idm,0,none⟩,n,n⟩ (H,v,(i:Int))=some (.next (H2,v1,((i+1:Nat):Int))):=by
     unfold z1l
     rw [hb] at rm
     simp only [if_pos (show (i:Int)<(n:Int) by omega),im,rm,Option.bind_some,if_true,c1]
     show Option.bind (Option.bind (loopO (z1o (LCo L0) m s1 s2 s3 ⟨some ⟨idm,0,none⟩,n,n⟩ (i:Int) ⟨some ⟨idn,0,none⟩,n,n⟩) (H1,v,0)) _) _=_
     rw [d1]
     simp only [Option.bind_some]
     rw [zd hin (by rw [z1n]; omega)]
    rw [zj hbody]
    exact w1
   ·rcases w8 h with h1 | h1
    ·rcases d6.1 h1 with h2 | ⟨k,k1,k2,k3,k4⟩
     ·exact .inl h2
     ·right
      have a1:freeN bl1<freeN bl:=zej bl bl1 (by omega) (fun k h h' hh=>((on1 k).2 (.inl ⟨h,hh⟩)).2) ⟨k,k1,by omega,(d5 k (by omega) k1 k2).2 (.inr k3),k4⟩
      have a2:=zem (a:=bl1) (b:=bl') (by omega) w6
      omega
    ·right
     have a1:=zem (a:=bl) (b:=bl1) (by omega) fun k hk=>(on1 k).2 (.inl hk)
     omega
   ·obtain ⟨h1,h2⟩:=w9 hv
    have hv1:v1=false:=by
     cases e:v1 with
     | false=>rfl
     | true=>rw [w7 e] at hv; cases hv
    have e1:bl1=bl:=by
     refine List.ext_getElem (by omega) fun k h1 h2=>?_
     cases hbk:bl[k] with
     | true=>exact ((on1 k).2 (.inl ⟨h2,hbk⟩)).2
     | false =>
      cases hb1:bl1[k] with
      | false=>rfl
      | true =>
       rcases (d5 k h1 h2 (by omega)).1 hb1 with h | h
       ·rw [hbk] at h; cases h
       ·have:=d6.2 (.inr ⟨k,h2,by omega,h,hbk⟩)
        rw [hv1] at this; cases this
    subst e1
    refine ⟨h1,fun j k hj h he=>?_⟩
    by_cases e:j=i
    ·subst e
     exact (on1 k).2 (.inr he)
    ·exact h2 j k (by omega) h he
theorem zru (hF:L0=fuel+1) (hfu:15≤fuel) (hG:GoodG g) (hS:SigA H0 s1 s2 s3 g) (hm:m≤H0.next) {idm n d0:Nat} (hn:n=g.datas.length) (hid:H0.next≤idm):∀(u:Nat) (H:AH) (bl:List Bool),freeN bl=u→Ext H0 H→ArrV 4 m H idm (bV bl)→bl.length=n→(∀k,On bl k→Lean1 g d0 k)→(∀k,EdgS g d0 k→On bl k) →
  ∃H' bl',loopO (z33 (LCo L0) m s1 s2 s3 ⟨some ⟨idm,0,none⟩,n,n⟩) (H,true)=some (.inl (H',false))∧ArrV 4 m H' idm (bV bl')∧bl'.length=n∧Fm (fun j=>j=idm) H H'∧∀k,On bl' k↔Lean1 g d0 k:=by
 intro u
 induction u using Nat.strongRecOn with
 | ind u ih =>
  intro H bl hu hx ha hl hs hf
  obtain ⟨H1,bl1,v1,w1,w2,w3,w4,w5,w6,w7,w8,w9⟩:=zqy hF hfu hG hS hm hn hid n 0 H bl false (by omega) hx ha hl hs
  have hbody:z33 (LCo L0) m s1 s2 s3 ⟨some ⟨idm,0,none⟩,n,n⟩ (H,true)=some (.next (H1,v1)):=by
   unfold z33
   simp only [if_true]
   show Option.bind (loopO (z1l (LCo L0) m s1 s2 s3 ⟨some ⟨idm,0,none⟩,n,n⟩) (H,false,0)) _=_
   have w1':loopO (z1l (LCo L0) m s1 s2 s3 ⟨some ⟨idm,0,none⟩,n,n⟩) (H,false,0)=_:=w1
   rw [w1']
   rfl
  have x1:Ext H0 H1:=hx.comp w4 fun id hid' _ h=>by omega
  rw [zj hbody]
  cases v1 with
  | true =>
   have hlt:=(w8 rfl).resolve_left (by simp)
   obtain ⟨H',bl',z1,z2,z3,z4,z5⟩:=ih (freeN bl1) (by omega) H1 bl1 rfl x1 w2 w3 w5 fun k hk=>w6 k (hf k hk)
   exact ⟨H',bl',z1,z2,z3,w4.comp z4 fun _ _ h=>h,z5⟩
  | false =>
   obtain ⟨e,hc⟩:=w9 rfl
   subst e
   refine ⟨H1,bl1,zl ?_,w2,w3,w4,fun k=>⟨hs k,fun hk=>?_⟩⟩
   ·unfold z33
    simp only [Bool.false_eq_true,if_false]
   ·clear hbody w1
    induction hk with
    | one h=>exact hf _ h
    | more h1 h2 ih'=>exact hc _ _ (Nat.zero_le _) ih' h2
theorem zoi (hF:L0=fuel+1) (hfu:15≤fuel) (hG:GoodG g) (hS:SigA H s1 s2 s3 g) (hm:m≤H.next) {i:Nat} (hi:i<g.datas.length) :
  ∃id bl H',z7i (LCo L0) m H s1 s2 s3 (i:Int)=some (⟨some ⟨id,0,none⟩,g.datas.length,g.datas.length⟩,H')∧Ext H H'∧ArrV 4 m H' id (bV bl)∧bl.length=g.datas.length∧∀k,On bl k↔Lean1 g i k:=by
 obtain ⟨id,bl,H1,c1,c2,c3,c4,c5,c6⟩:=zcv hF hfu hG hS hm hi false
 have hs:∀k,On bl k↔EdgS g i k:=fun k=>by
  constructor
  ·rintro ⟨h,h'⟩; exact (zgy hi).1 ((c6 k h).1 h')
  ·intro h
   have hk:=edg_lt hG h
   exact ⟨by omega,(c6 k (by omega)).2 ((zgy hi).2 h)⟩
 obtain ⟨H',bl',z1,z2,z3,z4,z5⟩:=zru hF hfu hG hS hm (n:=g.datas.length) (d0:=i) rfl c3 (freeN bl) H1 bl rfl c2 c4 c5 (fun k hk=>.one ((hs k).1 hk)) fun k hk=>(hs k).2 hk
 refine ⟨id,bl',H',?_,c2.comp z4 fun id' hid _ h=>by omega,z2,z3,z5⟩
 unfold z7i
 rw [c1]
 simp only [Option.bind_some]
 show Option.bind (loopO (z33 (LCo L0) m s1 s2 s3 ⟨some ⟨id,0,none⟩,g.datas.length,g.datas.length⟩) (H1,true)) _=_
 rw [z1]
 rfl
def NestD (g:Sg) (i:Nat):Prop:=∃h:i<g.datas.length,∃k∈wiD g.datas true g.datas[i],k=i∨Lean1 g k i
theorem zr1:(∃i,NestD g i)↔NestP g:=by
 constructor
 ·rintro ⟨i,hi,k,hk,h⟩
  unfold wiD wiC at hk
  simp only [List.mem_flatMap] at hk
  obtain ⟨c,hc,x,hx,hk⟩:=hk
  exact ⟨i,hi,c,hc,x,hx,k,hk,h⟩
 ·rintro ⟨i,hi,c,hc,x,hx,k,hk,h⟩
  refine ⟨i,hi,k,?_,h⟩
  unfold wiD wiC
  simp only [List.mem_flatMap]
  exact ⟨c,hc,x,hx,hk⟩
theorem zmu (hF:L0=fuel+1) (hfu:15≤fuel) (hG:GoodG g) (hS:SigA H s1 s2 s3 g) (hm:m≤H.next) {i:Nat} (hi:i<g.datas.length) :
  ∃b H',z72 (LCo L0) m H s1 s2 s3 (i:Int)=some (b,H')∧Ext H H'∧(b=true↔NestD g i):=by
 have hnn:=z28 hG
 obtain ⟨id,bl,H1,c1,c2,c3,c4,c5,c6⟩:=zcv hF hfu hG hS hm hi true
 obtain ⟨H',h1,h2⟩:=zl9 (xs:=bl) (body:=z1p (LCo L0) m s1 s2 s3 (i:Int) ⟨some ⟨id,0,none⟩,g.datas.length,g.datas.length⟩) (fun G=>(true,G)) (fun j b=>b=true∧(j=i∨Lean1 g j i)) (H0:=H1)
  (fun j hj G hx=>by
   have hjn:j<g.datas.length:=by omega
   have rm:rd deB G ((⟨id,0,none⟩:Addr).add (j*1))=some bl[j]:=by rw [((c4.ext hx).cel (show (bV bl)[j]? = some (.bool bl[j]) by simp [bV,hj])).rd]; rfl
   have im:idxA 1 (⟨some ⟨id,0,none⟩,g.datas.length,g.datas.length⟩:Sl3) (j:Int)=some ((⟨id,0,none⟩:Addr).add (j*1)):=z34 hjn rfl
   cases hb:bl[j] with
   | false =>
    refine ⟨G,hx,.inr ⟨by simp,?_⟩⟩
    unfold z1p
    rw [hb] at rm
    simp only [if_pos (show (j:Int)<(g.datas.length:Int) by omega),im,rm,Option.bind_some,Bool.false_eq_true,if_false]
    rw [zd hjn (by rw [z1n]; omega)]
   | true =>
    rw [hb] at rm
    by_cases e:j=i
    ·refine ⟨G,hx,.inl ⟨⟨rfl,.inl e⟩,?_⟩⟩
     unfold z1p
     simp only [if_pos (show (j:Int)<(g.datas.length:Int) by omega),im,rm,Option.bind_some,if_true,if_pos (show (j:Int)=(i:Int) by omega)]
    ·have xx:=c2.trans hx
     obtain ⟨id2,bl2,G2,y1,y2,y3,y4,y5⟩:=zoi hF hfu hG (hS.ext xx) (Nat.le_trans hm xx.1) hjn
     have hib:i<bl2.length:=by omega
     have rm2:rd deB G2 ((⟨id2,0,none⟩:Addr).add (i*1))=some bl2[i]:=by rw [(y3.cel (show (bV bl2)[i]? = some (.bool bl2[i]) by simp [bV,hib])).rd]; rfl
     have im2:idxA 1 (⟨some ⟨id2,0,none⟩,g.datas.length,g.datas.length⟩:Sl3) (i:Int)=some ((⟨id2,0,none⟩:Addr).add (i*1)):=z34 hi rfl
     refine ⟨G2,hx.trans y2,?_⟩
     cases hb2:bl2[i] with
     | true =>
      refine .inl ⟨⟨rfl,.inr ((y5 i).1 ⟨hib,hb2⟩)⟩,?_⟩
      rw [hb2] at rm2
      unfold z1p
      simp only [if_pos (show (j:Int)<(g.datas.length:Int) by omega),im,rm,Option.bind_some,if_true,if_neg (show ¬((j:Int)=(i:Int)) by omega),y1,im2,rm2]
     | false =>
      refine .inr ⟨?_,?_⟩
      ·rintro ⟨_,h | h⟩
       ·exact e h
       ·obtain ⟨_,h⟩:=(y5 i).2 h
        rw [hb2] at h; cases h
      ·rw [hb2] at rm2
       unfold z1p
       simp only [if_pos (show (j:Int)<(g.datas.length:Int) by omega),im,rm,Option.bind_some,if_true,if_neg (show ¬((j:Int)=(i:Int)) by omega),y1,im2,rm2,Bool.false_eq_true,if_false]
       rw [zd hjn (by rw [z1n]; omega)])
  (fun G hx=>by
   unfold z1p
   simp only [if_neg (show ¬((bl.length:Int)<(g.datas.length:Int)) by omega)])
  bl.length 0 H1 (by omega) (Fm.refl _ _)
 have iff:(∃j,∃h:j<bl.length,0≤j∧bl[j]=true∧(j=i∨Lean1 g j i))↔NestD g i:=by
  constructor
  ·rintro ⟨j,hj,_,hp,hq⟩; exact ⟨hi,j,(c6 j hj).1 hp,hq⟩
  ·rintro ⟨_,k,hk,hq⟩
   have hkl:k<g.datas.length:=by
    unfold wiD wiC at hk
    simp only [List.mem_flatMap] at hk
    obtain ⟨c,hc,x,hx,hk⟩:=hk
    exact dtI_lt (hG.sel _ (List.getElem_mem hi) c hc x hx) k hk
   exact ⟨k,by omega,Nat.zero_le _,(c6 k (by omega)).2 hk,hq⟩
 rw [iff] at h2
 unfold z72
 rw [c1]
 simp only [Option.bind_some]
 show ∃b H',Option.bind (loopO (z1p (LCo L0) m s1 s2 s3 (i:Int) ⟨some ⟨id,0,none⟩,g.datas.length,g.datas.length⟩) (H1,((0:Nat):Int))) _=_∧_
 rcases h2 with ⟨hp,hb⟩ | ⟨hp,hb⟩
 ·exact ⟨true,H',by rw [hb]; rfl,c2.trans h1,by simp [hp]⟩
 ·exact ⟨false,H',by rw [hb]; rfl,c2.trans h1,by simp [hp]⟩
theorem zmh (hF:L0=fuel+1) (hfu:15≤fuel) (hG:GoodG g) (hS:SigA H s1 s2 s3 g) (hm:m≤H.next) :
  ∃H',Ext H H'∧((NestP g∧loopO (z1d (LCo L0) m s1 s2 s3) (H,0)=some (.inr (44,H')))∨(¬NestP g∧loopO (z1d (LCo L0) m s1 s2 s3) (H,0)=some (.inl (H',(g.datas.length:Int))))):=by
 have hd:=hS.d.n
 obtain ⟨H',h1,h2⟩:=zl9 (xs:=g.datas) (body:=z1d (LCo L0) m s1 s2 s3) (fun G=>(44,G)) (fun j _=>NestD g j) (H0:=H)
  (fun j hj G hx=>by
   obtain ⟨b,G1,y1,y2,y3⟩:=zmu hF hfu hG (hS.ext hx) (Nat.le_trans hm hx.1) hj
   refine ⟨G1,hx.trans y2,?_⟩
   cases b with
   | true =>
    refine .inl ⟨y3.1 rfl,?_⟩
    unfold z1d
    simp only [if_pos (show (j:Int)<(s2.n:Int) by omega),y1,Option.bind_some,if_true]
   | false =>
    refine .inr ⟨fun h=>absurd (y3.2 h) (by simp),?_⟩
    unfold z1d
    simp only [if_pos (show (j:Int)<(s2.n:Int) by omega),y1,Option.bind_some,Bool.false_eq_true,if_false]
    rw [zd hj hS.d.len])
  (fun G hx=>by
   unfold z1d
   simp only [if_neg (show ¬((g.datas.length:Int)<(s2.n:Int)) by omega)])
  g.datas.length 0 H (by omega) (Fm.refl _ _)
 have iff:(∃j,∃h:j<g.datas.length,0≤j∧NestD g j)↔NestP g:=by
  rw [← zr1]
  constructor
  ·rintro ⟨j,hj,_,hp⟩; exact ⟨j,hp⟩
  ·rintro ⟨j,hj,hp⟩; exact ⟨j,hj,Nat.zero_le _,hj,hp⟩
 rw [iff] at h2
 exact ⟨H',h1,h2⟩
end
end Go.Proofs.YtccbilfbhecdaaaDoor
namespace Go.Proofs.YtccbilfbhecdaaaDoor
open Go Go.Abs
set_option maxRecDepth 100000
def gF (ds:List Dat) (bl:List Bool):Fo→Bool
 | .nil=>true
 | .cons _ _ _ _ .nil=>true
 | .cons _ _ _ _ (.cons k _ n a _)=>if k=6 then bl.getD (ixS ds n) false else if k=4 then gF ds bl a else true
def gS (ds:List Dat) (bl:List Bool) (k:Int) (n:ByteArray) (a:Fo):Bool:=if k=6 then bl.getD (ixS ds n) false else if k=4 then gF ds bl a else true
def gC (ds:List Dat) (bl:List Bool) (c:Con):Bool:=c.sels.all fun x=>gS ds bl x.k x.sn x.a
def gD (ds:List Dat) (bl:List Bool) (d:Dat):Bool:=d.cons.any (gC ds bl)
theorem zd8 {bl:List Bool} {k:Nat}:bl.getD k false=true↔On bl k:=by
 unfold On
 by_cases h:k<bl.length
 ·simp [List.getD,h]
 ·simp [List.getD,h]
theorem zp7 {ds:List Dat} {bl bl':List Bool} (hm:∀k,On bl k→On bl' k):∀a:Fo,gF ds bl a=true→gF ds bl' a=true
 | .nil,_=>rfl
 | .cons _ _ _ _ .nil,_=>rfl
 | .cons _ _ _ _ (.cons k _ n a _),h=>by
  unfold gF at h ⊢
  by_cases h6:k=6
  ·rw [if_pos h6] at h ⊢
   exact zd8.2 (hm _ (zd8.1 h))
  ·rw [if_neg h6] at h ⊢
   by_cases h4:k=4
   ·rw [if_pos h4] at h ⊢
    exact zp7 hm a h
   ·rw [if_neg h4]
theorem zu7 {ds:List Dat} {bl bl':List Bool} (hm:∀k,On bl k→On bl' k) {k:Int} {n:ByteArray} {a:Fo} (h:gS ds bl k n a=true):gS ds bl' k n a=true:=by
 unfold gS at h ⊢
 by_cases h6:k=6
 ·rw [if_pos h6] at h ⊢
  exact zd8.2 (hm _ (zd8.1 h))
 ·rw [if_neg h6] at h ⊢
  by_cases h4:k=4
  ·rw [if_pos h4] at h ⊢
   exact zp7 hm a h
  ·rw [if_neg h4]
theorem zur {ds:List Dat} {bl bl':List Bool} (hm:∀k,On bl k→On bl' k) {c:Con} (h:gC ds bl c=true):gC ds bl' c=true:=by
 unfold gC at h ⊢
 rw [List.all_eq_true] at h ⊢
 exact fun x hx=>zu7 hm (h x hx)
theorem zup {ds:List Dat} {bl bl':List Bool} (hm:∀k,On bl k→On bl' k) {d:Dat} (h:gD ds bl d=true):gD ds bl' d=true:=by
 unfold gD at h ⊢
 rw [List.any_eq_true] at h ⊢
 obtain ⟨c,hc,h⟩:=h
 exact ⟨c,hc,zur hm h⟩
inductive Gd (g:Sg):Nat→Prop
 | mk {i:Nat} (h:i<g.datas.length) (bl:List Bool) (hb:∀k,On bl k→Gd g k) (ho:gD g.datas bl g.datas[i]=true):Gd g i
theorem zaz {g:Sg} {bl:List Bool} (hc:∀i (h:i<g.datas.length),gD g.datas bl g.datas[i]=true→On bl i):∀{k:Nat},Gd g k→On bl k:=by
 intro k hk
 induction hk with
 | mk h bl' hb ho ih=>exact hc _ h (zup ih ho)
section
variable {m:Nat} {H0 H:AH} {s1 s2 s3:Sl3} {g:Sg} {p:Addr} {L0 fuel:Nat}
theorem z9c {e:TypeId} {idm N:Nat} {bl:List Bool} (ha:ArrV e m H idm (bV bl)) (hl:bl.length=N) {i:Nat} (hi:i<N) :
  ∃q,idxA 1 (⟨some ⟨idm,0,none⟩,N,N⟩:Sl3) (i:Int)=some q∧rd deB H q=some (bl.getD i false):=by
 have hib:i<bl.length:=by omega
 refine ⟨_,z34 hi rfl,?_⟩
 rw [(ha.cel (show (bV bl)[i]? = some (.bool bl[i]) by simp [bV,hib])).rd]
 simp [deB,List.getD,hib]
theorem zlg (c:Nat) {idm N:Nat} {bl:List Bool} (hB:Book H p s1 s2 s3 g) (ha:ArrV 4 m H idm (bV bl)) (hl:bl.length=N) (hN:N=g.datas.length):∀(d fuel:Nat) (k w:Int) (n:ByteArray) (s:Sl3) (a:Fo),SlF H s a→shS k w n a=true→knS g.users g.datas k n a=true→a.dep≤fuel→a.dep<d →
  z3w (LCo c) (fuel+1) H (some p) k w n s ⟨some ⟨idm,0,none⟩,N,N⟩=some (gS g.datas bl k n a):=by
 intro d
 induction d with
 | zero=>intro fuel k w n s a _ _ _ _ h; omega
 | succ d ih =>
  intro fuel k w n s a h hsh hkn hf hd
  show z2b (LCo c) (z3w (LCo c) fuel) H (some p) k w n s ⟨some ⟨idm,0,none⟩,N,N⟩=_
  unfold z2b gS
  by_cases h6:k=6
  ·subst h6
   obtain ⟨id,r1,r2⟩:=zpb hB n
   have hk:=hkn
   unfold knS at hk
   rw [if_neg (by omega),if_pos rfl] at hk
   have hlt:=ix_lt hk
   obtain ⟨q,k1,k2⟩:=z9c ha hl (show ixS g.datas n<N by omega)
   simp only [if_true,Option.bind_some,r1,r2,k1,k2]
  ·rw [if_neg h6,if_neg h6]
   by_cases h4:k=4
   ·rw [if_pos h4,if_pos h4]
    rcases zc8 hsh with ⟨_,h'⟩ | ⟨_,k1,w1,n1,a1,k2,w2,n2,a2,rfl,hs1,hs2⟩
    ·omega
    ·unfold knS at hkn
     rw [if_neg (by omega),if_neg h6] at hkn
     simp only [knF,Bool.and_eq_true] at hkn
     have hn2:s.n=2:=h.1
     obtain ⟨_,_,_,_,_,_,_,_,_,q8⟩:=h.2.2.rd (s:=s) (by omega)
     obtain ⟨q,t1,q1,q2,q3,q4,q5,q6,q7,_⟩:=q8.rd (s:=s) (by omega)
     simp only [Fo.dep] at hf hd
     obtain ⟨g',rfl⟩:∃g',fuel=g'+1:=⟨fuel - 1,by omega⟩
     have y:=ih g' k2 w2 n2 t1 a2 q6 hs2 (by unfold knS; exact hkn.2.1) (by omega) (by omega)
     have q1':idxA 4 s 1=some q:=q1
     simp only [q1',q2,q3,q4,q5,Option.bind_some,y]
     simp only [gS,gF]
   ·rw [if_neg h4,if_neg h4]
theorem zmv (hF:L0=fuel+1) (hfu:15≤fuel) (hG:GoodG g) (hB:Book H p s1 s2 s3 g) {p1 p8:Addr} {idm N:Nat} {bl:List Bool} (h1:Cel H p1 (.pointer (some p))) (h8:Cel H p8 (Sl3.v ⟨some ⟨idm,0,none⟩,N,N⟩)) (ha:ArrV 4 m H idm (bV bl)) (hl:bl.length=N) (hN:N=g.datas.length)
  {d:Dat} (hd:d∈g.datas) {c:Con} (hc:c∈d.cons) {sl:Sl3} (h:SlL SelA 5 H sl c.sels):z2c (LCo L0) H sl (some p1) (some p8)=some (!gC g.datas bl c):=by
 have hln:=h.n
 have hlp:=z1f (body:=z1e (LCo L0) H sl (some p1) (some p8)) c.sels.length h.len (fun j=>if (fun x:Sel=>!gS g.datas bl x.k x.sn x.a) (c.sels.getD j ⟨emptyT,0,0,emptyT,.nil⟩)=true then some (j:Int) else none) (fun j hj=>by
  obtain ⟨q,g1,g2⟩:=h.get hj (v:=(j:Int)) rfl
  obtain ⟨z,e1,e2,e3,e4,e5,e6⟩:=g2.ex
  have r0:rd deS H (q.add 0)=some c.sels[j].n:=by rw [g2.n.rd]; rfl
  have r1:rd (deI .i64) H (q.add 1)=some c.sels[j].k:=by rw [e1.rd]; rfl
  have r2:rd (deI .i64) H (q.add 2)=some c.sels[j].w:=by rw [e2.rd]; rfl
  have r3:rd deS H (q.add 3)=some c.sels[j].sn:=by rw [e3.rd]; rfl
  have r4:rd deSl H (q.add 4)=some z:=by rw [e4.rd]; rfl
  have hs:=hG.sel d hd c hc _ (List.getElem_mem hj)
  have y:=zlg L0 hB ha hl hN (c.sels[j].a.dep+1) fuel c.sels[j].k c.sels[j].w c.sels[j].sn z c.sels[j].a e6 hs.sh hs.kn (by have:=hs.dp; omega) (by omega)
  have eg:c.sels.getD j ⟨emptyT,0,0,emptyT,.nil⟩=c.sels[j]:=by simp [List.getD,hj]
  have f1:rd deP H p1=some (some p):=by rw [h1.rd]; rfl
  have f8:rd deSl H p8=some ⟨some ⟨idm,0,none⟩,N,N⟩:=by rw [h8.rd]; rfl
  have e1':(LCo L0).fuel=fuel+1:=hF
  rw [eg]
  unfold z1e z5e z6z
  rw [e1']
  simp only [if_pos (show (j:Int)<(sl.n:Int) by omega),g1,Option.bind_some,r0,r1,r2,r3,r4,f1,f8,y]
  by_cases hgs:gS g.datas bl c.sels[j].k c.sels[j].sn c.sels[j].a=true <;> simp [hgs,stepO]) (by
  unfold z1e
  rw [if_neg (by omega)])
 unfold z2c z4i
 show Option.bind (Option.bind (loopO (z1e (LCo L0) H sl (some p1) (some p8)) 0) _) _=_
 rw [hlp]
 obtain ⟨k1,k2⟩:=zc9 c.sels (fun x:Sel=>!gS g.datas bl x.k x.sn x.a) (fun i=>(i:Int)) ⟨emptyT,0,0,emptyT,.nil⟩
 have k3:(c.sels.any fun x=>!gS g.datas bl x.k x.sn x.a)=!gC g.datas bl c:=by
  unfold gC
  rw [List.not_all_eq_any_not]
 rw [k3] at k1
 generalize hq:(List.range c.sels.length).findSome? (fun i=>if (fun x:Sel=>!gS g.datas bl x.k x.sn x.a) (c.sels.getD i ⟨emptyT,0,0,emptyT,.nil⟩)=true then some (i:Int) else none)=q at k1 k2
 cases q with
 | none=>rw [← k1]; rfl
 | some x =>
  rw [← k1]
  obtain ⟨i,rfl⟩:=k2 x rfl
  have:(i:Int)≥0:=by omega
  simp [found,this]
theorem zs6 (hF:L0=fuel+1) (hfu:15≤fuel) (hG:GoodG g) (hB:Book H p s1 s2 s3 g) {p1 p8:Addr} {idm N:Nat} {bl:List Bool} (h1:Cel H p1 (.pointer (some p))) (h8:Cel H p8 (Sl3.v ⟨some ⟨idm,0,none⟩,N,N⟩)) (ha:ArrV 4 m H idm (bV bl)) (hl:bl.length=N) (hN:N=g.datas.length)
  {i:Nat} (hi:i<g.datas.length) {x14 sl:Sl3} {n19:ByteArray} (h:SlL ConA 2 H sl (g.datas[i]).cons) {H31:AH} (hset:H.setCell m ((⟨idm,0,none⟩:Addr).add (i*1)) (.bool true)=some H31):∀(t j:Nat),j+t=(g.datas[i]).cons.length →
  loopO (z10 (LCo L0) m p1 p8 x14 (i:Int) n19 sl) (H,(j:Int))=some (if ((g.datas[i]).cons.drop j).any (gC g.datas bl)=true then .inr (.inr H31) else .inl (H,((g.datas[i]).cons.length:Int))):=by
 have hln:=h.n
 intro t
 induction t with
 | zero =>
  intro j hj
  obtain rfl:j=(g.datas[i]).cons.length:=by omega
  rw [List.drop_length]
  simp only [List.any_nil,Bool.false_eq_true,if_false]
  refine zl ?_
  unfold z10
  simp only [if_neg (show ¬(((g.datas[i]).cons.length:Int)<(sl.n:Int)) by omega)]
 | succ t ih =>
  intro j hj
  have hjl:j<(g.datas[i]).cons.length:=by omega
  obtain ⟨q,g1,g2⟩:=h.get hjl (v:=(j:Int)) rfl
  obtain ⟨z,e1,e2⟩:=g2.ex
  have r0:rd deS H (q.add 0)=some (g.datas[i]).cons[j].n:=by rw [g2.n.rd]; rfl
  have r1:rd deSl H (q.add 1)=some z:=by rw [e1.rd]; rfl
  have hcon:=zmv hF hfu hG hB h1 h8 ha hl hN (List.getElem_mem hi) (List.getElem_mem hjl) e2
  have f8:rd deSl H p8=some ⟨some ⟨idm,0,none⟩,N,N⟩:=by rw [h8.rd]; rfl
  rw [List.drop_eq_getElem_cons hjl,List.any_cons]
  cases hg:gC g.datas bl (g.datas[i]).cons[j] with
  | true =>
   rw [hg] at hcon
   simp only [Bool.true_or,if_true]
   refine z41 ?_
   unfold z10
   simp only [if_pos (show (j:Int)<(sl.n:Int) by omega),g1,Option.bind_some,r0,r1,hcon,Bool.not_true,Bool.false_eq_true,if_false,f8,z34 (show i<N by omega) rfl,hset]
  | false =>
   rw [hg] at hcon
   have hbody:z10 (LCo L0) m p1 p8 x14 (i:Int) n19 sl (H,(j:Int))=some (.next (H,((j+1:Nat):Int))):=by
    unfold z10
    simp only [if_pos (show (j:Int)<(sl.n:Int) by omega),g1,Option.bind_some,r0,r1,hcon,Bool.not_false,if_true]
    rw [zd hjl h.len]
   rw [zj hbody,ih (j+1) (by omega),Bool.false_or]
def PassG (g:Sg) (m:Nat) (H:AH) (bl:List Bool) (idm N:Nat) (r:Option ((AH×Int)⊕((Sl3×AH)⊕AH))) (i:Nat):Prop :=
 (∃j H',∃hj:j<g.datas.length,r=some (.inr (.inr H'))∧gD g.datas bl g.datas[j]=true∧bl.getD j false=false∧ArrV 4 m H' idm (bV (bl.set j true))∧Fm (fun id=>id=idm) H H') ∨
  (r=some (.inl (H,(N:Int)))∧∀j (hj:j<g.datas.length),i≤j→gD g.datas bl g.datas[j]=true→On bl j)
theorem zrf (hF:L0=fuel+1) (hfu:15≤fuel) (hG:GoodG g) (hS:SigA H s1 s2 s3 g) (hB:Book H p s1 s2 s3 g) {p1 p8:Addr} {idm N:Nat} {bl:List Bool} (h1:Cel H p1 (.pointer (some p))) (h8:Cel H p8 (Sl3.v ⟨some ⟨idm,0,none⟩,N,N⟩)) (ha:ArrV 4 m H idm (bV bl)) (hl:bl.length=N) (hN:N=g.datas.length):∀(t i:Nat),i+t=N →
  PassG g m H bl idm N (loopO (zq (LCo L0) m p1 p8 s2) (H,(i:Int))) i:=by
 have hdn:=hS.d.n
 intro t
 induction t with
 | zero =>
  intro i hi
  obtain rfl:i=N:=by omega
  refine .inr ⟨zl ?_,fun j hj h=>by omega⟩
  unfold zq
  simp only [if_neg (show ¬((i:Int)<(s2.n:Int)) by omega)]
 | succ t ih =>
  intro i hi
  have hin:i<N:=by omega
  have hig:i<g.datas.length:=by omega
  obtain ⟨q,g1,g2⟩:=hS.d.get hig (v:=(i:Int)) rfl
  obtain ⟨z,e1,e2⟩:=g2.ex
  have r0:rd deS H (q.add 0)=some (g.datas[i]).n:=by rw [g2.n.rd]; rfl
  have r1:rd deSl H (q.add 1)=some z:=by rw [e1.rd]; rfl
  have f8:rd deSl H p8=some ⟨some ⟨idm,0,none⟩,N,N⟩:=by rw [h8.rd]; rfl
  obtain ⟨qm,m1,m2⟩:=z9c ha hl hin
  obtain ⟨H31,c1,c2,c3,c4⟩:=ha.set (i:=i) (by simp [bV]; omega) (.bool true)
  rw [bV_set] at c2
  have hb2:=zs6 hF hfu hG hB h1 h8 ha hl hN hig (x14:=s2) (n19:=(g.datas[i]).n) e2 c1 (g.datas[i]).cons.length 0 (by omega)
  rw [List.drop_zero] at hb2
  have hD:(g.datas[i]).cons.any (gC g.datas bl)=gD g.datas bl g.datas[i]:=rfl
  rw [hD] at hb2
  have step:zq (LCo L0) m p1 p8 s2 (H,(i:Int))=some (.next (H,((i+1:Nat):Int)))→(gD g.datas bl g.datas[i]=true→On bl i)→PassG g m H bl idm N (loopO (zq (LCo L0) m p1 p8 s2) (H,(i:Int))) i:=fun hbody hon=>by
   rw [zj hbody]
   rcases ih (i+1) (by omega) with ⟨j,H',hj,w1,w2,w3,w4,w5⟩ | ⟨w1,w2⟩
   ·exact .inl ⟨j,H',hj,w1,w2,w3,w4,w5⟩
   ·refine .inr ⟨w1,fun j hj hij hg=>?_⟩
    by_cases e:j=i
    ·subst e; exact hon hg
    ·exact w2 j hj (by omega) hg
  cases hm:bl.getD i false with
  | true =>
   rw [hm] at m2
   refine step ?_ fun _=>zd8.1 hm
   unfold zq
   simp only [if_pos (show (i:Int)<(s2.n:Int) by omega),g1,Option.bind_some,r0,r1,f8,m1,m2,if_true]
   rw [zd hig hS.d.len]
  | false =>
   rw [hm] at m2
   cases hg:gD g.datas bl g.datas[i] with
   | true =>
    rw [hg] at hb2
    simp only [if_true] at hb2
    refine .inl ⟨i,H31,hig,z41 ?_,hg,hm,c2,c3⟩
    unfold zq
    simp only [if_pos (show (i:Int)<(s2.n:Int) by omega),g1,Option.bind_some,r0,r1,f8,m1,m2,Bool.false_eq_true,if_false]
    show Option.bind (loopO (z10 (LCo L0) m p1 p8 s2 (i:Int) (g.datas[i]).n z) (H,((0:Nat):Int))) _=_
    rw [hb2]
    rfl
   | false =>
    rw [hg] at hb2
    simp only [Bool.false_eq_true,if_false] at hb2
    refine step ?_ fun h=>by rw [hg] at h; cases h
    unfold zq
    simp only [if_pos (show (i:Int)<(s2.n:Int) by omega),g1,Option.bind_some,r0,r1,f8,m1,m2,Bool.false_eq_true,if_false]
    show Option.bind (loopO (z10 (LCo L0) m p1 p8 s2 (i:Int) (g.datas[i]).n z) (H,((0:Nat):Int))) _=_
    rw [hb2]
    simp only [Option.bind_some]
    rw [zd hig hS.d.len]
theorem zrd (hF:L0=fuel+1) (hfu:15≤fuel) (hG:GoodG g) (hS:SigA H0 s1 s2 s3 g) (hB:Book H0 p s1 s2 s3 g) {p1 p8:Addr} {idm N:Nat} (hN:N=g.datas.length) (hid:H0.next≤idm) (hne1:p1.block≠idm) (hne8:p8.block≠idm):∀(u:Nat) (H:AH) (bl:List Bool),freeN bl=u→Ext H0 H→Cel H p1 (.pointer (some p))→Cel H p8 (Sl3.v ⟨some ⟨idm,0,none⟩,N,N⟩)→ArrV 4 m H idm (bV bl)→bl.length=N→(∀k,On bl k→Gd g k) →
  ∃H' bl',loopO (z14 (LCo L0) m p1 p8) H=some (.inl H')∧Cel H' p8 (Sl3.v ⟨some ⟨idm,0,none⟩,N,N⟩)∧ArrV 4 m H' idm (bV bl')∧bl'.length=N∧Fm (fun id=>id=idm) H H'∧∀k,On bl' k↔Gd g k:=by
 intro u
 induction u using Nat.strongRecOn with
 | ind u ih =>
  intro H bl hu hx h1 h8 ha hl hs
  have f1:rd deP H p1=some (some p):=by rw [h1.rd]; rfl
  have hBx:=hB.ext hx
  have hadd:∀j,(p.add 0).add j=p.add (0+j):=fun j=>add2 hB.c1 0 j
  have r1:rd deSl H ((p.add 0).add 1)=some s2:=by rw [hadd,hBx.c2.rd]; rfl
  rcases zrf hF hfu hG (hS.ext hx) hBx h1 h8 ha hl hN N 0 (by omega) with ⟨j,H1,hj,w1,w2,w3,w4,w5⟩ | ⟨w1,w2⟩
  ·have hbody:z14 (LCo L0) m p1 p8 H=some (.next H1):=by
    unfold z14
    simp only [f1,Option.bind_some,r1]
    show Option.bind (loopO (zq (LCo L0) m p1 p8 s2) (H,((0:Nat):Int))) _=_
    rw [w1]
    rfl
   have hjb:j<bl.length:=by omega
   have hf:bl[j]=false:=by simpa [List.getD,hjb] using w3
   have hfree:=zgv hjb hf
   obtain ⟨H',bl',z1,z2,z3,z4,z5,z6⟩:=ih (freeN (bl.set j true)) (by omega) H1 (bl.set j true) rfl (hx.comp w5 fun id hid' _ h=>by omega) (h1.fr w5 hne1) (h8.fr w5 hne8) w4 (by simp [hl]) fun k hk=>by
    rcases z5s.1 hk with h | ⟨rfl,_⟩
    ·exact hs k h
    ·exact .mk hj bl hs w2
   exact ⟨H',bl',by rw [zj hbody]; exact z1,z2,z3,z4,w5.comp z5 fun _ _ h=>h,z6⟩
  ·have hbody:z14 (LCo L0) m p1 p8 H=some (.brk H):=by
    unfold z14
    simp only [f1,Option.bind_some,r1]
    show Option.bind (loopO (zq (LCo L0) m p1 p8 s2) (H,((0:Nat):Int))) _=_
    rw [w1]
    rfl
   exact ⟨H,bl,zl hbody,h8,ha,hl,Fm.refl _ _,fun k=>⟨hs k,zaz fun i hi hg=>w2 i hi (Nat.zero_le _) hg⟩⟩
theorem zhl (hF:L0=fuel+1) (hfu:15≤fuel) (hG:GoodG g) (hS:SigA H s1 s2 s3 g) (hB:Book H p s1 s2 s3 g) (hm:m≤H.next) :
  ∃id bl H',z3r (LCo L0) m H (some p)=some (⟨some ⟨id,0,none⟩,g.datas.length,g.datas.length⟩,H')∧Ext H H'∧ArrV 4 m H' id (bV bl)∧bl.length=g.datas.length∧∀k,On bl k↔Gd g k:=by
 have hd:=hS.d.n
 have hnn:=z28 hG
 have hadd:∀j,(p.add 0).add j=p.add (0+j):=fun j=>add2 hB.c1 0 j
 have x2:Ext H (H.push (pubB 66 [(Value.pointer (some p))])):=Fm.push _ _ _
 have c1:Cel (H.push (pubB 66 [(Value.pointer (some p))])) ⟨H.next,0,none⟩ (.pointer (some p)):=Cel.push rfl rfl
 generalize hH2:H.push (pubB 66 [(Value.pointer (some p))])=H2 at x2 c1
 have n2:H2.next=H.next+1:=by rw [← hH2]; simp
 obtain ⟨H7,b1,b2,b3,b4⟩:=zdy (e:=4) (bytes:=1) (m:=m) (H:=H2) (z:=.bool false) (n:=g.datas.length) (by omega) (by omega) (by omega)
 have b2':ArrV 4 m H7 H2.next (bV (List.replicate g.datas.length false)):=by
  have:bV (List.replicate g.datas.length false)=List.replicate g.datas.length (Value.bool false):=by simp [bV]
  rw [this]; exact b2
 have x9:Ext H7 (H7.push (pubB 56 [(Sl3.v Sl3.nil)])):=Fm.push _ _ _
 have a9:ArrV 56 m (H7.push (pubB 56 [(Sl3.v Sl3.nil)])) H7.next [Sl3.v Sl3.nil]:=⟨AH.get_push_same _ _,by omega,by simp⟩
 generalize hH9:H7.push (pubB 56 [(Sl3.v Sl3.nil)])=H9 at x9 a9
 obtain ⟨H10,d1,d2,d3,d4⟩:=a9.set (i:=0) (by simp) (Sl3.v ⟨some ⟨H2.next,0,none⟩,g.datas.length,g.datas.length⟩)
 have d1':H9.setCell m ⟨H7.next,0,none⟩ (Sl3.v ⟨some ⟨H2.next,0,none⟩,g.datas.length,g.datas.length⟩)=some H10:=by rw [z4x] at d1; exact d1
 have c8:Cel H10 ⟨H7.next,0,none⟩ (Sl3.v ⟨some ⟨H2.next,0,none⟩,g.datas.length,g.datas.length⟩):=by
  have:=d2.cel (i:=0) (v:=Sl3.v ⟨some ⟨H2.next,0,none⟩,g.datas.length,g.datas.length⟩) rfl
  rw [z4x] at this
  exact this
 have x2':Ext H H2:=x2
 have xH:Ext H H10:=((x2'.trans b3).trans x9).comp d3 fun id hid _ h=>by have:=x2'.1; have:=b3.1; omega
 have x210:Ext H2 H10:=(b3.trans x9).comp d3 fun id hid _ h=>by have:=b3.1; omega
 obtain ⟨H',bl',z1,z2,z3,z4,z5,z6⟩:=zrd hF hfu hG hS hB (m:=m) (p1:=⟨H.next,0,none⟩) (p8:=⟨H7.next,0,none⟩) (idm:=H2.next) rfl (by omega) (by simp; omega) (by simp; omega) g.datas.length H10 (List.replicate g.datas.length false) (zgl _) xH (c1.ext x210) c8 ((b2'.ext x9).fr d3 (by have:=b3.1; omega)) (by simp) (fun k hk=>by obtain ⟨h,hb⟩:=hk; simp at hb)
 refine ⟨H2.next,bl',H',?_,xH.comp z5 fun id hid _ h=>by omega,z3,z4,z6⟩
 have f1:rd deP H2 ⟨H.next,0,none⟩=some (some p):=by rw [c1.rd]; rfl
 have r1:rd deSl H2 ((p.add 0).add 1)=some s2:=by rw [hadd,(hB.c2.ext x2').rd]; rfl
 have f8:rd deSl H' ⟨H7.next,0,none⟩=some ⟨some ⟨H2.next,0,none⟩,g.datas.length,g.datas.length⟩:=by rw [z2.rd]; rfl
 unfold z3r newB
 simp only [Option.bind_some]
 rw [hH2]
 simp only [f1,Option.bind_some,r1,hd,b1]
 rw [hH9]
 simp only [d1',Option.bind_some]
 show Option.bind (loopO (z14 (LCo L0) m ⟨H.next,0,none⟩ ⟨H7.next,0,none⟩) H10) _=_
 rw [z1]
 simp only [Option.bind_some,f8]
theorem zkb (c:Nat) {id n:Nat} {bl:List Bool} (ha:ArrV 4 m H id (bV bl)) (hl:bl.length=n) (hn:n≤4096):z5j (LCo c) H ⟨some ⟨id,0,none⟩,n,n⟩ false=some (!(bl.all fun b=>b)):=by
 have hlp:=z1f (body:=z3c (LCo c) H ⟨some ⟨id,0,none⟩,n,n⟩ false) bl.length (by rw [z1n]; omega) (fun j=>if (fun b:Bool=>!b) (bl.getD j false)=true then some (j:Int) else none) (fun j hj=>by
  obtain ⟨q,k1,k2⟩:=z9c ha hl (i:=j) (by omega)
  unfold z3c
  simp only [if_pos (show (j:Int)<(n:Int) by omega),k1,Option.bind_some,k2]
  cases bl.getD j false <;> simp [stepO]) (by
  unfold z3c
  simp only []
  rw [if_neg (by omega)])
 unfold z5j z8l
 show Option.bind (Option.bind (loopO (z3c (LCo c) H ⟨some ⟨id,0,none⟩,n,n⟩ false) 0) _) _=_
 rw [hlp]
 obtain ⟨k1,k2⟩:=zc9 bl (fun b:Bool=>!b) (fun i=>(i:Int)) false
 have k3:(bl.any fun b=>!b)=!(bl.all fun b=>b):=by rw [List.not_all_eq_any_not]
 rw [k3] at k1
 generalize hq:(List.range bl.length).findSome? (fun i=>if (fun b:Bool=>!b) (bl.getD i false)=true then some (i:Int) else none)=q at k1 k2
 cases q with
 | none=>rw [← k1]; rfl
 | some x =>
  rw [← k1]
  obtain ⟨i,rfl⟩:=k2 x rfl
  have:(i:Int)≥0:=by omega
  simp [found,this]
end
end Go.Proofs.YtccbilfbhecdaaaDoor
namespace Go.Proofs.YtccbilfbhecdaaaDoor
open Go Go.Abs
set_option maxRecDepth 100000
section
variable {m:Nat} {H0 H:AH} {s1 s2 s3:Sl3} {g:Sg} {L0 fuel:Nat}
theorem znl (c:Nat) {idm N:Nat} {bl:List Bool} (hS:SigA H s1 s2 s3 g) (ha:ArrV 4 m H idm (bV bl)) (hl:bl.length=N) (hN:N=g.datas.length):∀(d fuel:Nat) (k w:Int) (n:ByteArray) (s:Sl3) (a:Fo),SlF H s a→shS k w n a=true→knS g.users g.datas k n a=true→a.dep≤fuel→a.dep<d →
  z69 (LCo c) (fuel+1) H k w n s s1 s2 s3 ⟨some ⟨idm,0,none⟩,N,N⟩=some (gS g.datas bl k n a):=by
 intro d
 induction d with
 | zero=>intro fuel k w n s a _ _ _ _ h; omega
 | succ d ih =>
  intro fuel k w n s a h hsh hkn hf hd
  show z4h (LCo c) (z69 (LCo c) fuel) H k w n s s1 s2 s3 ⟨some ⟨idm,0,none⟩,N,N⟩=_
  unfold z4h gS
  by_cases h4:k=4
  ·rw [if_pos h4,if_neg (show ¬k=6 by omega),if_pos h4]
   rcases zc8 hsh with ⟨_,h'⟩ | ⟨_,k1,w1,n1,a1,k2,w2,n2,a2,rfl,hs1,hs2⟩
   ·omega
   ·unfold knS at hkn
    rw [if_neg (by omega),if_neg (by omega)] at hkn
    simp only [knF,Bool.and_eq_true] at hkn
    have hn2:s.n=2:=h.1
    obtain ⟨_,_,_,_,_,_,_,_,_,q8⟩:=h.2.2.rd (s:=s) (by omega)
    obtain ⟨q,t1,q1,q2,q3,q4,q5,q6,q7,_⟩:=q8.rd (s:=s) (by omega)
    simp only [Fo.dep] at hf hd
    obtain ⟨g',rfl⟩:∃g',fuel=g'+1:=⟨fuel - 1,by omega⟩
    have y:=ih g' k2 w2 n2 t1 a2 q6 hs2 (by unfold knS; exact hkn.2.1) (by omega) (by omega)
    have q1':idxA 4 s 1=some q:=q1
    simp only [q1',q2,q3,q4,q5,Option.bind_some,y]
    simp only [gS,gF]
  ·rw [if_neg h4]
   by_cases h6:k=6
   ·subst h6
    have hk:=hkn
    unfold knS at hk
    rw [if_neg (by omega),if_pos rfl] at hk
    have hlt:=ix_lt hk
    have hD:=zgd c hS n
    have hD:z3e (LCo c) H s1 s2 s3 n=some ((ixS g.datas n:Nat):Int):=by
     rw [hD]
     unfold ixS
     obtain ⟨i,hi⟩:=Option.isSome_iff_exists.1 hk
     rw [hi]
     rfl
    obtain ⟨q,k1,k2⟩:=z9c ha hl (show ixS g.datas n<N by omega)
    simp only [if_true,Option.bind_some,hD,k1,k2]
   ·rw [if_neg h6,if_neg h6,if_neg h4]
theorem one_b1 (hF:L0=fuel+1) (hfu:15≤fuel) (hG:GoodG g) (hS:SigA H s1 s2 s3 g) {idm N:Nat} {bl:List Bool} (ha:ArrV 4 m H idm (bV bl)) (hl:bl.length=N) (hN:N=g.datas.length) {d:Dat} (hd:d∈g.datas) {n0:ByteArray} {sc:Sl3} (hc:SlL ConA 2 H sc d.cons) {j:Nat} (hj:j<d.cons.length):∀(t i:Nat) (v:Bool),i+t=d.cons[j].sels.length →
  loopO (z3z (LCo L0) H n0 sc s1 s2 s3 ⟨some ⟨idm,0,none⟩,N,N⟩ (j:Int)) (v,(i:Int))=some (.inl (v&&(d.cons[j].sels.drop i).all fun x=>gS g.datas bl x.k x.sn x.a,(d.cons[j].sels.length:Int))):=by
 obtain ⟨q,g1,g2⟩:=hc.get hj (v:=(j:Int)) rfl
 obtain ⟨z,e1,e2⟩:=g2.ex
 have r1:rd deSl H (q.add 1)=some z:=by rw [e1.rd]; rfl
 have hln:=e2.n
 intro t
 induction t with
 | zero =>
  intro i v hi
  obtain rfl:i=d.cons[j].sels.length:=by omega
  rw [List.drop_length,List.all_nil,Bool.and_true]
  refine zl ?_
  unfold z3z
  simp only [g1,Option.bind_some,r1,if_neg (show ¬((d.cons[j].sels.length:Int)<(z.n:Int)) by omega)]
 | succ t ih =>
  intro i v hi
  have hil:i<d.cons[j].sels.length:=by omega
  obtain ⟨q',k1,k2⟩:=e2.get hil (v:=(i:Int)) rfl
  obtain ⟨y,f1,f2,f3,f4,f5,f6⟩:=k2.ex
  have hadd:∀j,(q'.add 1).add j=q'.add (1+j):=fun j=>add2 k2.n 1 j
  have w1:rd (deI .i64) H ((q'.add 1).add 0)=some (d.cons[j].sels[i]).k:=by rw [hadd,f1.rd]; rfl
  have w2:rd (deI .i64) H ((q'.add 1).add 1)=some (d.cons[j].sels[i]).w:=by rw [hadd,f2.rd]; rfl
  have w3:rd deS H ((q'.add 1).add 2)=some (d.cons[j].sels[i]).sn:=by rw [hadd,f3.rd]; rfl
  have w4:rd deSl H ((q'.add 1).add 3)=some y:=by rw [hadd,f4.rd]; rfl
  have hs:=hG.sel _ hd _ (List.getElem_mem hj) _ (List.getElem_mem hil)
  have hgr:=znl L0 hS ha hl hN ((d.cons[j].sels[i]).a.dep+1) fuel (d.cons[j].sels[i]).k (d.cons[j].sels[i]).w (d.cons[j].sels[i]).sn y (d.cons[j].sels[i]).a f6 hs.sh hs.kn (by have:=hs.dp; omega) (by omega)
  have e1':(LCo L0).fuel=fuel+1:=hF
  have hbody:z3z (LCo L0) H n0 sc s1 s2 s3 ⟨some ⟨idm,0,none⟩,N,N⟩ (j:Int) (v,(i:Int))=some (.next (v&&gS g.datas bl (d.cons[j].sels[i]).k (d.cons[j].sels[i]).sn (d.cons[j].sels[i]).a,((i+1:Nat):Int))):=by
   unfold z3z zbr
   rw [e1']
   simp only [g1,Option.bind_some,r1,if_pos (show (i:Int)<(z.n:Int) by omega),k1,w1,w2,w3,w4,hgr]
   rw [zd hil e2.len]
   cases v <;> rfl
  rw [zj hbody,ih (i+1) _ (by omega),List.drop_eq_getElem_cons hil,List.all_cons,Bool.and_assoc]
theorem zto (hF:L0=fuel+1) (hfu:15≤fuel) (hG:GoodG g) (hS:SigA H s1 s2 s3 g) {idm N:Nat} {bl:List Bool} (ha:ArrV 4 m H idm (bV bl)) (hl:bl.length=N) (hN:N=g.datas.length) {d:Dat} (hd:d∈g.datas) {n0:ByteArray} {sc:Sl3} (hc:SlL ConA 2 H sc d.cons) :
  z9v (LCo L0) H n0 sc s1 s2 s3 ⟨some ⟨idm,0,none⟩,N,N⟩=some (gD g.datas bl d):=by
 have hln:=hc.n
 have hlp:=z1f (body:=z52 (LCo L0) H n0 sc s1 s2 s3 ⟨some ⟨idm,0,none⟩,N,N⟩) d.cons.length hc.len (fun j=>if gC g.datas bl (d.cons.getD j ⟨emptyT,[]⟩)=true then some true else none) (fun j hj=>by
  have hb1:=one_b1 hF hfu hG hS ha hl hN hd (n0:=n0) hc hj d.cons[j].sels.length 0 true (by omega)
  rw [List.drop_zero,Bool.true_and] at hb1
  have eg:d.cons.getD j ⟨emptyT,[]⟩=d.cons[j]:=by simp [List.getD,hj]
  rw [eg]
  unfold z52
  simp only [if_pos (show (j:Int)<(sc.n:Int) by omega)]
  show Option.bind (loopO (z3z (LCo L0) H n0 sc s1 s2 s3 ⟨some ⟨idm,0,none⟩,N,N⟩ (j:Int)) (true,((0:Nat):Int))) _=_
  rw [hb1]
  have hC:(d.cons[j].sels.all fun x=>gS g.datas bl x.k x.sn x.a)=gC g.datas bl d.cons[j]:=rfl
  rw [hC]
  by_cases hgs:gC g.datas bl d.cons[j]=true <;> simp [hgs,stepO]) (by
  unfold z52
  rw [if_neg (by omega)])
 unfold z9v
 show Option.bind (loopO (z52 (LCo L0) H n0 sc s1 s2 s3 ⟨some ⟨idm,0,none⟩,N,N⟩) 0) _=_
 rw [hlp]
 obtain ⟨k1,k2⟩:=zc9 d.cons (gC g.datas bl) (fun _=>true) ⟨emptyT,[]⟩
 have k3:d.cons.any (gC g.datas bl)=gD g.datas bl d:=rfl
 rw [k3] at k1
 generalize hq:(List.range d.cons.length).findSome? (fun j=>if gC g.datas bl (d.cons.getD j ⟨emptyT,[]⟩)=true then some true else none)=q at k1 k2
 cases q with
 | none=>rw [← k1]; rfl
 | some x =>
  rw [← k1]
  obtain ⟨i,rfl⟩:=k2 x rfl
  rfl
theorem zpq (hF:L0=fuel+1) (hfu:15≤fuel) (hG:GoodG g) (hS:SigA H0 s1 s2 s3 g) {idm n:Nat} {v4:Int} (hn:n=g.datas.length) (hid:H0.next≤idm):∀(t i:Nat) (H:AH) (bl:List Bool),i+t=n→Ext H0 H→ArrV 4 m H idm (bV bl)→bl.length=n→(∀k,On bl k→Gd g k) →
  ∃H' bl',loopO (z1g (LCo L0) m s1 s2 s3 ⟨some ⟨idm,0,none⟩,n,n⟩ v4) (H,(i:Int))=some (.inl (H',(n:Int)))∧ArrV 4 m H' idm (bV bl')∧bl'.length=n∧Fm (fun j=>j=idm) H H'∧(∀k,On bl' k→Gd g k)∧(∀k,On bl k→On bl' k) ∧
   (freeN bl'<freeN bl∨(bl'=bl∧∀j (hj:j<g.datas.length),i≤j→gD g.datas bl g.datas[j]=true→On bl j)):=by
 have hnn:n≤4096:=by rw [hn]; exact z28 hG
 have hdn:=hS.d.n
 intro t
 induction t with
 | zero =>
  intro i H bl hi hx ha hl hs
  obtain rfl:i=n:=by omega
  refine ⟨H,bl,zl ?_,ha,hl,Fm.refl _ _,hs,fun _ h=>h,.inr ⟨rfl,fun j hj h=>by omega⟩⟩
  unfold z1g
  simp only [if_neg (show ¬((i:Int)<(s2.n:Int)) by omega)]
 | succ t ih =>
  intro i H bl hi hx ha hl hs
  have hin:i<n:=by omega
  have hib:i<bl.length:=by omega
  have hig:i<g.datas.length:=by omega
  have hSx:=hS.ext hx
  obtain ⟨q,g1,g2⟩:=hSx.d.get hig (v:=(i:Int)) rfl
  obtain ⟨z,e1,e2⟩:=g2.ex
  have r0:rd deS H (q.add 0)=some (g.datas[i]).n:=by rw [g2.n.rd]; rfl
  have r1:rd deSl H (q.add 1)=some z:=by rw [e1.rd]; rfl
  have hone:=zto hF hfu hG hSx ha hl hn (List.getElem_mem hig) (n0:=(g.datas[i]).n) e2
  cases hg:gD g.datas bl g.datas[i] with
  | false =>
   rw [hg] at hone
   obtain ⟨H',bl',w1,w2,w3,w4,w5,w6,w7⟩:=ih (i+1) H bl (by omega) hx ha hl hs
   refine ⟨H',bl',?_,w2,w3,w4,w5,w6,?_⟩
   ·have hbody:z1g (LCo L0) m s1 s2 s3 ⟨some ⟨idm,0,none⟩,n,n⟩ v4 (H,(i:Int))=some (.next (H,((i+1:Nat):Int))):=by
     unfold z1g
     simp only [if_pos (show (i:Int)<(s2.n:Int) by omega),g1,Option.bind_some,r0,r1,hone,Bool.false_eq_true,if_false]
     rw [zd hin (by rw [z1n]; omega)]
    rw [zj hbody]
    exact w1
   ·rcases w7 with h | ⟨h1,h2⟩
    ·exact .inl h
    ·refine .inr ⟨h1,fun j hj hij hgj=>?_⟩
     by_cases e:j=i
     ·subst e; rw [hg] at hgj; cases hgj
     ·exact h2 j hj (by omega) hgj
  | true =>
   rw [hg] at hone
   obtain ⟨H1,c1,c2,c3,c4⟩:=ha.set (i:=i) (by simp [bV]; omega) (.bool true)
   rw [bV_set] at c2
   have im:idxA 1 (⟨some ⟨idm,0,none⟩,n,n⟩:Sl3) (i:Int)=some ((⟨idm,0,none⟩:Addr).add (i*1)):=z34 hin rfl
   have on1:∀k,On bl k→On (bl.set i true) k:=fun k hk=>z5s.2 (.inl hk)
   obtain ⟨H',bl',w1,w2,w3,w4,w5,w6,w7⟩:=ih (i+1) H1 (bl.set i true) (by omega) (hx.comp c3 fun id hid' _ h=>by omega) c2 (by simp [hl]) fun k hk=>by
    rcases z5s.1 hk with h | ⟨rfl,_⟩
    ·exact hs k h
    ·exact .mk hig bl hs hg
   refine ⟨H',bl',?_,w2,w3,c3.comp w4 fun _ _ h=>h,w5,fun k hk=>w6 k (on1 k hk),?_⟩
   ·have hbody:z1g (LCo L0) m s1 s2 s3 ⟨some ⟨idm,0,none⟩,n,n⟩ v4 (H,(i:Int))=some (.next (H1,((i+1:Nat):Int))):=by
     unfold z1g
     simp only [if_pos (show (i:Int)<(s2.n:Int) by omega),g1,Option.bind_some,r0,r1,hone,if_true,im,c1]
     rw [zd hin (by rw [z1n]; omega)]
    rw [zj hbody]
    exact w1
   ·cases hbi:bl[i] with
    | false =>
     left
     have:=zgv hib hbi
     have:=zem (a:=bl.set i true) (b:=bl') (by simp [hl,w3]) w6
     omega
    | true =>
     have e:bl.set i true=bl:=by
      rw [← hbi]
      exact List.set_getElem_self hib
     rw [e] at w7
     rcases w7 with h | ⟨h1,h2⟩
     ·exact .inl h
     ·refine .inr ⟨h1,fun j hj hij hgj=>?_⟩
      by_cases e:j=i
      ·subst e; exact ⟨hib,hbi⟩
      ·exact h2 j hj (by omega) hgj
theorem zu0 {bl:List Bool} (h:freeN bl=0) {k:Nat} (hk:k<bl.length):On bl k:=by
 refine ⟨hk,?_⟩
 unfold freeN at h
 have:=List.countP_eq_zero.1 h _ (List.getElem_mem hk)
 simpa using this
theorem zqo (hF:L0=fuel+1) (hfu:15≤fuel) (hG:GoodG g) (hS:SigA H0 s1 s2 s3 g) {idm n:Nat} (hn:n=g.datas.length) (hid:H0.next≤idm):∀(t i:Nat) (H:AH) (bl:List Bool),i+t=n→Ext H0 H→ArrV 4 m H idm (bV bl)→bl.length=n→(∀k,On bl k→Gd g k)→(freeN bl≤t∨∀j (hj:j<g.datas.length),gD g.datas bl g.datas[j]=true→On bl j) →
  ∃H' bl',loopO (z26 (LCo L0) m s1 s2 s3 ⟨some ⟨idm,0,none⟩,n,n⟩) (H,(i:Int))=some (.inl (H',(n:Int)))∧ArrV 4 m H' idm (bV bl')∧bl'.length=n∧Fm (fun j=>j=idm) H H'∧∀k,On bl' k↔Gd g k:=by
 have hnn:n≤4096:=by rw [hn]; exact z28 hG
 have hdn:=hS.d.n
 intro t
 induction t with
 | zero =>
  intro i H bl hi hx ha hl hs hc
  obtain rfl:i=n:=by omega
  refine ⟨H,bl,zl ?_,ha,hl,Fm.refl _ _,fun k=>⟨hs k,zaz fun j hj hg=>?_⟩⟩
  ·unfold z26
   simp only [if_neg (show ¬((i:Int)<(s2.n:Int)) by omega)]
  ·rcases hc with h | h
   ·exact zu0 (by omega) (by omega)
   ·exact h j hj hg
 | succ t ih =>
  intro i H bl hi hx ha hl hs hc
  have hin:i<n:=by omega
  obtain ⟨H1,bl1,w1,w2,w3,w4,w5,w6,w7⟩:=zpq hF hfu hG hS (v4:=(i:Int)) hn hid n 0 H bl (by omega) hx ha hl hs
  have hc1:freeN bl1≤t∨∀j (hj:j<g.datas.length),gD g.datas bl1 g.datas[j]=true→On bl1 j:=by
   rcases w7 with h | ⟨h1,h2⟩
   ·rcases hc with h' | h'
    ·exact .inl (by omega)
    ·exfalso
     have hgd:∀k,On bl1 k→On bl k:=fun k hk=>zaz h' (w5 k hk)
     have:=zem (a:=bl1) (b:=bl) (by omega) hgd
     omega
   ·subst h1
    exact .inr fun j hj hg=>h2 j hj (Nat.zero_le _) hg
  obtain ⟨H',bl',z1,z2,z3,z4,z5⟩:=ih (i+1) H1 bl1 (by omega) (hx.comp w4 fun id hid' _ h=>by omega) w2 w3 w5 hc1
  refine ⟨H',bl',?_,z2,z3,w4.comp z4 fun _ _ h=>h,z5⟩
  have hbody:z26 (LCo L0) m s1 s2 s3 ⟨some ⟨idm,0,none⟩,n,n⟩ (H,(i:Int))=some (.next (H1,((i+1:Nat):Int))):=by
   unfold z26
   simp only [if_pos (show (i:Int)<(s2.n:Int) by omega)]
   show Option.bind (loopO (z1g (LCo L0) m s1 s2 s3 ⟨some ⟨idm,0,none⟩,n,n⟩ (i:Int)) (H,((0:Nat):Int))) _=_
   rw [w1]
   simp only [Option.bind_some]
   rw [zd hin (by rw [z1n]; omega)]
  rw [zj hbody]
  exact z1
theorem zgn (hF:L0=fuel+1) (hfu:15≤fuel) (hG:GoodG g) (hS:SigA H s1 s2 s3 g) (hm:m≤H.next) :
  ∃id bl H',z5b (LCo L0) m H s1 s2 s3=some (⟨some ⟨id,0,none⟩,g.datas.length,g.datas.length⟩,H')∧Ext H H'∧ArrV 4 m H' id (bV bl)∧bl.length=g.datas.length∧∀k,On bl k↔Gd g k:=by
 have hd:=hS.d.n
 have hnn:=z28 hG
 obtain ⟨H2,b1,b2,b3,b4⟩:=zdy (e:=4) (bytes:=1) (m:=m) (H:=H) (z:=.bool false) (n:=g.datas.length) (by omega) (by omega) hm
 have b2':ArrV 4 m H2 H.next (bV (List.replicate g.datas.length false)):=by
  have:bV (List.replicate g.datas.length false)=List.replicate g.datas.length (Value.bool false):=by simp [bV]
  rw [this]; exact b2
 obtain ⟨H',bl',z1,z2,z3,z4,z5⟩:=zqo hF hfu hG hS (m:=m) (idm:=H.next) rfl (Nat.le_refl _) g.datas.length 0 H2 (List.replicate g.datas.length false) (by omega) b3 b2' (by simp) (fun k hk=>by obtain ⟨h,hb⟩:=hk; simp at hb) (.inl (by rw [zgl]; omega))
 refine ⟨H.next,bl',H',?_,b3.comp z4 fun id hid _ h=>by omega,z2,z3,z5⟩
 unfold z5b
 simp only [hd,b1,Option.bind_some]
 show Option.bind (loopO (z26 (LCo L0) m s1 s2 s3 ⟨some ⟨H.next,0,none⟩,g.datas.length,g.datas.length⟩) (H2,((0:Nat):Int))) _=_
 rw [z1]
 rfl
theorem zms (c:Nat) {id n:Nat} {bl:List Bool} (ha:ArrV 4 m H id (bV bl)) (hl:bl.length=n) (hn:n≤4096):loopO (z23 (LCo c) s1 s2 s3 ⟨some ⟨id,0,none⟩,n,n⟩ H) 0=some (if (bl.all fun b=>b)=true then .inl (n:Int) else .inr (43,H)):=by
 have hlp:=z1f (body:=z23 (LCo c) s1 s2 s3 ⟨some ⟨id,0,none⟩,n,n⟩ H) bl.length (by rw [z1n]; omega) (fun j=>if (fun b:Bool=>!b) (bl.getD j false)=true then some ((43:Int),H) else none) (fun j hj=>by
  obtain ⟨q,k1,k2⟩:=z9c ha hl (i:=j) (by omega)
  unfold z23
  simp only [if_pos (show (j:Int)<(n:Int) by omega),k1,Option.bind_some,k2]
  cases bl.getD j false <;> simp [stepO]) (by
  unfold z23
  simp only []
  rw [if_neg (by omega)])
 rw [hlp]
 obtain ⟨k1,k2⟩:=zc9 bl (fun b:Bool=>!b) (fun i=>((43:Int),H)) false
 have k3:(bl.any fun b=>!b)=!(bl.all fun b=>b):=by rw [List.not_all_eq_any_not]
 rw [k3] at k1
 generalize hq:(List.range bl.length).findSome? (fun i=>if (fun b:Bool=>!b) (bl.getD i false)=true then some ((43:Int),H) else none)=q at k1 k2
 cases q with
 | none =>
  have:(bl.all fun b=>b)=true:=by simpa using k1
  rw [if_pos this,← hl]
  rfl
 | some x =>
  have:¬(bl.all fun b=>b)=true:=by intro h; rw [h] at k1; cases k1
  rw [if_neg this]
  obtain ⟨i,rfl⟩:=k2 x rfl
  rfl
theorem zt2 {bl bl':List Bool} {n:Nat} {P:Nat→Prop} (h1:∀k,On bl k↔P k) (h2:∀k,On bl' k↔P k) (hl:bl.length=n) (hl':bl'.length=n):bl=bl':=by
 refine List.ext_getElem (by omega) fun k k1 k2=>?_
 have e:On bl k↔On bl' k:=(h1 k).trans (h2 k).symm
 unfold On at e
 cases hb:bl[k] with
 | true=>exact ((e.1 ⟨k1,hb⟩).2).symm
 | false =>
  cases hb':bl'[k] with
  | false=>rfl
  | true=>have:=(e.2 ⟨k2,hb'⟩).2; rw [hb] at this; cases this
end
end Go.Proofs.YtccbilfbhecdaaaDoor
namespace Go.Proofs.YtccbilfbhecdaaaDoor
open Go Go.Abs
set_option maxRecDepth 100000
open Classical in
noncomputable def sigS (g:Sg):Int :=
 if manyS g=true then 3 else if namesS g≠0 then namesS g else if allS g≠0 then allS g else if NestP g then 44 else if ∀k,k<g.datas.length→Gd g k then 0 else 43
theorem all_on {bl:List Bool} {n:Nat} {P:Nat→Prop} (h:∀k,On bl k↔P k) (hl:bl.length=n):(bl.all fun b=>b)=true↔∀k,k<n→P k:=by
 rw [List.all_eq_true]
 constructor
 ·intro ha k hk
  exact (h k).1 ⟨by omega,ha _ (List.getElem_mem (by omega))⟩
 ·intro ha b hb
  obtain ⟨i,hi,rfl⟩:=List.getElem_of_mem hb
  exact ((h i).2 (ha i (by omega))).2
theorem zu8 {g:Sg} {x:Int×Int×ByteArray×Fo} (h:x∈sortsE g):x.2.2.2.dep≤g.dep:=by
 unfold sortsE at h
 rcases List.mem_append.1 h with h | h
 ·simp only [List.mem_flatMap,List.mem_map] at h
  obtain ⟨d,hd,c,hc,y,hy,rfl⟩:=h
  exact zp5 hd hc hy
 ·simp only [List.mem_flatMap,List.mem_append,List.mem_singleton] at h
  obtain ⟨f,hf,h | rfl⟩:=h
  ·exact Nat.le_trans (zi9 h) (zh0 hf).1
  ·exact (zh0 hf).2
section
variable {m:Nat} {H0 H:AH} {s1 s2 s3:Sl3} {g:Sg} {L0 fuel:Nat}
theorem znc (hF:L0=fuel+1) (hfu:15≤fuel) (hd:g.dep≤fuel) (hb:SgB g) (hS:SigA H s1 s2 s3 g) (hm:m≤H.next) :
  ∃H',z60 (LCo L0) m H s1 s2 s3=some (sigS g,H')∧Ext H H':=by
 unfold z60 sigS
 rw [zsm L0 hS hb]
 simp only [Option.bind_some]
 cases hmany:manyS g with
 | true=>exact ⟨H,by simp,Fm.refl _ _⟩
 | false =>
  simp only [Bool.false_eq_true,if_false]
  obtain ⟨H3,a1,x3⟩:=zo6 L0 hS hm hmany
  rw [a1]
  simp only [Option.bind_some]
  by_cases hn:namesS g=0
  ·rw [if_pos hn,if_neg (by simp [hn])]
   obtain ⟨x4,H5,l,b1,b2,b3,b4,b5,b6⟩:=rSorts L0 (hS.ext x3) (Nat.le_trans hm x3.1) hmany
   have x5:=x3.trans b3
   have hdl:∀x∈l,x.a.dep≤fuel:=fun x hx=>by
    have h1:x.er∈sortsE g:=by rw [← b4]; exact List.mem_map.2 ⟨x,hx,rfl⟩
    exact Nat.le_trans (zu8 h1) hd
   have hck:=zo8 L0 fuel hF (hS.ext x5) b2 b5 b6 hdl
   rw [b4] at hck
   rw [b1]
   simp only [Option.bind_some]
   show ∃H',Option.bind (loopO (z1z (LCo L0) s1 s2 s3 x4 H5) 0) _=_∧_
   rw [hck]
   cases hq:(sortsE g).findSome? (errS g) with
   | some e =>
    have he:allS g=e:=by unfold allS; rw [hq]; rfl
    obtain ⟨y,hy,hye⟩:=List.exists_of_findSome?_eq_some hq
    have he0:=(err_ok hye).2
    rw [if_pos (by rw [he]; exact he0),he]
    exact ⟨H5,rfl,x5⟩
   | none =>
    have he:allS g=0:=by unfold allS; rw [hq]; rfl
    rw [if_neg (by simp [he])]
    have hG:=zkn hmany he
    simp only [Option.map_none,found,Option.bind_some]
    obtain ⟨H6,x6,hc⟩:=zmh hF hfu hG (hS.ext x5) (Nat.le_trans hm x5.1)
    show ∃H',Option.bind (loopO (z1d (LCo L0) m s1 s2 s3) (H5,0)) _=_∧_
    rcases hc with ⟨hp,hc⟩ | ⟨hp,hc⟩
    ·rw [hc,if_pos hp]
     exact ⟨H6,rfl,x5.trans x6⟩
    ·rw [hc,if_neg hp]
     simp only [Option.bind_some]
     have x6':=x5.trans x6
     obtain ⟨id,bl,H7,d1,d2,d3,d4,d5⟩:=zgn hF hfu hG (hS.ext x6') (Nat.le_trans hm x6'.1)
     rw [d1]
     simp only [Option.bind_some]
     show ∃H',Option.bind (loopO (z23 (LCo L0) s1 s2 s3 ⟨some ⟨id,0,none⟩,g.datas.length,g.datas.length⟩ H7) 0) _=_∧_
     rw [zms L0 d3 d4 (z28 hG)]
     refine ⟨H7,?_,x6'.trans d2⟩
     by_cases ha:(bl.all fun b=>b)=true
     ·rw [if_pos ha,if_pos ((all_on d5 d4).1 ha)]
      rfl
     ·rw [if_neg ha,if_neg fun h=>ha ((all_on d5 d4).2 h)]
      rfl
  ·rw [if_neg hn,if_pos hn]
   exact ⟨H3,rfl,x3⟩
theorem zlt (hF:L0=fuel+1) (hfu:15≤fuel) (hd:g.dep≤fuel) (hb:SgB g) (hS:SigA H s1 s2 s3 g) (hm:m≤H.next) :
  ∃H',z6b (LCo L0) m H s1 s2 s3=some (sigS g,H')∧Ext H H':=by
 unfold z6b sigS
 rw [zre L0 hS hb]
 simp only [Option.bind_some]
 cases hmany:manyS g with
 | true=>exact ⟨H,by simp,Fm.refl _ _⟩
 | false =>
  simp only [Bool.false_eq_true,if_false]
  have hsm:=z7t hmany
  obtain ⟨x2,x3,H4,a1,a2,a3,a4,o2,o3⟩:=zqm L0 hS hm hmany
  have m4:=Nat.le_trans hm a4.1
  obtain ⟨x5,H6,b1,b2,b3,b4⟩:=zjs L0 m (zev a2) (by omega) m4
  have x6:=a4.trans b3
  obtain ⟨x7,H8,c1,c2,c3⟩:=VecA.app (E:=strE) (e:=9) (bytes:=16) (l:=sortNamesS g) (l':=funNamesS g) (m:=m) b2 (zev a3 _ b3) (room (by omega)).1 (room (by omega)).2 (Nat.le_trans hm x6.1)
  have x68:Ext H4 H8:=b3.comp c3.fm fun id hid _ h=>by have:=b4 id h; omega
  have x8:Ext H H8:=a4.trans x68
  have hsl:=z9f c2 (by rw [List.length_append]; omega)
  have hn:=hsl.n
  have hsz:=zjr hS
  rw [a1]
  simp only [Option.bind_some,b1]
  have c1':appS m 9 1 16 H6 x5 x3=some (x7,H8):=c1
  rw [c1']
  simp only [Option.bind_some]
  have hl:loopO (z2s (LCo L0) s1 s2 s3 x2 x3 x7 H8) 0=some (found (sortNamesS g++funNamesS g).length ((List.range (sortNamesS g++funNamesS g).length).findSome? (fun i=>if (fun x=>!nameS x) ((sortNamesS g++funNamesS g).getD i emptyT)=true then some ((42:Int),H8) else none))):=by
   generalize hall:sortNamesS g++funNamesS g=all at hsl hn hsz
   refine z1f all.length hsl.len _ (fun i hi=>?_) ?_
   ·unfold z2s
    obtain ⟨q,h1,h2⟩:=hsl.get hi (v:=(i:Int)) rfl
    have r0:rd deS H8 q=some all[i]:=by rw [Cel.rd h2]; rfl
    have eg:all.getD i emptyT=all[i]:=by simp [List.getD,hi]
    simp only [if_pos (show (i:Int)<(x7.n:Int) by omega),h1,Option.bind_some,r0,zfx L0 (zc4 (hsz _ (List.getElem_mem hi))),eg]
    cases nameS all[i] <;> rfl
   ·unfold z2s
    rw [if_neg (by omega)]
  show ∃H',Option.bind (loopO (z2s (LCo L0) s1 s2 s3 x2 x3 x7 H8) 0) _=_∧_
  rw [hl,z81 (sortNamesS g++funNamesS g) (fun x=>!nameS x) ((42:Int),H8) emptyT]
  by_cases h42:((sortNamesS g++funNamesS g).any fun x=>!nameS x)=true
  ·have e:namesS g=42:=by unfold namesS; rw [if_pos h42]
   rw [if_pos h42,e]
   simp only [found,Option.bind_some]
   exact ⟨H8,by simp,x8⟩
  ·rw [if_neg h42]
   simp only [found,Option.bind_some]
   have m8:=Nat.le_trans hm x8.1
   obtain ⟨H9,t1,t2⟩:=zj0 L0 (H:=H8) (s:=x2) (l:=sortNamesS g) (m:=m) (fun G hG=>z9f (VecV.ext a2 (x68.trans hG)) (by omega)) m8
   have htw:∃H14,(Option.bind (z5l (LCo L0) m H8 x2) fun (x16,H17)=>if x16=true then some (H17,true) else Option.bind (z5l (LCo L0) m H17 x3) fun (x18,H19)=>some (H19,x18))=some (H14,twS (sortNamesS g)||twS (funNamesS g))∧Ext H8 H14:=by
    rw [t1]
    simp only [Option.bind_some]
    cases htw1:twS (sortNamesS g) with
    | true=>exact ⟨H9,by simp,t2⟩
    | false =>
     obtain ⟨H10,u1,u2⟩:=zj0 L0 (H:=H9) (s:=x3) (l:=funNamesS g) (m:=m) (fun G hG=>z9f (VecV.ext a3 ((x68.trans t2).trans hG)) (by omega)) (Nat.le_trans m8 t2.1)
     refine ⟨H10,?_,t2.trans u2⟩
     simp only [Bool.false_eq_true,if_false,u1,Option.bind_some,Bool.false_or]
   obtain ⟨H14,w1,w2⟩:=htw
   have x14:=x8.trans w2
   rw [w1]
   simp only [Option.bind_some]
   by_cases h41:(twS (sortNamesS g)||twS (funNamesS g))=true
   ·have e:namesS g=41:=by unfold namesS; rw [if_neg h42,if_pos h41]
    rw [if_pos h41,e]
    exact ⟨H14,by simp,x14⟩
   ·have e:namesS g=0:=by unfold namesS; rw [if_neg h42,if_neg h41]
    rw [if_neg h41,e,if_neg (by simp)]
    have m14:=Nat.le_trans hm x14.1
    obtain ⟨p,H21,p1,p2,p3,p4,p5⟩:=zkz L0 m (hS.ext x14) m14
    have x21:=x14.trans p2
    have m21:=Nat.le_trans hm x21.1
    obtain ⟨H23,q1,q2⟩:=zlr hF m21 p3 (hS.ext x21) hmany hd
    have x23:=x21.trans q2
    rw [p1]
    simp only [Option.bind_some,q1]
    by_cases ha0:allS g=0
    ·rw [if_pos ha0,if_neg (by simp [ha0])]
     have hG:=zkn hmany ha0
     have m23:=Nat.le_trans hm x23.1
     obtain ⟨id3,H25,l1,l2,l3⟩:=zqe hF hfu hG (hS.ext x23) (p3.ext q2) m23
     have x25:=x23.trans l2
     obtain ⟨b,H27,n1,n2,n3⟩:=zo0 hF hfu hG (hS.ext x25) (p3.ext (q2.trans l2)) (Nat.le_trans hm x25.1) l3
     have x27:=x25.trans n2
     rw [l1]
     simp only [Option.bind_some,n1]
     cases b with
     | true =>
      rw [if_pos (n3.1 rfl)]
      exact ⟨H27,rfl,x27⟩
     | false =>
      rw [if_neg (show ¬NestP g from fun h=>absurd (n3.2 h) (by simp))]
      obtain ⟨id,bl,H29,d1,d2,d3,d4,d5⟩:=zhl hF hfu hG (hS.ext x27) (p3.ext ((q2.trans l2).trans n2)) (Nat.le_trans hm x27.1)
      rw [d1]
      simp only [Bool.false_eq_true,if_false,Option.bind_some,zkb L0 d3 d4 (z28 hG)]
      refine ⟨H29,?_,x27.trans d2⟩
      by_cases ha:(bl.all fun b=>b)=true
      ·rw [ha,if_pos ((all_on d5 d4).1 ha)]
       rfl
      ·rw [if_neg fun h=>ha ((all_on d5 d4).2 h)]
       have ha':(bl.all fun b=>b)=false:=by simpa using ha
       rw [ha']
       rfl
    ·rw [if_neg ha0,if_pos ha0]
     exact ⟨H23,rfl,x23⟩
end
end Go.Proofs.YtccbilfbhecdaaaDoor
namespace Go.Proofs.YtccbilfbhecdaaaDoor
open Go Go.Abs
set_option maxRecDepth 100000
theorem zrp (g:Sg) (k w:Int) (n:ByteArray) (a:Fo):checkS g k w n a=0∨checkS g k w n a=3∨checkS g k w n a=40:=by
 unfold checkS wrongS
 split <;> split <;> simp_all
 split at*<;> simp_all
theorem zuf (g:Sg):allS g=0∨allS g=3∨allS g=40:=by
 unfold allS
 cases hq:(sortsE g).findSome? (errS g) with
 | none=>exact .inl rfl
 | some e =>
  obtain ⟨y,hy,hye⟩:=List.exists_of_findSome?_eq_some hq
  rw [(err_ok hye).1]
  exact zrp g _ _ _ _
theorem zrv (g:Sg):namesS g=0∨namesS g=42∨namesS g=41:=by
 unfold namesS
 split
 ·simp
 ·split <;> simp
theorem zii {g:Sg} (h:sigS g=0∨sigS g=43):GoodG g:=by
 classical
 unfold sigS at h
 by_cases h1:manyS g=true
 ·rw [if_pos h1] at h; omega
 ·rw [if_neg h1] at h
  by_cases h2:namesS g≠0
  ·rw [if_pos h2] at h
   have:=zrv g
   omega
  ·rw [if_neg h2] at h
   by_cases h3:allS g≠0
   ·rw [if_pos h3] at h
    have:=zuf g
    omega
   ·exact zkn (by simpa using h1) (by simpa using h3)
section
variable {H:AH} {s1 s2 s3:Sl3} {g:Sg} {L0 fuel:Nat}
end
end Go.Proofs.YtccbilfbhecdaaaDoor
namespace Go.Proofs.YtccbilfbhecdaaaDoor
open Go Go.Abs
set_option maxRecDepth 100000
def zdj:Bool→Value
 | r0=>(Value.bool r0)
def zf9 (H:AH):Bool→AH:=fun _=>H
noncomputable def B24:Code:=(Tryd.f24.body).getD .skip
noncomputable def z27 (_L:LC) (H:AH) (a0 a1:Sl3):Int→Option (Lp Int Bool):=fun v5_1 =>
 if v5_1<(a0.n:Int) then
  Option.bind (idxA 1 a0 v5_1) fun p2 =>
  Option.bind (rd deB H p2) fun x3 =>
  Option.bind (idxA 1 a1 v5_1) fun p4 =>
  Option.bind (rd deB H p4) fun x5 =>
  if (x3 == x5)=true then
   some (.next (IntKind.i64.wrap (v5_1+1)))
  else
   some (.ret false)
 else
  some (.brk v5_1)
def zin (_L:LC) (_H:AH) (a0 a1:Sl3):Int→KN×Lcs:=fun v5_1=>([kI 5 v5_1,kS 0 a0,kS 1 a1],[])
noncomputable def z7b (L:LC) (H:AH) (a0 a1:Sl3):Option Bool :=
 if (a0.n:Int)=(a1.n:Int) then
  Option.bind (L.run (z27 L H a0 a1) 0) fun o=>match o with
  | .inl _ =>
   some true
  | .inr r=>some r
 else
  some false
theorem zbt {E m L H a0 a1} :LoopF Tryd.prog (NE.plain 1000) m E Tryd.f24 ((cfst (csnd (cfst (csnd (csnd B24)))))) (zin L H a0 a1) (fun _=>H) 0 zdj (zf9 H) (z27 L H a0 a1):=by
 rintro v5_1 o h
 unfold z27 at h
 try dsimp only at h
 refine WS.sq (WS.sq (WS.rg (RS.mS 4 [kB 14 (decide (v5_1<(a0.n:Int))),kI 13 (a0.n:Int),kS 12 a0,kI 11 v5_1] (RS.dn (WS.nxt ?_)))))
 rcases z7 h with ⟨hp,h⟩ | ⟨hp,h⟩
 ·refine WS.fx 14 true (decide_eq_true hp) (WS.cT (WS.sk (WS.nxt (WS.sq (WS.bk 1 (WS.sq ?_))))))
  refine WS.dr [0,1,2,3,4,5,6,7] [0,0,3,7,0,0,48,112,255] 9 (fun hcl=>?_)
  refine DA.tK 0 (some 17) (Sl3.v a0) (DA.tK 1 (some 18) (Value.int .i64 v5_1) ?_)
  obtain ⟨p2,hx,h⟩:=bind_some h
  refine DA.tD 2 (some 19) (Value.pointer (some p2)) (Abs.det_idx (s:=a0) (k:=.i64) (t:=56) (e:=4) (x:=.tmp 17) (y:=.tmp 18) (by kernel_rfl) (by kernel_rfl) (by kernel_rfl) (by kernel_rfl) (by kernel_rfl) hx) ?_
  obtain ⟨x3,hx,h⟩:=bind_some h
  refine DA.tD 3 (some 20) (Value.bool x3) (Abs.det_load (t:=4) (x:=.tmp 19) (a:=p2) (by kernel_rfl) (by kernel_rfl) (by kernel_rfl) (by kernel_rfl) (z8 hx z3t)) (DA.tK 4 (some 21) (Sl3.v a1) (DA.tK 5 (some 22) (Value.int .i64 v5_1) ?_))
  obtain ⟨p4,hx,h⟩:=bind_some h
  refine DA.tD 6 (some 23) (Value.pointer (some p4)) (Abs.det_idx (s:=a1) (k:=.i64) (t:=56) (e:=4) (x:=.tmp 21) (y:=.tmp 22) (by kernel_rfl) (by kernel_rfl) (by kernel_rfl) (by kernel_rfl) (by kernel_rfl) hx) ?_
  obtain ⟨x5,hx,h⟩:=bind_some h
  refine DA.tD 7 (some 24) (Value.bool x5) (Abs.det_load (t:=4) (x:=.tmp 23) (a:=p4) (by kernel_rfl) (by kernel_rfl) (by kernel_rfl) (by kernel_rfl) (z8 hx z3t)) (DA.tP 8 (some 25) (Value.bool (!(x3 == x5))) (DA.dn (WS.nxt ?_)))
  rcases z7 h with ⟨hp,h⟩ | ⟨hp,h⟩
  ·refine WS.fx 25 false (nb_not hp) (WS.cF (WS.sk ?_))
   refine fun a w hs=>bkN ((WS.nxt ?_ a w hs))
   refine WS.rg (RS.mS 3 [kI 5 (IntKind.i64.wrap (v5_1+1)),kI 16 (IntKind.i64.wrap (v5_1+1)),kI 15 v5_1] (RS.dn ?_))
   cases h
   exact fun a w hs=>lsN rfl (hs.sb 0)
  ·refine WS.fx 25 true (z2n hp) (WS.cT (WS.sq (WS.rg (RS.mS 1 [kB 4 false] (RS.dn (WS.nxt (WS.rt ?_)))))))
   cases h
   exact fun a w hs=>bkR (sqR (lsR rfl (rS hs)))
 ·refine WS.fx 14 false (decide_eq_false hp) (WS.cF (WS.ex 0 ?_))
  cases h
  exact fun a w hs=>sqE (lsB rfl (hs.sb 0))
theorem zlj {L:LC} {m:Nat} {H:AH} {a0 a1:Sl3} {r:Bool} (h:z7b L H a0 a1=some r) :
  CallS Tryd.prog (NE.plain 1000) m 24 #[(Sl3.v a0),(Sl3.v a1)] H (zdj r) (zf9 H r):=by
 refine CallS.mk (args:=[(Sl3.v a0),(Sl3.v a1)]) Tryd.func24 (B:=B24) (by kernel_rfl) (fun E _=>?_)
 unfold z7b at h
 refine WS.sq (WS.rg (RS.mS 1 [kB 4 false] (RS.dn (WS.nxt (WS.sq (WS.sq (WS.rg (RS.mS 5 [kB 10 (!decide ((a0.n:Int)=(a1.n:Int))),kI 9 (a1.n:Int),kS 8 a1,kI 7 (a0.n:Int),kS 6 a0] (RS.dn ?_)))))))))
 refine WS.nxt ?_
 rcases z7 h with ⟨hp,h⟩ | ⟨hp,h⟩
 ·refine WS.fx 10 false (z62 hp) (WS.cF (WS.sk (WS.nxt (WS.sq (WS.sq (WS.rg (RS.mS 1 [kI 5 0] (RS.dn (WS.nxt ?_)))))))))
  refine WS.bk 0 ?_
  obtain ⟨o,hl,h⟩:=bind_some h
  rcases o with v5_6 | r
  ·try dsimp only at h
   refine WS.lI (zbt (L:=L) (E:=E) (m:=m) (H:=H)) (L.ok hl) 0 ?_
   clear hl
   refine fun a w hs=>bkE ((WS.nxt ?_ a w hs))
   refine WS.sq (WS.rg (RS.mS 1 [kB 4 true] (RS.dn (WS.nxt (WS.rt ?_)))))
   cases h
   exact fun a w hs=>rtR (rS hs)
  ·try dsimp only at h
   refine WS.lR (zbt (L:=L) (E:=E) (m:=m) (H:=H)) (L.ok hl) 0 ?_
   cases h
   exact fun a w hq=>bkR (sqR (rtR hq))
 ·refine WS.fx 10 true (z4v hp) (WS.cT (WS.sq (WS.rg (RS.mS 1 [kB 4 false] (RS.dn (WS.nxt (WS.rt ?_)))))))
  cases h
  exact fun a w hs=>sqR (rtR (rS hs))
def zjn:(Sl3×AH)→Value
 | (r0,_)=>(Sl3.v r0)
def zkm (_:AH):(Sl3×AH)→AH:=fun r=>r.2
noncomputable def B25:Code:=(Tryd.f25.body).getD .skip
noncomputable def z7k (L:LC) (m:Nat) (H:AH) (a0_0 a0_1 a0_2:Sl3):Option (Sl3×AH) :=
 Option.bind (z6b L m H a0_0 a0_1 a0_2) fun (x1,H2) =>
 Option.bind (α:=Bool) (
  if x1=0 then
   some false
  else
   some (!decide (x1=43))) fun v11_3 =>
 if v11_3=true then
  some (Sl3.nil,H2)
 else
  Option.bind (z82 L m H2 a0_0 a0_1 a0_2) fun (x4,H5) =>
  Option.bind (z3r L m H5 x4) fun (x6,H7) =>
  some (x6,H7)
theorem zkf {L:LC} {m:Nat} {H:AH} {a0_0 a0_1 a0_2:Sl3} {r:(Sl3×AH)} (h:z7k L m H a0_0 a0_1 a0_2=some r) :
  CallS Tryd.prog (NE.plain 1000) m 25 #[(Value.agg #[(Sl3.v a0_0),(Sl3.v a0_1),(Sl3.v a0_2)])] H (zjn r) (zkm H r):=by
 refine CallS.mk (args:=[(Value.agg #[(Sl3.v a0_0),(Sl3.v a0_1),(Sl3.v a0_2)])]) Tryd.func25 (B:=B25) (by kernel_rfl) (fun E _=>?_)
 unfold z7k at h
 refine WS.sq (WS.rg (RS.mL 2 [kS 2 Sl3.nil,kL 1 0 0] ([some (33,[(Sl3.v a0_0),(Sl3.v a0_1),(Sl3.v a0_2)])]) (RS.dn (WS.nxt (WS.sq (WS.sq (WS.rg (RS.mS 1 [kA 4 #[(Sl3.v a0_0),(Sl3.v a0_1),(Sl3.v a0_2)]] ?_))))))))
 obtain ⟨⟨x1,H2⟩,hx,h⟩:=bind_some h
 try dsimp only at h
 refine RS.cl (some 5) (v:=(Value.int .i64 x1)) 20 #[(Value.agg #[(Sl3.v a0_0),(Sl3.v a0_1),(Sl3.v a0_2)])] (zis hx) (RS.mS 1 [kI 3 x1] (RS.dn (WS.nxt ?_)))
 obtain ⟨v11_3,hx,h⟩:=bind_some h
 refine WS.sq ?_
 refine WS.join ([kB 11 v11_3,kL 1 0 0]) ([some (33,[(Sl3.v a0_0),(Sl3.v a0_1),(Sl3.v a0_2)])]) H2 ?_ (fun a w hs=>WS.nxt ?_ a w hs)
 ·clear h; rename _=>h
  refine WS.rg (RS.mS 3 [kB 8 (!decide (x1=0)),kB 7 (!decide (x1=0)),kI 6 x1] ?_)
  rcases z7 h with ⟨hp,h⟩ | ⟨hp,h⟩
  ·refine RS.fx 8 false (z62 hp) (RS.mS 3 [kB 11 false,kU 10,kU 9] (RS.dn ?_))
   cases h
   exact fun a w hs=>(jsN (hs.sb 1))
  ·refine RS.fx 8 true (z4v hp) (RS.mS 3 [kB 11 (!decide (x1=43)),kB 10 (!decide (x1=43)),kI 9 x1] (RS.dn ?_))
   cases h
   exact fun a w hs=>(jsN (hs.sb 1))
 ·clear hx
  rcases z7 h with ⟨hp,h⟩ | ⟨hp,h⟩
  ·refine WS.fx 11 true hp (WS.cT (WS.sq (WS.rg (RS.mS 1 [kS 2 Sl3.nil] (RS.dn (WS.nxt (WS.rt ?_)))))))
   cases h
   exact fun a w hs=>sqR (rtR (rS hs))
  ·refine WS.fx 11 false (b_not hp) (WS.cF (WS.sk (WS.nxt (WS.sq (WS.rg (RS.mS 1 [kA 12 #[(Sl3.v a0_0),(Sl3.v a0_1),(Sl3.v a0_2)]] ?_))))))
   obtain ⟨⟨x4,H5⟩,hx,h⟩:=bind_some h
   try dsimp only at h
   refine RS.cl (some 13) (v:=(Value.pointer x4)) 36 #[(Value.agg #[(Sl3.v a0_0),(Sl3.v a0_1),(Sl3.v a0_2)])] (zgf hx) ?_
   obtain ⟨⟨x6,H7⟩,hx,h⟩:=bind_some h
   try dsimp only at h
   refine RS.cl (some 14) (v:=(Sl3.v x6)) 48 #[(Value.pointer x4)] (z94 hx) (RS.mS 1 [kS 2 x6] (RS.dn (WS.nxt (WS.rt ?_))))
   cases h
   exact fun a w hs=>rtR (rS hs)
def ziq:(Sl3×AH)→Value
 | (r0,_)=>(Sl3.v r0)
def zj3 (_:AH):(Sl3×AH)→AH:=fun r=>r.2
noncomputable def B26:Code:=(Tryd.f26.body).getD .skip
noncomputable def z6w (L:LC) (m:Nat) (H:AH) (a0_0 a0_1 a0_2:Sl3):Option (Sl3×AH) :=
 Option.bind (z60 L m H a0_0 a0_1 a0_2) fun (x1,H2) =>
 Option.bind (α:=Bool) (
  if x1=0 then
   some false
  else
   some (!decide (x1=43))) fun v11_3 =>
 if v11_3=true then
  some (Sl3.nil,H2)
 else
  Option.bind (z5b L m H2 a0_0 a0_1 a0_2) fun (x4,H5) =>
  some (x4,H5)
theorem zjb {L:LC} {m:Nat} {H:AH} {a0_0 a0_1 a0_2:Sl3} {r:(Sl3×AH)} (h:z6w L m H a0_0 a0_1 a0_2=some r) :
  CallS Tryd.prog (NE.plain 1000) m 26 #[(Value.agg #[(Sl3.v a0_0),(Sl3.v a0_1),(Sl3.v a0_2)])] H (ziq r) (zj3 H r):=by
 refine CallS.mk (args:=[(Value.agg #[(Sl3.v a0_0),(Sl3.v a0_1),(Sl3.v a0_2)])]) Tryd.func26 (B:=B26) (by kernel_rfl) (fun E _=>?_)
 unfold z6w at h
 refine WS.sq (WS.rg (RS.mL 2 [kS 2 Sl3.nil,kL 1 0 0] ([some (33,[(Sl3.v a0_0),(Sl3.v a0_1),(Sl3.v a0_2)])]) (RS.dn (WS.nxt (WS.sq (WS.rg (RS.mS 1 [kA 4 #[(Sl3.v a0_0),(Sl3.v a0_1),(Sl3.v a0_2)]] ?_)))))))
 obtain ⟨⟨x1,H2⟩,hx,h⟩:=bind_some h
 try dsimp only at h
 refine RS.cl (some 5) (v:=(Value.int .i64 x1)) 21 #[(Value.agg #[(Sl3.v a0_0),(Sl3.v a0_1),(Sl3.v a0_2)])] (zhj hx) (RS.mS 1 [kI 3 x1] (RS.dn (WS.nxt (WS.sq ?_))))
 obtain ⟨v11_3,hx,h⟩:=bind_some h
 refine WS.sq ?_
 refine WS.join ([kB 11 v11_3,kL 1 0 0]) ([some (33,[(Sl3.v a0_0),(Sl3.v a0_1),(Sl3.v a0_2)])]) H2 ?_ (fun a w hs=>WS.nxt ?_ a w hs)
 ·clear h; rename _=>h
  refine WS.rg (RS.mS 3 [kB 8 (!decide (x1=0)),kB 7 (!decide (x1=0)),kI 6 x1] ?_)
  rcases z7 h with ⟨hp,h⟩ | ⟨hp,h⟩
  ·refine RS.fx 8 false (z62 hp) (RS.mS 3 [kB 11 false,kU 10,kU 9] (RS.dn ?_))
   cases h
   exact fun a w hs=>(jsN (hs.sb 1))
  ·refine RS.fx 8 true (z4v hp) (RS.mS 3 [kB 11 (!decide (x1=43)),kB 10 (!decide (x1=43)),kI 9 x1] (RS.dn ?_))
   cases h
   exact fun a w hs=>(jsN (hs.sb 1))
 ·clear hx
  rcases z7 h with ⟨hp,h⟩ | ⟨hp,h⟩
  ·refine WS.fx 11 true hp (WS.cT (WS.sq (WS.rg (RS.mS 1 [kS 2 Sl3.nil] (RS.dn (WS.nxt (WS.rt ?_)))))))
   cases h
   exact fun a w hs=>sqR (rtR (rS hs))
  ·refine WS.fx 11 false (b_not hp) (WS.cF (WS.sk (WS.nxt (WS.sq (WS.rg (RS.mS 1 [kA 12 #[(Sl3.v a0_0),(Sl3.v a0_1),(Sl3.v a0_2)]] ?_))))))
   obtain ⟨⟨x4,H5⟩,hx,h⟩:=bind_some h
   try dsimp only at h
   refine RS.cl (some 13) (v:=(Sl3.v x4)) 53 #[(Value.agg #[(Sl3.v a0_0),(Sl3.v a0_1),(Sl3.v a0_2)])] (zbs hx) (RS.mS 1 [kS 2 x4] (RS.dn (WS.nxt (WS.rt ?_))))
   cases h
   exact fun a w hs=>rtR (rS hs)
def zdp:(Bool×AH)→Value
 | (r0,_)=>(Value.bool r0)
def zeq (_:AH):(Bool×AH)→AH:=fun r=>r.2
noncomputable def B9:Code:=(Tryd.f9.body).getD .skip
noncomputable def z5u (L:LC) (m:Nat) (H:AH) (a0_0 a0_1 a0_2:Sl3):Option (Bool×AH) :=
 Option.bind (z7k L (Nat.max m H.next) H a0_0 a0_1 a0_2) fun (x1,H2) =>
 Option.bind (z6w L m H2 a0_0 a0_1 a0_2) fun (x3,H4) =>
 Option.bind (z7b L H4 x1 x3) fun x5 =>
 if x5=true then
  Option.bind (z7l L H4) fun x6 =>
  some (x6,H4)
 else
  some (false,H4)
theorem zed {L:LC} {m:Nat} {H:AH} {a0_0 a0_1 a0_2:Sl3} {r:(Bool×AH)} (h:z5u L m H a0_0 a0_1 a0_2=some r) :
  CallS Tryd.prog (NE.plain 1000) m 9 #[(Value.agg #[(Sl3.v a0_0),(Sl3.v a0_1),(Sl3.v a0_2)])] H (zdp r) (zeq H r):=by
 refine CallS.mk (args:=[(Value.agg #[(Sl3.v a0_0),(Sl3.v a0_1),(Sl3.v a0_2)])]) Tryd.func9 (B:=B9) (by kernel_rfl) (fun E _=>?_)
 unfold z5u at h
 refine WS.sq (WS.rg (RS.mL 2 [kB 2 false,kL 1 0 0] ([some (33,[(Sl3.v a0_0),(Sl3.v a0_1),(Sl3.v a0_2)])]) (RS.dn (WS.nxt (WS.sq ?_)))))
 refine WS.dr [0,2] [0,1,0,7,15,31,63,127,255] 9 (fun hcl=>?_)
 refine DA.tL 0 (some 3) (.val (Value.agg #[(Sl3.v a0_0),(Sl3.v a0_1),(Sl3.v a0_2)])) (DA.tL 2 (some 5) (.val (Value.agg #[(Sl3.v a0_0),(Sl3.v a0_1),(Sl3.v a0_2)])) ?_)
 obtain ⟨⟨x1,H2⟩,hx,h⟩:=bind_some h
 try dsimp only at h
 refine DA.on 1 (DA.aCk 1 (some 4) false (v:=(Sl3.v x1)) 25 #[(Value.agg #[(Sl3.v a0_0),(Sl3.v a0_1),(Sl3.v a0_2)])] (zkf hx) ?_)
 obtain ⟨⟨x3,H4⟩,hx,h⟩:=bind_some h
 try dsimp only at h
 refine DA.on 3 (DA.aC 3 (some 6) (v:=(Sl3.v x3)) 26 #[(Value.agg #[(Sl3.v a0_0),(Sl3.v a0_1),(Sl3.v a0_2)])] (zjb hx) ?_)
 obtain ⟨x5,hx,h⟩:=bind_some h
 refine DA.on 4 (DA.aC 4 (some 7) (v:=(Value.bool x5)) 24 #[(Sl3.v x1),(Sl3.v x3)] (zlj hx) (DA.tP 5 (some 8) (Value.bool x5) ?_))
 rcases z7 h with ⟨hp,h⟩ | ⟨hp,h⟩
 ·refine DA.fx 8 true hp ?_
  obtain ⟨x6,hx,h⟩:=bind_some h
  refine DA.on 6 (DA.aC 6 (some 9) (v:=(Value.bool x6)) 17 #[] (zka hx) (DA.tP 7 (some 10) (Value.bool x6) (DA.tP 8 (some 2) (Value.bool x6) (DA.dn (WS.nxt (WS.rt ?_))))))
  cases h
  exact fun a w hs=>rtR (rS hs)
 ·refine DA.fx 8 false (b_not hp) ?_
  refine DA.tskipP 6 (some 9) (by kernel_rfl) (by kernel_rfl) (by kernel_rfl) hcl (fun _ _ _ h=>h) (by kernel_rfl) ?_
  refine DA.tP 7 (some 10) (Value.bool false) (DA.tP 8 (some 2) (Value.bool false) (DA.dn (WS.nxt (WS.rt ?_))))
  cases h
  exact fun a w hs=>rtR (rS hs)
end Go.Proofs.YtccbilfbhecdaaaDoor
namespace Go.Proofs.YtccbilfbhecdaaaDoor
open Go Go.Abs
set_option maxRecDepth 100000
section
variable {H:AH} {s1 s2 s3:Sl3} {g:Sg} {L0 fuel:Nat}
def TabG (g:Sg) (m:Nat) (H:AH) (s:Sl3):Prop:=(¬(sigS g=0∨sigS g=43)∧s=Sl3.nil)∨((sigS g=0∨sigS g=43)∧∃id bl,s=⟨some ⟨id,0,none⟩,g.datas.length,g.datas.length⟩∧ArrV 4 m H id (bV bl)∧bl.length=g.datas.length∧∀k,On bl k↔Gd g k)
theorem TabG.ext {m:Nat} {H':AH} {s:Sl3} (h:TabG g m H s) (hx:Ext H H'):TabG g m H' s:=by
 rcases h with h | ⟨h1,id,bl,h2,h3,h4,h5⟩
 ·exact .inl h
 ·exact .inr ⟨h1,id,bl,h2,h3.ext hx,h4,h5⟩
theorem znp {m:Nat} (hF:L0=fuel+1) (hfu:15≤fuel) (hd:g.dep≤fuel) (hb:SgB g) (hS:SigA H s1 s2 s3 g) (hm:m≤H.next) :
  ∃s H',z7k (LCo L0) m H s1 s2 s3=some (s,H')∧Ext H H'∧TabG g m H' s:=by
 obtain ⟨H2,a1,a2⟩:=zlt hF hfu hd hb hS hm
 unfold z7k
 rw [a1]
 simp only [Option.bind_some]
 have hc:(if sigS g=0 then some false else some (!decide (sigS g=43)))=some (!decide (sigS g=0∨sigS g=43)):=by
  by_cases h0:sigS g=0 <;> simp [h0]
 rw [hc]
 simp only [Option.bind_some]
 by_cases h:sigS g=0∨sigS g=43
 ·have hG:=zii h
  have m2:=Nat.le_trans hm a2.1
  obtain ⟨p,H5,p1,p2,p3,p4,p5⟩:=zkz L0 m (hS.ext a2) m2
  have x5:=a2.trans p2
  obtain ⟨id,bl,H7,d1,d2,d3,d4,d5⟩:=zhl hF hfu hG (hS.ext x5) p3 (Nat.le_trans hm x5.1)
  rw [decide_eq_true h]
  simp only [Bool.not_true,Bool.false_eq_true,if_false,p1,Option.bind_some,d1]
  exact ⟨_,H7,rfl,x5.trans d2,.inr ⟨h,id,bl,rfl,d3,d4,d5⟩⟩
 ·rw [decide_eq_false h]
  exact ⟨_,H2,rfl,a2,.inl ⟨h,rfl⟩⟩
theorem zqj {m:Nat} (hF:L0=fuel+1) (hfu:15≤fuel) (hd:g.dep≤fuel) (hb:SgB g) (hS:SigA H s1 s2 s3 g) (hm:m≤H.next) :
  ∃s H',z6w (LCo L0) m H s1 s2 s3=some (s,H')∧Ext H H'∧TabG g m H' s:=by
 obtain ⟨H2,a1,a2⟩:=znc hF hfu hd hb hS hm
 unfold z6w
 rw [a1]
 simp only [Option.bind_some]
 have hc:(if sigS g=0 then some false else some (!decide (sigS g=43)))=some (!decide (sigS g=0∨sigS g=43)):=by
  by_cases h0:sigS g=0 <;> simp [h0]
 rw [hc]
 simp only [Option.bind_some]
 by_cases h:sigS g=0∨sigS g=43
 ·have hG:=zii h
  obtain ⟨id,bl,H7,d1,d2,d3,d4,d5⟩:=zgn hF hfu hG (hS.ext a2) (Nat.le_trans hm a2.1)
  rw [decide_eq_true h]
  simp only [Bool.not_true,Bool.false_eq_true,if_false,Option.bind_some,d1]
  exact ⟨_,H7,rfl,a2.trans d2,.inr ⟨h,id,bl,rfl,d3,d4,d5⟩⟩
 ·rw [decide_eq_false h]
  exact ⟨_,H2,rfl,a2,.inl ⟨h,rfl⟩⟩
theorem zqt {m:Nat} (c:Nat) {sa sb:Sl3} (ha:TabG g m H sa) (hb:TabG g m H sb):z7b (LCo c) H sa sb=some true:=by
 rcases ha with ⟨h,rfl⟩ | ⟨h,id,bl,rfl,h3,h4,h5⟩
 ·rcases hb with ⟨h',rfl⟩ | ⟨h',_⟩
  ·unfold z7b
   rw [if_pos rfl]
   have hl:loopO (z27 (LCo c) H Sl3.nil Sl3.nil) 0=some (.inl 0):=zl (by
    unfold z27
    rw [if_neg (show ¬(0:Int)<((Sl3.nil.n:Nat):Int) from by decide)])
   show Option.bind (loopO (z27 (LCo c) H Sl3.nil Sl3.nil) 0) _=_
   rw [hl]
   rfl
  ·exact absurd h' h
 ·rcases hb with ⟨h',rfl⟩ | ⟨h',id',bl',rfl,k3,k4,k5⟩
  ·exact absurd h h'
  ·have e:=zt2 h5 k5 h4 k4
   subst e
   have hn:GoodG g:=zii h
   have hnn:=z28 hn
   unfold z7b
   rw [if_pos rfl]
   have hl:=z1f (body:=z27 (LCo c) H ⟨some ⟨id,0,none⟩,g.datas.length,g.datas.length⟩ ⟨some ⟨id',0,none⟩,g.datas.length,g.datas.length⟩) g.datas.length (by rw [z1n]; omega) (fun _=>none) (fun i hi=>by
    obtain ⟨q,k1,k2⟩:=z9c h3 h4 hi
    obtain ⟨q',k1',k2'⟩:=z9c k3 k4 hi
    unfold z27
    simp only [if_pos (show (i:Int)<(g.datas.length:Int) by omega),k1,k2,k1',k2',Option.bind_some,BEq.rfl,if_true]
    rfl) (by
    unfold z27
    simp only []
    rw [if_neg (by omega)])
   show Option.bind (loopO (z27 (LCo c) H ⟨some ⟨id,0,none⟩,g.datas.length,g.datas.length⟩ ⟨some ⟨id',0,none⟩,g.datas.length,g.datas.length⟩) 0) _=_
   rw [hl]
   have:(List.range g.datas.length).findSome? (fun _=>(none:Option Bool))=none:=by simp
   rw [this]
   rfl
theorem zne (hF:L0=fuel+1) (hfu:15≤fuel) (hd:g.dep≤fuel) (hT:HasT H) (hS:SigA H s1 s2 s3 g) (hb:SgB g) :
  ∃H',z5u (LCo L0) H.next H s1 s2 s3=some (true,H'):=by
 obtain ⟨x1,H2,a1,a2,a3⟩:=znp (m:=H.next) hF hfu hd hb hS (Nat.le_refl _)
 obtain ⟨x3,H4,b1,b2,b3⟩:=zqj (m:=H.next) hF hfu hd hb (hS.ext a2) a2.1
 unfold z5u
 rw [show Nat.max H.next H.next=H.next from Nat.max_self _,a1]
 simp only [Option.bind_some]
 rw [b1]
 simp only [Option.bind_some]
 rw [zqt _ (a3.ext b2) b3]
 simp only [Option.bind_some,if_true]
 rw [zsa _ (hT.ext (a2.trans b2))]
 exact ⟨H4,rfl⟩
end
end Go.Proofs.YtccbilfbhecdaaaDoor
namespace Go.Proofs.YtccbilfbhecdaaaDoor
open Go Go.Abs Go.ChangeShapes Go.WideShapes
set_option maxRecDepth 100000
theorem zli {H:Type} {enc:TypeId×Value→H} {W:World} {base:Nat} {args:Array Value} {ds:List (DataW H)} {ps:List MemPlace} (hg:Tryd.prog.globals.size≤W.heap.size)
  (hval:∀(j:Nat) t v,Tryd.f9.params[j]? = some t→args[j]? = some v→Value.okWide Tryd.prog W .any base t v)
  (hA:DataW.TrodAll enc Tryd.prog W 0 (fun _=>true) true Tryd.f9.params.toList args.toList ds ps) (hk:Rows.uptoSmall H ds=true) (hL:laidMet Tryd.prog Rows.sortGroundsUptoRow.laid W) (hsh:W.ShapedOpen Tryd.prog)
  (hwt:(DataW.weightsEach Tryd.prog (Tryd.f9.params.toList++[]) ds).all (·≤reachBytes)=true) :
  Calls Tryd.prog 9 args W fun e W'=>e=.returned (.bool true)∧RowKit.Below W.heap.size W W':=by
 rw [Tryd.params9] at hA hval hwt
 obtain ⟨v0,vs0,d0,ds0,p0,q0,hargs,rfl,rfl,h0,r0⟩:=trodAll_cons hA
 obtain ⟨rfl,rfl,rfl⟩:=trodAll_nil r0
 obtain rfl:args=#[v0]:=by cases args; simp_all
 have hb:=bulks.bound hk
 simp only [Rows.uptoBulkAll] at hb
 simp only [List.append_nil,DataW.weightsEach] at hwt
 obtain ⟨φ0,H0x,s0u,s0d,s0f,g0,i0,le0,e0,vr0,sg0,hb0⟩:=zpo (ztl hg hL hsh) h0 (hval 0 33 v0 rfl rfl) hwt
 obtain ⟨H',hr⟩:=zne (L0:=max 15 g0.dep+1) (fuel:=max 15 g0.dep) rfl (by omega) (by omega) (zqd.ext e0) sg0 hb0
 exact zm2 (ne:=NE.plain 1000) sane (zed hr) i0 (ar1 vr0)
theorem zlm (os:Os) {H:Type} (enc:TypeId×Value→H):∃x,DataW.whole enc Tryd.prog ((laidW2 Tryd.prog Rows.sortGroundsUptoRow.laid os).forCall (fun _ _=>0) ⟨#[],#[.agg #[.slice none 0 0,.slice none 0 0,.slice none 0 0]],[]⟩).memory Tryd.f9.params.toList Rows.sortGroundsSpec.vars false (#[.agg #[.slice none 0 0,.slice none 0 0,.slice none 0 0]]:Array Value).toList 8=some ([.agg [.nil,.nil,.nil]],[],x) :=
 ⟨[],by kernel_rfl⟩
theorem zkq (os:Os) (started:os.Started) (H:Type) (enc:TypeId×Value→H) (F:Stop.Interp) :
  ReturnsInHanded {} Tryd.checked os 9 .any ((Rows.OpenSpec.upto Rows.sortGroundsSpec).preRow enc Tryd.prog Tryd.f9 Rows.sortGroundsUptoRow.domain false Rows.sortGroundsUptoRow.laid) (((Rows.OpenSpec.upto Rows.sortGroundsSpec).at F).post enc Tryd.prog Tryd.f9 false true false false):=by
 obtain ⟨x,hx⟩:=zlm os enc
 exact ziv (C:=Tryd.checked) (s:=Rows.OpenSpec.upto Rows.sortGroundsSpec) (k:=Rows.uptoSmall) rfl own started (by kernel_rfl) Tryd.func9 zqi laidOut (by kernel_rfl) rfl (by kernel_rfl)
  (fun ds hds=>by
   have h1:ds.length=1:=hds
   match ds,h1 with
   | [d0],_=>exact ⟨rfl,rfl,rfl⟩)
  rfl (by kernel_rfl)
  (witness_row_atRef (enc:=enc) (C:=Tryd.checked) false (laidW2 Tryd.prog Rows.sortGroundsUptoRow.laid os) #[.agg #[.slice none 0 0,.slice none 0 0,.slice none 0 0]] rfl (by kernel_rfl) (by kernel_rfl) (by kernel_rfl)
   (OpenSpec.preRow_of_cond 8 hx (by kernel_rfl) (fun k hk=>by cases hk; kernel_rfl) (by kernel_rfl) (ztk os _)))
  (fun W base args ds ps hg hval hA hk hL hsh hwt=>zli hg hval hA hk hL hsh hwt)
theorem zm7:Rows.SortGroundsUptoSaid :=
 OpenClaim.holds_of_cond 9 Tryd.f9 rfl rfl rfl rfl rfl rfl rfl ⟨rfl,rfl,rfl,rfl,rfl⟩ rfl rfl rfl rfl rfl (by kernel_rfl) Tryd.func9 (by kernel_rfl)
  (of_decide_eq_true (by kernel_rfl)) (by unfold Func.isWrapper; first | (rw [if_pos (by decide +kernel)]; kernel_rfl) | (rw [if_neg (by decide +kernel)]; exact ⟨rfl,rfl⟩))
  (fun os started H enc _ F=>by rw [OpenClaim.pre_eq_preRow]; exact zkq os started H enc F)
theorem zlv (f:FuncId) (fn:Func) (hf:Tryd.pinned.checked.prog.funcNamed "tribunal/tribunallaw04.SortGrounds"=some f) (hfn:Tryd.pinned.checked.prog.funcs[f]? = some fn) :
  false=Tryd.pinned.checked.prog.looks []∧∀(j:Nat) t,fn.params[j]? = some t→Tryd.pinned.checked.prog.wantsStandIn t=false:=by
 obtain rfl:f=9:=Option.some.inj ((show Tryd.prog.funcNamed "tribunal/tribunallaw04.SortGrounds"=some 9 by kernel_rfl).symm.trans hf) |>.symm
 obtain rfl:fn=Tryd.f9:=(Option.some.inj (Tryd.func9.symm.trans hfn)).symm
 exact ⟨by kernel_rfl,fun j t ht=>by
  have hall:(Tryd.f9.params.toList.all fun u=>!Tryd.prog.wantsStandIn u)=true:=by kernel_rfl
  have hm:t∈Tryd.f9.params.toList:=by simpa using Array.mem_of_getElem? ht
  exact (show Tryd.prog.wantsStandIn t=false by simpa using List.all_eq_true.1 hall t hm)⟩
theorem sortGrounds_holds:Rows.SortGroundsUptoCardSaid :=
 Claim7.holds_tied_plain_at .later [] _ _ _ _ zm7 (fun _ h=>by cases h) (by kernel_rfl) (fun _ h=>by cases h) sortGroundsUpto_row_tie rfl ⟨rfl,rfl⟩ (by kernel_rfl) rfl zlv (by kernel_rfl)
#print axioms sortGrounds_holds
end Go.Proofs.YtccbilfbhecdaaaDoor
