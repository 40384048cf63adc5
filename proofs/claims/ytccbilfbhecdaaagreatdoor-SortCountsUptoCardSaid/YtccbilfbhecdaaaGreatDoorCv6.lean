/- SortCounts is proved where what it reads is of bulk at most 1048576: it returns true and its arguments read as before. No condition beyond the row's own (five listed tables of Go's library as the text lays them). -/
import Derived.Test.YtccbilfbhecdaaaGreatDoorCv5
namespace Go.Proofs.YtccbilfbhecdaaaGreatDoor
open Go Go.Abs
set_option maxRecDepth 100000
theorem I3 {g:Sg} (hG:GoodG g):g.datas.length≤4096:=by
 have:=hG.many;unfold manyS at this;simp only [Bool.or_eq_false_iff,decide_eq_false_iff_not] at this;have:=this.2.2;unfold cntG at this;omega
theorem zcn (n:Nat):freeN (List.replicate n false)=n:=by
 unfold freeN;rw [List.countP_replicate];simp
theorem zen {α:Type} {xs:List α} {body:AH×Int→Option (Lp (AH×Int) (Bool×AH))} (P:Nat→α→Prop) {H0:AH}
  (step:∀(i:Nat) (hi:i<xs.length) (H:AH),Ext H0 H→∃H',Ext H0 H'∧((P i xs[i]∧body (H,(i:Int))=some (.ret (true,H')))∨(¬P i xs[i]∧body (H,(i:Int))=some (.next (H',((i+1:Nat):Int))))))
  (he:∀H,Ext H0 H→body (H,(xs.length:Int))=some (.brk (H,(xs.length:Int)))) :
  ∀(d i:Nat) (H:AH),i+d=xs.length→Ext H0 H→∃H',Ext H0 H'∧(((∃j,∃h:j<xs.length,i≤j∧P j xs[j])∧loopO body (H,(i:Int))=some (.inr (true,H')))∨((¬∃j,∃h:j<xs.length,i≤j∧P j xs[j])∧loopO body (H,(i:Int))=some (.inl (H',(xs.length:Int))))):=by
 intro d;induction d with
 | zero =>
  intro i H hi hx;have:i=xs.length:=by omega
  subst this;refine ⟨H,hx,.inr ⟨?_,Y1 (he H hx)⟩⟩
  rintro ⟨j,h,h',_⟩
  omega
 | succ d ih =>
  intro i H hi hx;have hlt:i<xs.length:=by omega
  obtain ⟨H1,x1,h⟩:=step i hlt H hx;rcases h with ⟨hp,hb⟩ | ⟨hp,hb⟩
  ·exact ⟨H1,x1,.inl ⟨⟨i,hlt,Nat.le_refl _,hp⟩,N3 hb⟩⟩
  ·obtain ⟨H2,x2,h⟩:=ih (i+1) H1 (by omega) x1;refine ⟨H2,x2,?_⟩;rw [W1 hb];rcases h with ⟨⟨j,hj,h1,h2⟩,h3⟩ | ⟨h1,h3⟩
   ·exact .inl ⟨⟨j,hj,by omega,h2⟩,h3⟩
   ·refine .inr ⟨?_,h3⟩
    rintro ⟨j,hj,h4,h5⟩
    by_cases e:j=i
    ·subst e; exact hp h5
    ·exact h1 ⟨j,hj,by omega,h5⟩
def LeanT (g:Sg) (H:AH) (id3:Nat):Prop:=∀i,i<g.datas.length→∃row:Sl3,Cel H ((⟨id3,0,none⟩:Addr).add (i*1)) row.v∧∀k,k<g.datas.length→∃q b,idxA 1 row (k:Int)=some q∧Cel H q (.bool b)∧(b=true↔Lean1 g i k)
theorem LeanT.ext {g:Sg} {H H':AH} {id3:Nat} (h:LeanT g H id3) (hf:Ext H H'):LeanT g H' id3:=fun i hi=>by
 obtain ⟨row,h1,h2⟩:=h i hi;exact ⟨row,h1.ext hf,fun k hk=>let ⟨q,b,a1,a2,a3⟩:=h2 k hk; ⟨q,b,a1,a2.ext hf,a3⟩⟩
section
variable {m:Nat} {H0 H:AH} {s1 s2 s3:Sl3} {g:Sg} {p:Addr} {L0 fuel:Nat}
def RowOk (g:Sg) (m:Nat) (H0 H:AH) (id3 n:Nat) (rows:List Value) (j:Nat):Prop :=
 ∃idj bl,rows[j]? = some (Sl3.v ⟨some ⟨idj,0,none⟩,n,n⟩)∧ArrV 4 m H idj (bV bl)∧(∀k (h:k<bl.length),bl[k]=true↔Lean1 g j k)∧bl.length=n∧H0.next≤idj∧idj≠id3
theorem zov (hF:L0=fuel+1) (hfu:15≤fuel) (hG:GoodG g) (hS:SigA H0 s1 s2 s3 g) (hB:Book H0 p s1 s2 s3 g) (hm:m≤H0.next) {id3 n:Nat} (hn:n=g.datas.length) (h3:H0.next≤id3):∀(d i:Nat) (H:AH) (rows:List Value),i+d=n→Ext H0 H→ArrV 70 m H id3 rows→rows.length=n →
   (∀j,j<i→RowOk g m H0 H id3 n rows j) →
   ∃H' rows',loopO (G4 (LCo L0) m p s2 ⟨some ⟨id3,0,none⟩,n,n⟩) (H,(i:Int))=some (.inl (H',(n:Int)))∧Ext H0 H'∧ArrV 70 m H' id3 rows'∧∀j,j<n→RowOk g m H0 H' id3 n rows' j:=by
 have hd:=hS.d.n;have hnn:n≤4096:=by rw [hn]; exact I3 hG
 intro d;induction d with
 | zero =>
  intro i H rows hi hx ha hl hr;obtain rfl:i=n:=by omega
  refine ⟨H,rows,Y1 ?_,hx,ha,hr⟩;unfold G4;simp only [if_neg (show ¬((i:Int)<(s2.n:Int)) by omega)]
 | succ d ih =>
  intro i H rows hi hx ha hl hr;have hin:i<n:=by omega
  have hig:i<g.datas.length:=by omega
  have hmH:=Nat.le_trans hm hx.1;obtain ⟨H8,b1,b2,b3,b4⟩:=z9i (e:=4) (bytes:=1) (m:=m) (H:=H) (z:=.bool false) (n:=n) (by omega) (by omega) hmH;have hs2:s2.n=n:=by rw [hd,hn]
  have ha8:=ha.ext b3;obtain ⟨H10,c1,c2,c3,c4⟩:=ha8.set (i:=i) (by omega) (Sl3.v ⟨some ⟨H.next,0,none⟩,n,n⟩);have hlow:=ha.low;have x8:=hx.trans b3;have x10:Ext H0 H10:=x8.comp c3 fun id hid _ h=>by omega
  have b2':ArrV 4 m H10 H.next (bV (List.replicate n false)):=by
   have:bV (List.replicate n false)=List.replicate n (Value.bool false):=by simp [bV]
   rw [this];exact b2.fr c3 (by omega)
  obtain ⟨x11,H12,d1,d2,d3,d4⟩:=zb4 hF hfu hG (hS.ext x10) (hB.ext x10) (Nat.le_trans hm x10.1) hig;have hst:=zhm hG (List.getElem_mem hig);have x12:=x10.trans d3;have hrow:(rows.set i (Sl3.v ⟨some ⟨H.next,0,none⟩,n,n⟩))[i]? = some (Sl3.v ⟨some ⟨H.next,0,none⟩,n,n⟩):=by simp [hl,hin]
  have hW:Work g i (List.replicate n false) (stD g.datas g.datas[i]):=by
   refine ⟨by simp [hn],fun k hk hb=>by simp at hb,fun k hk=>.one ⟨hig,hk⟩,fun k hk=>?_,fun j k hj _=>?_⟩
   ·obtain ⟨_,hk⟩:=hk; exact .inr hk
   ·obtain ⟨_,hb⟩:=hj; simp at hb
  obtain ⟨H',v',bl',e1,e2,e3,e4,e5,e6⟩:=zp4 hF hfu hG hS hB hm (x2:=s2) hn hin hrow (by omega) h3 hx.1 n _ (List.replicate n false) _ H12 x11 (zcn n) rfl hW x12 (c2.ext d3) (b2'.ext d3) d2 (fun id hid=>by have:=d4 id hid; have:=b4; have:=x10.1; omega) (by omega);have keep:∀j,j<i→RowOk g m H0 H' id3 n (rows.set i (Sl3.v ⟨some ⟨H.next,0,none⟩,n,n⟩)) j:=by
   intro j hj;obtain ⟨idj,bl,k1,k2,k3,k4,k5,k6⟩:=hr j hj;have hlj:=k2.low;refine ⟨idj,bl,?_,?_,k3,k4,k5,k6⟩
   ·rw [List.getElem?_set_ne (by omega)]; exact k1
   ·refine (((k2.ext b3).fr c3 k6).ext d3).fr e6 fun h=>?_;rcases h with h | h
    ·omega
    ·have:=d4 idj h; omega
  have mine:RowOk g m H0 H' id3 n (rows.set i (Sl3.v ⟨some ⟨H.next,0,none⟩,n,n⟩)) i :=
   ⟨H.next,bl',hrow,e4,e2.done,by rw [e2.len,hn],hx.1,by omega⟩
  obtain ⟨H2,rows',y1,y2,y3,y4⟩:=ih (i+1) H' _ (by omega) e5 e3 (by simp [hl]) fun j hj=>by
   by_cases e:j=i
   ·subst e; exact mine
   ·exact keep j (by omega)
  refine ⟨H2,rows',?_,y2,y3,y4⟩;have hbody:G4 (LCo L0) m p s2 ⟨some ⟨id3,0,none⟩,n,n⟩ (H,(i:Int))=some (.next (H',((i+1:Nat):Int))):=by
   unfold G4;simp only [hs2,if_pos (show (i:Int)<(n:Int) by omega),b1,Option.bind_some,X3 hin rfl,c1,d1];show Option.bind (loopO (V2 (LCo L0) m p s2 ⟨some ⟨id3,0,none⟩,n,n⟩ (i:Int)) (H12,x11)) _=_;rw [e1];simp only [Option.bind_some];rw [V1 hin (by rw [B2]; omega)]
  rw [W1 hbody];exact y1
theorem zfs (hF:L0=fuel+1) (hfu:15≤fuel) (hG:GoodG g) (hS:SigA H s1 s2 s3 g) (hB:Book H p s1 s2 s3 g) (hm:m≤H.next) :
  ∃id3 H',s8 (LCo L0) m H (some p)=some (⟨some ⟨id3,0,none⟩,g.datas.length,g.datas.length⟩,H')∧Ext H H'∧LeanT g H' id3:=by
 have hd:=hS.d.n;have hnn:=I3 hG;have hadd:∀j,(p.add 0).add j=p.add (0+j):=fun j=>add2 hB.c1 0 j;have r1:rd deSl H ((p.add 0).add 1)=some s2:=by rw [hadd,hB.c2.rd]; rfl
 obtain ⟨H4,b1,b2,b3,b4⟩:=z9i (e:=70) (bytes:=24) (m:=m) (H:=H) (z:=Sl3.v Sl3.nil) (n:=g.datas.length) (by omega) (by omega) hm;obtain ⟨H',rows',c1,c2,c3,c4⟩:=zov hF hfu hG hS hB hm (id3:=H.next) rfl (Nat.le_refl _) g.datas.length 0 H4 _ (by omega) b3 b2 (by simp) (fun j hj=>absurd hj (Nat.not_lt_zero _));refine ⟨H.next,H',?_,c2,fun i hi=>?_⟩
 ·unfold s8;simp only [Option.bind_some,r1,hd,b1];show Option.bind (loopO (G4 (LCo L0) m p s2 ⟨some ⟨H.next,0,none⟩,g.datas.length,g.datas.length⟩) (H4,((0:Nat):Int))) _=_;rw [c1];rfl
 ·obtain ⟨idj,bl,k1,k2,k3,k4,k5,k6⟩:=c4 i hi;refine ⟨_,c3.cel k1,fun k hk=>⟨_,bl[k]'(by omega),X3 hk rfl,k2.cel (by simp [bV,k4,hk]),k3 k (by omega)⟩⟩
def NestX (g:Sg) (i:Nat) (x:Sel):Prop:=∃k∈dtI g.datas true x.k x.sn x.a,k=i∨Lean1 g k i
def NestP (g:Sg):Prop:=∃i,∃h:i<g.datas.length,∃c∈(g.datas[i]).cons,∃x∈c.sels,NestX g i x
theorem dtI_lt {g:Sg} {x:Sel} (h:SelG g x):∀k∈dtI g.datas true x.k x.sn x.a,k<g.datas.length:=by
 intro k hk;have hk:k∈dtF g.datas x.a:=by simpa [dtI] using hk
 have hs:=h.sh;have hkn:=h.kn;unfold knS at hkn;by_cases h56:x.k=5∨x.k=6
 ·have:=z4k hs h56;rw [this] at hk;simp [dtF] at hk
 ·rw [if_neg (by omega),if_neg (by omega)] at hkn;simp only [shS,Bool.and_eq_true] at hs;exact dtF_lt hs.2 hkn k hk
theorem znl (c:Nat) {id3:Nat} {i:Nat} {x2 x6 x10 x14 x15:Sl3} {v27 v34 y1 y2:Int} {n6 n10 n14 n15:ByteArray} {l:List Nat} (hT:LeanT g H id3) (hi:i<g.datas.length) (hl:SlL IntA 1 H x15 l) (hlt:∀k∈l,k<g.datas.length) :
  loopO (Q3 (LCo c) ⟨some ⟨id3,0,none⟩,g.datas.length,g.datas.length⟩ p x2 (i:Int) n6 x6 v27 n10 x10 v34 n14 y1 y2 n15 x14 x15 H) 0=some (found l.length (l.findSome? fun k=>open Classical in if k=i∨Lean1 g k i then some (true,H) else none)):=by
 classical
 have hn:=hl.n;have hu:=V3 (body:=Q3 (LCo c) ⟨some ⟨id3,0,none⟩,g.datas.length,g.datas.length⟩ p x2 (i:Int) n6 x6 v27 n10 x10 v34 n14 y1 y2 n15 x14 x15 H) l.length hl.len (fun j=>if (l.getD j 0)=i∨Lean1 g (l.getD j 0) i then some (true,H) else none) (fun j hj=>by
   obtain ⟨q,h1,h2⟩:=hl.get hj (v:=(j:Int)) rfl;have r0:rd (deI .i64) H q=some (l[j]:Int):=by rw [Cel.rd h2]; rfl
   have eg:l.getD j 0=l[j]:=by simp [List.getD,hj]
   rw [eg];have hkl:=hlt _ (List.getElem_mem hj);obtain ⟨row,k1,k2⟩:=hT l[j] hkl;obtain ⟨q',b,k3,k4,k5⟩:=k2 i hi;have r1:rd deSl H ((⟨id3,0,none⟩:Addr).add (l[j]*1))=some row:=by rw [k1.rd]; rfl
   have r2:rd deB H q'=some b:=by rw [k4.rd]; rfl
   unfold Q3;simp only [if_pos (show (j:Int)<(x15.n:Int) by omega),h1,Option.bind_some,r0];by_cases e:l[j]=i
   ·have:((l[j]:Nat):Int)=(i:Int):=by omega
    simp [this,e,stepO]
   ·have:¬(((l[j]:Nat):Int)=(i:Int)):=by omega
    simp only [if_neg this,X3 hkl rfl,Option.bind_some,r1,k3,r2];cases b with
    | true=>simp [k5.1 rfl,stepO]
    | false =>
     have:¬Lean1 g l[j] i:=fun h=>by have:=k5.2 h; cases this
     simp [this,e,stepO]) (by
   unfold Q3;rw [if_neg (by omega)])
 rw [hu,z4l l (fun k=>if k=i∨Lean1 g k i then some (true,H) else none) 0]
theorem znq {R:Type} (l:List Nat) (P:Nat→Prop) [DecidablePred P] (r:R):((∃k∈l,P k)∧(l.findSome? fun k=>if P k then some r else none)=some r)∨((¬∃k∈l,P k)∧(l.findSome? fun k=>if P k then some r else none)=none):=by
 induction l with
 | nil=>exact .inr ⟨by simp,rfl⟩
 | cons x l ih =>
  rw [List.findSome?_cons];by_cases h:P x
  ·rw [if_pos h]; exact .inl ⟨⟨x,by simp,h⟩,rfl⟩
  ·rw [if_neg h];rcases ih with ⟨⟨k,hk,hp⟩,h2⟩ | ⟨h1,h2⟩
   ·exact .inl ⟨⟨k,by simp [hk],hp⟩,h2⟩
   ·refine .inr ⟨?_,h2⟩
    rintro ⟨k,hk,hp⟩
    rcases List.mem_cons.1 hk with rfl | hk
    ·exact h hp
    ·exact h1 ⟨k,hk,hp⟩
theorem zo2 (hF:L0=fuel+1) (hfu:15≤fuel) (hG:GoodG g) (hB:Book H0 p s1 s2 s3 g) (hm:m≤H0.next) {id3 i:Nat} (hT:LeanT g H0 id3) (hi:i<g.datas.length) {c:Con} (hc:c∈(g.datas[i]).cons) {x2 x6 sl:Sl3} {v27:Int} {n6 n10:ByteArray} (h:SlL SelA 5 H0 sl c.sels) (hx:Ext H0 H) :
  ∃H',Ext H0 H'∧(((∃x∈c.sels,NestX g i x)∧loopO (K2 (LCo L0) m ⟨some ⟨id3,0,none⟩,g.datas.length,g.datas.length⟩ p x2 (i:Int) n6 x6 v27 n10 sl) (H,0)=some (.inr (true,H'))) ∨
   ((¬∃x∈c.sels,NestX g i x)∧loopO (K2 (LCo L0) m ⟨some ⟨id3,0,none⟩,g.datas.length,g.datas.length⟩ p x2 (i:Int) n6 x6 v27 n10 sl) (H,0)=some (.inl (H',(c.sels.length:Int))))):=by
 classical
 have hln:=h.n;obtain ⟨H',h1,h2⟩:=zen (xs:=c.sels) (body:=K2 (LCo L0) m ⟨some ⟨id3,0,none⟩,g.datas.length,g.datas.length⟩ p x2 (i:Int) n6 x6 v27 n10 sl) (fun _ x=>NestX g i x) (H0:=H0)
  (fun j hj G hG1=>by
   obtain ⟨q,g1,g2⟩:=h.get hj (v:=(j:Int)) rfl;obtain ⟨z,e1,e2,e3,e4,e5,e6⟩:=g2.ex;have r0:rd deS G (q.add 0)=some c.sels[j].n:=by rw [(g2.n.ext hG1).rd]; rfl
   have r1:rd (deI .i64) G (q.add 1)=some c.sels[j].k:=by rw [(e1.ext hG1).rd]; rfl
   have r2:rd (deI .i64) G (q.add 2)=some c.sels[j].w:=by rw [(e2.ext hG1).rd]; rfl
   have r3:rd deS G (q.add 3)=some c.sels[j].sn:=by rw [(e3.ext hG1).rd]; rfl
   have r4:rd deSl G (q.add 4)=some z:=by rw [(e4.ext hG1).rd]; rfl
   have hs:=hG.sel _ (List.getElem_mem hi) c hc _ (List.getElem_mem hj);obtain ⟨s',G1,y1,y2,y3⟩:=zft (m:=m) L0 (c.sels[j].a.dep+1) fuel G c.sels[j].k c.sels[j].w c.sels[j].sn z c.sels[j].a true (hB.ext hG1) (Nat.le_trans hm hG1.1) (e6.ext hG1) (by have:=hs.sz; omega) (by have:=hs.dp; omega) (by omega);have hb3:=znl (p:=p) L0 (i:=i) (x2:=x2) (x6:=x6) (x10:=sl) (x14:=z) (v27:=v27) (v34:=(j:Int)) (y1:=c.sels[j].k) (y2:=c.sels[j].w) (n6:=n6) (n10:=n10) (n14:=c.sels[j].n) (n15:=c.sels[j].sn) (hT.ext (hG1.trans y3)) hi y2 (dtI_lt hs);have e1':(LCo L0).fuel=fuel+1:=hF;refine ⟨G1,hG1.trans y3,?_⟩;have hbody:K2 (LCo L0) m ⟨some ⟨id3,0,none⟩,g.datas.length,g.datas.length⟩ p x2 (i:Int) n6 x6 v27 n10 sl (G,(j:Int))=(match (found (dtI g.datas true c.sels[j].k c.sels[j].sn c.sels[j].a).length ((dtI g.datas true c.sels[j].k c.sels[j].sn c.sels[j].a).findSome? fun k=>if k=i∨Lean1 g k i then some (true,G1) else none)) with | .inl _=>some (.next (G1,((j+1:Nat):Int))) | .inr r=>some (.ret r)):=by
    unfold K2 R9;rw [e1'];simp only [if_pos (show (j:Int)<(sl.n:Int) by omega),g1,Option.bind_some,r0,r1,r2,r3,r4,y1];show Option.bind (loopO (Q3 (LCo L0) ⟨some ⟨id3,0,none⟩,g.datas.length,g.datas.length⟩ p x2 (i:Int) n6 x6 v27 n10 sl (j:Int) c.sels[j].n c.sels[j].k c.sels[j].w c.sels[j].sn z s' G1) 0) _=_;rw [hb3,V1 hj h.len];rfl
   rcases znq (dtI g.datas true c.sels[j].k c.sels[j].sn c.sels[j].a) (fun k=>k=i∨Lean1 g k i) (true,G1) with ⟨hp,hf⟩ | ⟨hp,hf⟩
   ·rw [hf] at hbody;exact .inl ⟨hp,hbody⟩
   ·rw [hf] at hbody;exact .inr ⟨hp,hbody⟩)
  (fun G hG1=>by
   unfold K2;simp only [if_neg (show ¬((c.sels.length:Int)<(sl.n:Int)) by omega)])
  c.sels.length 0 H (by omega) hx
 refine ⟨H',h1,?_⟩;have iff:(∃j,∃h:j<c.sels.length,0≤j∧NestX g i c.sels[j])↔∃x∈c.sels,NestX g i x:=by
  constructor
  ·rintro ⟨j,hj,_,hp⟩; exact ⟨_,List.getElem_mem hj,hp⟩
  ·rintro ⟨x,hx,hp⟩
   obtain ⟨j,hj,rfl⟩:=List.getElem_of_mem hx;exact ⟨j,hj,Nat.zero_le _,hp⟩
 rw [iff] at h2;exact h2
theorem zob (hF:L0=fuel+1) (hfu:15≤fuel) (hG:GoodG g) (hB:Book H0 p s1 s2 s3 g) (hm:m≤H0.next) {id3 i:Nat} (hT:LeanT g H0 id3) (hi:i<g.datas.length) {x2 sl:Sl3} {n6:ByteArray} (h:SlL ConA 2 H0 sl (g.datas[i]).cons) (hx:Ext H0 H) :
  ∃H',Ext H0 H'∧(((∃c∈(g.datas[i]).cons,∃x∈c.sels,NestX g i x)∧loopO (L2 (LCo L0) m ⟨some ⟨id3,0,none⟩,g.datas.length,g.datas.length⟩ p x2 (i:Int) n6 sl) (H,0)=some (.inr (true,H'))) ∨
   ((¬∃c∈(g.datas[i]).cons,∃x∈c.sels,NestX g i x)∧loopO (L2 (LCo L0) m ⟨some ⟨id3,0,none⟩,g.datas.length,g.datas.length⟩ p x2 (i:Int) n6 sl) (H,0)=some (.inl (H',((g.datas[i]).cons.length:Int))))):=by
 have hln:=h.n;obtain ⟨H',h1,h2⟩:=zen (xs:=(g.datas[i]).cons) (body:=L2 (LCo L0) m ⟨some ⟨id3,0,none⟩,g.datas.length,g.datas.length⟩ p x2 (i:Int) n6 sl) (fun _ c=>∃x∈c.sels,NestX g i x) (H0:=H0)
  (fun j hj G hG1=>by
   obtain ⟨q,g1,g2⟩:=h.get hj (v:=(j:Int)) rfl;obtain ⟨z,e1,e2⟩:=g2.ex;have r0:rd deS G (q.add 0)=some (g.datas[i]).cons[j].n:=by rw [(g2.n.ext hG1).rd]; rfl
   have r1:rd deSl G (q.add 1)=some z:=by rw [(e1.ext hG1).rd]; rfl
   obtain ⟨G1,k1,k2⟩:=zo2 hF hfu hG hB hm hT hi (List.getElem_mem hj) (x2:=x2) (x6:=sl) (v27:=(j:Int)) (n6:=n6) (n10:=(g.datas[i]).cons[j].n) e2 hG1;refine ⟨G1,k1,?_⟩;rcases k2 with ⟨hp,hb⟩ | ⟨hp,hb⟩
   ·refine .inl ⟨hp,?_⟩;unfold L2;simp only [if_pos (show (j:Int)<(sl.n:Int) by omega),g1,Option.bind_some,r0,r1];show Option.bind (loopO (K2 (LCo L0) m ⟨some ⟨id3,0,none⟩,g.datas.length,g.datas.length⟩ p x2 (i:Int) n6 sl (j:Int) (g.datas[i]).cons[j].n z) (G,0)) _=_;rw [hb];rfl
   ·refine .inr ⟨hp,?_⟩;unfold L2;simp only [if_pos (show (j:Int)<(sl.n:Int) by omega),g1,Option.bind_some,r0,r1];show Option.bind (loopO (K2 (LCo L0) m ⟨some ⟨id3,0,none⟩,g.datas.length,g.datas.length⟩ p x2 (i:Int) n6 sl (j:Int) (g.datas[i]).cons[j].n z) (G,0)) _=_;rw [hb];simp only [Option.bind_some];rw [V1 hj h.len])
  (fun G hG1=>by
   unfold L2;simp only [if_neg (show ¬(((g.datas[i]).cons.length:Int)<(sl.n:Int)) by omega)])
  (g.datas[i]).cons.length 0 H (by omega) hx
 refine ⟨H',h1,?_⟩;have iff:(∃j,∃h:j<(g.datas[i]).cons.length,0≤j∧∃x∈((g.datas[i]).cons[j]).sels,NestX g i x)↔∃c∈(g.datas[i]).cons,∃x∈c.sels,NestX g i x:=by
  constructor
  ·rintro ⟨j,hj,_,hp⟩; exact ⟨_,List.getElem_mem hj,hp⟩
  ·rintro ⟨x,hx,hp⟩
   obtain ⟨j,hj,rfl⟩:=List.getElem_of_mem hx;exact ⟨j,hj,Nat.zero_le _,hp⟩
 rw [iff] at h2;exact h2
theorem zkz (hF:L0=fuel+1) (hfu:15≤fuel) (hG:GoodG g) (hS:SigA H s1 s2 s3 g) (hB:Book H p s1 s2 s3 g) (hm:m≤H.next) {id3:Nat} (hT:LeanT g H id3) :
  ∃b H',u9 (LCo L0) m H (some p) ⟨some ⟨id3,0,none⟩,g.datas.length,g.datas.length⟩=some (b,H')∧Ext H H'∧(b=true↔NestP g):=by
 have hd:=hS.d.n;have hadd:∀j,(p.add 0).add j=p.add (0+j):=fun j=>add2 hB.c1 0 j;have r1:rd deSl H ((p.add 0).add 1)=some s2:=by rw [hadd,hB.c2.rd]; rfl
 obtain ⟨H',h1,h2⟩:=zen (xs:=g.datas) (body:=R3 (LCo L0) m ⟨some ⟨id3,0,none⟩,g.datas.length,g.datas.length⟩ p s2) (fun i d=>∃c∈d.cons,∃x∈c.sels,NestX g i x) (H0:=H)
  (fun i hi G hG1=>by
   obtain ⟨q,g1,g2⟩:=hS.d.get hi (v:=(i:Int)) rfl;obtain ⟨z,e1,e2⟩:=g2.ex;have r0:rd deS G (q.add 0)=some (g.datas[i]).n:=by rw [(g2.n.ext hG1).rd]; rfl
   have r1:rd deSl G (q.add 1)=some z:=by rw [(e1.ext hG1).rd]; rfl
   obtain ⟨G1,k1,k2⟩:=zob hF hfu hG hB hm hT hi (x2:=s2) (n6:=(g.datas[i]).n) e2 hG1;refine ⟨G1,k1,?_⟩;rcases k2 with ⟨hp,hb⟩ | ⟨hp,hb⟩
   ·refine .inl ⟨hp,?_⟩;unfold R3;simp only [if_pos (show (i:Int)<(s2.n:Int) by omega),g1,Option.bind_some,r0,r1];show Option.bind (loopO (L2 (LCo L0) m ⟨some ⟨id3,0,none⟩,g.datas.length,g.datas.length⟩ p s2 (i:Int) (g.datas[i]).n z) (G,0)) _=_;rw [hb];rfl
   ·refine .inr ⟨hp,?_⟩;unfold R3;simp only [if_pos (show (i:Int)<(s2.n:Int) by omega),g1,Option.bind_some,r0,r1];show Option.bind (loopO (L2 (LCo L0) m ⟨some ⟨id3,0,none⟩,g.datas.length,g.datas.length⟩ p s2 (i:Int) (g.datas[i]).n z) (G,0)) _=_;rw [hb];simp only [Option.bind_some];rw [V1 hi hS.d.len])
  (fun G hG1=>by
   unfold R3;simp only [if_neg (show ¬((g.datas.length:Int)<(s2.n:Int)) by omega)])
  g.datas.length 0 H (by omega) (Fm.refl _ _)
 have iff:(∃j,∃h:j<g.datas.length,0≤j∧∃c∈(g.datas[j]).cons,∃x∈c.sels,NestX g j x)↔NestP g:=by
  constructor
  ·rintro ⟨j,hj,_,hp⟩; exact ⟨j,hj,hp⟩
  ·rintro ⟨j,hj,hp⟩; exact ⟨j,hj,Nat.zero_le _,hp⟩
 rw [iff] at h2;unfold u9;simp only [Option.bind_some,r1];show ∃b H',Option.bind (loopO (R3 (LCo L0) m ⟨some ⟨id3,0,none⟩,g.datas.length,g.datas.length⟩ p s2) (H,((0:Nat):Int))) _=_∧_;rcases h2 with ⟨hp,hb⟩ | ⟨hp,hb⟩
 ·exact ⟨true,H',by rw [hb]; rfl,h1,by simp [hp]⟩
 ·exact ⟨false,H',by rw [hb]; rfl,h1,by simp [hp]⟩
end
end Go.Proofs.YtccbilfbhecdaaaGreatDoor
namespace Go.Proofs.YtccbilfbhecdaaaGreatDoor
open Go Go.Abs
set_option maxRecDepth 100000
def mkL (bl:List Bool) (l:List Nat):List Bool:=l.foldl (fun b i=>b.set i true) bl
theorem z6d:∀(l:List Nat) (bl:List Bool),(mkL bl l).length=bl.length
 | [],bl=>rfl
 | x :: l,bl=>by
  show (mkL (bl.set x true) l).length=_;rw [z6d l,List.length_set]
theorem zhl (bl:List Bool) (l l':List Nat):mkL bl (l++l')=mkL (mkL bl l) l':=by unfold mkL; rw [List.foldl_append]
theorem zld:∀(l:List Nat) (bl:List Bool) (k:Nat),(∃h:k<(mkL bl l).length,(mkL bl l)[k]=true)↔(∃h:k<bl.length,bl[k]=true)∨(k∈l∧k<bl.length)
 | [],bl,k=>by simp [mkL]
 | x :: l,bl,k=>by
  have ih:=zld l (bl.set x true) k;have e:mkL bl (x :: l)=mkL (bl.set x true) l:=rfl;rw [e,ih,z9];simp only [List.length_set,List.mem_cons];constructor
  ·rintro ((h | ⟨rfl,h⟩) | ⟨h,h'⟩)
   ·exact .inl h
   ·exact .inr ⟨.inl rfl,h⟩
   ·exact .inr ⟨.inr h,h'⟩
  ·rintro (h | ⟨rfl | h,h'⟩)
   ·exact .inl (.inl h)
   ·exact .inl (.inr ⟨rfl,h'⟩)
   ·exact .inr ⟨h,h'⟩
def rtF (ds:List Dat) (inside:Bool):Bool→Fo→List Nat
 | _,.nil=>[]
 | arr,.cons k _ n a r=>(if k=6∧(inside=false∨arr=true) then [ixS ds n] else [])++rtF ds inside (arr||decide (k=4)) a++rtF ds inside arr r
def rtS (ds:List Dat) (inside arr:Bool) (k:Int) (n:ByteArray) (a:Fo):List Nat:=(if k=6∧(inside=false∨arr=true) then [ixS ds n] else [])++rtF ds inside (arr||decide (k=4)) a
theorem zh6 (ds:List Dat):∀(a:Fo) (inside arr:Bool),shF a=true→(inside=false∨arr=true)→rtF ds inside arr a=dtF ds a
 | .nil,_,_,_,_=>rfl
 | .cons k w n a r,inside,arr,hs,h=>by
  simp only [shF,Bool.and_eq_true] at hs;have h1:=zh6 ds a inside (arr||decide (k=4)) hs.1.2 (by rcases h with h | h; exact .inl h; exact .inr (by simp [h]));have h2:=zh6 ds r inside arr hs.2 h;simp only [rtF,dtF,h1,h2];by_cases h6:k=6
  ·have:=z4k (k:=k) (w:=w) (n:=n) (a:=a) (by simp only [shS,Bool.and_eq_true]; exact hs.1) (.inr h6);subst this;simp [h6,h,dtF]
  ·simp [h6]
theorem zqh (ds:List Dat) {k w:Int} {n:ByteArray} {a:Fo} (inside:Bool) (hs:shS k w n a=true):rtS ds inside false k n a=dtI ds inside k n a:=by
 have hF:shF a=true:=by simp only [shS,Bool.and_eq_true] at hs; exact hs.2
 unfold rtS dtI;by_cases h6:k=6
 ·have:=z4k hs (.inr h6);subst this;cases inside <;> simp [h6,rtF,dtF]
 ·by_cases h4:k=4
  ·have e:=zh6 ds a inside (false||decide (k=4)) hF (.inr (by simp [h4]));rw [e];simp [h6]
  ·have:a=.nil:=by
    rcases S8 hs with ⟨h,_⟩ | ⟨h,_⟩
    ·exact h
    ·exact absurd h h4
   subst this;simp [h6,rtF,dtF]
theorem zji {α R:Type} {m:Nat} {xs:List α} {body:AH×Int→Option (Lp (AH×Int) R)} (f:α→List Nat) {H0:AH} {idm N:Nat} (hid:H0.next≤idm)
  (step:∀(i:Nat) (hi:i<xs.length) (H:AH) (bl:List Bool),Ext H0 H→ArrV 4 m H idm (bV bl)→bl.length=N→∃H',body (H,(i:Int))=some (.next (H',((i+1:Nat):Int)))∧ArrV 4 m H' idm (bV (mkL bl (f xs[i])))∧Fm (fun j=>j=idm) H H')
  (he:∀H,Ext H0 H→body (H,(xs.length:Int))=some (.brk (H,(xs.length:Int)))) :
  ∀(d i:Nat) (H:AH) (bl:List Bool),i+d=xs.length→Ext H0 H→ArrV 4 m H idm (bV bl)→bl.length=N →
   ∃H',loopO body (H,(i:Int))=some (.inl (H',(xs.length:Int)))∧ArrV 4 m H' idm (bV (mkL bl ((xs.drop i).flatMap f)))∧Fm (fun j=>j=idm) H H':=by
 intro d;induction d with
 | zero =>
  intro i H bl hi hx ha hl;have:i=xs.length:=by omega
  subst this;refine ⟨H,Y1 (he H hx),?_,Fm.refl _ _⟩;rw [List.drop_length];exact ha
 | succ d ih =>
  intro i H bl hi hx ha hl;have hlt:i<xs.length:=by omega
  obtain ⟨H1,b1,b2,b3⟩:=step i hlt H bl hx ha hl;have x1:Ext H0 H1:=hx.comp b3 fun id hid' _ h=>by omega
  obtain ⟨H2,c1,c2,c3⟩:=ih (i+1) H1 _ (by omega) x1 b2 (by rw [z6d]; exact hl);refine ⟨H2,by rw [W1 b1]; exact c1,?_,b3.comp c3 fun _ _ h=>h⟩;rw [List.drop_eq_getElem_cons hlt,List.flatMap_cons,zhl];exact c2
section
variable {m:Nat} {H0 H:AH} {s1 s2 s3:Sl3} {g:Sg} {L0 fuel:Nat}
theorem zmg (c:Nat) {idm N:Nat} (hS:SigA H0 s1 s2 s3 g) (hid:H0.next≤idm) (hN:N=g.datas.length):∀(d fuel:Nat) (H:AH) (bl:List Bool) (k w:Int) (n:ByteArray) (s:Sl3) (a:Fo) (inside arr:Bool),Ext H0 H→ArrV 4 m H idm (bV bl)→bl.length=N→SlF H0 s a→shS k w n a=true→knS g.users g.datas k n a=true→a.dep≤fuel→a.dep<d →
  ∃H',X6 (LCo c) (fuel+1) m H k w n s s1 s2 s3 inside arr ⟨some ⟨idm,0,none⟩,N,N⟩=some H'∧ArrV 4 m H' idm (bV (mkL bl (rtS g.datas inside arr k n a)))∧Fm (fun j=>j=idm) H H':=by
 intro d;induction d with
 | zero=>intro fuel H bl k w n s a inside arr _ _ _ _ _ _ _ h; omega
 | succ d ih =>
  intro fuel H bl k w n s a inside arr hx ha hl h hsh hkn hf hd;show ∃H',l9 (LCo c) (X6 (LCo c) fuel) m H k w n s s1 s2 s3 inside arr ⟨some ⟨idm,0,none⟩,N,N⟩=some H'∧_;unfold l9;have own:∃H1,(Option.bind (α:=Bool) (if k=6 then (if inside=true then some arr else some true) else some false) fun v20_2=>if v20_2=true then (S3 (LCo c) H s1 s2 s3 n).bind fun x3=>(idxA 1 (⟨some ⟨idm,0,none⟩,N,N⟩:Sl3) x3).bind fun p4=>(H.setCell m p4 (Value.bool true)).bind fun H5=>some H5 else some H)=some H1 ∧
    ArrV 4 m H1 idm (bV (mkL bl (if k=6∧(inside=false∨arr=true) then [ixS g.datas n] else [])))∧Fm (fun j=>j=idm) H H1:=by
   by_cases hc:k=6∧(inside=false∨arr=true)
   ·rw [if_pos hc];have hk:=hkn;unfold knS at hk;rw [if_neg (by omega),if_pos hc.1] at hk;have hlt:=ix_lt hk;have hD:=z4s c (hS.ext hx) n;have hD:S3 (LCo c) H s1 s2 s3 n=some ((ixS g.datas n:Nat):Int):=by
     rw [hD];unfold ixS;obtain ⟨i,hi⟩:=Option.isSome_iff_exists.1 hk;rw [hi];rfl
    obtain ⟨H1,c1,c2,c3,c4⟩:=ha.set (i:=ixS g.datas n) (by simp [bV]; omega) (.bool true);refine ⟨H1,?_,by rw [bV_set] at c2; exact c2,c3⟩;have hb:(if inside=true then some arr else some true)=some true:=by
     rcases hc.2 with rfl | rfl
     ·rfl
     ·cases inside <;> rfl
    simp only [if_pos hc.1,hb,Option.bind_some,if_true,hD,X3 (show ixS g.datas n<N by omega) rfl,c1]
   ·rw [if_neg hc];refine ⟨H,?_,ha,Fm.refl _ _⟩;have hb:(if k=6 then (if inside=true then some arr else some true) else some false)=some false:=by
     by_cases h6:k=6
     ·rw [if_pos h6];cases inside with
      | false=>exact absurd ⟨h6,.inl rfl⟩ hc
      | true =>
       cases arr with
       | false=>rfl
       | true=>exact absurd ⟨h6,.inr rfl⟩ hc
     ·rw [if_neg h6]
    rw [hb];rfl
  obtain ⟨H1,o1,o2,o3⟩:=own;have x1:Ext H0 H1:=hx.comp o3 fun id hid' _ h=>by omega
  have hshF:shF a=true:=by simp only [shS,Bool.and_eq_true] at hsh; exact hsh.2
  have hknF:a=.nil∨knF g.users g.datas a=true:=by
   by_cases h56:k=5∨k=6
   ·exact .inl (z4k hsh h56)
   ·unfold knS at hkn;rw [if_neg (by omega),if_neg (by omega)] at hkn;exact .inr hkn
  have loop:∀(f:Fo) (i:Nat) (G:AH) (bl:List Bool),FoA H0 s.p i f→s.n=i+f.len→f.dep≤a.dep→shF f=true→(f=.nil∨knF g.users g.datas f=true)→Ext H0 G→ArrV 4 m G idm (bV bl)→bl.length=N →
    ∃G',loopO (D6 (LCo c) (X6 (LCo c) fuel) m k w n s s1 s2 s3 inside arr ⟨some ⟨idm,0,none⟩,N,N⟩) (G,(i:Int))=some (.inl (G',(s.n:Int)))∧ArrV 4 m G' idm (bV (mkL bl (rtF g.datas inside (arr||decide (k=4)) f)))∧Fm (fun j=>j=idm) G G':=by
   intro f;induction f with
   | nil =>
    intro i G bl hA hn _ _ _ hx ha hl;simp only [Fo.len,Nat.add_zero] at hn;subst hn;refine ⟨G,Y1 ?_,ha,Fm.refl _ _⟩;unfold D6;simp only [if_neg (show ¬((s.n:Int)<(s.n:Int)) by omega)]
   | cons k1 w1 n1 a1 r iha ihr =>
    intro i G bl hA hn hdep hs1 hk1 hx ha hl;simp only [Fo.len] at hn;simp only [Fo.dep] at hdep;simp only [shF,Bool.and_eq_true] at hs1;have hk1':=hk1.resolve_left (by simp);simp only [knF,Bool.and_eq_true] at hk1';obtain ⟨q,t1,q1,q2,q3,q4,q5,q6,q7,q8⟩:=hA.rd (s:=s) (by omega);obtain ⟨_,_,q1',q2',q3',q4',q5',_,_,_⟩:=(hA.ext hx).rd (s:=s) (by omega);rw [q1] at q1'; cases q1';have hq5:rd deSl G (q.add 3)=some t1:=by
     obtain ⟨⟨qq,ss,z1,z2,z3,z4,z5⟩,_⟩:=hA;have e1:=J6 (sz:=4) z1 (v:=(i:Int)) rfl (show i<s.n by omega);rw [q1] at e1; cases e1;have r1:rd deSl H0 ((qq.add (i*4)).add 3)=some ss:=by rw [z2.cs.rd]; rfl
     rw [r1] at q5; cases q5;rw [(z2.cs.ext hx).rd]; rfl
    obtain ⟨g',rfl⟩:∃g',fuel=g'+1:=⟨fuel - 1,by omega⟩;obtain ⟨G1,y1,y2,y3⟩:=ih g' G bl k1 w1 n1 t1 a1 inside (arr||decide (k=4)) hx ha hl q6 (by simp only [shS,Bool.and_eq_true]; exact hs1.1) hk1'.1 (by omega) (by omega);have x2:Ext H0 G1:=hx.comp y3 fun id hid' _ h=>by omega
    obtain ⟨G2,z1,z2,z3⟩:=ihr (i+1) G1 _ q8 (by omega) (by omega) hs1.2 (by cases r with | nil=>exact .inl rfl | cons=>exact .inr hk1'.2) x2 y2 (by rw [z6d]; exact hl);refine ⟨G2,?_,?_,y3.comp z3 fun _ _ h=>h⟩
    ·have hb:D6 (LCo c) (X6 (LCo c) (g'+1)) m k w n s s1 s2 s3 inside arr ⟨some ⟨idm,0,none⟩,N,N⟩ (G,(i:Int))=some (.next (G1,((i+1:Nat):Int))):=by
      unfold D6;simp only [if_pos (show (i:Int)<(s.n:Int) by omega),q1,q2',q3',q4',hq5,Option.bind_some];cases arr with
      | true =>
       simp only [Bool.true_or] at y1;simp only [if_true,y1,Option.bind_some];rw [V1 (n:=s.n) (by omega) h.2.1]
      | false =>
       simp only [Bool.false_or] at y1;simp only [Bool.false_eq_true,if_false,y1,Option.bind_some];rw [V1 (n:=s.n) (by omega) h.2.1]
     rw [W1 hb];exact z1
    ·have e:rtF g.datas inside (arr||decide (k=4)) (.cons k1 w1 n1 a1 r)=rtS g.datas inside (arr||decide (k=4)) k1 n1 a1++rtF g.datas inside (arr||decide (k=4)) r:=rfl;rw [e,zhl];exact z2
  obtain ⟨H2,l1,l2,l3⟩:=loop a 0 H1 _ h.2.2 (by rw [h.1]; omega) (Nat.le_refl _) hshF hknF x1 o2 (by rw [z6d]; exact hl);refine ⟨H2,?_,?_,o3.comp l3 fun _ _ h=>h⟩
  ·rw [o1];simp only [Option.bind_some];show Option.bind (loopO (D6 (LCo c) (X6 (LCo c) fuel) m k w n s s1 s2 s3 inside arr ⟨some ⟨idm,0,none⟩,N,N⟩) (H1,((0:Nat):Int))) _=_;rw [l1];rfl
  ·unfold rtS;rw [zhl];exact l2
end
end Go.Proofs.YtccbilfbhecdaaaGreatDoor
namespace Go.Proofs.YtccbilfbhecdaaaGreatDoor
open Go Go.Abs
set_option maxRecDepth 100000
def wiC (ds:List Dat) (inside:Bool) (c:Con):List Nat:=c.sels.flatMap fun x=>dtI ds inside x.k x.sn x.a
def wiD (ds:List Dat) (inside:Bool) (d:Dat):List Nat:=d.cons.flatMap (wiC ds inside)
theorem zn5 (ds:List Dat) (d:Dat):wiD ds false d=stD ds d:=by
 unfold wiD stD wiC stC;simp [dtI,dtS]
theorem zaw:∀(a b:List Bool),a.length=b.length→(∀k (h:k<a.length) (h':k<b.length),a[k]=true→b[k]=true)→(∃k,∃h:k<a.length,∃h':k<b.length,b[k]=true∧a[k]=false)→freeN b<freeN a
 | [],[],_,_,⟨k,h,_⟩=>absurd h (Nat.not_lt_zero _)
 | [],_ :: _,h,_,_=>by simp at h
 | _ :: _,[],h,_,_=>by simp at h
 | x :: a,y :: b,hl,hm,⟨k,h,h',hb,ha⟩=>by
  have hl':a.length=b.length:=by simpa using hl
  have hm':∀k (h:k<a.length) (h':k<b.length),a[k]=true→b[k]=true:=fun k h h' hh=>by
   have:=hm (k+1) (by simp; omega) (by simp; omega) (by simpa using hh)
   simpa using this
  have le:freeN b≤freeN a:=by
   by_cases e:∃k,∃h:k<a.length,∃h':k<b.length,b[k]=true∧a[k]=false
   ·exact Nat.le_of_lt (zaw a b hl' hm' e)
   ·have:a=b:=by
     refine List.ext_getElem hl' fun i h1 h2=>?_;cases hai:a[i] with
     | true=>rw [hm' i h1 h2 hai]
     | false =>
      cases hbi:b[i] with
      | false=>rfl
      | true=>exact absurd ⟨i,h1,h2,hbi,hai⟩ e
    rw [this];exact Nat.le_refl _
  have c0:=hm 0 (by simp) (by simp);simp only [List.getElem_cons_zero] at c0;unfold freeN at le ⊢;rw [List.countP_cons,List.countP_cons];cases k with
  | zero =>
   simp only [List.getElem_cons_zero] at hb ha;subst hb ha;simp;omega
  | succ k =>
   have hlt:=zaw a b hl' hm' ⟨k,by simpa using h,by simpa using h',by simpa using hb,by simpa using ha⟩;unfold freeN at hlt;cases x with
   | true=>rw [c0 rfl]; simpa using hlt
   | false=>cases y <;> simp <;> omega
section
variable {m:Nat} {H0 H:AH} {s1 s2 s3:Sl3} {g:Sg} {L0 fuel:Nat}
theorem z8p (hF:L0=fuel+1) (hfu:15≤fuel) (hG:GoodG g) (hS:SigA H s1 s2 s3 g) (hm:m≤H.next) {i:Nat} (hi:i<g.datas.length) (inside:Bool) :
  ∃id bl H',r9 (LCo L0) m H s1 s2 s3 (i:Int) inside=some (⟨some ⟨id,0,none⟩,g.datas.length,g.datas.length⟩,H')∧Ext H H'∧H.next≤id∧ArrV 4 m H' id (bV bl)∧bl.length=g.datas.length∧∀k (h:k<bl.length),bl[k]=true↔k∈wiD g.datas inside g.datas[i]:=by
 have hd:=hS.d.n;have hnn:=I3 hG;obtain ⟨H2,b1,b2,b3,b4⟩:=z9i (e:=4) (bytes:=1) (m:=m) (H:=H) (z:=.bool false) (n:=g.datas.length) (by omega) (by omega) hm;have b2':ArrV 4 m H2 H.next (bV (List.replicate g.datas.length false)):=by
  have:bV (List.replicate g.datas.length false)=List.replicate g.datas.length (Value.bool false):=by simp [bV]
  rw [this]; exact b2
 obtain ⟨qk,gk1,gk2⟩:=hS.d.get hi (v:=(i:Int)) rfl;obtain ⟨sl,gk3,hc⟩:=gk2.ex;have key:=zji (m:=m) (xs:=(g.datas[i]).cons) (body:=S5 (LCo L0) m s1 s2 s3 (i:Int) inside ⟨some ⟨H.next,0,none⟩,g.datas.length,g.datas.length⟩) (wiC g.datas inside) (H0:=H) (idm:=H.next) (N:=g.datas.length) (Nat.le_refl _)
  (fun j hj G bl hx ha hl=>by
   have hln:=hc.n;have rk:rd deSl G (qk.add 1)=some sl:=by rw [(gk3.ext hx).rd]; rfl
   obtain ⟨q,g1,g2⟩:=hc.get hj (v:=(j:Int)) rfl;obtain ⟨z,e1,e2⟩:=g2.ex;have r0:rd deS G (q.add 0)=some (g.datas[i]).cons[j].n:=by rw [(g2.n.ext hx).rd]; rfl
   have r1:rd deSl G (q.add 1)=some z:=by rw [(e1.ext hx).rd]; rfl
   have key2:=zji (m:=m) (xs:=(g.datas[i]).cons[j].sels) (body:=T5 (LCo L0) m s1 s2 s3 (i:Int) inside ⟨some ⟨H.next,0,none⟩,g.datas.length,g.datas.length⟩ (j:Int) (g.datas[i]).cons[j].n z) (fun x=>dtI g.datas inside x.k x.sn x.a) (H0:=H) (idm:=H.next) (N:=g.datas.length) (Nat.le_refl _)
    (fun t ht G bl hx ha hl=>by
     have hln:=e2.n;obtain ⟨q',k1,k2⟩:=e2.get ht (v:=(t:Int)) rfl;obtain ⟨y,f1,f2,f3,f4,f5,f6⟩:=k2.ex;have hadd:∀j,(q'.add 1).add j=q'.add (1+j):=fun j=>add2 k2.n 1 j;have r1:rd (deI .i64) G ((q'.add 1).add 0)=some ((g.datas[i]).cons[j].sels[t]).k:=by rw [hadd,(f1.ext hx).rd]; rfl
     have r2:rd (deI .i64) G ((q'.add 1).add 1)=some ((g.datas[i]).cons[j].sels[t]).w:=by rw [hadd,(f2.ext hx).rd]; rfl
     have r3:rd deS G ((q'.add 1).add 2)=some ((g.datas[i]).cons[j].sels[t]).sn:=by rw [hadd,(f3.ext hx).rd]; rfl
     have r4:rd deSl G ((q'.add 1).add 3)=some y:=by rw [hadd,(f4.ext hx).rd]; rfl
     have hs:=hG.sel _ (List.getElem_mem hi) _ (List.getElem_mem hj) _ (List.getElem_mem ht);obtain ⟨G1,y1,y2,y3⟩:=zmg (m:=m) L0 hS (Nat.le_refl _) rfl (((g.datas[i]).cons[j].sels[t]).a.dep+1) fuel G bl ((g.datas[i]).cons[j].sels[t]).k ((g.datas[i]).cons[j].sels[t]).w ((g.datas[i]).cons[j].sels[t]).sn y ((g.datas[i]).cons[j].sels[t]).a inside false hx ha hl f6 hs.sh hs.kn (by have:=hs.dp; omega) (by omega);rw [zqh g.datas inside hs.sh] at y2;refine ⟨G1,?_,y2,y3⟩;have e1':(LCo L0).fuel=fuel+1:=hF;unfold T5 z94;rw [e1'];simp only [if_pos (show (t:Int)<(z.n:Int) by omega),k1,Option.bind_some,r1,r2,r3,r4,y1];rw [V1 ht e2.len])
    (fun G hx=>by
     unfold T5;have hln:=e2.n;simp only [if_neg (show ¬(((g.datas[i]).cons[j].sels.length:Int)<(z.n:Int)) by omega)])
    (g.datas[i]).cons[j].sels.length 0 G bl (by omega) hx ha hl
   rw [List.drop_zero] at key2;obtain ⟨G1,y1,y2,y3⟩:=key2;refine ⟨G1,?_,y2,y3⟩;unfold S5;simp only [gk1,Option.bind_some,rk,if_pos (show (j:Int)<(sl.n:Int) by omega),g1,r0,r1];show Option.bind (loopO (T5 (LCo L0) m s1 s2 s3 (i:Int) inside ⟨some ⟨H.next,0,none⟩,g.datas.length,g.datas.length⟩ (j:Int) (g.datas[i]).cons[j].n z) (G,0)) _=_;have y1':loopO (T5 (LCo L0) m s1 s2 s3 (i:Int) inside ⟨some ⟨H.next,0,none⟩,g.datas.length,g.datas.length⟩ (j:Int) (g.datas[i]).cons[j].n z) (G,0)=_:=y1;rw [y1'];simp only [Option.bind_some];rw [V1 hj hc.len])
  (fun G hx=>by
   have rk:rd deSl G (qk.add 1)=some sl:=by rw [(gk3.ext hx).rd]; rfl
   have hln:=hc.n;unfold S5;simp only [gk1,Option.bind_some,rk,if_neg (show ¬(((g.datas[i]).cons.length:Int)<(sl.n:Int)) by omega)])
  (g.datas[i]).cons.length 0 H2 _ (by omega) b3 b2' (by simp)
 rw [List.drop_zero] at key;obtain ⟨H',c1,c2,c3⟩:=key;refine ⟨H.next,_,H',?_,b3.comp c3 fun id hid _ h=>by omega,Nat.le_refl _,c2,by rw [z6d]; simp,fun k hk=>?_⟩
 ·unfold r9;simp only [hd,b1,Option.bind_some];show Option.bind (loopO (S5 (LCo L0) m s1 s2 s3 (i:Int) inside ⟨some ⟨H.next,0,none⟩,g.datas.length,g.datas.length⟩) (H2,0)) _=_;have c1':loopO (S5 (LCo L0) m s1 s2 s3 (i:Int) inside ⟨some ⟨H.next,0,none⟩,g.datas.length,g.datas.length⟩) (H2,0)=_:=c1;rw [c1'];rfl
 ·have hk':k<g.datas.length:=by rw [z6d] at hk; simpa using hk
  have:=zld ((g.datas[i]).cons.flatMap (wiC g.datas inside)) (List.replicate g.datas.length false) k;constructor
  ·intro h;rcases this.1 ⟨hk,h⟩ with ⟨h1,h2⟩ | h1
   ·simp at h2
   ·exact h1.1
  ·intro h;exact (this.2 (.inr ⟨h,by simpa using hk'⟩)).2
theorem zdl {i k:Nat} (hi:i<g.datas.length):k∈wiD g.datas false g.datas[i]↔EdgS g i k:=by
 rw [zn5];exact ⟨fun h=>⟨hi,h⟩,fun ⟨_,h⟩=>h⟩
theorem zni (c:Nat) {idm idn n:Nat} {v7:Int} {bl nb:List Bool} {v6:Bool} (hne:idm≠idn) (hnl:nb.length=n) (hbl:bl.length=n) (hn:n≤4096) (ha:ArrV 4 m H idm (bV bl)) (hb:ArrV 4 m H idn (bV nb)) :
  ∃H' bl' v',loopO (Z3 (LCo c) m s1 s2 s3 ⟨some ⟨idm,0,none⟩,n,n⟩ v7 ⟨some ⟨idn,0,none⟩,n,n⟩) (H,v6,0)=some (.inl (H',v',(n:Int)))∧ArrV 4 m H' idm (bV bl')∧bl'.length=n∧Fm (fun j=>j=idm) H H' ∧
   (∀k (h:k<bl'.length) (h1:k<bl.length) (h2:k<nb.length),bl'[k]=true↔(bl[k]=true∨nb[k]=true))∧(v'=true↔v6=true∨∃k,∃h1:k<bl.length,∃h2:k<nb.length,nb[k]=true∧bl[k]=false):=by
 have key:∀(d i:Nat) (G:AH) (bc:List Bool) (v:Bool),i+d=n→ArrV 4 m G idm (bV bc)→ArrV 4 m G idn (bV nb)→bc.length=n →
   ∃H' bl' v',loopO (Z3 (LCo c) m s1 s2 s3 ⟨some ⟨idm,0,none⟩,n,n⟩ v7 ⟨some ⟨idn,0,none⟩,n,n⟩) (G,v,(i:Int))=some (.inl (H',v',(n:Int)))∧ArrV 4 m H' idm (bV bl')∧bl'.length=n∧Fm (fun j=>j=idm) G H' ∧
    (∀k (h:k<bl'.length) (h1:k<bc.length) (h2:k<nb.length),bl'[k]=true↔(bc[k]=true∨(i≤k∧nb[k]=true)))∧(v'=true↔v=true∨∃k,∃h1:k<bc.length,∃h2:k<nb.length,i≤k∧nb[k]=true∧bc[k]=false):=by
  intro d;induction d with
  | zero =>
   intro i G bc v hi ha hb hl;obtain rfl:i=n:=by omega
   refine ⟨G,bc,v,Y1 ?_,ha,hl,Fm.refl _ _,fun k h h1 h2=>?_,?_⟩
   ·unfold Z3;simp only [if_neg (show ¬((i:Int)<(i:Int)) by omega)]
   ·constructor
    ·exact fun h=>.inl h
    ·rintro (h | ⟨h,_⟩)
     ·exact h
     ·omega
   ·constructor
    ·exact fun h=>.inl h
    ·rintro (h | ⟨k,h1,h2,h3,_⟩)
     ·exact h
     ·omega
  | succ d ih =>
   intro i G bc v hi ha hb hl;have hin:i<n:=by omega
   have hib:i<bc.length:=by omega
   have hinb:i<nb.length:=by omega
   have rn:rd deB G ((⟨idn,0,none⟩:Addr).add (i*1))=some nb[i]:=by rw [(hb.cel (show (bV nb)[i]? = some (.bool nb[i]) by simp [bV,hinb])).rd]; rfl
   have rm:rd deB G ((⟨idm,0,none⟩:Addr).add (i*1))=some bc[i]:=by rw [(ha.cel (show (bV bc)[i]? = some (.bool bc[i]) by simp [bV,hib])).rd]; rfl
   have im:idxA 1 (⟨some ⟨idm,0,none⟩,n,n⟩:Sl3) (i:Int)=some ((⟨idm,0,none⟩:Addr).add (i*1)):=X3 hin rfl;have inn:idxA 1 (⟨some ⟨idn,0,none⟩,n,n⟩:Sl3) (i:Int)=some ((⟨idn,0,none⟩:Addr).add (i*1)):=X3 hin rfl;by_cases hch:nb[i]=true∧bc[i]=false
   ·obtain ⟨G1,c1,c2,c3,c4⟩:=ha.set (i:=i) (by simp [bV]; omega) (.bool true);rw [bV_set] at c2;have hb1:=hb.fr c3 (fun h=>hne h.symm);obtain ⟨H',bl',v',w1,w2,w3,w4,w5,w6⟩:=ih (i+1) G1 (bc.set i true) true (by omega) c2 hb1 (by simp [hl]);refine ⟨H',bl',v',?_,w2,w3,c3.comp w4 fun _ _ h=>h,fun k h h1 h2=>?_,?_⟩
    ·have hbody:Z3 (LCo c) m s1 s2 s3 ⟨some ⟨idm,0,none⟩,n,n⟩ v7 ⟨some ⟨idn,0,none⟩,n,n⟩ (G,v,(i:Int))=some (.next (G1,true,((i+1:Nat):Int))):=by
      unfold Z3;simp only [if_pos (show (i:Int)<(n:Int) by omega),inn,Option.bind_some,rn,hch.1,if_true,im,rm,hch.2,Bool.not_false,c1];rw [V1 hin (by rw [B2]; omega)]
     rw [W1 hbody];exact w1
    ·rw [w5 k h (by simpa using h1) h2,List.getElem_set];by_cases e:i=k
     ·subst e;simp [hch.1]
     ·rw [if_neg e];constructor
      ·rintro (h | ⟨h,h'⟩)
       ·exact .inl h
       ·exact .inr ⟨by omega,h'⟩
      ·rintro (h | ⟨h,h'⟩)
       ·exact .inl h
       ·exact .inr ⟨by omega,h'⟩
    ·rw [w6];constructor
     ·intro _; exact .inr ⟨i,hib,hinb,Nat.le_refl _,hch⟩
     ·intro _; exact .inl rfl
   ·have hcond:(if nb[i]=true then some (!bc[i]) else some false)=some false:=by
     cases hnb:nb[i] with
     | false=>rfl
     | true =>
      cases hbc:bc[i] with
      | true=>rfl
      | false=>exact absurd ⟨hnb,hbc⟩ hch
    obtain ⟨H',bl',v',w1,w2,w3,w4,w5,w6⟩:=ih (i+1) G bc v (by omega) ha hb hl;refine ⟨H',bl',v',?_,w2,w3,w4,fun k h h1 h2=>?_,?_⟩
    ·have hbody:Z3 (LCo c) m s1 s2 s3 ⟨some ⟨idm,0,none⟩,n,n⟩ v7 ⟨some ⟨idn,0,none⟩,n,n⟩ (G,v,(i:Int))=some (.next (G,v,((i+1:Nat):Int))):=by
      unfold Z3;simp only [if_pos (show (i:Int)<(n:Int) by omega),inn,Option.bind_some,rn,im,rm,hcond,Bool.false_eq_true,if_false];rw [V1 hin (by rw [B2]; omega)]
     rw [W1 hbody];exact w1
    ·rw [w5 k h h1 h2];constructor
     ·rintro (h | ⟨h,h'⟩)
      ·exact .inl h
      ·exact .inr ⟨by omega,h'⟩
     ·rintro (h | ⟨h,h'⟩)
      ·exact .inl h
      ·by_cases e:i=k
       ·subst e;cases hbc:bc[i] with
        | true=>exact .inl rfl
        | false=>exact absurd ⟨h',hbc⟩ hch
       ·exact .inr ⟨by omega,h'⟩
    ·rw [w6];constructor
     ·rintro (h | ⟨k,h1,h2,h3,h4⟩)
      ·exact .inl h
      ·exact .inr ⟨k,h1,h2,by omega,h4⟩
     ·rintro (h | ⟨k,h1,h2,h3,h4⟩)
      ·exact .inl h
      ·by_cases e:i=k
       ·subst e; exact absurd h4 hch
       ·exact .inr ⟨k,h1,h2,by omega,h4⟩
 obtain ⟨H',bl',v',w1,w2,w3,w4,w5,w6⟩:=key n 0 H bl v6 (by omega) ha hb hbl;refine ⟨H',bl',v',w1,w2,w3,w4,fun k h h1 h2=>?_,?_⟩
 ·rw [w5 k h h1 h2]; simp
 ·rw [w6]; simp
end
end Go.Proofs.YtccbilfbhecdaaaGreatDoor
namespace Go.Proofs.YtccbilfbhecdaaaGreatDoor
open Go Go.Abs
set_option maxRecDepth 100000
def On (bl:List Bool) (k:Nat):Prop:=∃h:k<bl.length,bl[k]=true
theorem zi3 {α R:Type} {xs:List α} {body:AH×Int→Option (Lp (AH×Int) R)} (r:AH→R) (P:Nat→α→Prop) {H0:AH}
  (step:∀(i:Nat) (hi:i<xs.length) (H:AH),Ext H0 H→∃H',Ext H0 H'∧((P i xs[i]∧body (H,(i:Int))=some (.ret (r H')))∨(¬P i xs[i]∧body (H,(i:Int))=some (.next (H',((i+1:Nat):Int))))))
  (he:∀H,Ext H0 H→body (H,(xs.length:Int))=some (.brk (H,(xs.length:Int)))) :
  ∀(d i:Nat) (H:AH),i+d=xs.length→Ext H0 H→∃H',Ext H0 H'∧(((∃j,∃h:j<xs.length,i≤j∧P j xs[j])∧loopO body (H,(i:Int))=some (.inr (r H')))∨((¬∃j,∃h:j<xs.length,i≤j∧P j xs[j])∧loopO body (H,(i:Int))=some (.inl (H',(xs.length:Int))))):=by
 intro d;induction d with
 | zero =>
  intro i H hi hx;have:i=xs.length:=by omega
  subst this;refine ⟨H,hx,.inr ⟨?_,Y1 (he H hx)⟩⟩
  rintro ⟨j,h,h',_⟩
  omega
 | succ d ih =>
  intro i H hi hx;have hlt:i<xs.length:=by omega
  obtain ⟨H1,x1,h⟩:=step i hlt H hx;rcases h with ⟨hp,hb⟩ | ⟨hp,hb⟩
  ·exact ⟨H1,x1,.inl ⟨⟨i,hlt,Nat.le_refl _,hp⟩,N3 hb⟩⟩
  ·obtain ⟨H2,x2,h⟩:=ih (i+1) H1 (by omega) x1;refine ⟨H2,x2,?_⟩;rw [W1 hb];rcases h with ⟨⟨j,hj,h1,h2⟩,h3⟩ | ⟨h1,h3⟩
   ·exact .inl ⟨⟨j,hj,by omega,h2⟩,h3⟩
   ·refine .inr ⟨?_,h3⟩
    rintro ⟨j,hj,h4,h5⟩
    by_cases e:j=i
    ·subst e; exact hp h5
    ·exact h1 ⟨j,hj,by omega,h5⟩
theorem zan {a b:List Bool} (hl:a.length=b.length) (hm:∀k,On a k→On b k):freeN b≤freeN a:=by
 have hm':∀k (h:k<a.length) (h':k<b.length),a[k]=true→b[k]=true:=fun k h _ hh=>(hm k ⟨h,hh⟩).2;by_cases e:∃k,∃h:k<a.length,∃h':k<b.length,b[k]=true∧a[k]=false
 ·exact Nat.le_of_lt (zaw a b hl hm' e)
 ·have:a=b:=by
   refine List.ext_getElem hl fun i h1 h2=>?_;cases hai:a[i] with
   | true=>rw [hm' i h1 h2 hai]
   | false =>
    cases hbi:b[i] with
    | false=>rfl
    | true=>exact absurd ⟨i,h1,h2,hbi,hai⟩ e
  rw [this];exact Nat.le_refl _
section
variable {m:Nat} {H0 H:AH} {s1 s2 s3:Sl3} {g:Sg} {L0 fuel:Nat}
theorem zod (hF:L0=fuel+1) (hfu:15≤fuel) (hG:GoodG g) (hS:SigA H0 s1 s2 s3 g) (hm:m≤H0.next) {idm n d0:Nat} (hn:n=g.datas.length) (hid:H0.next≤idm):∀(t i:Nat) (H:AH) (bl:List Bool) (v:Bool),i+t=n→Ext H0 H→ArrV 4 m H idm (bV bl)→bl.length=n→(∀k,On bl k→Lean1 g d0 k) →
  ∃H' bl' v',loopO (Y3 (LCo L0) m s1 s2 s3 ⟨some ⟨idm,0,none⟩,n,n⟩) (H,v,(i:Int))=some (.inl (H',v',(n:Int)))∧ArrV 4 m H' idm (bV bl')∧bl'.length=n∧Fm (fun j=>j=idm) H H' ∧
   (∀k,On bl' k→Lean1 g d0 k)∧(∀k,On bl k→On bl' k)∧(v=true→v'=true)∧(v'=true→v=true∨freeN bl'<freeN bl)∧(v'=false→bl'=bl∧∀j k,i≤j→On bl j→EdgS g j k→On bl k):=by
 have hnn:n≤4096:=by rw [hn]; exact I3 hG
 intro t;induction t with
 | zero =>
  intro i H bl v hi hx ha hl hs;obtain rfl:i=n:=by omega
  refine ⟨H,bl,v,Y1 ?_,ha,hl,Fm.refl _ _,hs,fun _ h=>h,fun h=>h,fun h=>.inl h,fun _=>⟨rfl,fun j k hj h=>?_⟩⟩
  ·unfold Y3;simp only [if_neg (show ¬((i:Int)<(i:Int)) by omega)]
  ·obtain ⟨h1,_⟩:=h; omega
 | succ t ih =>
  intro i H bl v hi hx ha hl hs;have hin:i<n:=by omega
  have hib:i<bl.length:=by omega
  have hig:i<g.datas.length:=by omega
  have rm:rd deB H ((⟨idm,0,none⟩:Addr).add (i*1))=some bl[i]:=by rw [(ha.cel (show (bV bl)[i]? = some (.bool bl[i]) by simp [bV,hib])).rd]; rfl
  have im:idxA 1 (⟨some ⟨idm,0,none⟩,n,n⟩:Sl3) (i:Int)=some ((⟨idm,0,none⟩:Addr).add (i*1)):=X3 hin rfl;cases hb:bl[i] with
  | false =>
   obtain ⟨H',bl',v',w1,w2,w3,w4,w5,w6,w7,w8,w9⟩:=ih (i+1) H bl v (by omega) hx ha hl hs;refine ⟨H',bl',v',?_,w2,w3,w4,w5,w6,w7,w8,fun hv=>⟨(w9 hv).1,fun j k hj h he=>?_⟩⟩
   ·have hbody:Y3 (LCo L0) m s1 s2 s3 ⟨some ⟨idm,0,none⟩,n,n⟩ (H,v,(i:Int))=some (.next (H,v,((i+1:Nat):Int))):=by
     unfold Y3;rw [hb] at rm;simp only [if_pos (show (i:Int)<(n:Int) by omega),im,rm,Option.bind_some,Bool.false_eq_true,if_false];rw [V1 hin (by rw [B2]; omega)]
    rw [W1 hbody];exact w1
   ·by_cases e:j=i
    ·subst e;obtain ⟨_,h⟩:=h;rw [hb] at h; cases h
    ·exact (w9 hv).2 j k (by omega) h he
  | true =>
   have hmH:m≤H.next:=Nat.le_trans hm hx.1;obtain ⟨idn,nb,H1,c1,c2,c3,c4,c5,c6⟩:=z8p hF hfu hG (hS.ext hx) hmH hig false;have hlow:=ha.low;have hnbl:nb.length=n:=by rw [c5,hn]
   have e1:(⟨some ⟨idn,0,none⟩,g.datas.length,g.datas.length⟩:Sl3)=⟨some ⟨idn,0,none⟩,n,n⟩:=by rw [hn]
   rw [e1] at c1;obtain ⟨H2,bl1,v1,d1,d2,d3,d4,d5,d6⟩:=zni (m:=m) (s1:=s1) (s2:=s2) (s3:=s3) L0 (v7:=(i:Int)) (v6:=v) (show idm≠idn by omega) hnbl hl hnn (ha.ext c2) c4;have x2:Ext H0 H2:=(hx.trans c2).comp d4 fun id hid' _ h=>by omega
   have on1:∀k,On bl1 k↔(On bl k∨EdgS g i k):=fun k=>by
    constructor
    ·rintro ⟨h,h'⟩
     rcases (d5 k h (by omega) (by omega)).1 h' with h1 | h1
     ·exact .inl ⟨by omega,h1⟩
     ·exact .inr ((zdl hig).1 ((c6 k (by omega)).1 h1))
    ·rintro (⟨h,h'⟩ | h)
     ·exact ⟨by omega,(d5 k (by omega) h (by omega)).2 (.inl h')⟩
     ·have hk:=edg_lt hG h;exact ⟨by omega,(d5 k (by omega) (by omega) (by omega)).2 (.inr ((c6 k (by omega)).2 ((zdl hig).2 h)))⟩
   have li:Lean1 g d0 i:=hs i ⟨hib,hb⟩;have s1':∀k,On bl1 k→Lean1 g d0 k:=fun k hk=>by
    rcases (on1 k).1 hk with h | h
    ·exact hs k h
    ·exact .more li h
   obtain ⟨H',bl',v',w1,w2,w3,w4,w5,w6,w7,w8,w9⟩:=ih (i+1) H2 bl1 v1 (by omega) x2 d2 d3 s1';have fm2:Fm (fun j=>j=idm) H H2:=(c2.weak (W':=fun j=>j=idm) fun _ _ h=>h.elim).comp d4 fun _ _ h=>h;refine ⟨H',bl',v',?_,w2,w3,fm2.comp w4 fun _ _ h=>h,w5,fun k hk=>w6 k ((on1 k).2 (.inl hk)),fun h=>w7 (d6.2 (.inl h)),fun h=>?_,fun hv=>?_⟩
   ·have hbody:Y3 (LCo L0) m s1 s2 s3 ⟨some ⟨idm,0,none⟩,n,n⟩ (H,v,(i:Int))=some (.next (H2,v1,((i+1:Nat):Int))):=by
     unfold Y3;rw [hb] at rm;simp only [if_pos (show (i:Int)<(n:Int) by omega),im,rm,Option.bind_some,if_true,c1];show Option.bind (Option.bind (loopO (Z3 (LCo L0) m s1 s2 s3 ⟨some ⟨idm,0,none⟩,n,n⟩ (i:Int) ⟨some ⟨idn,0,none⟩,n,n⟩) (H1,v,0)) _) _=_;rw [d1];simp only [Option.bind_some];rw [V1 hin (by rw [B2]; omega)]
    rw [W1 hbody];exact w1
   ·rcases w8 h with h1 | h1
    ·rcases d6.1 h1 with h2 | ⟨k,k1,k2,k3,k4⟩
     ·exact .inl h2
     ·right;have a1:freeN bl1<freeN bl:=zaw bl bl1 (by omega) (fun k h h' hh=>((on1 k).2 (.inl ⟨h,hh⟩)).2) ⟨k,k1,by omega,(d5 k (by omega) k1 k2).2 (.inr k3),k4⟩;have a2:=zan (a:=bl1) (b:=bl') (by omega) w6;omega
    ·right;have a1:=zan (a:=bl) (b:=bl1) (by omega) fun k hk=>(on1 k).2 (.inl hk);omega
   ·obtain ⟨h1,h2⟩:=w9 hv;have hv1:v1=false:=by
     cases e:v1 with
     | false=>rfl
     | true=>rw [w7 e] at hv; cases hv
    have e1:bl1=bl:=by
     refine List.ext_getElem (by omega) fun k h1 h2=>?_;cases hbk:bl[k] with
     | true=>exact ((on1 k).2 (.inl ⟨h2,hbk⟩)).2
     | false =>
      cases hb1:bl1[k] with
      | false=>rfl
      | true =>
       rcases (d5 k h1 h2 (by omega)).1 hb1 with h | h
       ·rw [hbk] at h; cases h
       ·have:=d6.2 (.inr ⟨k,h2,by omega,h,hbk⟩);rw [hv1] at this; cases this
    subst e1;refine ⟨h1,fun j k hj h he=>?_⟩;by_cases e:j=i
    ·subst e;exact (on1 k).2 (.inr he)
    ·exact h2 j k (by omega) h he
theorem zoa (hF:L0=fuel+1) (hfu:15≤fuel) (hG:GoodG g) (hS:SigA H0 s1 s2 s3 g) (hm:m≤H0.next) {idm n d0:Nat} (hn:n=g.datas.length) (hid:H0.next≤idm):∀(u:Nat) (H:AH) (bl:List Bool),freeN bl=u→Ext H0 H→ArrV 4 m H idm (bV bl)→bl.length=n→(∀k,On bl k→Lean1 g d0 k)→(∀k,EdgS g d0 k→On bl k) →
  ∃H' bl',loopO (I6 (LCo L0) m s1 s2 s3 ⟨some ⟨idm,0,none⟩,n,n⟩) (H,true)=some (.inl (H',false))∧ArrV 4 m H' idm (bV bl')∧bl'.length=n∧Fm (fun j=>j=idm) H H'∧∀k,On bl' k↔Lean1 g d0 k:=by
 intro u;induction u using Nat.strongRecOn with
 | ind u ih =>
  intro H bl hu hx ha hl hs hf;obtain ⟨H1,bl1,v1,w1,w2,w3,w4,w5,w6,w7,w8,w9⟩:=zod hF hfu hG hS hm hn hid n 0 H bl false (by omega) hx ha hl hs;have hbody:I6 (LCo L0) m s1 s2 s3 ⟨some ⟨idm,0,none⟩,n,n⟩ (H,true)=some (.next (H1,v1)):=by
   unfold I6;simp only [if_true];show Option.bind (loopO (Y3 (LCo L0) m s1 s2 s3 ⟨some ⟨idm,0,none⟩,n,n⟩) (H,false,0)) _=_;have w1':loopO (Y3 (LCo L0) m s1 s2 s3 ⟨some ⟨idm,0,none⟩,n,n⟩) (H,false,0)=_:=w1;rw [w1'];rfl
  have x1:Ext H0 H1:=hx.comp w4 fun id hid' _ h=>by omega
  rw [W1 hbody];cases v1 with
  | true =>
   have hlt:=(w8 rfl).resolve_left (by simp);obtain ⟨H',bl',z1,z2,z3,z4,z5⟩:=ih (freeN bl1) (by omega) H1 bl1 rfl x1 w2 w3 w5 fun k hk=>w6 k (hf k hk);exact ⟨H',bl',z1,z2,z3,w4.comp z4 fun _ _ h=>h,z5⟩
  | false =>
   obtain ⟨e,hc⟩:=w9 rfl;subst e;refine ⟨H1,bl1,Y1 ?_,w2,w3,w4,fun k=>⟨hs k,fun hk=>?_⟩⟩
   ·unfold I6;simp only [Bool.false_eq_true,if_false]
   ·clear hbody w1;induction hk with
    | one h=>exact hf _ h
    | more h1 h2 ih'=>exact hc _ _ (Nat.zero_le _) ih' h2
theorem zla (hF:L0=fuel+1) (hfu:15≤fuel) (hG:GoodG g) (hS:SigA H s1 s2 s3 g) (hm:m≤H.next) {i:Nat} (hi:i<g.datas.length) :
  ∃id bl H',z2q (LCo L0) m H s1 s2 s3 (i:Int)=some (⟨some ⟨id,0,none⟩,g.datas.length,g.datas.length⟩,H')∧Ext H H'∧ArrV 4 m H' id (bV bl)∧bl.length=g.datas.length∧∀k,On bl k↔Lean1 g i k:=by
 obtain ⟨id,bl,H1,c1,c2,c3,c4,c5,c6⟩:=z8p hF hfu hG hS hm hi false;have hs:∀k,On bl k↔EdgS g i k:=fun k=>by
  constructor
  ·rintro ⟨h,h'⟩; exact (zdl hi).1 ((c6 k h).1 h')
  ·intro h;have hk:=edg_lt hG h;exact ⟨by omega,(c6 k (by omega)).2 ((zdl hi).2 h)⟩
 obtain ⟨H',bl',z1,z2,z3,z4,z5⟩:=zoa hF hfu hG hS hm (n:=g.datas.length) (d0:=i) rfl c3 (freeN bl) H1 bl rfl c2 c4 c5 (fun k hk=>.one ((hs k).1 hk)) fun k hk=>(hs k).2 hk;refine ⟨id,bl',H',?_,c2.comp z4 fun id' hid _ h=>by omega,z2,z3,z5⟩;unfold z2q;rw [c1];simp only [Option.bind_some];show Option.bind (loopO (I6 (LCo L0) m s1 s2 s3 ⟨some ⟨id,0,none⟩,g.datas.length,g.datas.length⟩) (H1,true)) _=_;rw [z1];rfl
def NestD (g:Sg) (i:Nat):Prop:=∃h:i<g.datas.length,∃k∈wiD g.datas true g.datas[i],k=i∨Lean1 g k i
theorem zn7:(∃i,NestD g i)↔NestP g:=by
 constructor
 ·rintro ⟨i,hi,k,hk,h⟩
  unfold wiD wiC at hk;simp only [List.mem_flatMap] at hk;obtain ⟨c,hc,x,hx,hk⟩:=hk;exact ⟨i,hi,c,hc,x,hx,k,hk,h⟩
 ·rintro ⟨i,hi,c,hc,x,hx,k,hk,h⟩
  refine ⟨i,hi,k,?_,h⟩;unfold wiD wiC;simp only [List.mem_flatMap];exact ⟨c,hc,x,hx,hk⟩
theorem zjk (hF:L0=fuel+1) (hfu:15≤fuel) (hG:GoodG g) (hS:SigA H s1 s2 s3 g) (hm:m≤H.next) {i:Nat} (hi:i<g.datas.length) :
  ∃b H',z1m (LCo L0) m H s1 s2 s3 (i:Int)=some (b,H')∧Ext H H'∧(b=true↔NestD g i):=by
 have hnn:=I3 hG;obtain ⟨id,bl,H1,c1,c2,c3,c4,c5,c6⟩:=z8p hF hfu hG hS hm hi true;obtain ⟨H',h1,h2⟩:=zi3 (xs:=bl) (body:=C4 (LCo L0) m s1 s2 s3 (i:Int) ⟨some ⟨id,0,none⟩,g.datas.length,g.datas.length⟩) (fun G=>(true,G)) (fun j b=>b=true∧(j=i∨Lean1 g j i)) (H0:=H1)
  (fun j hj G hx=>by
   have hjn:j<g.datas.length:=by omega
   have rm:rd deB G ((⟨id,0,none⟩:Addr).add (j*1))=some bl[j]:=by rw [((c4.ext hx).cel (show (bV bl)[j]? = some (.bool bl[j]) by simp [bV,hj])).rd]; rfl
   have im:idxA 1 (⟨some ⟨id,0,none⟩,g.datas.length,g.datas.length⟩:Sl3) (j:Int)=some ((⟨id,0,none⟩:Addr).add (j*1)):=X3 hjn rfl;cases hb:bl[j] with
   | false =>
    refine ⟨G,hx,.inr ⟨by simp,?_⟩⟩;unfold C4;rw [hb] at rm;simp only [if_pos (show (j:Int)<(g.datas.length:Int) by omega),im,rm,Option.bind_some,Bool.false_eq_true,if_false];rw [V1 hjn (by rw [B2]; omega)]
   | true =>
    rw [hb] at rm;by_cases e:j=i
    ·refine ⟨G,hx,.inl ⟨⟨rfl,.inl e⟩,?_⟩⟩;unfold C4;simp only [if_pos (show (j:Int)<(g.datas.length:Int) by omega),im,rm,Option.bind_some,if_true,if_pos (show (j:Int)=(i:Int) by omega)]
    ·have xx:=c2.trans hx;obtain ⟨id2,bl2,G2,y1,y2,y3,y4,y5⟩:=zla hF hfu hG (hS.ext xx) (Nat.le_trans hm xx.1) hjn;have hib:i<bl2.length:=by omega
     have rm2:rd deB G2 ((⟨id2,0,none⟩:Addr).add (i*1))=some bl2[i]:=by rw [(y3.cel (show (bV bl2)[i]? = some (.bool bl2[i]) by simp [bV,hib])).rd]; rfl
     have im2:idxA 1 (⟨some ⟨id2,0,none⟩,g.datas.length,g.datas.length⟩:Sl3) (i:Int)=some ((⟨id2,0,none⟩:Addr).add (i*1)):=X3 hi rfl;refine ⟨G2,hx.trans y2,?_⟩;cases hb2:bl2[i] with
     | true =>
      refine .inl ⟨⟨rfl,.inr ((y5 i).1 ⟨hib,hb2⟩)⟩,?_⟩;rw [hb2] at rm2;unfold C4;simp only [if_pos (show (j:Int)<(g.datas.length:Int) by omega),im,rm,Option.bind_some,if_true,if_neg (show ¬((j:Int)=(i:Int)) by omega),y1,im2,rm2]
     | false =>
      refine .inr ⟨?_,?_⟩
      ·rintro ⟨_,h | h⟩
       ·exact e h
       ·obtain ⟨_,h⟩:=(y5 i).2 h;rw [hb2] at h; cases h
      ·rw [hb2] at rm2;unfold C4;simp only [if_pos (show (j:Int)<(g.datas.length:Int) by omega),im,rm,Option.bind_some,if_true,if_neg (show ¬((j:Int)=(i:Int)) by omega),y1,im2,rm2,Bool.false_eq_true,if_false];rw [V1 hjn (by rw [B2]; omega)])
  (fun G hx=>by
   unfold C4;simp only [if_neg (show ¬((bl.length:Int)<(g.datas.length:Int)) by omega)])
  bl.length 0 H1 (by omega) (Fm.refl _ _)
 have iff:(∃j,∃h:j<bl.length,0≤j∧bl[j]=true∧(j=i∨Lean1 g j i))↔NestD g i:=by
  constructor
  ·rintro ⟨j,hj,_,hp,hq⟩; exact ⟨hi,j,(c6 j hj).1 hp,hq⟩
  ·rintro ⟨_,k,hk,hq⟩
   have hkl:k<g.datas.length:=by
    unfold wiD wiC at hk;simp only [List.mem_flatMap] at hk;obtain ⟨c,hc,x,hx,hk⟩:=hk;exact dtI_lt (hG.sel _ (List.getElem_mem hi) c hc x hx) k hk
   exact ⟨k,by omega,Nat.zero_le _,(c6 k (by omega)).2 hk,hq⟩
 rw [iff] at h2;unfold z1m;rw [c1];simp only [Option.bind_some];show ∃b H',Option.bind (loopO (C4 (LCo L0) m s1 s2 s3 (i:Int) ⟨some ⟨id,0,none⟩,g.datas.length,g.datas.length⟩) (H1,((0:Nat):Int))) _=_∧_;rcases h2 with ⟨hp,hb⟩ | ⟨hp,hb⟩
 ·exact ⟨true,H',by rw [hb]; rfl,c2.trans h1,by simp [hp]⟩
 ·exact ⟨false,H',by rw [hb]; rfl,c2.trans h1,by simp [hp]⟩
theorem zjr (hF:L0=fuel+1) (hfu:15≤fuel) (hG:GoodG g) (hS:SigA H s1 s2 s3 g) (hm:m≤H.next) :
  ∃H',Ext H H'∧((NestP g∧loopO (F3 (LCo L0) m s1 s2 s3) (H,0)=some (.inr (44,H')))∨(¬NestP g∧loopO (F3 (LCo L0) m s1 s2 s3) (H,0)=some (.inl (H',(g.datas.length:Int))))):=by
 have hd:=hS.d.n;obtain ⟨H',h1,h2⟩:=zi3 (xs:=g.datas) (body:=F3 (LCo L0) m s1 s2 s3) (fun G=>(44,G)) (fun j _=>NestD g j) (H0:=H)
  (fun j hj G hx=>by
   obtain ⟨b,G1,y1,y2,y3⟩:=zjk hF hfu hG (hS.ext hx) (Nat.le_trans hm hx.1) hj;refine ⟨G1,hx.trans y2,?_⟩;cases b with
   | true =>
    refine .inl ⟨y3.1 rfl,?_⟩;unfold F3;simp only [if_pos (show (j:Int)<(s2.n:Int) by omega),y1,Option.bind_some,if_true]
   | false =>
    refine .inr ⟨fun h=>absurd (y3.2 h) (by simp),?_⟩;unfold F3;simp only [if_pos (show (j:Int)<(s2.n:Int) by omega),y1,Option.bind_some,Bool.false_eq_true,if_false];rw [V1 hj hS.d.len])
  (fun G hx=>by
   unfold F3;simp only [if_neg (show ¬((g.datas.length:Int)<(s2.n:Int)) by omega)])
  g.datas.length 0 H (by omega) (Fm.refl _ _)
 have iff:(∃j,∃h:j<g.datas.length,0≤j∧NestD g j)↔NestP g:=by
  rw [← zn7];constructor
  ·rintro ⟨j,hj,_,hp⟩; exact ⟨j,hp⟩
  ·rintro ⟨j,hj,hp⟩; exact ⟨j,hj,Nat.zero_le _,hj,hp⟩
 rw [iff] at h2;exact ⟨H',h1,h2⟩
end
end Go.Proofs.YtccbilfbhecdaaaGreatDoor
namespace Go.Proofs.YtccbilfbhecdaaaGreatDoor
open Go Go.Abs
set_option maxRecDepth 100000
def gF (ds:List Dat) (bl:List Bool):Fo→Bool
 | .nil=>true
 | .cons _ _ _ _ .nil=>true
 | .cons _ _ _ _ (.cons k _ n a _)=>if k=6 then bl.getD (ixS ds n) false else if k=4 then gF ds bl a else true
def gS (ds:List Dat) (bl:List Bool) (k:Int) (n:ByteArray) (a:Fo):Bool:=if k=6 then bl.getD (ixS ds n) false else if k=4 then gF ds bl a else true
def gC (ds:List Dat) (bl:List Bool) (c:Con):Bool:=c.sels.all fun x=>gS ds bl x.k x.sn x.a
def gD (ds:List Dat) (bl:List Bool) (d:Dat):Bool:=d.cons.any (gC ds bl)
theorem z9q {bl:List Bool} {k:Nat}:bl.getD k false=true↔On bl k:=by
 unfold On;by_cases h:k<bl.length
 ·simp [List.getD,h]
 ·simp [List.getD,h]
theorem zlt {ds:List Dat} {bl bl':List Bool} (hm:∀k,On bl k→On bl' k):∀a:Fo,gF ds bl a=true→gF ds bl' a=true
 | .nil,_=>rfl
 | .cons _ _ _ _ .nil,_=>rfl
 | .cons _ _ _ _ (.cons k _ n a _),h=>by
  unfold gF at h ⊢;by_cases h6:k=6
  ·rw [if_pos h6] at h ⊢;exact z9q.2 (hm _ (z9q.1 h))
  ·rw [if_neg h6] at h ⊢;by_cases h4:k=4
   ·rw [if_pos h4] at h ⊢;exact zlt hm a h
   ·rw [if_neg h4]
theorem zql {ds:List Dat} {bl bl':List Bool} (hm:∀k,On bl k→On bl' k) {k:Int} {n:ByteArray} {a:Fo} (h:gS ds bl k n a=true):gS ds bl' k n a=true:=by
 unfold gS at h ⊢;by_cases h6:k=6
 ·rw [if_pos h6] at h ⊢;exact z9q.2 (hm _ (z9q.1 h))
 ·rw [if_neg h6] at h ⊢;by_cases h4:k=4
  ·rw [if_pos h4] at h ⊢;exact zlt hm a h
  ·rw [if_neg h4]
theorem zqg {ds:List Dat} {bl bl':List Bool} (hm:∀k,On bl k→On bl' k) {c:Con} (h:gC ds bl c=true):gC ds bl' c=true:=by
 unfold gC at h ⊢;rw [List.all_eq_true] at h ⊢;exact fun x hx=>zql hm (h x hx)
theorem zpp {ds:List Dat} {bl bl':List Bool} (hm:∀k,On bl k→On bl' k) {d:Dat} (h:gD ds bl d=true):gD ds bl' d=true:=by
 unfold gD at h ⊢;rw [List.any_eq_true] at h ⊢;obtain ⟨c,hc,h⟩:=h;exact ⟨c,hc,zqg hm h⟩
inductive Gd (g:Sg):Nat→Prop
 | mk {i:Nat} (h:i<g.datas.length) (bl:List Bool) (hb:∀k,On bl k→Gd g k) (ho:gD g.datas bl g.datas[i]=true):Gd g i
theorem z72 {g:Sg} {bl:List Bool} (hc:∀i (h:i<g.datas.length),gD g.datas bl g.datas[i]=true→On bl i):∀{k:Nat},Gd g k→On bl k:=by
 intro k hk;induction hk with
 | mk h bl' hb ho ih=>exact hc _ h (zpp ih ho)
section
variable {m:Nat} {H0 H:AH} {s1 s2 s3:Sl3} {g:Sg} {p:Addr} {L0 fuel:Nat}
theorem z6f {e:TypeId} {idm N:Nat} {bl:List Bool} (ha:ArrV e m H idm (bV bl)) (hl:bl.length=N) {i:Nat} (hi:i<N) :
  ∃q,idxA 1 (⟨some ⟨idm,0,none⟩,N,N⟩:Sl3) (i:Int)=some q∧rd deB H q=some (bl.getD i false):=by
 have hib:i<bl.length:=by omega
 refine ⟨_,X3 hi rfl,?_⟩;rw [(ha.cel (show (bV bl)[i]? = some (.bool bl[i]) by simp [bV,hib])).rd];simp [deB,List.getD,hib]
theorem zig (c:Nat) {idm N:Nat} {bl:List Bool} (hB:Book H p s1 s2 s3 g) (ha:ArrV 4 m H idm (bV bl)) (hl:bl.length=N) (hN:N=g.datas.length):∀(d fuel:Nat) (k w:Int) (n:ByteArray) (s:Sl3) (a:Fo),SlF H s a→shS k w n a=true→knS g.users g.datas k n a=true→a.dep≤fuel→a.dep<d →
  T7 (LCo c) (fuel+1) H (some p) k w n s ⟨some ⟨idm,0,none⟩,N,N⟩=some (gS g.datas bl k n a):=by
 intro d;induction d with
 | zero=>intro fuel k w n s a _ _ _ _ h; omega
 | succ d ih =>
  intro fuel k w n s a h hsh hkn hf hd;show M5 (LCo c) (T7 (LCo c) fuel) H (some p) k w n s ⟨some ⟨idm,0,none⟩,N,N⟩=_;unfold M5 gS;by_cases h6:k=6
  ·subst h6;obtain ⟨id,r1,r2⟩:=zdj hB n;have hk:=hkn;unfold knS at hk;rw [if_neg (by omega),if_pos rfl] at hk;have hlt:=ix_lt hk;obtain ⟨q,k1,k2⟩:=z6f ha hl (show ixS g.datas n<N by omega);simp only [if_true,Option.bind_some,r1,r2,k1,k2]
  ·rw [if_neg h6,if_neg h6];by_cases h4:k=4
   ·rw [if_pos h4,if_pos h4];rcases S8 hsh with ⟨_,h'⟩ | ⟨_,k1,w1,n1,a1,k2,w2,n2,a2,rfl,hs1,hs2⟩
    ·omega
    ·unfold knS at hkn;rw [if_neg (by omega),if_neg h6] at hkn;simp only [knF,Bool.and_eq_true] at hkn;have hn2:s.n=2:=h.1;obtain ⟨_,_,_,_,_,_,_,_,_,q8⟩:=h.2.2.rd (s:=s) (by omega);obtain ⟨q,t1,q1,q2,q3,q4,q5,q6,q7,_⟩:=q8.rd (s:=s) (by omega);simp only [Fo.dep] at hf hd;obtain ⟨g',rfl⟩:∃g',fuel=g'+1:=⟨fuel - 1,by omega⟩;have y:=ih g' k2 w2 n2 t1 a2 q6 hs2 (by unfold knS; exact hkn.2.1) (by omega) (by omega);have q1':idxA 4 s 1=some q:=q1;simp only [q1',q2,q3,q4,q5,Option.bind_some,y];simp only [gS,gF]
   ·rw [if_neg h4,if_neg h4]
theorem ziz (hF:L0=fuel+1) (hfu:15≤fuel) (hG:GoodG g) (hB:Book H p s1 s2 s3 g) {p1 p8:Addr} {idm N:Nat} {bl:List Bool} (h1:Cel H p1 (.pointer (some p))) (h8:Cel H p8 (Sl3.v ⟨some ⟨idm,0,none⟩,N,N⟩)) (ha:ArrV 4 m H idm (bV bl)) (hl:bl.length=N) (hN:N=g.datas.length)
  {d:Dat} (hd:d∈g.datas) {c:Con} (hc:c∈d.cons) {sl:Sl3} (h:SlL SelA 5 H sl c.sels):L5 (LCo L0) H sl (some p1) (some p8)=some (!gC g.datas bl c):=by
 have hln:=h.n;have hlp:=V3 (body:=J3 (LCo L0) H sl (some p1) (some p8)) c.sels.length h.len (fun j=>if (fun x:Sel=>!gS g.datas bl x.k x.sn x.a) (c.sels.getD j ⟨emptyT,0,0,emptyT,.nil⟩)=true then some (j:Int) else none) (fun j hj=>by
  obtain ⟨q,g1,g2⟩:=h.get hj (v:=(j:Int)) rfl;obtain ⟨z,e1,e2,e3,e4,e5,e6⟩:=g2.ex;have r0:rd deS H (q.add 0)=some c.sels[j].n:=by rw [g2.n.rd]; rfl
  have r1:rd (deI .i64) H (q.add 1)=some c.sels[j].k:=by rw [e1.rd]; rfl
  have r2:rd (deI .i64) H (q.add 2)=some c.sels[j].w:=by rw [e2.rd]; rfl
  have r3:rd deS H (q.add 3)=some c.sels[j].sn:=by rw [e3.rd]; rfl
  have r4:rd deSl H (q.add 4)=some z:=by rw [e4.rd]; rfl
  have hs:=hG.sel d hd c hc _ (List.getElem_mem hj);have y:=zig L0 hB ha hl hN (c.sels[j].a.dep+1) fuel c.sels[j].k c.sels[j].w c.sels[j].sn z c.sels[j].a e6 hs.sh hs.kn (by have:=hs.dp; omega) (by omega);have eg:c.sels.getD j ⟨emptyT,0,0,emptyT,.nil⟩=c.sels[j]:=by simp [List.getD,hj]
  have f1:rd deP H p1=some (some p):=by rw [h1.rd]; rfl
  have f8:rd deSl H p8=some ⟨some ⟨idm,0,none⟩,N,N⟩:=by rw [h8.rd]; rfl
  have e1':(LCo L0).fuel=fuel+1:=hF;rw [eg];unfold J3 N9 z1g;rw [e1'];simp only [if_pos (show (j:Int)<(sl.n:Int) by omega),g1,Option.bind_some,r0,r1,r2,r3,r4,f1,f8,y];by_cases hgs:gS g.datas bl c.sels[j].k c.sels[j].sn c.sels[j].a=true <;> simp [hgs,stepO]) (by
  unfold J3;rw [if_neg (by omega)])
 unfold L5 Q8;show Option.bind (Option.bind (loopO (J3 (LCo L0) H sl (some p1) (some p8)) 0) _) _=_;rw [hlp];obtain ⟨k1,k2⟩:=z83 c.sels (fun x:Sel=>!gS g.datas bl x.k x.sn x.a) (fun i=>(i:Int)) ⟨emptyT,0,0,emptyT,.nil⟩;have k3:(c.sels.any fun x=>!gS g.datas bl x.k x.sn x.a)=!gC g.datas bl c:=by
  unfold gC;rw [List.not_all_eq_any_not]
 rw [k3] at k1;generalize hq:(List.range c.sels.length).findSome? (fun i=>if (fun x:Sel=>!gS g.datas bl x.k x.sn x.a) (c.sels.getD i ⟨emptyT,0,0,emptyT,.nil⟩)=true then some (i:Int) else none)=q at k1 k2;cases q with
 | none=>rw [← k1]; rfl
 | some x =>
  rw [← k1];obtain ⟨i,rfl⟩:=k2 x rfl;have:(i:Int)≥0:=by omega
  simp [found,this]
theorem zn3 (hF:L0=fuel+1) (hfu:15≤fuel) (hG:GoodG g) (hB:Book H p s1 s2 s3 g) {p1 p8:Addr} {idm N:Nat} {bl:List Bool} (h1:Cel H p1 (.pointer (some p))) (h8:Cel H p8 (Sl3.v ⟨some ⟨idm,0,none⟩,N,N⟩)) (ha:ArrV 4 m H idm (bV bl)) (hl:bl.length=N) (hN:N=g.datas.length)
  {i:Nat} (hi:i<g.datas.length) {x14 sl:Sl3} {n19:ByteArray} (h:SlL ConA 2 H sl (g.datas[i]).cons) {H31:AH} (hset:H.setCell m ((⟨idm,0,none⟩:Addr).add (i*1)) (.bool true)=some H31):∀(t j:Nat),j+t=(g.datas[i]).cons.length →
  loopO (Q2 (LCo L0) m p1 p8 x14 (i:Int) n19 sl) (H,(j:Int))=some (if ((g.datas[i]).cons.drop j).any (gC g.datas bl)=true then .inr (.inr H31) else .inl (H,((g.datas[i]).cons.length:Int))):=by
 have hln:=h.n;intro t;induction t with
 | zero =>
  intro j hj;obtain rfl:j=(g.datas[i]).cons.length:=by omega
  rw [List.drop_length];simp only [List.any_nil,Bool.false_eq_true,if_false];refine Y1 ?_;unfold Q2;simp only [if_neg (show ¬(((g.datas[i]).cons.length:Int)<(sl.n:Int)) by omega)]
 | succ t ih =>
  intro j hj;have hjl:j<(g.datas[i]).cons.length:=by omega
  obtain ⟨q,g1,g2⟩:=h.get hjl (v:=(j:Int)) rfl;obtain ⟨z,e1,e2⟩:=g2.ex;have r0:rd deS H (q.add 0)=some (g.datas[i]).cons[j].n:=by rw [g2.n.rd]; rfl
  have r1:rd deSl H (q.add 1)=some z:=by rw [e1.rd]; rfl
  have hcon:=ziz hF hfu hG hB h1 h8 ha hl hN (List.getElem_mem hi) (List.getElem_mem hjl) e2;have f8:rd deSl H p8=some ⟨some ⟨idm,0,none⟩,N,N⟩:=by rw [h8.rd]; rfl
  rw [List.drop_eq_getElem_cons hjl,List.any_cons];cases hg:gC g.datas bl (g.datas[i]).cons[j] with
  | true =>
   rw [hg] at hcon;simp only [Bool.true_or,if_true];refine N3 ?_;unfold Q2;simp only [if_pos (show (j:Int)<(sl.n:Int) by omega),g1,Option.bind_some,r0,r1,hcon,Bool.not_true,Bool.false_eq_true,if_false,f8,X3 (show i<N by omega) rfl,hset]
  | false =>
   rw [hg] at hcon;have hbody:Q2 (LCo L0) m p1 p8 x14 (i:Int) n19 sl (H,(j:Int))=some (.next (H,((j+1:Nat):Int))):=by
    unfold Q2;simp only [if_pos (show (j:Int)<(sl.n:Int) by omega),g1,Option.bind_some,r0,r1,hcon,Bool.not_false,if_true];rw [V1 hjl h.len]
   rw [W1 hbody,ih (j+1) (by omega),Bool.false_or]
def PassG (g:Sg) (m:Nat) (H:AH) (bl:List Bool) (idm N:Nat) (r:Option ((AH×Int)⊕((Sl3×AH)⊕AH))) (i:Nat):Prop :=
 (∃j H',∃hj:j<g.datas.length,r=some (.inr (.inr H'))∧gD g.datas bl g.datas[j]=true∧bl.getD j false=false∧ArrV 4 m H' idm (bV (bl.set j true))∧Fm (fun id=>id=idm) H H') ∨
  (r=some (.inl (H,(N:Int)))∧∀j (hj:j<g.datas.length),i≤j→gD g.datas bl g.datas[j]=true→On bl j)
theorem zn6 (hF:L0=fuel+1) (hfu:15≤fuel) (hG:GoodG g) (hS:SigA H s1 s2 s3 g) (hB:Book H p s1 s2 s3 g) {p1 p8:Addr} {idm N:Nat} {bl:List Bool} (h1:Cel H p1 (.pointer (some p))) (h8:Cel H p8 (Sl3.v ⟨some ⟨idm,0,none⟩,N,N⟩)) (ha:ArrV 4 m H idm (bV bl)) (hl:bl.length=N) (hN:N=g.datas.length):∀(t i:Nat),i+t=N →
  PassG g m H bl idm N (loopO (I2 (LCo L0) m p1 p8 s2) (H,(i:Int))) i:=by
 have hdn:=hS.d.n;intro t;induction t with
 | zero =>
  intro i hi;obtain rfl:i=N:=by omega
  refine .inr ⟨Y1 ?_,fun j hj h=>by omega⟩;unfold I2;simp only [if_neg (show ¬((i:Int)<(s2.n:Int)) by omega)]
 | succ t ih =>
  intro i hi;have hin:i<N:=by omega
  have hig:i<g.datas.length:=by omega
  obtain ⟨q,g1,g2⟩:=hS.d.get hig (v:=(i:Int)) rfl;obtain ⟨z,e1,e2⟩:=g2.ex;have r0:rd deS H (q.add 0)=some (g.datas[i]).n:=by rw [g2.n.rd]; rfl
  have r1:rd deSl H (q.add 1)=some z:=by rw [e1.rd]; rfl
  have f8:rd deSl H p8=some ⟨some ⟨idm,0,none⟩,N,N⟩:=by rw [h8.rd]; rfl
  obtain ⟨qm,m1,m2⟩:=z6f ha hl hin;obtain ⟨H31,c1,c2,c3,c4⟩:=ha.set (i:=i) (by simp [bV]; omega) (.bool true);rw [bV_set] at c2;have hb2:=zn3 hF hfu hG hB h1 h8 ha hl hN hig (x14:=s2) (n19:=(g.datas[i]).n) e2 c1 (g.datas[i]).cons.length 0 (by omega);rw [List.drop_zero] at hb2;have hD:(g.datas[i]).cons.any (gC g.datas bl)=gD g.datas bl g.datas[i]:=rfl;rw [hD] at hb2;have step:I2 (LCo L0) m p1 p8 s2 (H,(i:Int))=some (.next (H,((i+1:Nat):Int)))→(gD g.datas bl g.datas[i]=true→On bl i)→PassG g m H bl idm N (loopO (I2 (LCo L0) m p1 p8 s2) (H,(i:Int))) i:=fun hbody hon=>by
   rw [W1 hbody];rcases ih (i+1) (by omega) with ⟨j,H',hj,w1,w2,w3,w4,w5⟩ | ⟨w1,w2⟩
   ·exact .inl ⟨j,H',hj,w1,w2,w3,w4,w5⟩
   ·refine .inr ⟨w1,fun j hj hij hg=>?_⟩;by_cases e:j=i
    ·subst e; exact hon hg
    ·exact w2 j hj (by omega) hg
  cases hm:bl.getD i false with
  | true =>
   rw [hm] at m2;refine step ?_ fun _=>z9q.1 hm;unfold I2;simp only [if_pos (show (i:Int)<(s2.n:Int) by omega),g1,Option.bind_some,r0,r1,f8,m1,m2,if_true];rw [V1 hig hS.d.len]
  | false =>
   rw [hm] at m2;cases hg:gD g.datas bl g.datas[i] with
   | true =>
    rw [hg] at hb2;simp only [if_true] at hb2;refine .inl ⟨i,H31,hig,N3 ?_,hg,hm,c2,c3⟩;unfold I2;simp only [if_pos (show (i:Int)<(s2.n:Int) by omega),g1,Option.bind_some,r0,r1,f8,m1,m2,Bool.false_eq_true,if_false];show Option.bind (loopO (Q2 (LCo L0) m p1 p8 s2 (i:Int) (g.datas[i]).n z) (H,((0:Nat):Int))) _=_;rw [hb2];rfl
   | false =>
    rw [hg] at hb2;simp only [Bool.false_eq_true,if_false] at hb2;refine step ?_ fun h=>by rw [hg] at h; cases h
    unfold I2;simp only [if_pos (show (i:Int)<(s2.n:Int) by omega),g1,Option.bind_some,r0,r1,f8,m1,m2,Bool.false_eq_true,if_false];show Option.bind (loopO (Q2 (LCo L0) m p1 p8 s2 (i:Int) (g.datas[i]).n z) (H,((0:Nat):Int))) _=_;rw [hb2];simp only [Option.bind_some];rw [V1 hig hS.d.len]
theorem zo3 (hF:L0=fuel+1) (hfu:15≤fuel) (hG:GoodG g) (hS:SigA H0 s1 s2 s3 g) (hB:Book H0 p s1 s2 s3 g) {p1 p8:Addr} {idm N:Nat} (hN:N=g.datas.length) (hid:H0.next≤idm) (hne1:p1.block≠idm) (hne8:p8.block≠idm):∀(u:Nat) (H:AH) (bl:List Bool),freeN bl=u→Ext H0 H→Cel H p1 (.pointer (some p))→Cel H p8 (Sl3.v ⟨some ⟨idm,0,none⟩,N,N⟩)→ArrV 4 m H idm (bV bl)→bl.length=N→(∀k,On bl k→Gd g k) →
  ∃H' bl',loopO (X2 (LCo L0) m p1 p8) H=some (.inl H')∧Cel H' p8 (Sl3.v ⟨some ⟨idm,0,none⟩,N,N⟩)∧ArrV 4 m H' idm (bV bl')∧bl'.length=N∧Fm (fun id=>id=idm) H H'∧∀k,On bl' k↔Gd g k:=by
 intro u;induction u using Nat.strongRecOn with
 | ind u ih =>
  intro H bl hu hx h1 h8 ha hl hs;have f1:rd deP H p1=some (some p):=by rw [h1.rd]; rfl
  have hBx:=hB.ext hx;have hadd:∀j,(p.add 0).add j=p.add (0+j):=fun j=>add2 hB.c1 0 j;have r1:rd deSl H ((p.add 0).add 1)=some s2:=by rw [hadd,hBx.c2.rd]; rfl
  rcases zn6 hF hfu hG (hS.ext hx) hBx h1 h8 ha hl hN N 0 (by omega) with ⟨j,H1,hj,w1,w2,w3,w4,w5⟩ | ⟨w1,w2⟩
  ·have hbody:X2 (LCo L0) m p1 p8 H=some (.next H1):=by
    unfold X2;simp only [f1,Option.bind_some,r1];show Option.bind (loopO (I2 (LCo L0) m p1 p8 s2) (H,((0:Nat):Int))) _=_;rw [w1];rfl
   have hjb:j<bl.length:=by omega
   have hf:bl[j]=false:=by simpa [List.getD,hjb] using w3
   have hfree:=zd0 hjb hf;obtain ⟨H',bl',z1,z2,z3,z4,z5,z6⟩:=ih (freeN (bl.set j true)) (by omega) H1 (bl.set j true) rfl (hx.comp w5 fun id hid' _ h=>by omega) (h1.fr w5 hne1) (h8.fr w5 hne8) w4 (by simp [hl]) fun k hk=>by
    rcases z9.1 hk with h | ⟨rfl,_⟩
    ·exact hs k h
    ·exact .mk hj bl hs w2
   exact ⟨H',bl',by rw [W1 hbody]; exact z1,z2,z3,z4,w5.comp z5 fun _ _ h=>h,z6⟩
  ·have hbody:X2 (LCo L0) m p1 p8 H=some (.brk H):=by
    unfold X2;simp only [f1,Option.bind_some,r1];show Option.bind (loopO (I2 (LCo L0) m p1 p8 s2) (H,((0:Nat):Int))) _=_;rw [w1];rfl
   exact ⟨H,bl,Y1 hbody,h8,ha,hl,Fm.refl _ _,fun k=>⟨hs k,z72 fun i hi hg=>w2 i hi (Nat.zero_le _) hg⟩⟩
theorem zkc (hF:L0=fuel+1) (hfu:15≤fuel) (hG:GoodG g) (hS:SigA H s1 s2 s3 g) (hB:Book H p s1 s2 s3 g) (hm:m≤H.next) :
  ∃id bl H',t9 (LCo L0) m H (some p)=some (⟨some ⟨id,0,none⟩,g.datas.length,g.datas.length⟩,H')∧Ext H H'∧ArrV 4 m H' id (bV bl)∧bl.length=g.datas.length∧∀k,On bl k↔Gd g k:=by
 have hd:=hS.d.n;have hnn:=I3 hG;have hadd:∀j,(p.add 0).add j=p.add (0+j):=fun j=>add2 hB.c1 0 j;have x2:Ext H (H.push (pubB 63 [(Value.pointer (some p))])):=Fm.push _ _ _;have c1:Cel (H.push (pubB 63 [(Value.pointer (some p))])) ⟨H.next,0,none⟩ (.pointer (some p)):=Cel.push rfl rfl;generalize hH2:H.push (pubB 63 [(Value.pointer (some p))])=H2 at x2 c1;have n2:H2.next=H.next+1:=by rw [← hH2]; simp
 obtain ⟨H7,b1,b2,b3,b4⟩:=z9i (e:=4) (bytes:=1) (m:=m) (H:=H2) (z:=.bool false) (n:=g.datas.length) (by omega) (by omega) (by omega);have b2':ArrV 4 m H7 H2.next (bV (List.replicate g.datas.length false)):=by
  have:bV (List.replicate g.datas.length false)=List.replicate g.datas.length (Value.bool false):=by simp [bV]
  rw [this]; exact b2
 have x9:Ext H7 (H7.push (pubB 70 [(Sl3.v Sl3.nil)])):=Fm.push _ _ _;have a9:ArrV 70 m (H7.push (pubB 70 [(Sl3.v Sl3.nil)])) H7.next [Sl3.v Sl3.nil]:=⟨AH.get_push_same _ _,by omega,by simp⟩;generalize hH9:H7.push (pubB 70 [(Sl3.v Sl3.nil)])=H9 at x9 a9;obtain ⟨H10,d1,d2,d3,d4⟩:=a9.set (i:=0) (by simp) (Sl3.v ⟨some ⟨H2.next,0,none⟩,g.datas.length,g.datas.length⟩);have d1':H9.setCell m ⟨H7.next,0,none⟩ (Sl3.v ⟨some ⟨H2.next,0,none⟩,g.datas.length,g.datas.length⟩)=some H10:=by rw [C5] at d1; exact d1
 have c8:Cel H10 ⟨H7.next,0,none⟩ (Sl3.v ⟨some ⟨H2.next,0,none⟩,g.datas.length,g.datas.length⟩):=by
  have:=d2.cel (i:=0) (v:=Sl3.v ⟨some ⟨H2.next,0,none⟩,g.datas.length,g.datas.length⟩) rfl;rw [C5] at this;exact this
 have x2':Ext H H2:=x2;have xH:Ext H H10:=((x2'.trans b3).trans x9).comp d3 fun id hid _ h=>by have:=x2'.1; have:=b3.1; omega
 have x210:Ext H2 H10:=(b3.trans x9).comp d3 fun id hid _ h=>by have:=b3.1; omega
 obtain ⟨H',bl',z1,z2,z3,z4,z5,z6⟩:=zo3 hF hfu hG hS hB (m:=m) (p1:=⟨H.next,0,none⟩) (p8:=⟨H7.next,0,none⟩) (idm:=H2.next) rfl (by omega) (by simp; omega) (by simp; omega) g.datas.length H10 (List.replicate g.datas.length false) (zcn _) xH (c1.ext x210) c8 ((b2'.ext x9).fr d3 (by have:=b3.1; omega)) (by simp) (fun k hk=>by obtain ⟨h,hb⟩:=hk; simp at hb);refine ⟨H2.next,bl',H',?_,xH.comp z5 fun id hid _ h=>by omega,z3,z4,z6⟩;have f1:rd deP H2 ⟨H.next,0,none⟩=some (some p):=by rw [c1.rd]; rfl
 have r1:rd deSl H2 ((p.add 0).add 1)=some s2:=by rw [hadd,(hB.c2.ext x2').rd]; rfl
 have f8:rd deSl H' ⟨H7.next,0,none⟩=some ⟨some ⟨H2.next,0,none⟩,g.datas.length,g.datas.length⟩:=by rw [z2.rd]; rfl
 unfold t9 newB;simp only [Option.bind_some];rw [hH2];simp only [f1,Option.bind_some,r1,hd,b1];rw [hH9];simp only [d1',Option.bind_some];show Option.bind (loopO (X2 (LCo L0) m ⟨H.next,0,none⟩ ⟨H7.next,0,none⟩) H10) _=_;rw [z1];simp only [Option.bind_some,f8]
theorem zgt (c:Nat) {id n:Nat} {bl:List Bool} (ha:ArrV 4 m H id (bV bl)) (hl:bl.length=n) (hn:n≤4096):T9 (LCo c) H ⟨some ⟨id,0,none⟩,n,n⟩ false=some (!(bl.all fun b=>b)):=by
 have hlp:=V3 (body:=T6 (LCo c) H ⟨some ⟨id,0,none⟩,n,n⟩ false) bl.length (by rw [B2]; omega) (fun j=>if (fun b:Bool=>!b) (bl.getD j false)=true then some (j:Int) else none) (fun j hj=>by
  obtain ⟨q,k1,k2⟩:=z6f ha hl (i:=j) (by omega);unfold T6;simp only [if_pos (show (j:Int)<(n:Int) by omega),k1,Option.bind_some,k2];cases bl.getD j false <;> simp [stepO]) (by
  unfold T6;simp only [];rw [if_neg (by omega)])
 unfold T9 z3w;show Option.bind (Option.bind (loopO (T6 (LCo c) H ⟨some ⟨id,0,none⟩,n,n⟩ false) 0) _) _=_;rw [hlp];obtain ⟨k1,k2⟩:=z83 bl (fun b:Bool=>!b) (fun i=>(i:Int)) false;have k3:(bl.any fun b=>!b)=!(bl.all fun b=>b):=by rw [List.not_all_eq_any_not]
 rw [k3] at k1;generalize hq:(List.range bl.length).findSome? (fun i=>if (fun b:Bool=>!b) (bl.getD i false)=true then some (i:Int) else none)=q at k1 k2;cases q with
 | none=>rw [← k1]; rfl
 | some x =>
  rw [← k1];obtain ⟨i,rfl⟩:=k2 x rfl;have:(i:Int)≥0:=by omega
  simp [found,this]
end
end Go.Proofs.YtccbilfbhecdaaaGreatDoor
namespace Go.Proofs.YtccbilfbhecdaaaGreatDoor
open Go Go.Abs
set_option maxRecDepth 100000
section
variable {m:Nat} {H0 H:AH} {s1 s2 s3:Sl3} {g:Sg} {L0 fuel:Nat}
theorem zj1 (c:Nat) {idm N:Nat} {bl:List Bool} (hS:SigA H s1 s2 s3 g) (ha:ArrV 4 m H idm (bV bl)) (hl:bl.length=N) (hN:N=g.datas.length):∀(d fuel:Nat) (k w:Int) (n:ByteArray) (s:Sl3) (a:Fo),SlF H s a→shS k w n a=true→knS g.users g.datas k n a=true→a.dep≤fuel→a.dep<d →
  zr (LCo c) (fuel+1) H k w n s s1 s2 s3 ⟨some ⟨idm,0,none⟩,N,N⟩=some (gS g.datas bl k n a):=by
 intro d;induction d with
 | zero=>intro fuel k w n s a _ _ _ _ h; omega
 | succ d ih =>
  intro fuel k w n s a h hsh hkn hf hd;show P8 (LCo c) (zr (LCo c) fuel) H k w n s s1 s2 s3 ⟨some ⟨idm,0,none⟩,N,N⟩=_;unfold P8 gS;by_cases h4:k=4
  ·rw [if_pos h4,if_neg (show ¬k=6 by omega),if_pos h4];rcases S8 hsh with ⟨_,h'⟩ | ⟨_,k1,w1,n1,a1,k2,w2,n2,a2,rfl,hs1,hs2⟩
   ·omega
   ·unfold knS at hkn;rw [if_neg (by omega),if_neg (by omega)] at hkn;simp only [knF,Bool.and_eq_true] at hkn;have hn2:s.n=2:=h.1;obtain ⟨_,_,_,_,_,_,_,_,_,q8⟩:=h.2.2.rd (s:=s) (by omega);obtain ⟨q,t1,q1,q2,q3,q4,q5,q6,q7,_⟩:=q8.rd (s:=s) (by omega);simp only [Fo.dep] at hf hd;obtain ⟨g',rfl⟩:∃g',fuel=g'+1:=⟨fuel - 1,by omega⟩;have y:=ih g' k2 w2 n2 t1 a2 q6 hs2 (by unfold knS; exact hkn.2.1) (by omega) (by omega);have q1':idxA 4 s 1=some q:=q1;simp only [q1',q2,q3,q4,q5,Option.bind_some,y];simp only [gS,gF]
  ·rw [if_neg h4];by_cases h6:k=6
   ·subst h6;have hk:=hkn;unfold knS at hk;rw [if_neg (by omega),if_pos rfl] at hk;have hlt:=ix_lt hk;have hD:=z4s c hS n;have hD:S3 (LCo c) H s1 s2 s3 n=some ((ixS g.datas n:Nat):Int):=by
     rw [hD];unfold ixS;obtain ⟨i,hi⟩:=Option.isSome_iff_exists.1 hk;rw [hi];rfl
    obtain ⟨q,k1,k2⟩:=z6f ha hl (show ixS g.datas n<N by omega);simp only [if_true,Option.bind_some,hD,k1,k2]
   ·rw [if_neg h6,if_neg h6,if_neg h4]
theorem one_b1 (hF:L0=fuel+1) (hfu:15≤fuel) (hG:GoodG g) (hS:SigA H s1 s2 s3 g) {idm N:Nat} {bl:List Bool} (ha:ArrV 4 m H idm (bV bl)) (hl:bl.length=N) (hN:N=g.datas.length) {d:Dat} (hd:d∈g.datas) {n0:ByteArray} {sc:Sl3} (hc:SlL ConA 2 H sc d.cons) {j:Nat} (hj:j<d.cons.length):∀(t i:Nat) (v:Bool),i+t=d.cons[j].sels.length →
  loopO (W7 (LCo L0) H n0 sc s1 s2 s3 ⟨some ⟨idm,0,none⟩,N,N⟩ (j:Int)) (v,(i:Int))=some (.inl (v&&(d.cons[j].sels.drop i).all fun x=>gS g.datas bl x.k x.sn x.a,(d.cons[j].sels.length:Int))):=by
 obtain ⟨q,g1,g2⟩:=hc.get hj (v:=(j:Int)) rfl;obtain ⟨z,e1,e2⟩:=g2.ex;have r1:rd deSl H (q.add 1)=some z:=by rw [e1.rd]; rfl
 have hln:=e2.n;intro t;induction t with
 | zero =>
  intro i v hi;obtain rfl:i=d.cons[j].sels.length:=by omega
  rw [List.drop_length,List.all_nil,Bool.and_true];refine Y1 ?_;unfold W7;simp only [g1,Option.bind_some,r1,if_neg (show ¬((d.cons[j].sels.length:Int)<(z.n:Int)) by omega)]
 | succ t ih =>
  intro i v hi;have hil:i<d.cons[j].sels.length:=by omega
  obtain ⟨q',k1,k2⟩:=e2.get hil (v:=(i:Int)) rfl;obtain ⟨y,f1,f2,f3,f4,f5,f6⟩:=k2.ex;have hadd:∀j,(q'.add 1).add j=q'.add (1+j):=fun j=>add2 k2.n 1 j;have w1:rd (deI .i64) H ((q'.add 1).add 0)=some (d.cons[j].sels[i]).k:=by rw [hadd,f1.rd]; rfl
  have w2:rd (deI .i64) H ((q'.add 1).add 1)=some (d.cons[j].sels[i]).w:=by rw [hadd,f2.rd]; rfl
  have w3:rd deS H ((q'.add 1).add 2)=some (d.cons[j].sels[i]).sn:=by rw [hadd,f3.rd]; rfl
  have w4:rd deSl H ((q'.add 1).add 3)=some y:=by rw [hadd,f4.rd]; rfl
  have hs:=hG.sel _ hd _ (List.getElem_mem hj) _ (List.getElem_mem hil);have hgr:=zj1 L0 hS ha hl hN ((d.cons[j].sels[i]).a.dep+1) fuel (d.cons[j].sels[i]).k (d.cons[j].sels[i]).w (d.cons[j].sels[i]).sn y (d.cons[j].sels[i]).a f6 hs.sh hs.kn (by have:=hs.dp; omega) (by omega);have e1':(LCo L0).fuel=fuel+1:=hF;have hbody:W7 (LCo L0) H n0 sc s1 s2 s3 ⟨some ⟨idm,0,none⟩,N,N⟩ (j:Int) (v,(i:Int))=some (.next (v&&gS g.datas bl (d.cons[j].sels[i]).k (d.cons[j].sels[i]).sn (d.cons[j].sels[i]).a,((i+1:Nat):Int))):=by
   unfold W7 z7e;rw [e1'];simp only [g1,Option.bind_some,r1,if_pos (show (i:Int)<(z.n:Int) by omega),k1,w1,w2,w3,w4,hgr];rw [V1 hil e2.len];cases v <;> rfl
  rw [W1 hbody,ih (i+1) _ (by omega),List.drop_eq_getElem_cons hil,List.all_cons,Bool.and_assoc]
theorem zpd (hF:L0=fuel+1) (hfu:15≤fuel) (hG:GoodG g) (hS:SigA H s1 s2 s3 g) {idm N:Nat} {bl:List Bool} (ha:ArrV 4 m H idm (bV bl)) (hl:bl.length=N) (hN:N=g.datas.length) {d:Dat} (hd:d∈g.datas) {n0:ByteArray} {sc:Sl3} (hc:SlL ConA 2 H sc d.cons) :
  z54 (LCo L0) H n0 sc s1 s2 s3 ⟨some ⟨idm,0,none⟩,N,N⟩=some (gD g.datas bl d):=by
 have hln:=hc.n;have hlp:=V3 (body:=m9 (LCo L0) H n0 sc s1 s2 s3 ⟨some ⟨idm,0,none⟩,N,N⟩) d.cons.length hc.len (fun j=>if gC g.datas bl (d.cons.getD j ⟨emptyT,[]⟩)=true then some true else none) (fun j hj=>by
  have hb1:=one_b1 hF hfu hG hS ha hl hN hd (n0:=n0) hc hj d.cons[j].sels.length 0 true (by omega);rw [List.drop_zero,Bool.true_and] at hb1;have eg:d.cons.getD j ⟨emptyT,[]⟩=d.cons[j]:=by simp [List.getD,hj]
  rw [eg];unfold m9;simp only [if_pos (show (j:Int)<(sc.n:Int) by omega)];show Option.bind (loopO (W7 (LCo L0) H n0 sc s1 s2 s3 ⟨some ⟨idm,0,none⟩,N,N⟩ (j:Int)) (true,((0:Nat):Int))) _=_;rw [hb1];have hC:(d.cons[j].sels.all fun x=>gS g.datas bl x.k x.sn x.a)=gC g.datas bl d.cons[j]:=rfl;rw [hC];by_cases hgs:gC g.datas bl d.cons[j]=true <;> simp [hgs,stepO]) (by
  unfold m9;rw [if_neg (by omega)])
 unfold z54;show Option.bind (loopO (m9 (LCo L0) H n0 sc s1 s2 s3 ⟨some ⟨idm,0,none⟩,N,N⟩) 0) _=_;rw [hlp];obtain ⟨k1,k2⟩:=z83 d.cons (gC g.datas bl) (fun _=>true) ⟨emptyT,[]⟩;have k3:d.cons.any (gC g.datas bl)=gD g.datas bl d:=rfl;rw [k3] at k1;generalize hq:(List.range d.cons.length).findSome? (fun j=>if gC g.datas bl (d.cons.getD j ⟨emptyT,[]⟩)=true then some true else none)=q at k1 k2;cases q with
 | none=>rw [← k1]; rfl
 | some x =>
  rw [← k1];obtain ⟨i,rfl⟩:=k2 x rfl;rfl
theorem zmu (hF:L0=fuel+1) (hfu:15≤fuel) (hG:GoodG g) (hS:SigA H0 s1 s2 s3 g) {idm n:Nat} {v4:Int} (hn:n=g.datas.length) (hid:H0.next≤idm):∀(t i:Nat) (H:AH) (bl:List Bool),i+t=n→Ext H0 H→ArrV 4 m H idm (bV bl)→bl.length=n→(∀k,On bl k→Gd g k) →
  ∃H' bl',loopO (O3 (LCo L0) m s1 s2 s3 ⟨some ⟨idm,0,none⟩,n,n⟩ v4) (H,(i:Int))=some (.inl (H',(n:Int)))∧ArrV 4 m H' idm (bV bl')∧bl'.length=n∧Fm (fun j=>j=idm) H H'∧(∀k,On bl' k→Gd g k)∧(∀k,On bl k→On bl' k) ∧
   (freeN bl'<freeN bl∨(bl'=bl∧∀j (hj:j<g.datas.length),i≤j→gD g.datas bl g.datas[j]=true→On bl j)):=by
 have hnn:n≤4096:=by rw [hn]; exact I3 hG
 have hdn:=hS.d.n;intro t;induction t with
 | zero =>
  intro i H bl hi hx ha hl hs;obtain rfl:i=n:=by omega
  refine ⟨H,bl,Y1 ?_,ha,hl,Fm.refl _ _,hs,fun _ h=>h,.inr ⟨rfl,fun j hj h=>by omega⟩⟩;unfold O3;simp only [if_neg (show ¬((i:Int)<(s2.n:Int)) by omega)]
 | succ t ih =>
  intro i H bl hi hx ha hl hs;have hin:i<n:=by omega
  have hib:i<bl.length:=by omega
  have hig:i<g.datas.length:=by omega
  have hSx:=hS.ext hx;obtain ⟨q,g1,g2⟩:=hSx.d.get hig (v:=(i:Int)) rfl;obtain ⟨z,e1,e2⟩:=g2.ex;have r0:rd deS H (q.add 0)=some (g.datas[i]).n:=by rw [g2.n.rd]; rfl
  have r1:rd deSl H (q.add 1)=some z:=by rw [e1.rd]; rfl
  have hone:=zpd hF hfu hG hSx ha hl hn (List.getElem_mem hig) (n0:=(g.datas[i]).n) e2;cases hg:gD g.datas bl g.datas[i] with
  | false =>
   rw [hg] at hone;obtain ⟨H',bl',w1,w2,w3,w4,w5,w6,w7⟩:=ih (i+1) H bl (by omega) hx ha hl hs;refine ⟨H',bl',?_,w2,w3,w4,w5,w6,?_⟩
   ·have hbody:O3 (LCo L0) m s1 s2 s3 ⟨some ⟨idm,0,none⟩,n,n⟩ v4 (H,(i:Int))=some (.next (H,((i+1:Nat):Int))):=by
     unfold O3;simp only [if_pos (show (i:Int)<(s2.n:Int) by omega),g1,Option.bind_some,r0,r1,hone,Bool.false_eq_true,if_false];rw [V1 hin (by rw [B2]; omega)]
    rw [W1 hbody];exact w1
   ·rcases w7 with h | ⟨h1,h2⟩
    ·exact .inl h
    ·refine .inr ⟨h1,fun j hj hij hgj=>?_⟩;by_cases e:j=i
     ·subst e; rw [hg] at hgj; cases hgj
     ·exact h2 j hj (by omega) hgj
  | true =>
   rw [hg] at hone;obtain ⟨H1,c1,c2,c3,c4⟩:=ha.set (i:=i) (by simp [bV]; omega) (.bool true);rw [bV_set] at c2;have im:idxA 1 (⟨some ⟨idm,0,none⟩,n,n⟩:Sl3) (i:Int)=some ((⟨idm,0,none⟩:Addr).add (i*1)):=X3 hin rfl;have on1:∀k,On bl k→On (bl.set i true) k:=fun k hk=>z9.2 (.inl hk);obtain ⟨H',bl',w1,w2,w3,w4,w5,w6,w7⟩:=ih (i+1) H1 (bl.set i true) (by omega) (hx.comp c3 fun id hid' _ h=>by omega) c2 (by simp [hl]) fun k hk=>by
    rcases z9.1 hk with h | ⟨rfl,_⟩
    ·exact hs k h
    ·exact .mk hig bl hs hg
   refine ⟨H',bl',?_,w2,w3,c3.comp w4 fun _ _ h=>h,w5,fun k hk=>w6 k (on1 k hk),?_⟩
   ·have hbody:O3 (LCo L0) m s1 s2 s3 ⟨some ⟨idm,0,none⟩,n,n⟩ v4 (H,(i:Int))=some (.next (H1,((i+1:Nat):Int))):=by
     unfold O3;simp only [if_pos (show (i:Int)<(s2.n:Int) by omega),g1,Option.bind_some,r0,r1,hone,if_true,im,c1];rw [V1 hin (by rw [B2]; omega)]
    rw [W1 hbody];exact w1
   ·cases hbi:bl[i] with
    | false =>
     left;have:=zd0 hib hbi;have:=zan (a:=bl.set i true) (b:=bl') (by simp [hl,w3]) w6;omega
    | true =>
     have e:bl.set i true=bl:=by
      rw [← hbi];exact List.set_getElem_self hib
     rw [e] at w7;rcases w7 with h | ⟨h1,h2⟩
     ·exact .inl h
     ·refine .inr ⟨h1,fun j hj hij hgj=>?_⟩;by_cases e:j=i
      ·subst e; exact ⟨hib,hbi⟩
      ·exact h2 j hj (by omega) hgj
theorem zpx {bl:List Bool} (h:freeN bl=0) {k:Nat} (hk:k<bl.length):On bl k:=by
 refine ⟨hk,?_⟩;unfold freeN at h;have:=List.countP_eq_zero.1 h _ (List.getElem_mem hk)
 simpa using this
theorem zmx (hF:L0=fuel+1) (hfu:15≤fuel) (hG:GoodG g) (hS:SigA H0 s1 s2 s3 g) {idm n:Nat} (hn:n=g.datas.length) (hid:H0.next≤idm):∀(t i:Nat) (H:AH) (bl:List Bool),i+t=n→Ext H0 H→ArrV 4 m H idm (bV bl)→bl.length=n→(∀k,On bl k→Gd g k)→(freeN bl≤t∨∀j (hj:j<g.datas.length),gD g.datas bl g.datas[j]=true→On bl j) →
  ∃H' bl',loopO (A5 (LCo L0) m s1 s2 s3 ⟨some ⟨idm,0,none⟩,n,n⟩) (H,(i:Int))=some (.inl (H',(n:Int)))∧ArrV 4 m H' idm (bV bl')∧bl'.length=n∧Fm (fun j=>j=idm) H H'∧∀k,On bl' k↔Gd g k:=by
 have hnn:n≤4096:=by rw [hn]; exact I3 hG
 have hdn:=hS.d.n;intro t;induction t with
 | zero =>
  intro i H bl hi hx ha hl hs hc;obtain rfl:i=n:=by omega
  refine ⟨H,bl,Y1 ?_,ha,hl,Fm.refl _ _,fun k=>⟨hs k,z72 fun j hj hg=>?_⟩⟩
  ·unfold A5;simp only [if_neg (show ¬((i:Int)<(s2.n:Int)) by omega)]
  ·rcases hc with h | h
   ·exact zpx (by omega) (by omega)
   ·exact h j hj hg
 | succ t ih =>
  intro i H bl hi hx ha hl hs hc;have hin:i<n:=by omega
  obtain ⟨H1,bl1,w1,w2,w3,w4,w5,w6,w7⟩:=zmu hF hfu hG hS (v4:=(i:Int)) hn hid n 0 H bl (by omega) hx ha hl hs;have hc1:freeN bl1≤t∨∀j (hj:j<g.datas.length),gD g.datas bl1 g.datas[j]=true→On bl1 j:=by
   rcases w7 with h | ⟨h1,h2⟩
   ·rcases hc with h' | h'
    ·exact .inl (by omega)
    ·exfalso;have hgd:∀k,On bl1 k→On bl k:=fun k hk=>z72 h' (w5 k hk);have:=zan (a:=bl1) (b:=bl) (by omega) hgd;omega
   ·subst h1;exact .inr fun j hj hg=>h2 j hj (Nat.zero_le _) hg
  obtain ⟨H',bl',z1,z2,z3,z4,z5⟩:=ih (i+1) H1 bl1 (by omega) (hx.comp w4 fun id hid' _ h=>by omega) w2 w3 w5 hc1;refine ⟨H',bl',?_,z2,z3,w4.comp z4 fun _ _ h=>h,z5⟩;have hbody:A5 (LCo L0) m s1 s2 s3 ⟨some ⟨idm,0,none⟩,n,n⟩ (H,(i:Int))=some (.next (H1,((i+1:Nat):Int))):=by
   unfold A5;simp only [if_pos (show (i:Int)<(s2.n:Int) by omega)];show Option.bind (loopO (O3 (LCo L0) m s1 s2 s3 ⟨some ⟨idm,0,none⟩,n,n⟩ (i:Int)) (H,((0:Nat):Int))) _=_;rw [w1];simp only [Option.bind_some];rw [V1 hin (by rw [B2]; omega)]
  rw [W1 hbody];exact z1
theorem zjl (hF:L0=fuel+1) (hfu:15≤fuel) (hG:GoodG g) (hS:SigA H s1 s2 s3 g) (hm:m≤H.next) :
  ∃id bl H',zz (LCo L0) m H s1 s2 s3=some (⟨some ⟨id,0,none⟩,g.datas.length,g.datas.length⟩,H')∧Ext H H'∧ArrV 4 m H' id (bV bl)∧bl.length=g.datas.length∧∀k,On bl k↔Gd g k:=by
 have hd:=hS.d.n;have hnn:=I3 hG;obtain ⟨H2,b1,b2,b3,b4⟩:=z9i (e:=4) (bytes:=1) (m:=m) (H:=H) (z:=.bool false) (n:=g.datas.length) (by omega) (by omega) hm;have b2':ArrV 4 m H2 H.next (bV (List.replicate g.datas.length false)):=by
  have:bV (List.replicate g.datas.length false)=List.replicate g.datas.length (Value.bool false):=by simp [bV]
  rw [this]; exact b2
 obtain ⟨H',bl',z1,z2,z3,z4,z5⟩:=zmx hF hfu hG hS (m:=m) (idm:=H.next) rfl (Nat.le_refl _) g.datas.length 0 H2 (List.replicate g.datas.length false) (by omega) b3 b2' (by simp) (fun k hk=>by obtain ⟨h,hb⟩:=hk; simp at hb) (.inl (by rw [zcn]; omega));refine ⟨H.next,bl',H',?_,b3.comp z4 fun id hid _ h=>by omega,z2,z3,z5⟩;unfold zz;simp only [hd,b1,Option.bind_some];show Option.bind (loopO (A5 (LCo L0) m s1 s2 s3 ⟨some ⟨H.next,0,none⟩,g.datas.length,g.datas.length⟩) (H2,((0:Nat):Int))) _=_;rw [z1];rfl
theorem ziw (c:Nat) {id n:Nat} {bl:List Bool} (ha:ArrV 4 m H id (bV bl)) (hl:bl.length=n) (hn:n≤4096):loopO (T4 (LCo c) s1 s2 s3 ⟨some ⟨id,0,none⟩,n,n⟩ H) 0=some (if (bl.all fun b=>b)=true then .inl (n:Int) else .inr (43,H)):=by
 have hlp:=V3 (body:=T4 (LCo c) s1 s2 s3 ⟨some ⟨id,0,none⟩,n,n⟩ H) bl.length (by rw [B2]; omega) (fun j=>if (fun b:Bool=>!b) (bl.getD j false)=true then some ((43:Int),H) else none) (fun j hj=>by
  obtain ⟨q,k1,k2⟩:=z6f ha hl (i:=j) (by omega);unfold T4;simp only [if_pos (show (j:Int)<(n:Int) by omega),k1,Option.bind_some,k2];cases bl.getD j false <;> simp [stepO]) (by
  unfold T4;simp only [];rw [if_neg (by omega)])
 rw [hlp];obtain ⟨k1,k2⟩:=z83 bl (fun b:Bool=>!b) (fun i=>((43:Int),H)) false;have k3:(bl.any fun b=>!b)=!(bl.all fun b=>b):=by rw [List.not_all_eq_any_not]
 rw [k3] at k1;generalize hq:(List.range bl.length).findSome? (fun i=>if (fun b:Bool=>!b) (bl.getD i false)=true then some ((43:Int),H) else none)=q at k1 k2;cases q with
 | none =>
  have:(bl.all fun b=>b)=true:=by simpa using k1
  rw [if_pos this,← hl];rfl
 | some x =>
  have:¬(bl.all fun b=>b)=true:=by intro h; rw [h] at k1; cases k1
  rw [if_neg this];obtain ⟨i,rfl⟩:=k2 x rfl;rfl
end
end Go.Proofs.YtccbilfbhecdaaaGreatDoor
namespace Go.Proofs.YtccbilfbhecdaaaGreatDoor
open Go Go.Abs
set_option maxRecDepth 100000
open Classical in
noncomputable def sigS (g:Sg):Int :=
 if manyS g=true then 3 else if namesS g≠0 then namesS g else if allS g≠0 then allS g else if NestP g then 44 else if ∀k,k<g.datas.length→Gd g k then 0 else 43
theorem all_on {bl:List Bool} {n:Nat} {P:Nat→Prop} (h:∀k,On bl k↔P k) (hl:bl.length=n):(bl.all fun b=>b)=true↔∀k,k<n→P k:=by
 rw [List.all_eq_true];constructor
 ·intro ha k hk;exact (h k).1 ⟨by omega,ha _ (List.getElem_mem (by omega))⟩
 ·intro ha b hb;obtain ⟨i,hi,rfl⟩:=List.getElem_of_mem hb;exact ((h i).2 (ha i (by omega))).2
theorem zqx {g:Sg} {x:Int×Int×ByteArray×Fo} (h:x∈sortsE g):x.2.2.2.dep≤g.dep:=by
 unfold sortsE at h;rcases List.mem_append.1 h with h | h
 ·simp only [List.mem_flatMap,List.mem_map] at h;obtain ⟨d,hd,c,hc,y,hy,rfl⟩:=h;exact zlm hd hc hy
 ·simp only [List.mem_flatMap,List.mem_append,List.mem_singleton] at h;obtain ⟨f,hf,h | rfl⟩:=h
  ·exact Nat.le_trans (zf3 h) (zdn hf).1
  ·exact (zdn hf).2
section
variable {m:Nat} {H0 H:AH} {s1 s2 s3:Sl3} {g:Sg} {L0 fuel:Nat}
theorem zco (hF:L0=fuel+1) (hfu:15≤fuel) (hd:g.dep≤fuel) (hb:SgB g) (hS:SigA H s1 s2 s3 g) (hm:m≤H.next) :
  ∃H',d9 (LCo L0) m H s1 s2 s3=some (sigS g,H')∧Ext H H':=by
 unfold d9 sigS;rw [zos L0 hS hb];simp only [Option.bind_some];cases hmany:manyS g with
 | true=>exact ⟨H,by simp,Fm.refl _ _⟩
 | false =>
  simp only [Bool.false_eq_true,if_false];obtain ⟨H3,a1,x3⟩:=zko L0 hS hm hmany;rw [a1];simp only [Option.bind_some];by_cases hn:namesS g=0
  ·rw [if_pos hn,if_neg (by simp [hn])];obtain ⟨x4,H5,l,b1,b2,b3,b4,b5,b6⟩:=rSorts L0 (hS.ext x3) (Nat.le_trans hm x3.1) hmany;have x5:=x3.trans b3;have hdl:∀x∈l,x.a.dep≤fuel:=fun x hx=>by
    have h1:x.er∈sortsE g:=by rw [← b4]; exact List.mem_map.2 ⟨x,hx,rfl⟩
    exact Nat.le_trans (zqx h1) hd
   have hck:=zks L0 fuel hF (hS.ext x5) b2 b5 b6 hdl;rw [b4] at hck;rw [b1];simp only [Option.bind_some];show ∃H',Option.bind (loopO (O4 (LCo L0) s1 s2 s3 x4 H5) 0) _=_∧_;rw [hck];cases hq:(sortsE g).findSome? (errS g) with
   | some e =>
    have he:allS g=e:=by unfold allS; rw [hq]; rfl
    obtain ⟨y,hy,hye⟩:=List.exists_of_findSome?_eq_some hq;have he0:=(err_ok hye).2;rw [if_pos (by rw [he]; exact he0),he];exact ⟨H5,rfl,x5⟩
   | none =>
    have he:allS g=0:=by unfold allS; rw [hq]; rfl
    rw [if_neg (by simp [he])];have hG:=zhn hmany he;simp only [Option.map_none,found,Option.bind_some];obtain ⟨H6,x6,hc⟩:=zjr hF hfu hG (hS.ext x5) (Nat.le_trans hm x5.1);show ∃H',Option.bind (loopO (F3 (LCo L0) m s1 s2 s3) (H5,0)) _=_∧_;rcases hc with ⟨hp,hc⟩ | ⟨hp,hc⟩
    ·rw [hc,if_pos hp];exact ⟨H6,rfl,x5.trans x6⟩
    ·rw [hc,if_neg hp];simp only [Option.bind_some];have x6':=x5.trans x6;obtain ⟨id,bl,H7,d1,d2,d3,d4,d5⟩:=zjl hF hfu hG (hS.ext x6') (Nat.le_trans hm x6'.1);rw [d1];simp only [Option.bind_some];show ∃H',Option.bind (loopO (T4 (LCo L0) s1 s2 s3 ⟨some ⟨id,0,none⟩,g.datas.length,g.datas.length⟩ H7) 0) _=_∧_;rw [ziw L0 d3 d4 (I3 hG)];refine ⟨H7,?_,x6'.trans d2⟩;by_cases ha:(bl.all fun b=>b)=true
     ·rw [if_pos ha,if_pos ((all_on d5 d4).1 ha)];rfl
     ·rw [if_neg ha,if_neg fun h=>ha ((all_on d5 d4).2 h)];rfl
  ·rw [if_neg hn,if_pos hn];exact ⟨H3,rfl,x3⟩
theorem zbg (hF:L0=fuel+1) (hfu:15≤fuel) (hd:g.dep≤fuel) (hb:SgB g) (hS:SigA H s1 s2 s3 g) (hm:m≤H.next) :
  ∃H',D8 (LCo L0) m H s1 s2 s3=some (sigS g,H')∧Ext H H':=by
 unfold D8 sigS;rw [zng L0 hS hb];simp only [Option.bind_some];cases hmany:manyS g with
 | true=>exact ⟨H,by simp,Fm.refl _ _⟩
 | false =>
  simp only [Bool.false_eq_true,if_false];have hsm:=z2e hmany;obtain ⟨x2,x3,H4,a1,a2,a3,a4,o2,o3⟩:=zmo L0 hS hm hmany;have m4:=Nat.le_trans hm a4.1;obtain ⟨x5,H6,b1,b2,b3,b4⟩:=zg7 L0 m (za5 a2) (by omega) m4;have x6:=a4.trans b3;obtain ⟨x7,H8,c1,c2,c3⟩:=VecA.app (E:=strE) (e:=9) (bytes:=16) (l:=sortNamesS g) (l':=funNamesS g) (m:=m) b2 (za5 a3 _ b3) (room (by omega)).1 (room (by omega)).2 (Nat.le_trans hm x6.1);have x68:Ext H4 H8:=b3.comp c3.fm fun id hid _ h=>by have:=b4 id h; omega
  have x8:Ext H H8:=a4.trans x68;have hsl:=z4n c2 (by rw [List.length_append]; omega);have hn:=hsl.n;have hsz:=zfw hS;rw [a1];simp only [Option.bind_some,b1];have c1':appS m 9 1 16 H6 x5 x3=some (x7,H8):=c1;rw [c1'];simp only [Option.bind_some];have hl:loopO (j6 (LCo L0) s1 s2 s3 x2 x3 x7 H8) 0=some (found (sortNamesS g++funNamesS g).length ((List.range (sortNamesS g++funNamesS g).length).findSome? (fun i=>if (fun x=>!nameS x) ((sortNamesS g++funNamesS g).getD i emptyT)=true then some ((42:Int),H8) else none))):=by
   generalize hall:sortNamesS g++funNamesS g=all at hsl hn hsz;refine V3 all.length hsl.len _ (fun i hi=>?_) ?_
   ·unfold j6;obtain ⟨q,h1,h2⟩:=hsl.get hi (v:=(i:Int)) rfl;have r0:rd deS H8 q=some all[i]:=by rw [Cel.rd h2]; rfl
    have eg:all.getD i emptyT=all[i]:=by simp [List.getD,hi]
    simp only [if_pos (show (i:Int)<(x7.n:Int) by omega),h1,Option.bind_some,r0,zcq L0 (z8b (hsz _ (List.getElem_mem hi))),eg];cases nameS all[i] <;> rfl
   ·unfold j6;rw [if_neg (by omega)]
  show ∃H',Option.bind (loopO (j6 (LCo L0) s1 s2 s3 x2 x3 x7 H8) 0) _=_∧_;rw [hl,z34 (sortNamesS g++funNamesS g) (fun x=>!nameS x) ((42:Int),H8) emptyT];by_cases h42:((sortNamesS g++funNamesS g).any fun x=>!nameS x)=true
  ·have e:namesS g=42:=by unfold namesS; rw [if_pos h42]
   rw [if_pos h42,e];simp only [found,Option.bind_some];exact ⟨H8,by simp,x8⟩
  ·rw [if_neg h42];simp only [found,Option.bind_some];have m8:=Nat.le_trans hm x8.1;obtain ⟨H9,t1,t2⟩:=zga L0 (H:=H8) (s:=x2) (l:=sortNamesS g) (m:=m) (fun G hG=>z4n (VecV.ext a2 (x68.trans hG)) (by omega)) m8;have htw:∃H14,((W9 (LCo L0) m H8 x2).bind fun (x16,H17)=>if x16=true then some (H17,true) else (W9 (LCo L0) m H17 x3).bind fun (x18,H19)=>some (H19,x18))=some (H14,twS (sortNamesS g)||twS (funNamesS g))∧Ext H8 H14:=by
    rw [t1];simp only [Option.bind_some];cases htw1:twS (sortNamesS g) with
    | true=>exact ⟨H9,by simp,t2⟩
    | false =>
     obtain ⟨H10,u1,u2⟩:=zga L0 (H:=H9) (s:=x3) (l:=funNamesS g) (m:=m) (fun G hG=>z4n (VecV.ext a3 ((x68.trans t2).trans hG)) (by omega)) (Nat.le_trans m8 t2.1);refine ⟨H10,?_,t2.trans u2⟩;simp only [Bool.false_eq_true,if_false,u1,Option.bind_some,Bool.false_or]
   obtain ⟨H14,w1,w2⟩:=htw;have x14:=x8.trans w2;rw [w1];simp only [Option.bind_some];by_cases h41:(twS (sortNamesS g)||twS (funNamesS g))=true
   ·have e:namesS g=41:=by unfold namesS; rw [if_neg h42,if_pos h41]
    rw [if_pos h41,e];exact ⟨H14,by simp,x14⟩
   ·have e:namesS g=0:=by unfold namesS; rw [if_neg h42,if_neg h41]
    rw [if_neg h41,e,if_neg (by simp)];have m14:=Nat.le_trans hm x14.1;obtain ⟨p,H21,p1,p2,p3,p4,p5⟩:=zce L0 m (hS.ext x14) m14;have x21:=x14.trans p2;have m21:=Nat.le_trans hm x21.1;obtain ⟨H23,q1,q2⟩:=zih hF m21 p3 (hS.ext x21) hmany hd;have x23:=x21.trans q2;rw [p1];simp only [Option.bind_some,q1];by_cases ha0:allS g=0
    ·rw [if_pos ha0,if_neg (by simp [ha0])];have hG:=zhn hmany ha0;have m23:=Nat.le_trans hm x23.1;obtain ⟨id3,H25,l1,l2,l3⟩:=zfs hF hfu hG (hS.ext x23) (p3.ext q2) m23;have x25:=x23.trans l2;obtain ⟨b,H27,n1,n2,n3⟩:=zkz hF hfu hG (hS.ext x25) (p3.ext (q2.trans l2)) (Nat.le_trans hm x25.1) l3;have x27:=x25.trans n2;rw [l1];simp only [Option.bind_some,n1];cases b with
     | true =>
      rw [if_pos (n3.1 rfl)];exact ⟨H27,rfl,x27⟩
     | false =>
      rw [if_neg (show ¬NestP g from fun h=>absurd (n3.2 h) (by simp))];obtain ⟨id,bl,H29,d1,d2,d3,d4,d5⟩:=zkc hF hfu hG (hS.ext x27) (p3.ext ((q2.trans l2).trans n2)) (Nat.le_trans hm x27.1);rw [d1];simp only [Bool.false_eq_true,if_false,Option.bind_some,zgt L0 d3 d4 (I3 hG)];refine ⟨H29,?_,x27.trans d2⟩;by_cases ha:(bl.all fun b=>b)=true
      ·rw [ha,if_pos ((all_on d5 d4).1 ha)];rfl
      ·rw [if_neg fun h=>ha ((all_on d5 d4).2 h)];have ha':(bl.all fun b=>b)=false:=by simpa using ha
       rw [ha'];rfl
    ·rw [if_neg ha0,if_pos ha0];exact ⟨H23,rfl,x23⟩
end
end Go.Proofs.YtccbilfbhecdaaaGreatDoor
namespace Go.Proofs.YtccbilfbhecdaaaGreatDoor
open Go Go.Abs
set_option maxRecDepth 100000
def arrO:Option Nat→Option Nat→Option Nat
 | _,none=>none
 | x,some t=>if t=1 then some 1 else x.map fun s=>t ^ s
def mulO:Option Nat→Option Nat→Option Nat
 | some a,some b=>some (a*b)
 | _,_=>none
def addO:Option Nat→Option Nat→Option Nat
 | some a,some b=>some (a+b)
 | _,_=>none
def one_ (ds:List Dat) (f:Nat→Option Nat) (k w:Int) (n:ByteArray) (l:List (Option Nat)):Option Nat :=
 if k=1 then some 2 else if k=3 then some (2 ^ w.toNat) else if k=4 then arrO (l.getD 0 none) (l.getD 1 none) else if k=6 then f (ixS ds n) else none
def cL (ds:List Dat) (f:Nat→Option Nat):Fo→List (Option Nat)
 | .nil=>[]
 | .cons k w n a r=>one_ ds f k w n (cL ds f a) :: cL ds f r
def cS (ds:List Dat) (f:Nat→Option Nat) (k w:Int) (n:ByteArray) (a:Fo):Option Nat:=one_ ds f k w n (cL ds f a)
def cC (ds:List Dat) (f:Nat→Option Nat) (l:List Sel):Option Nat:=(l.map fun x=>cS ds f x.k x.w x.sn x.a).foldr mulO (some 1)
def cD (ds:List Dat) (f:Nat→Option Nat) (l:List Con):Option Nat:=(l.map fun c=>cC ds f c.sels).foldr addO (some 0)
def leO (a b:Option Nat):Prop:=∀v,a=some v→b=some v
theorem leO.refl (a:Option Nat):leO a a:=fun _ h=>h
theorem leO.none (a:Option Nat):leO none a:=fun _ h=>by cases h
theorem znr {a a' b b':Option Nat} (ha:leO a a') (hb:leO b b'):leO (arrO a b) (arrO a' b'):=by
 intro v h;cases b with
 | none=>cases h
 | some t =>
  rw [hb t rfl];simp only [arrO] at h ⊢;by_cases h1:t=1
  ·rw [if_pos h1] at h ⊢; exact h
  ·rw [if_neg h1] at h ⊢;cases a with
   | none=>cases h
   | some s=>rw [ha s rfl]; exact h
theorem znp {a a' b b':Option Nat} (ha:leO a a') (hb:leO b b'):leO (mulO a b) (mulO a' b'):=by
 intro v h;cases a with
 | none=>cases h
 | some x =>
  cases b with
  | none=>cases h
  | some y=>rw [ha x rfl,hb y rfl]; exact h
theorem zoe {a a' b b':Option Nat} (ha:leO a a') (hb:leO b b'):leO (addO a b) (addO a' b'):=by
 intro v h;cases a with
 | none=>cases h
 | some x =>
  cases b with
  | none=>cases h
  | some y=>rw [ha x rfl,hb y rfl]; exact h
section
variable {ds:List Dat} {f f':Nat→Option Nat}
theorem zjg (hf:∀i,leO (f i) (f' i)) {k w:Int} {n:ByteArray} {l l':List (Option Nat)} (hl:∀i,leO (l.getD i none) (l'.getD i none)):leO (one_ ds f k w n l) (one_ ds f' k w n l'):=by
 unfold one_;by_cases h1:k=1
 ·rw [if_pos h1,if_pos h1]; exact .refl _
 rw [if_neg h1,if_neg h1];by_cases h3:k=3
 ·rw [if_pos h3,if_pos h3]; exact .refl _
 rw [if_neg h3,if_neg h3];by_cases h4:k=4
 ·rw [if_pos h4,if_pos h4]; exact znr (hl 0) (hl 1)
 rw [if_neg h4,if_neg h4];by_cases h6:k=6
 ·rw [if_pos h6,if_pos h6]; exact hf _
 rw [if_neg h6,if_neg h6]; exact .refl _
theorem zhk (hf:∀i,leO (f i) (f' i)):∀(a:Fo) (i:Nat),leO ((cL ds f a).getD i none) ((cL ds f' a).getD i none)
 | .nil,_=>.refl _
 | .cons k w n a r,0=>zjg hf (zhk hf a)
 | .cons k w n a r,i+1=>by
  simp only [cL,List.getD_cons_succ];exact zhk hf r i
theorem z9z (hf:∀i,leO (f i) (f' i)) (k w:Int) (n:ByteArray) (a:Fo):leO (cS ds f k w n a) (cS ds f' k w n a):=zjg hf (zhk hf a)
theorem zh7 (hf:∀i,leO (f i) (f' i)):∀l:List Sel,leO (cC ds f l) (cC ds f' l)
 | []=>.refl _
 | x :: l=>znp (z9z hf _ _ _ _) (zh7 hf l)
theorem zgx (hf:∀i,leO (f i) (f' i)):∀l:List Con,leO (cD ds f l) (cD ds f' l)
 | []=>.refl _
 | c :: l=>zoe (zh7 hf _) (zgx hf l)
end
def tcD (g:Sg):Nat→Nat→Option Nat
 | 0,_=>none
 | r+1,i=>if h:i<g.datas.length then cD g.datas (tcD g r) (g.datas[i]).cons else none
theorem zli {g:Sg} {i:Nat} (h:¬i<g.datas.length):∀r,tcD g r i=none
 | 0=>rfl
 | r+1=>by simp only [tcD,dif_neg h]
theorem z2v (g:Sg):∀r i,leO (tcD g r i) (tcD g (r+1) i)
 | 0,i=>.none _
 | r+1,i=>by
  show leO (if h:i<g.datas.length then cD g.datas (tcD g r) (g.datas[i]).cons else none) (if h:i<g.datas.length then cD g.datas (tcD g (r+1)) (g.datas[i]).cons else none);by_cases h:i<g.datas.length
  ·rw [dif_pos h,dif_pos h];exact zgx (z2v g r) _
  ·rw [dif_neg h,dif_neg h]; exact .refl _
theorem tcD_le (g:Sg) {r s:Nat} (h:r≤s):∀i,leO (tcD g r i) (tcD g s i):=by
 induction h with
 | refl=>exact fun i=>.refl _
 | step _ ih=>exact fun i v hv=>z2v g _ i v (ih i v hv)
def knN (g:Sg) (r:Nat):Nat:=(List.range g.datas.length).countP fun i=>(tcD g r i).isSome
theorem knN_le (g:Sg) (r:Nat):knN g r≤knN g (r+1):=by
 unfold knN;refine List.countP_mono_left fun i _ h=>?_;obtain ⟨v,hv⟩:=Option.isSome_iff_exists.1 h;rw [z2v g r i v hv]; rfl
theorem zlr (g:Sg) (r:Nat):knN g r≤g.datas.length:=by
 unfold knN;have:=List.countP_le_length (p:=fun i=>(tcD g r i).isSome) (l:=List.range g.datas.length)
 simpa using this
theorem zcw {α:Type} {p q:α→Bool}:∀{l:List α},(∀x∈l,p x=true→q x=true)→l.countP p=l.countP q→∀x∈l,q x=true→p x=true
 | [],_,_,x,hx,_=>by cases hx
 | y :: l,h,he,x,hx,hq=>by
  have hle:l.countP p≤l.countP q:=List.countP_mono_left fun z hz=>h z (by simp [hz]);rw [List.countP_cons,List.countP_cons] at he;have h0:=h y (by simp);have hl:l.countP p=l.countP q∧(q y=true→p y=true):=by
   cases hpy:p y with
   | true=>rw [hpy,h0 hpy] at he; simp at he; exact ⟨he,fun _=>rfl⟩
   | false =>
    cases hqy:q y with
    | true=>rw [hpy,hqy] at he; simp at he; omega
    | false=>rw [hpy,hqy] at he; simp at he; exact ⟨he,fun h=>by cases h⟩
  rcases List.mem_cons.1 hx with rfl | hx
  ·exact hl.2 hq
  ·exact zcw (fun z hz=>h z (by simp [hz])) hl.1 x hx hq
theorem zk4 {g:Sg} {r:Nat} (h:knN g r=knN g (r+1)):tcD g (r+1)=tcD g r:=by
 funext i
 by_cases hi:i<g.datas.length
 ·have:=zcw (p:=fun i=>(tcD g r i).isSome) (q:=fun i=>(tcD g (r+1) i).isSome) (l:=List.range g.datas.length) (fun i _ h=>by
   obtain ⟨v,hv⟩:=Option.isSome_iff_exists.1 h;rw [z2v g r i v hv]; rfl) h i (by simpa using hi)
  cases hq:tcD g (r+1) i with
  | none =>
   cases hp:tcD g r i with
   | none=>rfl
   | some v=>rw [z2v g r i v hp] at hq; cases hq
  | some v =>
   obtain ⟨u,hu⟩:=Option.isSome_iff_exists.1 (this (by simp [hq]));rw [hu];have:=z2v g r i u hu;rw [hq] at this;exact this
 ·rw [zli hi,zli hi]
theorem zex {g:Sg} {r:Nat} (h:tcD g (r+1)=tcD g r):∀s,r≤s→tcD g s=tcD g r:=by
 intro s hs;induction hs with
 | refl=>rfl
 | @step s _ ih =>
  have:tcD g (s+1)=tcD g (r+1):=by
   funext i
   show (if h:i<g.datas.length then cD g.datas (tcD g s) (g.datas[i]).cons else none)=(if h:i<g.datas.length then cD g.datas (tcD g r) (g.datas[i]).cons else none);rw [ih]
  exact this.trans h
theorem zht (g:Sg):∀r,r≤knN g r∨∃s,s≤r∧tcD g (s+1)=tcD g s
 | 0=>.inl (Nat.zero_le _)
 | r+1=>by
  rcases zht g r with h | ⟨s,h1,h2⟩
  ·by_cases e:knN g r=knN g (r+1)
   ·exact .inr ⟨r,by omega,zk4 e⟩
   ·have:=knN_le g r;exact .inl (by omega)
  ·exact .inr ⟨s,by omega,h2⟩
def Tc (g:Sg):Nat→Option Nat:=tcD g g.datas.length
theorem z8i (g:Sg):∀s,g.datas.length≤s→tcD g s=Tc g:=by
 have key:tcD g (g.datas.length+1)=tcD g g.datas.length:=by
  rcases zht g g.datas.length with h | ⟨s,h1,h2⟩
  ·refine zk4 ?_;have h1:=zlr g g.datas.length;have h2:=zlr g (g.datas.length+1);have h3:=knN_le g g.datas.length;omega
  ·rw [zex h2 _ (by omega),zex h2 _ h1]
 exact zex key
theorem Tc_fix {g:Sg} {i:Nat} (h:i<g.datas.length):Tc g i=cD g.datas (Tc g) (g.datas[i]).cons:=by
 have:=congrFun (z8i g (g.datas.length+1) (by omega)) i;rw [← this];show (if h:i<g.datas.length then cD g.datas (tcD g g.datas.length) (g.datas[i]).cons else none)=_;rw [dif_pos h];rfl
theorem Tc_ge (g:Sg) (r i:Nat):leO (tcD g r i) (Tc g i):=by
 by_cases h:r≤g.datas.length
 ·exact tcD_le g h i
 ·rw [z8i g r (by omega)]; exact .refl _
def posO (a:Option Nat):Prop:=∀v,a=some v→1≤v
theorem zow {a b:Option Nat} (hb:posO b):posO (arrO a b):=by
 intro v h;cases b with
 | none=>cases h
 | some t =>
  simp only [arrO] at h;by_cases h1:t=1
  ·rw [if_pos h1] at h; cases h; exact Nat.le_refl _
  ·rw [if_neg h1] at h;cases a with
   | none=>cases h
   | some s=>cases h; exact Nat.pow_pos (hb t rfl)
section
variable {ds:List Dat} {f:Nat→Option Nat}
theorem zlu (hf:∀i,posO (f i)) {k w:Int} {n:ByteArray} {l:List (Option Nat)} (hl:∀i,posO (l.getD i none)):posO (one_ ds f k w n l):=by
 unfold one_;split
 ·intro v h; cases h; omega
 split
 ·intro v h; cases h; exact Nat.pow_pos (by omega)
 split
 ·exact zow (hl 1)
 split
 ·exact hf _
 ·intro v h; cases h
theorem cL_pos (hf:∀i,posO (f i)):∀(a:Fo) (i:Nat),posO ((cL ds f a).getD i none)
 | .nil,_=>fun v h=>by simp [cL] at h
 | .cons k w n a r,0=>zlu hf (cL_pos hf a)
 | .cons k w n a r,i+1=>by
  simp only [cL,List.getD_cons_succ];exact cL_pos hf r i
theorem cS_pos (hf:∀i,posO (f i)) (k w:Int) (n:ByteArray) (a:Fo):posO (cS ds f k w n a):=zlu hf (cL_pos hf a)
theorem cC_pos (hf:∀i,posO (f i)):∀l:List Sel,posO (cC ds f l)
 | []=>fun v h=>by cases h; exact Nat.le_refl _
 | x :: l=>fun v h=>by
  have h:mulO (cS ds f x.k x.w x.sn x.a) (cC ds f l)=some v:=h;cases h1:cS ds f x.k x.w x.sn x.a with
  | none=>rw [h1] at h; cases h
  | some a =>
   cases h2:cC ds f l with
   | none=>rw [h1,h2] at h; cases h
   | some b =>
    rw [h1,h2] at h; cases h;exact Nat.mul_pos (cS_pos hf _ _ _ _ a h1) (cC_pos hf l b h2)
theorem cD_pos (hf:∀i,posO (f i)):∀l:List Con,l≠[]→posO (cD ds f l)
 | [],h=>absurd rfl h
 | c :: l,_=>fun v h=>by
  have h:addO (cC ds f c.sels) (cD ds f l)=some v:=h;cases h1:cC ds f c.sels with
  | none=>rw [h1] at h; cases h
  | some a =>
   cases h2:cD ds f l with
   | none=>rw [h1,h2] at h; cases h
   | some b =>
    rw [h1,h2] at h; cases h;have:=cC_pos hf _ a h1;omega
end
theorem zpn {g:Sg} (hG:GoodG g) {d:Dat} (hd:d∈g.datas):d.cons≠[]:=by
 have:=hG.many;unfold manyS at this;simp only [Bool.or_eq_false_iff] at this;have:=List.any_eq_false.1 this.1 d hd;unfold badD at this;simp only [Bool.or_eq_true,decide_eq_true_eq,not_or] at this;intro e;rw [e] at this;simp at this
theorem zh4 {g:Sg} (hG:GoodG g):∀r i,posO (tcD g r i)
 | 0,i=>fun v h=>by cases h
 | r+1,i=>by
  show posO (if h:i<g.datas.length then cD g.datas (tcD g r) (g.datas[i]).cons else none);by_cases h:i<g.datas.length
  ·rw [dif_pos h];exact cD_pos (zh4 hG r) _ (zpn hG (List.getElem_mem h))
  ·rw [dif_neg h]; intro v h; cases h
theorem Tc_pos {g:Sg} (hG:GoodG g) (i:Nat):posO (Tc g i):=zh4 hG _ i
theorem zkl (a:Option Nat):mulO a none=none:=by cases a <;> rfl
theorem zkt (a:Option Nat):addO a none=none:=by cases a <;> rfl
theorem zlp {ds:List Dat} {f:Nat→Option Nat}:∀{l:List Sel} {x:Sel},x∈l→cS ds f x.k x.w x.sn x.a=none→cC ds f l=none
 | y :: l,x,h,hx=>by
  show mulO (cS ds f y.k y.w y.sn y.a) (cC ds f l)=none;rcases List.mem_cons.1 h with rfl | h
  ·rw [hx]; rfl
  ·rw [zlp h hx]; exact zkl _
theorem zly {ds:List Dat} {f:Nat→Option Nat}:∀{l:List Con} {c:Con},c∈l→cC ds f c.sels=none→cD ds f l=none
 | y :: l,c,h,hx=>by
  show addO (cC ds f y.sels) (cD ds f l)=none;rcases List.mem_cons.1 h with rfl | h
  ·rw [hx]; rfl
  ·rw [zly h hx]; exact zkt _
theorem zmn {g:Sg} {i k:Nat} (h:Lean1 g i k):∃j,EdgS g i j∧(j=k∨Lean1 g j k):=by
 induction h with
 | one h=>exact ⟨_,h,.inl rfl⟩
 | more h1 h2 ih =>
  obtain ⟨j,e1,e2⟩:=ih;refine ⟨j,e1,.inr ?_⟩;rcases e2 with rfl | e2
  ·exact .one h2
  ·exact .more e2 h2
theorem zp0 {g:Sg} {i j k:Nat} (h:EdgS g i j) (h':Lean1 g j k):Lean1 g i k:=by
 induction h' with
 | one h1=>exact .more (.one h) h1
 | more _ h2 ih=>exact .more ih h2
theorem zm2 {g:Sg} {i j k:Nat} (h:Lean1 g i j) (h':Lean1 g j k):Lean1 g i k:=by
 induction h' with
 | one h1=>exact .more h h1
 | more _ h2 ih=>exact .more ih h2
theorem zpa {g:Sg} (hG:GoodG g) (hN:¬NestP g):∀r i,Lean1 g i i→tcD g r i=none:=by
 intro r;induction r with
 | zero=>intro i _; rfl
 | succ r ih =>
  intro i hi;obtain ⟨j,⟨hil,hj⟩,hji⟩:=zmn hi;have hjj:Lean1 g j j:=by
   rcases hji with rfl | h
   ·exact hi
   ·exact zm2 h (.one ⟨hil,hj⟩)
  have hjl:j=i∨Lean1 g j i:=hji;have hj':=hj;unfold stD stC at hj;simp only [List.mem_flatMap] at hj;obtain ⟨c,hc,x,hx,hj⟩:=hj;have hs:=hG.sel _ (List.getElem_mem hil) c hc x hx;have hcS:cS g.datas (tcD g r) x.k x.w x.sn x.a=none:=by
   unfold dtS at hj;by_cases h6:x.k=6
   ·rw [if_pos h6] at hj;simp only [List.mem_singleton] at hj;unfold cS one_;rw [if_neg (by omega),if_neg (by omega),if_neg (by omega),if_pos h6,← hj];exact ih j hjj
   ·rw [if_neg h6] at hj;exfalso;refine hN ⟨i,hil,c,hc,x,hx,j,?_,hjl⟩;unfold dtI;rw [if_neg (by simp)];exact hj
  show (if h:i<g.datas.length then cD g.datas (tcD g r) (g.datas[i]).cons else none)=none;rw [dif_pos hil];exact zly hc (zlp hx hcS)
theorem Tc_cyc {g:Sg} (hG:GoodG g) (hN:¬NestP g) {i:Nat} (h:Lean1 g i i):Tc g i=none:=zpa hG hN _ i h
def cap (m:Nat):Option Nat→Nat
 | some v=>if v≤m then v else 0
 | none=>0
theorem cap_le (m:Nat) (a:Option Nat):cap m a≤m:=by
 cases a with
 | none=>exact Nat.zero_le _
 | some v=>simp only [cap]; split <;> omega
def tim (m a b:Nat):Nat:=if a=0∨b=0∨m / b<a then 0 else a*b
theorem W3 {m v:Nat} (h:v≤m):cap m (some v)=v:=if_pos h
theorem cap_no {m v:Nat} (h:¬v≤m):cap m (some v)=0:=if_neg h
theorem tim_z1 (m b:Nat):tim m 0 b=0:=if_pos (.inl rfl)
theorem tim_z2 (m a:Nat):tim m a 0=0:=if_pos (.inr (.inl rfl))
theorem zlj {m:Nat} {x y:Option Nat} (hx:posO x) (hy:posO y):tim m (cap m x) (cap m y)=cap m (mulO x y):=by
 cases x with
 | none=>exact tim_z1 _ _
 | some a =>
  cases y with
  | none=>exact tim_z2 _ _
  | some b =>
   have h1:=hx a rfl;have h2:=hy b rfl;show tim m (cap m (some a)) (cap m (some b))=cap m (some (a*b));by_cases ha:a≤m
   ·by_cases hb:b≤m
    ·rw [W3 ha,W3 hb];by_cases hd:m / b<a
     ·rw [cap_no]
      ·exact if_pos (.inr (.inr hd))
      ·intro h;have:a≤m / b:=(Nat.le_div_iff_mul_le h2).2 h;omega
     ·rw [W3]
      ·exact if_neg (by omega)
      ·exact (Nat.le_div_iff_mul_le h2).1 (by omega)
    ·rw [cap_no hb,tim_z2];refine (cap_no fun h=>?_).symm;have:b≤a*b:=Nat.le_mul_of_pos_left b h1;omega
   ·rw [cap_no ha,tim_z1];refine (cap_no fun h=>?_).symm;have:a≤a*b:=Nat.le_mul_of_pos_right a h2;omega
def powN (m b:Nat):Nat→Nat
 | 0=>1
 | s+1=>tim m (powN m b s) b
theorem zjw {m t:Nat} (hm:1≤m) (ht:1≤t):∀s,powN m (cap m (some t)) s=cap m (some (t ^ s))
 | 0=>by simp [powN,cap,hm]
 | s+1=>by
  have h1:posO (some (t ^ s)):=fun v h=>by cases h; exact Nat.pow_pos ht
  have h2:posO (some t):=fun v h=>by cases h; exact ht
  simp only [powN];rw [zjw hm ht s,zlj h1 h2];rfl
theorem zct (m:Nat):∀s,1≤s→powN m 0 s=0
 | s+1,_=>by simp [powN,tim]
end Go.Proofs.YtccbilfbhecdaaaGreatDoor
namespace Go.Proofs.YtccbilfbhecdaaaGreatDoor
open Go Go.Abs
set_option maxRecDepth 100000
def keyN (i:Nat):Value:=.int .i64 (i:Int)
theorem natK:KeyK Tryz.prog 3 keyN:=by
 refine ⟨⟨.int .i64,by kernel_rfl,.inl fun a b=>?_⟩,fun a b=>by kernel_rfl,fun a=>?_⟩
 ·show some ((a:Int) == (b:Int))=_
  congr 1
  by_cases h:a=b
  ·subst h; simp
  ·have e:¬((a:Int)=(b:Int)):=by omega
   rw [decide_eq_false h];exact beq_false_of_ne e
 ·show (((IntKind.i64 == IntKind.i64)&&((a:Int) == (a:Int))):Bool)=true;simp
theorem und115:Tryz.prog.underlying 73=some (.map 3 3):=by kernel_rfl
theorem und84:Tryz.prog.underlying 48=some (.map 3 4):=by kernel_rfl
theorem zq0 {m b:Nat} {x:Option Nat} (hx:posO x) (hb:1≤b):tim m (cap m x) b=cap m (mulO x (some b)):=by
 cases x with
 | none=>exact tim_z1 _ _
 | some a =>
  have h1:=hx a rfl;show tim m (cap m (some a)) b=cap m (some (a*b));by_cases ha:a≤m
  ·rw [W3 ha];by_cases hd:m / b<a
   ·rw [cap_no]
    ·exact if_pos (.inr (.inr hd))
    ·intro h;have:a≤m / b:=(Nat.le_div_iff_mul_le hb).2 h;omega
   ·rw [W3]
    ·exact if_neg (by omega)
    ·exact (Nat.le_div_iff_mul_le hb).1 (by omega)
  ·rw [cap_no ha,tim_z1];refine (cap_no fun h=>?_).symm;have:a≤a*b:=Nat.le_mul_of_pos_right a hb;omega
theorem zj9 {m:Nat} (hm:1≤m):∀s,powN m 2 s=cap m (some (2 ^ s))
 | 0=>by simp [powN,cap,hm]
 | s+1=>by
  have h1:posO (some (2 ^ s)):=fun v h=>by cases h; exact Nat.pow_pos (by omega)
  simp only [powN];rw [zj9 hm s,zq0 h1 (by omega)];rfl
theorem zmf (n:Nat):n<2 ^ n:=Nat.lt_two_pow_self
theorem zqe {m:Nat} (hm:1≤m) {x y:Option Nat} (hx:posO x) (hy:posO y) :
  (if cap m y=1 then 1 else if cap m x=0 then 0 else powN m (cap m y) (cap m x))=cap m (arrO x y):=by
 have z:∀s,(if cap m x=0 then 0 else powN m 0 s)=0∨s=0:=fun s=>by
  by_cases h:s=0
  ·exact .inr h
  ·rw [zct m s (by omega)]; simp
 cases y with
 | none =>
  show (if (0:Nat)=1 then 1 else if cap m x=0 then 0 else powN m 0 (cap m x))=0;rw [if_neg (by omega)];by_cases h:cap m x=0
  ·rw [if_pos h]
  ·rw [if_neg h,zct m _ (by omega)]
 | some t =>
  have ht:=hy t rfl;by_cases h1:t=1
  ·subst h1;rw [W3 hm,if_pos rfl];cases x <;> exact (W3 hm).symm
  ·have harr:arrO x (some t)=x.map fun s=>t ^ s:=by cases x <;> simp [arrO,h1]
   rw [harr];by_cases hc:t≤m
   ·rw [W3 hc,if_neg h1];cases x with
    | none=>rfl
    | some s =>
     have hs:=hx s rfl;by_cases hsm:s≤m
     ·rw [W3 hsm,if_neg (by omega)];have:=zjw hm ht s;rw [W3 hc] at this;exact this
     ·rw [cap_no hsm,if_pos rfl];refine (cap_no fun h=>?_).symm;have h:t ^ s≤m:=h;have h2:=zmf s;have h3:2 ^ s≤t ^ s:=Nat.pow_le_pow_left (by omega) s;omega
   ·rw [cap_no hc,if_neg (by omega)];have e:(if cap m x=0 then 0 else powN m 0 (cap m x))=0:=by
     by_cases h:cap m x=0
     ·rw [if_pos h]
     ·rw [if_neg h,zct m _ (by omega)]
    rw [e];cases x with
    | none=>rfl
    | some s =>
     have hs:=hx s rfl;refine (cap_no fun h=>?_).symm;have h:t ^ s≤m:=h;have:t ^ 1≤t ^ s:=Nat.pow_le_pow_right (by omega) hs;rw [Nat.pow_one] at this;omega
theorem zgi (a b c:Option Nat):mulO (mulO a b) c=mulO a (mulO b c):=by
 cases a <;> cases b <;> cases c <;> simp [mulO,Nat.mul_assoc]
theorem zfk (a b c:Option Nat):addO (addO a b) c=addO a (addO b c):=by
 cases a <;> cases b <;> cases c <;> simp [addO,Nat.add_assoc]
theorem zep (a:Option Nat):mulO (some 1) a=a:=by cases a <;> simp [mulO]
theorem zon {a b:Option Nat} (ha:posO a) (hb:posO b):posO (mulO a b):=by
 intro v h;cases a with
 | none=>cases h
 | some x =>
  cases b with
  | none=>cases h
  | some y=>cases h; exact Nat.mul_pos (ha x rfl) (hb y rfl)
open Classical in
noncomputable def rk (g:Sg) (i:Nat):Nat:=if Lean1 g i i then 0 else (List.range g.datas.length).countP fun k=>decide (Lean1 g i k)
theorem rk_lt {g:Sg} (hG:GoodG g) {i j:Nat} (hi:¬Lean1 g i i) (h:EdgS g i j):rk g j<rk g i:=by
 classical
 have hj:=edg_lt hG h;have e:rk g i=(List.range g.datas.length).countP fun k=>decide (Lean1 g i k):=by unfold rk; rw [if_neg hi]
 by_cases hjj:Lean1 g j j
 ·have e2:rk g j=0:=by unfold rk; rw [if_pos hjj]
  rw [e2,e];exact List.countP_pos_iff.2 ⟨j,by simpa using hj,by simpa using Lean1.one h⟩
 ·have e2:rk g j=(List.range g.datas.length).countP fun k=>decide (Lean1 g j k):=by unfold rk; rw [if_neg hjj]
  rw [e2,e];have sub:∀x∈List.range g.datas.length,(fun k=>decide (Lean1 g j k)) x=true→(fun k=>decide (Lean1 g i k)) x=true:=fun x _ hx=>by
   have:Lean1 g j x:=by simpa using hx
   simpa using zp0 h this
  have hle:=List.countP_mono_left sub;rcases Nat.lt_or_eq_of_le hle with h1 | h1
  ·exact h1
  ·have:=zcw sub h1 j (by simpa using hj) (by simpa using Lean1.one h);exact absurd (by simpa using this) hjj
theorem rk_le (g:Sg) (i:Nat):rk g i≤g.datas.length:=by
 classical
 unfold rk;split
 ·exact Nat.zero_le _
 ·have:=List.countP_le_length (p:=fun k=>decide (Lean1 g i k)) (l:=List.range g.datas.length)
  simpa using this
structure CntI (H0:AH) (q p:Addr) (id3 idk mst:Nat) (g:Sg) (H:AH):Prop where
 x:Ext H0 H
 c0:Cel H (q.add 0) (.pointer (some p))
 c1:Cel H (q.add 1) (.int .i64 (mst:Int))
 c2:Cel H (q.add 2) (Sl3.v ⟨some ⟨id3,0,none⟩,g.datas.length,g.datas.length⟩)
 c3:Cel H (q.add 3) (.map (some idk))
 kn:∃F:Nat→Option Value,MapA keyN H idk F∧∀i v,F i=some v→v=.int .i64 ((cap mst (Tc g i):Nat):Int)
section
variable {m:Nat} {H0 H:AH} {q p:Addr} {id3 idk mst:Nat} {s1 s2 s3:Sl3} {g:Sg}
theorem zao (a b:Nat):Int.tdiv (a:Int) (b:Int)=((a / b:Nat):Int):=by
 rw [Int.natCast_ediv];exact Int.tdiv_eq_ediv_of_nonneg (by omega)
theorem zak (c:Nat) (h1:Cel H (q.add 1) (.int .i64 (mst:Int))) (hmst:mst≤maxN) (a b:Nat):Y4 (LCo c) H (some q) (a:Int) (b:Int)=some ((tim mst a b:Nat):Int):=by
 have hN:=B2;have r1:rd (deI .i64) H (q.add 1)=some (mst:Int):=by rw [h1.rd]; rfl
 unfold Y4;by_cases ha:a=0
 ·subst ha;rw [tim_z1];simp
 ·rw [if_neg (show ¬((a:Int)=0) by omega)];by_cases hb:b=0
  ·subst hb;rw [tim_z2];simp
  ·have hb':¬((b:Int)=0):=by omega
   rw [if_neg hb'];simp only [Option.bind_some,r1,if_neg hb',zao];have hle:mst / b≤mst:=Nat.div_le_self _ _;by_cases hd:mst / b<a
   ·have e:tim mst a b=0:=if_pos (.inr (.inr hd));rw [e];generalize mst / b=dq at hd hle ⊢;rw [U2 (by omega) (by omega),decide_eq_true (show (a:Int) > ((dq:Nat):Int) by omega)];rfl
   ·have e:tim mst a b=a*b:=if_neg (by omega);have hm:a*b≤mst:=(Nat.le_div_iff_mul_le (by omega)).1 (by omega);rw [e];generalize mst / b=dq at hd hle ⊢;rw [U2 (by omega) (by omega),decide_eq_false (show ¬((a:Int) > ((dq:Nat):Int)) by omega)];simp only [Bool.false_eq_true,if_false];rw [← Int.natCast_mul];generalize a*b=ab at hm ⊢;rw [U2 (by omega) (by omega)]
theorem znm (c:Nat) (h1:Cel H (q.add 1) (.int .i64 (mst:Int))) (hmst:mst≤maxN) {k:Int} {n:ByteArray} {s:Sl3} {w:Nat} (hw:w≤4096):∀(t i:Nat),i+t=w→loopO (M3 (LCo c) H (some q) k (w:Int) n s) (((powN mst 2 i:Nat):Int),(i:Int))=some (.inl (((powN mst 2 w:Nat):Int),(w:Int))):=by
 intro t;induction t with
 | zero =>
  intro i hi;obtain rfl:i=w:=by omega
  refine Y1 ?_;unfold M3;simp only [if_neg (show ¬((i:Int)<(i:Int)) by omega)]
 | succ t ih =>
  intro i hi;have hb:M3 (LCo c) H (some q) k (w:Int) n s (((powN mst 2 i:Nat):Int),(i:Int))=some (.next (((powN mst 2 (i+1):Nat):Int),((i+1:Nat):Int))):=by
   unfold M3;have:=zak c h1 hmst (powN mst 2 i) 2;have e2:((2:Nat):Int)=2:=rfl;rw [e2] at this;simp only [if_pos (show (i:Int)<(w:Int) by omega),this,Option.bind_some];rw [V1 (n:=w) (by omega) (by rw [B2]; omega)];rfl
  rw [W1 hb];exact ih (i+1) (by omega)
theorem zn2 (c:Nat) (h1:Cel H (q.add 1) (.int .i64 (mst:Int))) (hmst:mst≤maxN) {k w:Int} {n:ByteArray} {s:Sl3} {b fr:Nat} (hf:fr≤mst):∀(t i:Nat),i+t=fr→∃v,loopO (P2 (LCo c) (some q) (fr:Int) k w n s (b:Int) H) (((powN mst b i:Nat):Int),(i:Int))=some (.inl (((powN mst b fr:Nat):Int),v)):=by
 intro t;induction t with
 | zero =>
  intro i hi;obtain rfl:i=fr:=by omega
  refine ⟨(i:Int),Y1 ?_⟩;unfold P2;simp only [if_neg (show ¬((i:Int)<(i:Int)) by omega)]
 | succ t ih =>
  intro i hi;have ht:=zak c h1 hmst (powN mst b i) b;by_cases hz:powN mst b (i+1)=0
  ·have stay:∀d,powN mst b (i+1+d)=0:=by
    intro d;induction d with
    | zero=>exact hz
    | succ d ih=>show tim mst (powN mst b (i+1+d)) b=0; rw [ih,tim_z1]
   have hfr:powN mst b fr=0:=by
    have:=stay (fr - (i+1))
    rwa [show i+1+(fr - (i+1))=fr by omega] at this
   refine ⟨(i:Int),Y1 ?_⟩;unfold P2;have hz':tim mst (powN mst b i) b=0:=hz;rw [hz'] at ht;simp only [if_pos (show (i:Int)<(fr:Int) by omega),ht,Option.bind_some,hfr];rfl
  ·obtain ⟨v,hv⟩:=ih (i+1) (by omega);refine ⟨v,?_⟩;have hb:P2 (LCo c) (some q) (fr:Int) k w n s (b:Int) H (((powN mst b i:Nat):Int),(i:Int))=some (.next (((powN mst b (i+1):Nat):Int),((i+1:Nat):Int))):=by
    unfold P2;have hz':¬(((tim mst (powN mst b i) b:Nat):Int)=0):=fun h=>hz (by show tim mst (powN mst b i) b=0; omega);simp only [if_pos (show (i:Int)<(fr:Int) by omega),ht,Option.bind_some,if_neg hz'];rw [V1 (n:=fr) (by omega) (by omega)];rfl
   rw [W1 hb];exact hv
end
end Go.Proofs.YtccbilfbhecdaaaGreatDoor
namespace Go.Proofs.YtccbilfbhecdaaaGreatDoor
open Go Go.Abs
set_option maxRecDepth 100000
structure CtC (m:Nat) (H0:AH) (q p:Addr) (id3 idk mst:Nat) (s1 s2 s3:Sl3) (g:Sg):Prop where
 good:GoodG g
 nest:¬NestP g
 book:Book H0 p s1 s2 s3 g
 sig:SigA H0 s1 s2 s3 g
 lean:LeanT g H0 id3
 low:H0.next≤idk
 ne:q.block≠idk
 own:m≤idk
 one:1≤mst
 top:mst≤maxN
section
variable {m:Nat} {H0 H:AH} {q p:Addr} {id3 idk mst:Nat} {s1 s2 s3:Sl3} {g:Sg}
def SortP (m:Nat) (H0:AH) (q p:Addr) (id3 idk mst:Nat) (g:Sg) (rec_:Nat→AH→Option Addr→Int→Int→ByteArray→Sl3→Option (Int×AH)) (k w:Int) (n:ByteArray) (s:Sl3) (a:Fo):Prop :=
 ∀H,CntI H0 q p id3 idk mst g H→∃H',rec_ m H (some q) k w n s=some (((cap mst (cS g.datas (Tc g) k w n a):Nat):Int),H')∧CntI H0 q p id3 idk mst g H'∧Fm (fun i=>i=idk) H H'
theorem zd7 (a:Option Nat):addO (some 0) a=a:=by cases a <;> simp [addO]
theorem zqi (c:Nat) (hC:CtC m H0 q p id3 idk mst s1 s2 s3 g) {rec_:Nat→AH→Option Addr→Int→Int→ByteArray→Sl3→Option (Int×AH)} {l:List Sel} {x11 sl:Sl3} {v5 v34:Int} {n16:ByteArray} (h:SlL SelA 5 H0 sl l) (hrec:∀x∈l,∀s',SlF H0 s' x.a→SortP m H0 q p id3 idk mst g rec_ x.k x.w x.sn s' x.a) :
  ∀(t j:Nat) (v:Option Nat) (H:AH),j+t=l.length→posO v→CntI H0 q p id3 idk mst g H →
   ∃H',loopO (K3 (LCo c) rec_ m q x11 v5 v34 n16 sl) (H,((cap mst v:Nat):Int),(j:Int))=some (.inl (H',((cap mst (mulO v (cC g.datas (Tc g) (l.drop j))):Nat):Int),(l.length:Int)))∧CntI H0 q p id3 idk mst g H'∧Fm (fun i=>i=idk) H H':=by
 have hln:=h.n;intro t;induction t with
 | zero =>
  intro j v H hj hv hI;obtain rfl:j=l.length:=by omega
  refine ⟨H,Y1 ?_,hI,Fm.refl _ _⟩;unfold K3;simp only [if_neg (show ¬((l.length:Int)<(sl.n:Int)) by omega)];rw [List.drop_length];have:mulO v (cC g.datas (Tc g) [])=v:=by cases v <;> simp [cC,mulO]
  rw [this]
 | succ t ih =>
  intro j v H hj hv hI;have hjl:j<l.length:=by omega
  obtain ⟨q',g1,g2⟩:=h.get hjl (v:=(j:Int)) rfl;obtain ⟨z,e1,e2,e3,e4,e5,e6⟩:=g2.ex;have r0:rd deS H (q'.add 0)=some l[j].n:=by rw [(g2.n.ext hI.x).rd]; rfl
  have r1:rd (deI .i64) H (q'.add 1)=some l[j].k:=by rw [(e1.ext hI.x).rd]; rfl
  have r2:rd (deI .i64) H (q'.add 2)=some l[j].w:=by rw [(e2.ext hI.x).rd]; rfl
  have r3:rd deS H (q'.add 3)=some l[j].sn:=by rw [(e3.ext hI.x).rd]; rfl
  have r4:rd deSl H (q'.add 4)=some z:=by rw [(e4.ext hI.x).rd]; rfl
  obtain ⟨H1,a1,a2,a3⟩:=hrec _ (List.getElem_mem hjl) z e6 H hI;have hx:=cS_pos (ds:=g.datas) (Tc_pos hC.good) l[j].k l[j].w l[j].sn l[j].a;have ht:=zak (H:=H1) (q:=q) c a2.c1 hC.top (cap mst v) (cap mst (cS g.datas (Tc g) l[j].k l[j].w l[j].sn l[j].a));rw [zlj hv hx] at ht;obtain ⟨H2,b1,b2,b3⟩:=ih (j+1) (mulO v (cS g.datas (Tc g) l[j].k l[j].w l[j].sn l[j].a)) H1 (by omega) (zon hv hx) a2;refine ⟨H2,?_,b2,a3.comp b3 fun _ _ h=>h⟩;have hbody:K3 (LCo c) rec_ m q x11 v5 v34 n16 sl (H,((cap mst v:Nat):Int),(j:Int))=some (.next (H1,((cap mst (mulO v (cS g.datas (Tc g) l[j].k l[j].w l[j].sn l[j].a)):Nat):Int),((j+1:Nat):Int))):=by
   unfold K3;simp only [if_pos (show (j:Int)<(sl.n:Int) by omega),g1,Option.bind_some,r0,r1,r2,r3,r4,a1,ht];rw [V1 hjl h.len]
  rw [W1 hbody,b1,List.drop_eq_getElem_cons hjl,zgi];rfl
theorem zqv (c:Nat) (hC:CtC m H0 q p id3 idk mst s1 s2 s3 g) {rec_:Nat→AH→Option Addr→Int→Int→ByteArray→Sl3→Option (Int×AH)} {l:List Con} {sc:Sl3} (h:SlL ConA 2 H0 sc l) (hrec:∀d∈l,∀x∈d.sels,∀s',SlF H0 s' x.a→SortP m H0 q p id3 idk mst g rec_ x.k x.w x.sn s' x.a) :
  ∀(t j s:Nat) (H:AH),j+t=l.length→s≤mst→CntI H0 q p id3 idk mst g H →
   ∃H',CntI H0 q p id3 idk mst g H'∧Fm (fun i=>i=idk) H H' ∧
    ((∃v,addO (some s) (cD g.datas (Tc g) (l.drop j))=some v∧v≤mst∧loopO (J2 (LCo c) rec_ m q sc) (H,(s:Int),(j:Int))=some (.inl (H',(v:Int),(l.length:Int)))) ∨
     (cap mst (addO (some s) (cD g.datas (Tc g) (l.drop j)))=0∧loopO (J2 (LCo c) rec_ m q sc) (H,(s:Int),(j:Int))=some (.inr (0,H')))):=by
 have hln:=h.n;have hN:=B2;have hone:=hC.one;have htop:=hC.top;intro t;induction t with
 | zero =>
  intro j s H hj hs hI;obtain rfl:j=l.length:=by omega
  refine ⟨H,hI,Fm.refl _ _,.inl ⟨s,?_,hs,Y1 ?_⟩⟩
  ·rw [List.drop_length]; simp [cD,addO]
  ·unfold J2;simp only [if_neg (show ¬((l.length:Int)<(sc.n:Int)) by omega)]
 | succ t ih =>
  intro j s H hj hs hI;have hjl:j<l.length:=by omega
  obtain ⟨q',g1,g2⟩:=h.get hjl (v:=(j:Int)) rfl;obtain ⟨z,e1,e2⟩:=g2.ex;have r0:rd deS H (q'.add 0)=some l[j].n:=by rw [(g2.n.ext hI.x).rd]; rfl
  have r1:rd deSl H (q'.add 1)=some z:=by rw [(e1.ext hI.x).rd]; rfl
  obtain ⟨H1,a1,a2,a3⟩:=zqi c hC (x11:=sc) (v5:=(s:Int)) (v34:=(j:Int)) (n16:=l[j].n) e2 (hrec _ (List.getElem_mem hjl)) l[j].sels.length 0 (some 1) H (by omega) (fun v h=>by cases h; omega) hI;rw [List.drop_zero,zep,W3 hone] at a1;have a1':(LCo c).run (K3 (LCo c) rec_ m q sc (s:Int) (j:Int) l[j].n z) (H,1,0)=_:=a1;have rm:rd (deI .i64) H1 (q.add 1)=some (mst:Int):=by rw [a2.c1.rd]; rfl
  have hpos:=cC_pos (ds:=g.datas) (Tc_pos hC.good) l[j].sels;have htot:addO (some s) (cD g.datas (Tc g) (l.drop j))=addO (addO (some s) (cC g.datas (Tc g) l[j].sels)) (cD g.datas (Tc g) (l.drop (j+1))):=by
   rw [List.drop_eq_getElem_cons hjl,zfk]; rfl
  have hle:=cap_le mst (cC g.datas (Tc g) l[j].sels);have stop:(cap mst (cC g.datas (Tc g) l[j].sels)=0∨mst - cap mst (cC g.datas (Tc g) l[j].sels)<s)→cap mst (addO (some s) (cD g.datas (Tc g) (l.drop j)))=0∧loopO (J2 (LCo c) rec_ m q sc) (H,(s:Int),(j:Int))=some (.inr (0,H1)):=fun hst=>by
   constructor
   ·rw [htot];cases hcc:cC g.datas (Tc g) l[j].sels with
    | none=>cases cD g.datas (Tc g) (l.drop (j+1)) <;> rfl
    | some u =>
     have hu:=hpos u hcc;cases hcd:cD g.datas (Tc g) (l.drop (j+1)) with
     | none=>rfl
     | some w =>
      show cap mst (some (s+u+w))=0;refine cap_no fun hle2=>?_;rw [hcc] at hst;rw [W3 (by omega)] at hst;omega
   ·refine N3 ?_;unfold J2;simp only [if_pos (show (j:Int)<(sc.n:Int) by omega),g1,Option.bind_some,r0,r1,a1'];generalize cap mst (cC g.datas (Tc g) l[j].sels)=u at hst hle;have hcond:(if (u:Int)=0 then some true else (rd (deI .i64) H1 (q.add 1)).bind fun x29=>some (decide ((s:Int) > IntKind.i64.wrap (x29 - (u:Int)))))=some true:=by
     by_cases hu:u=0
     ·subst hu; rfl
     ·rw [if_neg (by omega),rm];simp only [Option.bind_some];rw [U2 (by omega) (by omega),decide_eq_true (by omega)]
    rw [hcond];rfl
  by_cases hst:cap mst (cC g.datas (Tc g) l[j].sels)=0∨mst - cap mst (cC g.datas (Tc g) l[j].sels)<s
  ·exact ⟨H1,a2,a3,.inr (stop hst)⟩
  ·obtain ⟨u,hcc,hum⟩:∃u,cC g.datas (Tc g) l[j].sels=some u∧u≤mst:=by
    cases hcc:cC g.datas (Tc g) l[j].sels with
    | none=>rw [hcc] at hst; exact absurd (.inl rfl) hst
    | some u =>
     refine ⟨u,rfl,?_⟩;rw [hcc] at hst;rcases Nat.lt_or_ge mst u with h' | h'
     ·exact absurd (.inl (cap_no (by omega))) hst
     ·exact h'
   rw [hcc,W3 hum] at hst;rw [hcc,W3 hum] at a1';obtain ⟨H2,b1,b2,b3⟩:=ih (j+1) (s+u) H1 (by omega) (by omega) a2;have hbody:J2 (LCo c) rec_ m q sc (H,(s:Int),(j:Int))=some (.next (H1,((s+u:Nat):Int),((j+1:Nat):Int))):=by
    unfold J2;simp only [if_pos (show (j:Int)<(sc.n:Int) by omega),g1,Option.bind_some,r0,r1,a1'];have hcond:(if (u:Int)=0 then some true else (rd (deI .i64) H1 (q.add 1)).bind fun x29=>some (decide ((s:Int) > IntKind.i64.wrap (x29 - (u:Int)))))=some false:=by
     rw [if_neg (by omega),rm];simp only [Option.bind_some];rw [U2 (by omega) (by omega),decide_eq_false (by omega)]
    rw [hcond];simp only [Option.bind_some,Bool.false_eq_true,if_false];rw [V1 hjl h.len,← Int.natCast_add,U2 (by omega) (by omega)]
   rw [W1 hbody,htot,hcc];exact ⟨H2,b1,a3.comp b2 fun _ _ h=>h,b3⟩
theorem zop (c:Nat) (hC:CtC m H0 q p id3 idk mst s1 s2 s3 g) {rec_:Nat→AH→Option Addr→Int→Int→ByteArray→Sl3→Option (Int×AH)} {i:Nat} (hi:i<g.datas.length) (hrec:¬Lean1 g i i→∀d∈(g.datas[i]).cons,∀x∈d.sels,∀s',SlF H0 s' x.a→SortP m H0 q p id3 idk mst g rec_ x.k x.w x.sn s' x.a) (hI:CntI H0 q p id3 idk mst g H) :
  ∃H',X5 (LCo c) rec_ m H (some q) (i:Int)=some (((cap mst (Tc g i):Nat):Int),H')∧CntI H0 q p id3 idk mst g H'∧Fm (fun i=>i=idk) H H':=by
 obtain ⟨row,k1,k2⟩:=hC.lean i hi;obtain ⟨q',b,k3,k4,k5⟩:=k2 i hi;have r2:rd deSl H (q.add 2)=some ⟨some ⟨id3,0,none⟩,g.datas.length,g.datas.length⟩:=by rw [hI.c2.rd]; rfl
 have r3:rd deSl H ((⟨id3,0,none⟩:Addr).add (i*1))=some row:=by rw [(k1.ext hI.x).rd]; rfl
 have r4:rd deB H q'=some b:=by rw [(k4.ext hI.x).rd]; rfl
 unfold X5;simp only [Option.bind_some,r2,X3 hi rfl,r3,k3,r4];cases b with
 | true =>
  simp only [if_true];rw [Tc_cyc hC.good hC.nest (k5.1 rfl)];exact ⟨H,rfl,hI,Fm.refl _ _⟩
 | false =>
  have hnc:¬Lean1 g i i:=fun h=>absurd (k5.2 h) (by simp);have r0:rd deP H (q.add 0)=some (some p):=by rw [hI.c0.rd]; rfl
  have hadd:∀j,(p.add 0).add j=p.add (0+j):=fun j=>add2 hC.book.c1 0 j;have r1:rd deSl H ((p.add 0).add 1)=some s2:=by rw [hadd,(hC.book.c2.ext hI.x).rd]; rfl
  obtain ⟨qk,gk1,gk2⟩:=hC.sig.d.get hi (v:=(i:Int)) rfl;obtain ⟨sc,gk3,hc⟩:=gk2.ex;have r5:rd deSl H (qk.add 1)=some sc:=by rw [(gk3.ext hI.x).rd]; rfl
  obtain ⟨H',b1,b2,b3⟩:=zqv c hC hc (hrec hnc) (g.datas[i]).cons.length 0 0 H (by omega) (Nat.zero_le _) hI;rw [List.drop_zero,zd7,← Tc_fix hi] at b3;refine ⟨H',?_,b1,b2⟩;simp only [Bool.false_eq_true,if_false,r0,Option.bind_some,r1,gk1,r5];show Option.bind (loopO (J2 (LCo c) rec_ m q sc) (H,((0:Nat):Int),((0:Nat):Int))) _=_;rcases b3 with ⟨v,c1,c2,c3⟩ | ⟨c1,c3⟩
  ·rw [c3,c1,W3 c2]; rfl
  ·rw [c3,c1]; rfl
end
end Go.Proofs.YtccbilfbhecdaaaGreatDoor
namespace Go.Proofs.YtccbilfbhecdaaaGreatDoor
open Go Go.Abs
set_option maxRecDepth 100000
section
variable {m:Nat} {H0 H:AH} {q p:Addr} {id3 idk mst:Nat} {s1 s2 s3:Sl3} {g:Sg}
theorem CntI.known (hC:CtC m H0 q p id3 idk mst s1 s2 s3 g) (hI:CntI H0 q p id3 idk mst g H) {H':AH} (hf:Fm (fun i=>i=idk) H H') {F:Nat→Option Value} (hM:MapA keyN H' idk F) (hF:∀i v,F i=some v→v=.int .i64 ((cap mst (Tc g i):Nat):Int)):CntI H0 q p id3 idk mst g H':=by
 have hlow:=hC.low;refine ⟨hI.x.comp hf fun id hid _ h=>by omega,hI.c0.fr hf ?_,hI.c1.fr hf ?_,hI.c2.fr hf ?_,hI.c3.fr hf ?_,F,hM,hF⟩ <;> (rw [L3]; exact hC.ne)
theorem zja (c:Nat) (hC:CtC m H0 q p id3 idk mst s1 s2 s3 g):∀(R d F:Nat) (k w:Int) (n:ByteArray) (s:Sl3) (a:Fo),SlF H0 s a→shS k w n a=true→knS g.users g.datas k n a=true→a.dep≤15→a.dep<d→(∀i∈dtS g.datas k n a,rk g i<R)→40*R+2*a.dep+1≤F →
  SortP m H0 q p id3 idk mst g (A2 (LCo c) F).1 k w n s a:=by
 have hN:=B2;have hone:=hC.one;have htop:=hC.top;intro R;induction R using Nat.strongRecOn with
 | ind R ihR =>
  intro d;induction d with
  | zero=>intro F k w n s a _ _ _ _ h; omega
  | succ d ihd =>
   intro F k w n s a h hsh hkn hdp hd hrk hF H hI;obtain ⟨F,rfl⟩:∃f,F=f+1:=⟨F - 1,by omega⟩;have hx:=hI.x;have rq:∀{G:AH},CntI H0 q p id3 idk mst g G→rd (deI .i64) G (q.add 1)=some (mst:Int):=fun hG=>by rw [hG.c1.rd]; rfl
   show ∃H',Y5 (LCo c) (A2 (LCo c) F).1 (A2 (LCo c) F).2.1 (A2 (LCo c) F).2.2 m H (some q) k w n s=_∧_;unfold Y5;have fin:∀(G:AH) (v:Nat),CntI H0 q p id3 idk mst g G→(Option.bind (some q) fun q31=>(rd (deI .i64) G (Addr.add q31 1)).bind fun x32=>if (v:Int) > x32 then some ((0:Int),G) else some ((v:Int),G))=some (((cap mst (some v):Nat):Int),G):=fun G v hG=>by
    simp only [Option.bind_some,rq hG];by_cases hv:v≤mst
    ·rw [if_neg (by omega),W3 hv]
    ·rw [if_pos (by omega),cap_no hv]; rfl
   by_cases h1:k=1
   ·rw [if_pos h1];refine ⟨H,?_,hI,Fm.refl _ _⟩;have e:cS g.datas (Tc g) k w n a=some 2:=by unfold cS one_; rw [if_pos h1]
    rw [e];exact fin H 2 hI
   rw [if_neg h1];by_cases h3:k=3
   ·have hw:1≤w∧w≤4096:=by
     rcases S8 hsh with ⟨_,h'⟩ | ⟨h',_⟩
     ·omega
     ·omega
    obtain ⟨wn,rfl⟩:∃wn:Nat,w=(wn:Int):=⟨w.toNat,by omega⟩;rw [if_pos h3];have hl:=znm c hI.c1 htop (k:=k) (n:=n) (s:=s) (w:=wn) (by omega) wn 0 (by omega);have hl':(LCo c).run (M3 (LCo c) H (some q) k (wn:Int) n s) (1,0)=_:=hl;refine ⟨H,?_,hI,Fm.refl _ _⟩;have e:cS g.datas (Tc g) k wn n a=some (2 ^ wn):=by
     unfold cS one_; rw [if_neg h1,if_pos h3]; simp
    rw [hl',e,zj9 hone];have:=fin H (cap mst (some (2 ^ wn))) hI;rw [W3 (cap_le _ _)] at this;exact this
   rw [if_neg h3];by_cases h4:k=4
   ·rw [if_pos h4];rcases S8 hsh with ⟨_,h'⟩ | ⟨_,k1,w1,n1,a1,k2,w2,n2,a2,rfl,hs1,hs2⟩
    ·omega
    ·unfold knS at hkn;rw [if_neg (by omega),if_neg (by omega)] at hkn;simp only [knF,Bool.and_eq_true] at hkn;have hn2:s.n=2:=h.1;have rd0:=fun (G:AH) (hG:Ext H0 G)=>(h.2.2.ext hG).rd (s:=s) (by omega);obtain ⟨qa,ta,qa1,qa2,qa3,qa4,qa5,qa6,qa7,_⟩:=rd0 H hx;obtain ⟨qz,tz,qz1,_,_,_,_,qz6,_,qz8⟩:=rd0 H0 (Fm.refl _ _);obtain ⟨_,_,_,_,_,_,qaS,_,_,_⟩:=rd0 H hx;simp only [Fo.dep] at hdp hd hF;have first:∃q0 t0,SlF H0 t0 a1∧∀G,Ext H0 G→idxA 4 s 0=some q0∧rd (deI .i64) G (q0.add 0)=some k1∧rd (deI .i64) G (q0.add 1)=some w1∧rd deS G (q0.add 2)=some n1∧rd deSl G (q0.add 3)=some t0:=by
      obtain ⟨⟨qq,ss,z1,z2,z3,z4,z5⟩,_⟩:=h.2.2;refine ⟨qq.add (0*4),ss,⟨z3,z4,z5⟩,fun G hG=>⟨J6 z1 rfl (by omega),?_,?_,?_,?_⟩⟩
      ·rw [(z2.ck.ext hG).rd]; rfl
      ·rw [(z2.cw.ext hG).rd]; rfl
      ·rw [(z2.cn.ext hG).rd]; rfl
      ·rw [(z2.cs.ext hG).rd]; rfl
     have second:∃q0 t0,SlF H0 t0 a2∧∀G,Ext H0 G→idxA 4 s 1=some q0∧rd (deI .i64) G (q0.add 0)=some k2∧rd (deI .i64) G (q0.add 1)=some w2∧rd deS G (q0.add 2)=some n2∧rd deSl G (q0.add 3)=some t0:=by
      obtain ⟨_,⟨qq,ss,z1,z2,z3,z4,z5⟩,_⟩:=h.2.2;refine ⟨qq.add ((0+1)*4),ss,⟨z3,z4,z5⟩,fun G hG=>⟨J6 z1 rfl (by omega),?_,?_,?_,?_⟩⟩
      ·rw [(z2.ck.ext hG).rd]; rfl
      ·rw [(z2.cw.ext hG).rd]; rfl
      ·rw [(z2.cn.ext hG).rd]; rfl
      ·rw [(z2.cs.ext hG).rd]; rfl
     obtain ⟨q0,t0,f1,f2⟩:=first
     obtain ⟨q2,t2,g1,g2⟩:=second;have hdt:∀i,i∈dtS g.datas k1 n1 a1∨i∈dtS g.datas k2 n2 a2→i∈dtS g.datas k n (.cons k1 w1 n1 a1 (.cons k2 w2 n2 a2 .nil)):=fun i hi=>by
      unfold dtS at hi ⊢;rw [if_neg (by omega)];simp only [dtF,List.append_nil,List.mem_append];exact hi
     obtain ⟨u0,u1,u2,u3,u4⟩:=f2 H hx;obtain ⟨H1,b1,b2,b3⟩:=ihd F k1 w1 n1 t0 a1 f1 hs1 (by unfold knS; exact hkn.1) (by omega) (by omega) (fun i hi=>hrk i (hdt i (.inl hi))) (by omega) H hI;obtain ⟨v0,v1,v2,v3,v4⟩:=g2 H1 b2.x;obtain ⟨_,y1,y2,y3,y4⟩:=g2 H hx;obtain ⟨F,rfl⟩:∃f,F=f+1:=⟨F - 1,by omega⟩;obtain ⟨H2,d1,d2,d3⟩:=ihd F k2 w2 n2 t2 a2 g1 hs2 (by unfold knS; exact hkn.2.1) (by omega) (by omega) (fun i hi=>hrk i (hdt i (.inr hi))) (by omega) H1 b2;have px:=cS_pos (ds:=g.datas) (Tc_pos hC.good) k1 w1 n1 a1;have py:=cS_pos (ds:=g.datas) (Tc_pos hC.good) k2 w2 n2 a2;have hac:=zqe hone px py;have e:cS g.datas (Tc g) k w n (.cons k1 w1 n1 a1 (.cons k2 w2 n2 a2 .nil))=arrO (cS g.datas (Tc g) k1 w1 n1 a1) (cS g.datas (Tc g) k2 w2 n2 a2):=by
      unfold cS one_;rw [if_neg h1,if_neg h3,if_pos h4];rfl
     rw [e,← hac];have hxle:=cap_le mst (cS g.datas (Tc g) k1 w1 n1 a1);have harr:(A2 (LCo c) (F+1)).2.1 m H1 (some q) ((cap mst (cS g.datas (Tc g) k1 w1 n1 a1):Nat):Int) k2 w2 n2 t2=some (((if cap mst (cS g.datas (Tc g) k2 w2 n2 a2)=1 then 1 else if cap mst (cS g.datas (Tc g) k1 w1 n1 a1)=0 then 0 else powN mst (cap mst (cS g.datas (Tc g) k2 w2 n2 a2)) (cap mst (cS g.datas (Tc g) k1 w1 n1 a1)):Nat):Int),H2):=by
      show K5 (LCo c) (A2 (LCo c) F).1 m H1 (some q) ((cap mst (cS g.datas (Tc g) k1 w1 n1 a1):Nat):Int) k2 w2 n2 t2=_;unfold K5;rw [d1];simp only [Option.bind_some];generalize cap mst (cS g.datas (Tc g) k2 w2 n2 a2)=bs;generalize cap mst (cS g.datas (Tc g) k1 w1 n1 a1)=fr at hxle;by_cases hb1:bs=1
      ·rw [if_pos (by omega),if_pos hb1]; rfl
      ·rw [if_neg (by omega),if_neg hb1];by_cases hf0:fr=0
       ·rw [if_pos (by omega),if_pos hf0]; rfl
       ·rw [if_neg (by omega),if_neg hf0];obtain ⟨v,hv⟩:=zn2 c d2.c1 htop (H:=H2) (k:=k2) (w:=w2) (n:=n2) (s:=t2) (b:=bs) hxle fr 0 (by omega);have hv':(LCo c).run (P2 (LCo c) (some q) (fr:Int) k2 w2 n2 t2 (bs:Int) H2) (1,0)=_:=hv;rw [hv'];rfl
     refine ⟨H2,?_,d2,b3.comp d3 fun _ _ h=>h⟩;simp only [u0,u1,u2,u3,u4,Option.bind_some,b1,v0,v1,v2,v3,v4,harr,y1,y2,y3,y4,if_true,Option.map_some]
   rw [if_neg h4];by_cases h6:k=6
   ·rw [if_pos h6];subst h6;have hk:=hkn;unfold knS at hk;rw [if_neg (by omega),if_pos rfl] at hk;have hlt:=ix_lt hk;have hri:rk g (ixS g.datas n)<R:=hrk _ (by unfold dtS; rw [if_pos rfl]; simp);obtain ⟨idb,r1,r2⟩:=zdj (hC.book.ext hx) n;have r0:rd deP H (q.add 0)=some (some p):=by rw [hI.c0.rd]; rfl
    have rmap:∀{G:AH},CntI H0 q p id3 idk mst g G→rd deM G (q.add 3)=some (some idk):=fun hG=>by rw [hG.c3.rd]; rfl
    obtain ⟨Fk,hM,hFk⟩:=hI.kn;have hlk:=zal natK und115 zero3 rfl hM (ixS g.datas n) (deI .i64);have hlk':lkM Tryz.prog 73 (deI .i64) H (some idk) (Value.int .i64 ((ixS g.datas n:Nat):Int))=_:=hlk;have e:cS g.datas (Tc g) 6 w n a=Tc g (ixS g.datas n):=by
     unfold cS one_;rw [if_neg (by omega),if_neg (by omega),if_neg (by omega),if_pos rfl]
    have capcap:cap mst (some (cap mst (Tc g (ixS g.datas n))))=cap mst (Tc g (ixS g.datas n)):=W3 (cap_le _ _);rw [e];cases hq:Fk (ixS g.datas n) with
    | some v =>
     have hv:=hFk _ _ hq;subst hv;rw [hq] at hlk';have hlk2:lkM Tryz.prog 73 (deI .i64) H (some idk) (Value.int .i64 ((ixS g.datas n:Nat):Int))=some (((cap mst (Tc g (ixS g.datas n)):Nat):Int),true):=hlk';refine ⟨H,?_,hI,Fm.refl _ _⟩;simp only [Option.bind_some,r0,r1,r2,rmap hI,hlk2,if_true];have:=fin H (cap mst (Tc g (ixS g.datas n))) hI;rw [capcap] at this;exact this
    | none =>
     rw [hq] at hlk';have hlk2:lkM Tryz.prog 73 (deI .i64) H (some idk) (Value.int .i64 ((ixS g.datas n:Nat):Int))=some ((0:Int),false):=hlk';obtain ⟨F,rfl⟩:∃f,F=f+1:=⟨F - 1,by omega⟩;obtain ⟨H1,b1,b2,b3⟩:=zop c hC hlt (rec_:=(A2 (LCo c) F).1) (fun hnc d hd x hx s' hs'=>by
      have hs:=hC.good.sel _ (List.getElem_mem hlt) d hd x hx;refine ihR (rk g (ixS g.datas n)) hri 16 F x.k x.w x.sn s' x.a hs' hs.sh hs.kn hs.dp (by have:=hs.dp; omega) (fun i hi=>rk_lt hC.good hnc ⟨hlt,?_⟩) (by have:=hs.dp; omega);unfold stD stC;simp only [List.mem_flatMap];exact ⟨d,hd,x,hx,hi⟩) hI
     have b1':(A2 (LCo c) (F+1)).2.2 m H (some q) ((ixS g.datas n:Nat):Int)=some (((cap mst (Tc g (ixS g.datas n)):Nat):Int),H1):=b1;obtain ⟨F2,hM2,hF2⟩:=b2.kn;obtain ⟨H2,c1,c2,c3,c4⟩:=z7h natK und115 hM2 hC.own (ixS g.datas n) (.int .i64 ((cap mst (Tc g (ixS g.datas n)):Nat):Int));have c1':upM Tryz.prog m 73 H1 (some idk) (Value.int .i64 ((ixS g.datas n:Nat):Int)) (Value.int .i64 ((cap mst (Tc g (ixS g.datas n)):Nat):Int))=some H2:=c1;have hI2:CntI H0 q p id3 idk mst g H2:=CntI.known hC b2 c3 c2 fun i v hv=>by
      split at hv
      ·rename_i e; subst e; cases hv; rfl
      ·exact hF2 i v hv
     refine ⟨H2,?_,hI2,b3.comp c3 fun _ _ h=>h⟩;simp only [Option.bind_some,r0,r1,r2,rmap hI,hlk2,Bool.false_eq_true,if_false,b1',rmap b2,c1'];have:=fin H2 (cap mst (Tc g (ixS g.datas n))) hI2;rw [capcap] at this;exact this
   ·rw [if_neg h6];refine ⟨H,?_,hI,Fm.refl _ _⟩;have e:cS g.datas (Tc g) k w n a=none:=by
     unfold cS one_; rw [if_neg h1,if_neg h3,if_neg h4,if_neg h6]
    rw [e];have:=fin H 0 hI;rw [W3 (Nat.zero_le _)] at this;exact this
end
end Go.Proofs.YtccbilfbhecdaaaGreatDoor
namespace Go.Proofs.YtccbilfbhecdaaaGreatDoor
open Go Go.Abs
set_option maxRecDepth 100000
theorem znv (g:Sg) (k w:Int) (n:ByteArray) (a:Fo):checkS g k w n a=0∨checkS g k w n a=3∨checkS g k w n a=40:=by
 unfold checkS wrongS;split <;> split <;> simp_all
 split at*<;> simp_all
theorem zq3 (g:Sg):allS g=0∨allS g=3∨allS g=40:=by
 unfold allS;cases hq:(sortsE g).findSome? (errS g) with
 | none=>exact .inl rfl
 | some e =>
  obtain ⟨y,hy,hye⟩:=List.exists_of_findSome?_eq_some hq;rw [(err_ok hye).1];exact znv g _ _ _ _
theorem zo0 (g:Sg):namesS g=0∨namesS g=42∨namesS g=41:=by
 unfold namesS;split
 ·simp
 ·split <;> simp
theorem zp7 {g:Sg} (h:sigS g=0∨sigS g=43):GoodG g:=by
 classical
 unfold sigS at h;by_cases h1:manyS g=true
 ·rw [if_pos h1] at h; omega
 ·rw [if_neg h1] at h;by_cases h2:namesS g≠0
  ·rw [if_pos h2] at h;have:=zo0 g;omega
  ·rw [if_neg h2] at h;by_cases h3:allS g≠0
   ·rw [if_pos h3] at h;have:=zq3 g;omega
   ·exact zhn (by simpa using h1) (by simpa using h3)
section
variable {H:AH} {s1 s2 s3:Sl3} {g:Sg} {L0 fuel:Nat}
end
end Go.Proofs.YtccbilfbhecdaaaGreatDoor
namespace Go.Proofs.YtccbilfbhecdaaaGreatDoor
open Go Go.Abs
set_option maxRecDepth 100000
theorem sig_ok {g:Sg} (h:sigS g=0):GoodG g∧¬NestP g∧∀k,k<g.datas.length→Gd g k:=by
 classical
 refine ⟨zp7 (.inl h),fun hn=>?_,?_⟩
 ·unfold sigS at h;split at h
  ·omega
  ·split at h
   ·exact absurd h (by assumption)
   ·split at h
    ·exact absurd h (by assumption)
    ·omega
 ·unfold sigS at h;split at h
  ·omega
  ·split at h
   ·exact absurd h (by assumption)
   ·split at h
    ·exact absurd h (by assumption)
    ·split at h
     ·omega
     ·split at h
      ·assumption
      ·omega
theorem zae {g:Sg} {k w:Int} {n:ByteArray} {a:Fo} (h:checkS g k w n a=0):shS k w n a=true∧a.dep≤15∧a.size≤255∧knS g.users g.datas k n a=true:=by
 unfold checkS at h;split at h
 ·rename_i hw;obtain ⟨z1,z2,z3⟩:=zax hw;split at h
  ·rename_i hk;exact ⟨z1,by omega,by omega,hk⟩
  ·cases h
 ·rename_i hw;exact absurd h hw
section
variable {m:Nat} {H0 H:AH} {s1 s2 s3:Sl3} {g:Sg} {L0 fuel mst:Nat}
theorem zba (hF:L0=fuel+1) (hfu:15≤fuel) (hG:GoodG g) (hN:¬NestP g) (hS:SigA H s1 s2 s3 g) (hm:m≤H.next) (h1:1≤mst) (hmst:mst≤maxN) :
  ∃q p id3 idk H4 H',J8 (LCo L0) m H s1 s2 s3 (mst:Int)=some (some q,H')∧Ext H H'∧Ext H H4∧CtC m H4 q p id3 idk mst s1 s2 s3 g∧CntI H4 q p id3 idk mst g H'∧H.next≤idk∧q.block<H'.next∧idk<H'.next:=by
 obtain ⟨p,H2,p1,p2,p3,p4,p5⟩:=zce L0 m hS hm;obtain ⟨id3,H4,l1,l2,l3⟩:=zfs hF hfu hG (hS.ext p2) p3 (Nat.le_trans hm p2.1);have x4:=p2.trans l2;have x6:Ext H4 (H4.push mapB):=Fm.push _ _ _;have M6:MapA keyN (H4.push mapB) H4.next fun _=>none:=MapA.new keyN;have n6:(H4.push mapB).next=H4.next+1:=by simp
 generalize hH6:H4.push mapB=H6 at x6 M6 n6;have x8:Ext H6 (H6.push (pubB 75 [.pointer (some p),.int .i64 (mst:Int),Sl3.v ⟨some ⟨id3,0,none⟩,g.datas.length,g.datas.length⟩,.map (some H4.next)])):=Fm.push _ _ _;have cel:∀(i:Nat) (v:Value),[.pointer (some p),.int .i64 (mst:Int),Sl3.v ⟨some ⟨id3,0,none⟩,g.datas.length,g.datas.length⟩,.map (some H4.next)][i]? = some v→Cel (H6.push (pubB 75 [.pointer (some p),.int .i64 (mst:Int),Sl3.v ⟨some ⟨id3,0,none⟩,g.datas.length,g.datas.length⟩,.map (some H4.next)])) ((⟨H6.next,0,none⟩:Addr).add i) v:=fun i v hv=>by
  rw [C5];have:(⟨H6.next,0+i,none⟩:Addr)=⟨H6.next,i,none⟩:=by rw [Nat.zero_add]
  rw [this];exact Cel.push (c:=[.pointer (some p),.int .i64 (mst:Int),Sl3.v ⟨some ⟨id3,0,none⟩,g.datas.length,g.datas.length⟩,.map (some H4.next)].toArray) rfl (by simpa using hv)
 have n8:(H6.push (pubB 75 [.pointer (some p),.int .i64 (mst:Int),Sl3.v ⟨some ⟨id3,0,none⟩,g.datas.length,g.datas.length⟩,.map (some H4.next)])).next=H6.next+1:=by simp
 generalize hH8:H6.push (pubB 75 [.pointer (some p),.int .i64 (mst:Int),Sl3.v ⟨some ⟨id3,0,none⟩,g.datas.length,g.datas.length⟩,.map (some H4.next)])=H8 at x8 cel n8;have x48:=x6.trans x8;have:=x4.1;refine ⟨⟨H6.next,0,none⟩,p,id3,H4.next,H4,H8,?_,x4.trans x48,x4,⟨hG,hN,p3.ext l2,hS.ext x4,l3,Nat.le_refl _,?_,by omega,h1,hmst⟩,⟨x48,cel 0 _ rfl,cel 1 _ rfl,cel 2 _ rfl,cel 3 _ rfl,_,M6.fr x8 (by omega) fun h=>h,fun i v hv=>by cases hv⟩,by omega,?_,by omega⟩
 ·unfold J8 newM newB;rw [p1];simp only [Option.bind_some,l1];rw [hH6];simp only [hH8]
 ·show H6.next≠H4.next; omega
 ·show H6.next<H8.next; omega
noncomputable def countS (g:Sg) (k w:Int) (n:ByteArray) (a:Fo) (most:Int):Nat:=if most<1∨sigS g≠0∨checkS g k w n a≠0 then 0 else cap most.toNat (cS g.datas (Tc g) k w n a)
theorem zmb (hF:L0=fuel+1) (hfu:15≤fuel) (hd:g.dep≤fuel) (hb:SgB g) (hS:SigA H s1 s2 s3 g) (hm:m≤H.next) {k w:Int} {n:ByteArray} {s:Sl3} {a:Fo} (h:SlF H s a) (hn:n.size≤maxS) (hda:a.dep≤fuel) (hfn:40*(g.datas.length+1)+31≤L0) {most:Int} (hmo:most<9223372036854775808) :
  ∃H',z1w (LCo L0) m H k w n s s1 s2 s3 most=some (((countS g k w n a most:Nat):Int),decide (countS g k w n a most > 0),H')∧Ext H H':=by
 have hN:=B2;unfold z1w countS;by_cases h1:most<1
 ·rw [if_pos h1,if_pos (show most<1∨sigS g≠0∨checkS g k w n a≠0 from .inl h1)];exact ⟨H,rfl,Fm.refl _ _⟩
 ·rw [if_neg h1];obtain ⟨H4,a1,a2⟩:=zbg hF hfu hd hb hS hm;rw [a1];simp only [Option.bind_some];by_cases h2:sigS g=0
  ·rw [if_pos h2];obtain ⟨H6,b1,b2⟩:=zfi L0 fuel hF (m:=m) (hS.ext a2) (Nat.le_trans hm a2.1) (h.ext a2) hn hda (k:=k) (w:=w);rw [b1];simp only [Option.bind_some];have x6:=a2.trans b2;by_cases h3:checkS g k w n a=0
   ·rw [if_neg (show ¬(most<1∨sigS g≠0∨checkS g k w n a≠0) by rintro (h | h | h); exact h1 h; exact h h2; exact h h3)];rw [decide_eq_true h3];simp only [Bool.not_true,Bool.false_eq_true,if_false];obtain ⟨hG,hNe,_⟩:=sig_ok h2;obtain ⟨c1,c2,c3,c4⟩:=zae h3;have m6:=Nat.le_trans hm x6.1;have hmax:Nat.max m H6.next=H6.next:=Nat.max_eq_right m6;obtain ⟨mst,rfl⟩:∃mst:Nat,most=(mst:Int):=⟨most.toNat,by omega⟩;obtain ⟨q,p,id3,idk,H4',H8,e1,e2,e3,e4,e5,e6,_,_⟩:=zba (m:=H6.next) hF hfu hG hNe (hS.ext x6) (Nat.le_refl _) (mst:=mst) (by omega) (by omega);have e4':CtC m H4' q p id3 idk mst s1 s2 s3 g:=⟨e4.good,e4.nest,e4.book,e4.sig,e4.lean,e4.low,e4.ne,Nat.le_trans m6 e4.own,e4.one,e4.top⟩;have x6':=x6.trans e3;obtain ⟨H10,f1,f2,f3⟩:=zja L0 e4' (g.datas.length+1) 16 L0 k w n s a (h.ext x6') c1 c4 c2 (by omega) (fun i _=>by have:=rk_le g i; omega) (by omega) H8 e5;have f1':M8 (LCo L0) m H8 (some q) k w n s=_:=f1;have e7:=e3.1;have e8:=e2.1;refine ⟨H10,?_,(x6.trans e2).comp f3 fun id hid _ hw=>by have:=e6; have:=x6.1; omega⟩;rw [hmax,e1];simp only [Option.bind_some,f1',Int.toNat_natCast]
    congr 3
    rw [Bool.eq_iff_iff];simp
   ·rw [decide_eq_false h3,if_pos (show most<1∨sigS g≠0∨checkS g k w n a≠0 from .inr (.inr h3))];exact ⟨H6,rfl,x6⟩
  ·rw [if_neg h2,if_pos (show most<1∨sigS g≠0∨checkS g k w n a≠0 from .inr (.inl h2))];exact ⟨H4,rfl,a2⟩
end
end Go.Proofs.YtccbilfbhecdaaaGreatDoor
namespace Go.Proofs.YtccbilfbhecdaaaGreatDoor
open Go Go.Abs
set_option maxRecDepth 100000
theorem zfz {α:Type} {xs:List α} {body:AH×Int→Option (Lp (AH×Int) (Bool×AH))} (Inv:AH→Prop) (W:Nat→Prop) (P:α→Bool)
  (step:∀(i:Nat) (hi:i<xs.length) (H:AH),Inv H→∃H',Inv H'∧Fm W H H'∧body (H,(i:Int))=some (if P xs[i]=true then .next (H',((i+1:Nat):Int)) else .ret (false,H')))
  (he:∀H,Inv H→body (H,(xs.length:Int))=some (.brk (H,(xs.length:Int)))) :
  ∀(d i:Nat) (H:AH),i+d=xs.length→Inv H→∃H',Inv H'∧Fm W H H'∧loopO body (H,(i:Int))=some (if (xs.drop i).all P=true then .inl (H',(xs.length:Int)) else .inr (false,H')):=by
 intro d;induction d with
 | zero =>
  intro i H hi hI;obtain rfl:i=xs.length:=by omega
  refine ⟨H,hI,Fm.refl _ _,?_⟩;rw [List.drop_length];exact Y1 (he H hI)
 | succ d ih =>
  intro i H hi hI;have hlt:i<xs.length:=by omega
  obtain ⟨H1,a1,a2,a3⟩:=step i hlt H hI;rw [List.drop_eq_getElem_cons hlt,List.all_cons];cases hp:P xs[i] with
  | false =>
   rw [hp] at a3;exact ⟨H1,a1,a2,N3 a3⟩
  | true =>
   rw [hp] at a3;obtain ⟨H2,b1,b2,b3⟩:=ih (i+1) H1 (by omega) a1;refine ⟨H2,b1,a2.comp b2 fun _ _ h=>h,?_⟩;rw [W1 (by simpa using a3),Bool.true_and];exact b3
theorem zdi {ds:List Dat} {f:Nat→Option Nat}:∀l:List Sel,(cC ds f l).isSome=l.all fun x=>(cS ds f x.k x.w x.sn x.a).isSome
 | []=>rfl
 | x :: l=>by
  show (mulO (cS ds f x.k x.w x.sn x.a) (cC ds f l)).isSome=_;rw [List.all_cons,← zdi l];cases cS ds f x.k x.w x.sn x.a <;> cases cC ds f l <;> rfl
theorem zdk {ds:List Dat} {f:Nat→Option Nat}:∀l:List Con,(cD ds f l).isSome=l.all fun c=>(cC ds f c.sels).isSome
 | []=>rfl
 | c :: l=>by
  show (addO (cC ds f c.sels) (cD ds f l)).isSome=_;rw [List.all_cons,← zdk l];cases cC ds f c.sels <;> cases cD ds f l <;> rfl
section
variable {m:Nat} {H0 H:AH} {q e p:Addr} {id3 idk idm:Nat} {s1 s2 s3:Sl3} {g:Sg} {L0:Nat}
structure CtE (m:Nat) (H0:AH) (q e p:Addr) (id3 idk idm:Nat) (s1 s2 s3:Sl3) (g:Sg) (L0:Nat):Prop where
 c:CtC m H0 q p id3 idk 1 s1 s2 s3 g
 low:H0.next≤idm
 nk:idm≠idk
 qm:q.block≠idm
 ek:e.block≠idk
 em:e.block≠idm
 own:m≤idm
 fu:40*(g.datas.length+1)+31≤L0
structure EndI (H0:AH) (q e p:Addr) (id3 idk idm:Nat) (g:Sg) (H:AH):Prop where
 c:CntI H0 q p id3 idk 1 g H
 e0:Cel H (e.add 0) (.pointer (some q))
 e1:Cel H (e.add 1) (.map (some idm))
 lt:idk<H.next∧idm<H.next
 kn:∃F:Nat→Option Value,MapA keyN H idm F∧∀i v,F i=some v→v=.bool (Tc g i).isSome
theorem EndI.cnt (hE:CtE m H0 q e p id3 idk idm s1 s2 s3 g L0) (hI:EndI H0 q e p id3 idk idm g H) {H':AH} (hc:CntI H0 q p id3 idk 1 g H') (hf:Fm (fun i=>i=idk) H H'):EndI H0 q e p id3 idk idm g H':=by
 obtain ⟨F,h1,h2⟩:=hI.kn;have:=hf.1;have:=hI.lt;exact ⟨hc,hI.e0.fr hf (by rw [L3]; exact hE.ek),hI.e1.fr hf (by rw [L3]; exact hE.ek),⟨by omega,by omega⟩,F,h1.fr hf hI.lt.2 hE.nk,h2⟩
theorem EndI.known (hE:CtE m H0 q e p id3 idk idm s1 s2 s3 g L0) (hI:EndI H0 q e p id3 idk idm g H) {H':AH} (hf:Fm (fun i=>i=idm) H H') {F:Nat→Option Value} (hM:MapA keyN H' idm F) (hF:∀i v,F i=some v→v=.bool (Tc g i).isSome):EndI H0 q e p id3 idk idm g H':=by
 have hlow:=hE.low;have:=hf.1;have:=hI.lt;obtain ⟨Fk,k1,k2⟩:=hI.c.kn;have qm:∀j,(q.add j).block≠idm:=fun j=>by rw [L3]; exact hE.qm
 exact ⟨⟨hI.c.x.comp hf fun id hid _ h=>by omega,hI.c.c0.fr hf (qm 0),hI.c.c1.fr hf (qm 1),hI.c.c2.fr hf (qm 2),hI.c.c3.fr hf (qm 3),Fk,k1.fr hf hI.lt.1 fun h=>hE.nk h.symm,k2⟩,
  hI.e0.fr hf (by rw [L3]; exact hE.em),hI.e1.fr hf (by rw [L3]; exact hE.em),⟨by omega,by omega⟩,F,hM,hF⟩
def FinP (m:Nat) (H0:AH) (q e p:Addr) (id3 idk idm:Nat) (g:Sg) (rec_:Nat→AH→Option Addr→Int→Int→ByteArray→Sl3→Option (Bool×AH)) (k w:Int) (n:ByteArray) (s:Sl3) (a:Fo):Prop :=
 ∀H,EndI H0 q e p id3 idk idm g H→∃H',rec_ m H (some e) k w n s=some ((cS g.datas (Tc g) k w n a).isSome,H')∧EndI H0 q e p id3 idk idm g H'∧Fm (fun i=>i=idk∨i=idm) H H'
theorem znd (c:Nat) (hE:CtE m H0 q e p id3 idk idm s1 s2 s3 g L0) {rec_:Nat→AH→Option Addr→Int→Int→ByteArray→Sl3→Option (Bool×AH)} {i:Nat} (hi:i<g.datas.length) (hrec:¬Lean1 g i i→∀d∈(g.datas[i]).cons,∀x∈d.sels,∀s',SlF H0 s' x.a→FinP m H0 q e p id3 idk idm g rec_ x.k x.w x.sn s' x.a) (hI:EndI H0 q e p id3 idk idm g H) :
  ∃H',I7 (LCo c) rec_ m H (some e) (i:Int)=some ((Tc g i).isSome,H')∧EndI H0 q e p id3 idk idm g H'∧Fm (fun i=>i=idk∨i=idm) H H':=by
 have hC:=hE.c;obtain ⟨row,k1,k2⟩:=hC.lean i hi;obtain ⟨q',b,k3,k4,k5⟩:=k2 i hi;have re:rd deP H (e.add 0)=some (some q):=by rw [hI.e0.rd]; rfl
 have r2:rd deSl H (q.add 2)=some ⟨some ⟨id3,0,none⟩,g.datas.length,g.datas.length⟩:=by rw [hI.c.c2.rd]; rfl
 have r3:rd deSl H ((⟨id3,0,none⟩:Addr).add (i*1))=some row:=by rw [(k1.ext hI.c.x).rd]; rfl
 have r4:rd deB H q'=some b:=by rw [(k4.ext hI.c.x).rd]; rfl
 unfold I7;simp only [Option.bind_some,re,r2,X3 hi rfl,r3,k3,r4];cases b with
 | true =>
  simp only [if_true];rw [Tc_cyc hC.good hC.nest (k5.1 rfl)];exact ⟨H,rfl,hI,Fm.refl _ _⟩
 | false =>
  have hnc:¬Lean1 g i i:=fun h=>absurd (k5.2 h) (by simp);have r0:rd deP H (q.add 0)=some (some p):=by rw [hI.c.c0.rd]; rfl
  have hadd:∀j,(p.add 0).add j=p.add (0+j):=fun j=>add2 hC.book.c1 0 j;have r1:rd deSl H ((p.add 0).add 1)=some s2:=by rw [hadd,(hC.book.c2.ext hI.c.x).rd]; rfl
  obtain ⟨qk,gk1,gk2⟩:=hC.sig.d.get hi (v:=(i:Int)) rfl;obtain ⟨sc,gk3,hc⟩:=gk2.ex;have r5:rd deSl H (qk.add 1)=some sc:=by rw [(gk3.ext hI.c.x).rd]; rfl
  have hcn:=hc.n;obtain ⟨H',b1,b2,b3⟩:=zfz (xs:=(g.datas[i]).cons) (body:=O5 (LCo c) rec_ m e sc) (EndI H0 q e p id3 idk idm g) (fun i=>i=idk∨i=idm) (fun c=>(cC g.datas (Tc g) c.sels).isSome)
   (fun j hj G hG=>by
    obtain ⟨qc,c1,c2⟩:=hc.get hj (v:=(j:Int)) rfl;obtain ⟨z,c3,c4⟩:=c2.ex;have w0:rd deS G (qc.add 0)=some (g.datas[i]).cons[j].n:=by rw [(c2.n.ext hG.c.x).rd]; rfl
    have w1:rd deSl G (qc.add 1)=some z:=by rw [(c3.ext hG.c.x).rd]; rfl
    have hzn:=c4.n;obtain ⟨G',d1,d2,d3⟩:=zfz (xs:=(g.datas[i]).cons[j].sels) (body:=Q5 (LCo c) rec_ m e sc (j:Int) (g.datas[i]).cons[j].n z) (EndI H0 q e p id3 idk idm g) (fun i=>i=idk∨i=idm) (fun x=>(cS g.datas (Tc g) x.k x.w x.sn x.a).isSome)
     (fun t ht K hK=>by
      obtain ⟨qs,u1,u2⟩:=c4.get ht (v:=(t:Int)) rfl;obtain ⟨y,f1,f2,f3,f4,f5,f6⟩:=u2.ex;have x0:rd deS K (qs.add 0)=some (g.datas[i]).cons[j].sels[t].n:=by rw [(u2.n.ext hK.c.x).rd]; rfl
      have x1:rd (deI .i64) K (qs.add 1)=some (g.datas[i]).cons[j].sels[t].k:=by rw [(f1.ext hK.c.x).rd]; rfl
      have x2:rd (deI .i64) K (qs.add 2)=some (g.datas[i]).cons[j].sels[t].w:=by rw [(f2.ext hK.c.x).rd]; rfl
      have x3:rd deS K (qs.add 3)=some (g.datas[i]).cons[j].sels[t].sn:=by rw [(f3.ext hK.c.x).rd]; rfl
      have x4:rd deSl K (qs.add 4)=some y:=by rw [(f4.ext hK.c.x).rd]; rfl
      obtain ⟨K',a1,a2,a3⟩:=hrec hnc _ (List.getElem_mem hj) _ (List.getElem_mem ht) y f6 K hK;refine ⟨K',a2,a3,?_⟩;unfold Q5;simp only [if_pos (show (t:Int)<(z.n:Int) by omega),u1,Option.bind_some,x0,x1,x2,x3,x4,a1];rw [V1 ht c4.len];split <;> rfl)
     (fun K hK=>by
      unfold Q5;simp only [if_neg (show ¬(((g.datas[i]).cons[j].sels.length:Int)<(z.n:Int)) by omega)])
     (g.datas[i]).cons[j].sels.length 0 G (by omega) hG
    rw [List.drop_zero,← zdi] at d3;refine ⟨G',d1,d2,?_⟩;unfold O5;simp only [if_pos (show (j:Int)<(sc.n:Int) by omega),c1,Option.bind_some,w0,w1];show Option.bind (loopO (Q5 (LCo c) rec_ m e sc (j:Int) (g.datas[i]).cons[j].n z) (G,((0:Nat):Int))) _=_;rw [d3,V1 hj hc.len];by_cases hq:(cC g.datas (Tc g) (g.datas[i]).cons[j].sels).isSome=true
    ·rw [if_pos hq,if_pos hq]; rfl
    ·rw [if_neg hq,if_neg hq]; rfl)
   (fun G hG=>by
    unfold O5;simp only [if_neg (show ¬(((g.datas[i]).cons.length:Int)<(sc.n:Int)) by omega)])
   (g.datas[i]).cons.length 0 H (by omega) hI
  rw [List.drop_zero,← zdk,← Tc_fix hi] at b3;refine ⟨H',?_,b1,b2⟩;simp only [Bool.false_eq_true,if_false,r0,Option.bind_some,r1,gk1,r5];show Option.bind (loopO (O5 (LCo c) rec_ m e sc) (H,((0:Nat):Int))) _=_;rw [b3];by_cases hq:(Tc g i).isSome=true
  ·rw [if_pos hq,hq]; rfl
  ·rw [if_neg hq];have:(Tc g i).isSome=false:=by simpa using hq
   rw [this]; rfl
theorem zo1 (hE:CtE m H0 q e p id3 idk idm s1 s2 s3 g L0):∀(R d F:Nat) (k w:Int) (n:ByteArray) (s:Sl3) (a:Fo),SlF H0 s a→shS k w n a=true→knS g.users g.datas k n a=true→a.dep≤15→a.dep<d→(∀i∈dtS g.datas k n a,rk g i<R)→40*R+2*a.dep+1≤F →
  FinP m H0 q e p id3 idk idm g (E4 (LCo L0) F).1 k w n s a:=by
 have hC:=hE.c;have hfu:=hE.fu;intro R;induction R using Nat.strongRecOn with
 | ind R ihR =>
  intro d;induction d with
  | zero=>intro F k w n s a _ _ _ _ h; omega
  | succ d ihd =>
   intro F k w n s a h hsh hkn hdp hd hrk hF H hI;obtain ⟨F,rfl⟩:∃f,F=f+1:=⟨F - 1,by omega⟩;have hx:=hI.c.x;show ∃H',K7 (LCo L0) (E4 (LCo L0) F).1 (E4 (LCo L0) F).2 m H (some e) k w n s=_∧_;unfold K7;have hc:(if k=1 then some true else some (decide (k=3)))=some (decide (k=1∨k=3)):=by
    by_cases h1:k=1 <;> simp [h1]
   rw [hc];simp only [Option.bind_some];by_cases h13:k=1∨k=3
   ·rw [decide_eq_true h13];refine ⟨H,?_,hI,Fm.refl _ _⟩;have e:(cS g.datas (Tc g) k w n a).isSome=true:=by
     unfold cS one_;rcases h13 with h | h
     ·rw [if_pos h]; rfl
     ·rw [if_neg (by omega),if_pos h]; rfl
    rw [e];rfl
   rw [decide_eq_false h13];simp only [Bool.false_eq_true,if_false];have h1:¬k=1:=fun h=>h13 (.inl h);have h3:¬k=3:=fun h=>h13 (.inr h);have re:∀{G:AH},EndI H0 q e p id3 idk idm g G→rd deP G (e.add 0)=some (some q):=fun hG=>by rw [hG.e0.rd]; rfl
   by_cases h4:k=4
   ·rw [if_pos h4];rcases S8 hsh with ⟨_,h'⟩ | ⟨_,k1,w1,n1,a1,k2,w2,n2,a2,rfl,hs1,hs2⟩
    ·omega
    ·unfold knS at hkn;rw [if_neg (by omega),if_neg (by omega)] at hkn;simp only [knF,Bool.and_eq_true] at hkn;have hn2:s.n=2:=h.1;simp only [Fo.dep] at hdp hd hF;have first:∃q0 t0,SlF H0 t0 a1∧∀G,Ext H0 G→idxA 4 s 0=some q0∧rd (deI .i64) G (q0.add 0)=some k1∧rd (deI .i64) G (q0.add 1)=some w1∧rd deS G (q0.add 2)=some n1∧rd deSl G (q0.add 3)=some t0:=by
      obtain ⟨⟨qq,ss,z1,z2,z3,z4,z5⟩,_⟩:=h.2.2;refine ⟨qq.add (0*4),ss,⟨z3,z4,z5⟩,fun G hG=>⟨J6 z1 rfl (by omega),?_,?_,?_,?_⟩⟩
      ·rw [(z2.ck.ext hG).rd]; rfl
      ·rw [(z2.cw.ext hG).rd]; rfl
      ·rw [(z2.cn.ext hG).rd]; rfl
      ·rw [(z2.cs.ext hG).rd]; rfl
     have second:∃q0 t0,SlF H0 t0 a2∧∀G,Ext H0 G→idxA 4 s 1=some q0∧rd (deI .i64) G (q0.add 0)=some k2∧rd (deI .i64) G (q0.add 1)=some w2∧rd deS G (q0.add 2)=some n2∧rd deSl G (q0.add 3)=some t0:=by
      obtain ⟨_,⟨qq,ss,z1,z2,z3,z4,z5⟩,_⟩:=h.2.2;refine ⟨qq.add ((0+1)*4),ss,⟨z3,z4,z5⟩,fun G hG=>⟨J6 z1 rfl (by omega),?_,?_,?_,?_⟩⟩
      ·rw [(z2.ck.ext hG).rd]; rfl
      ·rw [(z2.cw.ext hG).rd]; rfl
      ·rw [(z2.cn.ext hG).rd]; rfl
      ·rw [(z2.cs.ext hG).rd]; rfl
     obtain ⟨q0,t0,f1,f2⟩:=first
     obtain ⟨q2,t2,g1,g2⟩:=second;have hdt:∀i,i∈dtS g.datas k1 n1 a1∨i∈dtS g.datas k2 n2 a2→i∈dtS g.datas k n (.cons k1 w1 n1 a1 (.cons k2 w2 n2 a2 .nil)):=fun i hi=>by
      unfold dtS at hi ⊢;rw [if_neg (by omega)];simp only [dtF,List.append_nil,List.mem_append];exact hi
     have hks2:knS g.users g.datas k2 n2 a2=true:=by unfold knS; exact hkn.2.1
     obtain ⟨v0,v1,v2,v3,v4⟩:=g2 H hx;obtain ⟨H1,b1,b2,b3⟩:=zja L0 hC (g.datas.length+1) 16 L0 k2 w2 n2 t2 a2 g1 hs2 hks2 (by omega) (by omega) (fun i _=>by have:=rk_le g i; omega) (by omega) H hI.c;have b1':M8 (LCo L0) m H (some q) k2 w2 n2 t2=_:=b1;have hI1:=EndI.cnt hE hI b2 b3;have py:=cS_pos (ds:=g.datas) (Tc_pos hC.good) k2 w2 n2 a2;have ecs:cS g.datas (Tc g) k w n (.cons k1 w1 n1 a1 (.cons k2 w2 n2 a2 .nil))=arrO (cS g.datas (Tc g) k1 w1 n1 a1) (cS g.datas (Tc g) k2 w2 n2 a2):=by
      unfold cS one_;rw [if_neg h1,if_neg h3,if_pos h4];rfl
     rw [ecs];have w13:Fm (fun i=>i=idk∨i=idm) H H1:=b3.weak fun _ _ h=>.inl h;by_cases hone:cap 1 (cS g.datas (Tc g) k2 w2 n2 a2)=1
     ·have hy:cS g.datas (Tc g) k2 w2 n2 a2=some 1:=by
       cases hq:cS g.datas (Tc g) k2 w2 n2 a2 with
       | none=>rw [hq] at hone; cases hone
       | some t =>
        have ht:=py t hq;rw [hq] at hone;by_cases h':t≤1
        ·rw [W3 h'] at hone; rw [hone]
        ·rw [cap_no h'] at hone; cases hone
      refine ⟨H1,?_,hI1,w13⟩;simp only [re hI,v0,v1,v2,v3,v4,Option.bind_some,b1',hone];rw [hy];cases cS g.datas (Tc g) k1 w1 n1 a1 <;> rfl
     ·have hne:¬(((cap 1 (cS g.datas (Tc g) k2 w2 n2 a2):Nat):Int)=1):=by omega
      have harr:(arrO (cS g.datas (Tc g) k1 w1 n1 a1) (cS g.datas (Tc g) k2 w2 n2 a2)).isSome=((cS g.datas (Tc g) k1 w1 n1 a1).isSome&&(cS g.datas (Tc g) k2 w2 n2 a2).isSome):=by
       cases hq:cS g.datas (Tc g) k2 w2 n2 a2 with
       | none=>cases cS g.datas (Tc g) k1 w1 n1 a1 <;> rfl
       | some t =>
        have:¬t=1:=fun ht=>by rw [hq,ht] at hone; exact hone rfl
        cases cS g.datas (Tc g) k1 w1 n1 a1 <;> simp [arrO,this]
      obtain ⟨u0,u1,u2,u3,u4⟩:=f2 H1 hI1.c.x;obtain ⟨H2,c1,c2,c3⟩:=ihd F k1 w1 n1 t0 a1 f1 hs1 (by unfold knS; exact hkn.1) (by omega) (by omega) (fun i hi=>hrk i (hdt i (.inl hi))) (by omega) H1 hI1;rw [harr];cases hfa:(cS g.datas (Tc g) k1 w1 n1 a1).isSome with
      | false =>
       rw [hfa] at c1;refine ⟨H2,?_,c2,w13.comp c3 fun _ _ h=>h⟩;simp only [re hI,v0,v1,v2,v3,v4,Option.bind_some,b1',if_neg hne,u0,u1,u2,u3,u4,c1,Bool.false_eq_true,if_false,Bool.false_and]
      | true =>
       rw [hfa] at c1;obtain ⟨y0,y1,y2,y3,y4⟩:=g2 H2 c2.c.x;obtain ⟨H3,d1,d2,d3⟩:=ihd F k2 w2 n2 t2 a2 g1 hs2 hks2 (by omega) (by omega) (fun i hi=>hrk i (hdt i (.inr hi))) (by omega) H2 c2;refine ⟨H3,?_,d2,(w13.comp c3 fun _ _ h=>h).comp d3 fun _ _ h=>h⟩;simp only [re hI,v0,v1,v2,v3,v4,Option.bind_some,b1',if_neg hne,u0,u1,u2,u3,u4,c1,if_true,y1,y2,y3,y4,d1,Bool.true_and]
   rw [if_neg h4];by_cases h6:k=6
   ·rw [if_pos h6];subst h6;have hk:=hkn;unfold knS at hk;rw [if_neg (by omega),if_pos rfl] at hk;have hlt:=ix_lt hk;have hri:rk g (ixS g.datas n)<R:=hrk _ (by unfold dtS; rw [if_pos rfl]; simp);obtain ⟨idb,r1,r2⟩:=zdj (hC.book.ext hx) n;have r0:rd deP H (q.add 0)=some (some p):=by rw [hI.c.c0.rd]; rfl
    have rmap:∀{G:AH},EndI H0 q e p id3 idk idm g G→rd deM G (e.add 1)=some (some idm):=fun hG=>by rw [hG.e1.rd]; rfl
    obtain ⟨Fk,hM,hFk⟩:=hI.kn;have hlk:=zal natK und84 zero4 rfl hM (ixS g.datas n) deB;have hlk':lkM Tryz.prog 48 deB H (some idm) (Value.int .i64 ((ixS g.datas n:Nat):Int))=_:=hlk;have ecs:cS g.datas (Tc g) 6 w n a=Tc g (ixS g.datas n):=by
     unfold cS one_;rw [if_neg (by omega),if_neg (by omega),if_neg (by omega),if_pos rfl]
    rw [ecs];cases hq:Fk (ixS g.datas n) with
    | some v =>
     have hv:=hFk _ _ hq;subst hv;rw [hq] at hlk';have hlk2:lkM Tryz.prog 48 deB H (some idm) (Value.int .i64 ((ixS g.datas n:Nat):Int))=some ((Tc g (ixS g.datas n)).isSome,true):=hlk';refine ⟨H,?_,hI,Fm.refl _ _⟩;simp only [Option.bind_some,re hI,r0,r1,r2,rmap hI,hlk2,if_true]
    | none =>
     rw [hq] at hlk';have hlk2:lkM Tryz.prog 48 deB H (some idm) (Value.int .i64 ((ixS g.datas n:Nat):Int))=some (false,false):=hlk';obtain ⟨F,rfl⟩:∃f,F=f+1:=⟨F - 1,by omega⟩;obtain ⟨H1,b1,b2,b3⟩:=znd L0 hE hlt (rec_:=(E4 (LCo L0) F).1) (fun hnc d hd x hx s' hs'=>by
      have hs:=hC.good.sel _ (List.getElem_mem hlt) d hd x hx;refine ihR (rk g (ixS g.datas n)) hri 16 F x.k x.w x.sn s' x.a hs' hs.sh hs.kn hs.dp (by have:=hs.dp; omega) (fun i hi=>rk_lt hC.good hnc ⟨hlt,?_⟩) (by have:=hs.dp; omega);unfold stD stC;simp only [List.mem_flatMap];exact ⟨d,hd,x,hx,hi⟩) hI
     have b1':(E4 (LCo L0) (F+1)).2 m H (some e) ((ixS g.datas n:Nat):Int)=some ((Tc g (ixS g.datas n)).isSome,H1):=b1;obtain ⟨F2,hM2,hF2⟩:=b2.kn;obtain ⟨H2,c1,c2,c3,c4⟩:=z7h natK und84 hM2 hE.own (ixS g.datas n) (.bool (Tc g (ixS g.datas n)).isSome);have c1':upM Tryz.prog m 48 H1 (some idm) (Value.int .i64 ((ixS g.datas n:Nat):Int)) (Value.bool (Tc g (ixS g.datas n)).isSome)=some H2:=c1;have hI2:EndI H0 q e p id3 idk idm g H2:=EndI.known hE b2 c3 c2 fun i v hv=>by
      split at hv
      ·rename_i e; subst e; cases hv; rfl
      ·exact hF2 i v hv
     refine ⟨H2,?_,hI2,b3.comp c3 fun _ _ h h'=>h (.inr h')⟩;simp only [Option.bind_some,re hI,r0,r1,r2,rmap hI,hlk2,Bool.false_eq_true,if_false,b1',rmap b2,c1']
   ·rw [if_neg h6];refine ⟨H,?_,hI,Fm.refl _ _⟩;have ecs:cS g.datas (Tc g) k w n a=none:=by
     unfold cS one_; rw [if_neg h1,if_neg h3,if_neg h4,if_neg h6]
    rw [ecs];rfl
end
end Go.Proofs.YtccbilfbhecdaaaGreatDoor
namespace Go.Proofs.YtccbilfbhecdaaaGreatDoor
open Go Go.Abs
set_option maxRecDepth 100000
noncomputable def finS (g:Sg) (k w:Int) (n:ByteArray) (a:Fo):Bool:=decide (sigS g=0∧checkS g k w n a=0)&&(cS g.datas (Tc g) k w n a).isSome
section
variable {m:Nat} {H0 H:AH} {q p:Addr} {id3 idk mst:Nat} {s1 s2 s3:Sl3} {g:Sg} {L0 fuel:Nat}
theorem CntI.ext {H':AH} (hI:CntI H0 q p id3 idk mst g H) (hlt:idk<H.next) (hf:Ext H H'):CntI H0 q p id3 idk mst g H':=by
 obtain ⟨F,h1,h2⟩:=hI.kn;exact ⟨hI.x.trans hf,hI.c0.ext hf,hI.c1.ext hf,hI.c2.ext hf,hI.c3.ext hf,F,h1.fr hf hlt fun h=>h,h2⟩
theorem zl9 (hF:L0=fuel+1) (hfu:15≤fuel) (hd:g.dep≤fuel) (hb:SgB g) (hS:SigA H s1 s2 s3 g) (hm:m≤H.next) {k w:Int} {n:ByteArray} {s:Sl3} {a:Fo} (h:SlF H s a) (hn:n.size≤maxS) (hda:a.dep≤fuel) (hfn:40*(g.datas.length+1)+31≤L0) :
  ∃H',z12 (LCo L0) m H k w n s s1 s2 s3=some (finS g k w n a,H')∧Ext H H':=by
 unfold z12 finS;obtain ⟨H4,a1,a2⟩:=zbg hF hfu hd hb hS hm;rw [a1];simp only [Option.bind_some];by_cases h2:sigS g=0
 ·rw [if_pos h2];obtain ⟨H6,b1,b2⟩:=zfi L0 fuel hF (m:=m) (hS.ext a2) (Nat.le_trans hm a2.1) (h.ext a2) hn hda (k:=k) (w:=w);rw [b1];simp only [Option.bind_some];have x6:=a2.trans b2;by_cases h3:checkS g k w n a=0
  ·rw [decide_eq_true h3,decide_eq_true (show sigS g=0∧checkS g k w n a=0 from ⟨h2,h3⟩)];simp only [Bool.not_true,Bool.false_eq_true,if_false,Bool.true_and];obtain ⟨hG,hNe,_⟩:=sig_ok h2;obtain ⟨c1,c2,c3,c4⟩:=zae h3;have m6:=Nat.le_trans hm x6.1;obtain ⟨q,p,id3,idk,H4',H8,e1,e2,e3,e4,e5,e6,e7,e8⟩:=zba (m:=m) hF hfu hG hNe (hS.ext x6) m6 (mst:=1) (Nat.le_refl _) (by rw [B2]; omega);have x10:Ext H8 (H8.push mapB):=Fm.push _ _ _;have M10:MapA keyN (H8.push mapB) H8.next fun _=>none:=MapA.new keyN;have n10:(H8.push mapB).next=H8.next+1:=by simp
   generalize hH10:H8.push mapB=H10 at x10 M10 n10;have x12:Ext H10 (H10.push (pubB 50 [.pointer (some q),.map (some H8.next)])):=Fm.push _ _ _;have cel:∀(i:Nat) (v:Value),[.pointer (some q),.map (some H8.next)][i]? = some v→Cel (H10.push (pubB 50 [.pointer (some q),.map (some H8.next)])) ((⟨H10.next,0,none⟩:Addr).add i) v:=fun i v hv=>by
    rw [C5];have:(⟨H10.next,0+i,none⟩:Addr)=⟨H10.next,i,none⟩:=by rw [Nat.zero_add]
    rw [this];exact Cel.push (c:=[.pointer (some q),.map (some H8.next)].toArray) rfl (by simpa using hv)
   have n12:(H10.push (pubB 50 [.pointer (some q),.map (some H8.next)])).next=H10.next+1:=by simp
   generalize hH12:H10.push (pubB 50 [.pointer (some q),.map (some H8.next)])=H12 at x12 cel n12;have x812:=x10.trans x12;have y1:=e3.1;have y2:=e2.1;have y3:=x6.1;have y4:=e5.x.1;have hE:CtE m H4' q ⟨H10.next,0,none⟩ p id3 idk H8.next s1 s2 s3 g L0:=⟨e4,by omega,by omega,by omega,by show H10.next≠idk; omega,by show H10.next≠H8.next; omega,by omega,hfn⟩;have hI:EndI H4' q ⟨H10.next,0,none⟩ p id3 idk H8.next g H12:=⟨e5.ext e8 x812,cel 0 _ rfl,cel 1 _ rfl,⟨by omega,by omega⟩,_,M10.fr x12 (by omega) fun h=>h,fun i v hv=>by cases hv⟩;obtain ⟨H14,f1,f2,f3⟩:=zo1 hE (g.datas.length+1) 16 L0 k w n s a (h.ext (x6.trans e3)) c1 c4 c2 (by omega) (fun i _=>by have:=rk_le g i; omega) (by omega) H12 hI;have f1':z4i (LCo L0) m H12 (some ⟨H10.next,0,none⟩) k w n s=_:=f1;refine ⟨H14,?_,((x6.trans e2).trans x812).comp f3 fun id hid _ hw=>by omega⟩;have e1':J8 (LCo L0) m H6 s1 s2 s3 1=some (some q,H8):=e1;rw [e1'];unfold newM newB;simp only [Option.bind_some];rw [hH10];simp only [hH12,f1',Option.bind_some]
  ·rw [decide_eq_false h3,decide_eq_false (show ¬(sigS g=0∧checkS g k w n a=0) from fun h=>h3 h.2)];exact ⟨H6,rfl,x6⟩
 ·rw [if_neg h2,decide_eq_false (show ¬(sigS g=0∧checkS g k w n a=0) from fun h=>h2 h.1)];exact ⟨H4,rfl,a2⟩
end
end Go.Proofs.YtccbilfbhecdaaaGreatDoor
namespace Go.Proofs.YtccbilfbhecdaaaGreatDoor
open Go Go.Abs
set_option maxRecDepth 100000
theorem zgk (c:Nat) {a b mo:Nat} (ha:2≤a) (hmo:1≤mo) (hm:mo≤maxN):∃v e,za (LCo c) (a:Int) (b:Int) (mo:Int)=some (v,e)∧(e=true↔a ^ b≤mo)∧(a ^ b≤mo→v=((a ^ b:Nat):Int)):=by
 have hN:=B2;have key:∀(t i:Nat),i+t=b→a ^ i≤mo→(a ^ b≤mo∧∃j,loopO (i4 (LCo c) (a:Int) (b:Int) (mo:Int)) (((a ^ i:Nat):Int),(i:Int))=some (.inl (((a ^ b:Nat):Int),j)))∨(¬a ^ b≤mo∧loopO (i4 (LCo c) (a:Int) (b:Int) (mo:Int)) (((a ^ i:Nat):Int),(i:Int))=some (.inr (0,false))):=by
  intro t;induction t with
  | zero =>
   intro i hi hp;obtain rfl:i=b:=by omega
   refine .inl ⟨hp,(i:Int),Y1 ?_⟩;unfold i4;simp only [if_neg (show ¬((i:Int)<(i:Int)) by omega),Option.bind_some,Bool.false_eq_true,if_false]
  | succ t ih =>
   intro i hi hp;have hib:i<b:=by omega
   have hd:mo / a≤mo:=Nat.div_le_self _ _;have htd:Int.tdiv (mo:Int) (a:Int)=((mo / a:Nat):Int):=zao mo a;by_cases hgt:mo / a<a ^ i
   ·refine .inr ⟨fun hle=>?_,N3 ?_⟩
    ·have e1:a ^ (i+1)≤a ^ b:=Nat.pow_le_pow_right (by omega) (by omega);have e2:a ^ i*a≤mo:=by rw [← Nat.pow_succ]; exact Nat.le_trans e1 hle
     have:=(Nat.le_div_iff_mul_le (by omega)).2 e2;omega
    ·unfold i4;simp only [if_pos (show (i:Int)<(b:Int) by omega),Option.bind_some,decide_eq_true (show (a:Int) > 1 by omega),if_true,htd];rw [if_neg (by omega)];generalize mo / a=dq at hgt hd ⊢;generalize a ^ i=pi at hp hgt ⊢;rw [U2 (by omega) (by omega),if_pos (by omega)]
   ·have hnext:a ^ (i+1)≤mo:=by
     rw [Nat.pow_succ];exact (Nat.le_div_iff_mul_le (by omega)).1 (by omega)
    have hbody:i4 (LCo c) (a:Int) (b:Int) (mo:Int) (((a ^ i:Nat):Int),(i:Int))=some (.next (((a ^ (i+1):Nat):Int),((i+1:Nat):Int))):=by
     unfold i4;simp only [if_pos (show (i:Int)<(b:Int) by omega),Option.bind_some,decide_eq_true (show (a:Int) > 1 by omega),if_true,htd];rw [if_neg (by omega),show ((a ^ i:Nat):Int)*(a:Int)=((a ^ (i+1):Nat):Int) by rw [Nat.pow_succ,Int.natCast_mul]];have hib2:i<a ^ i:=Nat.lt_pow_self (by omega);generalize a ^ (i+1)=pw at hnext ⊢;generalize a ^ i=pi at hp hgt hib2 ⊢;generalize mo / a=dq at hgt hd ⊢;rw [U2 (by omega) (by omega),if_neg (by omega),U2 (by omega) (by omega),U2 (by omega) (by omega)];rfl
    rcases ih (i+1) (by omega) hnext with ⟨h1,j,h2⟩ | ⟨h1,h2⟩
    ·exact .inl ⟨h1,j,by rw [W1 hbody]; exact h2⟩
    ·exact .inr ⟨h1,by rw [W1 hbody]; exact h2⟩
 unfold za;rcases key b 0 (by omega) (by rw [Nat.pow_zero]; exact hmo) with ⟨h1,j,h2⟩ | ⟨h1,h2⟩
 ·have h2':(LCo c).run (i4 (LCo c) (a:Int) (b:Int) (mo:Int)) (1,0)=_:=h2;rw [h2'];exact ⟨_,_,rfl,by simp only [decide_eq_true_eq]; omega,fun _=>rfl⟩
 ·have h2':(LCo c).run (i4 (LCo c) (a:Int) (b:Int) (mo:Int)) (1,0)=_:=h2;rw [h2'];exact ⟨_,_,rfl,⟨fun h=>(by cases h),fun h=>absurd h h1⟩,fun h=>absurd h h1⟩
def iV (l:List Nat):List Value:=l.map fun (i:Nat)=>Value.int .i64 (i:Int)
def SndT (g:Sg) (T:List Nat) (mo:Nat):Prop:=∀i,i<g.datas.length→T.getD i 0≠0→Tc g i=some (T.getD i 0)∧T.getD i 0≤mo
def ExT (g:Sg) (f:Nat→Option Nat) (T:List Nat) (mo:Nat):Prop:=∀i,i<g.datas.length→∀u,f i=some u→u≤mo→T.getD i 0=u
structure CtR (m:Nat) (H:AH) (q:Addr) (ida idl:Nat) (s1 s2 s3:Sl3) (g:Sg) (mst:Nat) (bA bL:List Nat):Prop where
 sg:SigA H s1 s2 s3 g
 sp:q.spot=none
 c0:Cel H (q.add 0) s1.v
 c1:Cel H (q.add 1) s2.v
 c2:Cel H (q.add 2) s3.v
 c3:Cel H (q.add 3) (.int .i64 (mst:Int))
 c4:Cel H (q.add 4) (Sl3.v ⟨some ⟨ida,0,none⟩,g.datas.length,g.datas.length⟩)
 c5:Cel H (q.add 5) (Sl3.v ⟨some ⟨idl,0,none⟩,g.datas.length,g.datas.length⟩)
 a:ArrV 3 m H ida (iV bA)
 l:ArrV 3 m H idl (iV bL)
 la:bA.length=g.datas.length
 ll:bL.length=g.datas.length
def moT (low:Bool) (mst:Nat):Nat:=if low=true then 63 else mst
def tabT (low:Bool) (bA bL:List Nat):List Nat:=if low=true then bL else bA
structure Below (g:Sg) (f:Nat→Option Nat):Prop where
 pos:∀i,posO (f i)
 le:∀i,leO (f i) (Tc g i)
structure AnsR (g:Sg) (bL:List Nat) (T:List Nat) (mo:Nat) (k w:Int) (n:ByteArray) (a:Fo) (v:Int) (b:Bool):Prop where
 snd:b=true→∃u:Nat,v=(u:Int)∧1≤u∧u≤mo∧cS g.datas (Tc g) k w n a=some u
 ex:∀f,Below g f→ExT g f bL 63→ExT g f T mo→∀u,cS g.datas f k w n a=some u→u≤mo→b=true
section
variable {m:Nat} {H:AH} {q:Addr} {ida idl:Nat} {s1 s2 s3:Sl3} {g:Sg} {mst:Nat} {bA bL:List Nat}
theorem zjx {idm N:Nat} {bl:List Nat} (ha:ArrV 3 m H idm (iV bl)) (hl:bl.length=N) {i:Nat} (hi:i<N) :
  ∃p,idxA 1 (⟨some ⟨idm,0,none⟩,N,N⟩:Sl3) (i:Int)=some p∧rd (deI .i64) H p=some ((bl.getD i 0:Nat):Int):=by
 have hib:i<bl.length:=by omega
 refine ⟨_,X3 hi rfl,?_⟩;rw [(ha.cel (show (iV bl)[i]? = some (.int .i64 ((bl[i]:Nat):Int)) by simp [iV,hib])).rd];simp [List.getD,hib];rfl
theorem zqk {x:Nat} (h:64≤x) {b mo:Nat} (hb:2≤b) (hm:mo≤maxN):¬b ^ x≤mo:=by
 intro hle;have h1:2 ^ 64≤2 ^ x:=Nat.pow_le_pow_right (by omega) h;have h2:2 ^ x≤b ^ x:=Nat.pow_le_pow_left hb x;have hN:=B2;omega
theorem zlh (c:Nat) (hC:CtR m H q ida idl s1 s2 s3 g mst bA bL) (hmst:1≤mst) (htop:mst≤maxN) (hG:GoodG g) (hsL:SndT g bL 63):∀(d fuel:Nat) (k w:Int) (n:ByteArray) (s:Sl3) (a:Fo) (low:Bool),SlF H s a→shS k w n a=true→knS g.users g.datas k n a=true→a.dep≤fuel→a.dep<d→SndT g (tabT low bA bL) (moT low mst) →
  ∃v b,D9 (LCo c) (fuel+1) H (some q) k w n s low=some (v,b)∧AnsR g bL (tabT low bA bL) (moT low mst) k w n a v b:=by
 have hN:=B2;intro d;induction d with
 | zero=>intro fuel k w n s a low _ _ _ _ h; omega
 | succ d ih =>
  intro fuel k w n s a low h hsh hkn hf hd hsT;have hmo1:1≤moT low mst:=by unfold moT; split <;> omega
  have hmoN:moT low mst≤maxN:=by unfold moT; split <;> omega
  show ∃v b,d7 (LCo c) (D9 (LCo c) fuel) H (some q) k w n s low=some (v,b)∧_;unfold d7;have r3:rd (deI .i64) H (q.add 3)=some (mst:Int):=by rw [hC.c3.rd]; rfl
  have hmo:(if low=true then some (63:Int) else some (mst:Int))=some ((moT low mst:Nat):Int):=by
   unfold moT; cases low <;> rfl
  simp only [Option.bind_some,r3,hmo];generalize hq:moT low mst=mo at hmo1 hmoN hsT ⊢;by_cases k1:k=1
  ·subst k1;rw [if_pos rfl];refine ⟨_,_,rfl,⟨fun hb=>⟨2,rfl,by omega,?_,?_⟩,fun f _ _ _ u hu hle=>?_⟩⟩
   ·have:=of_decide_eq_true hb; omega
   ·unfold cS one_; rw [if_pos rfl]
   ·unfold cS one_ at hu;rw [if_pos rfl] at hu;cases hu;exact decide_eq_true (by omega)
  rw [if_neg k1];by_cases k3:k=3
  ·subst k3;rw [if_pos rfl];have hw:1≤w∧w≤4096:=by
    rcases S8 hsh with ⟨_,h' | h' | h' | ⟨h' | h',_⟩⟩ | ⟨h',_⟩
    ·omega
    ·omega
    ·exact h'.2
    ·omega
    ·omega
    ·omega
   obtain ⟨v,e,p1,p2,p3⟩:=zgk c (a:=2) (b:=w.toNat) (mo:=mo) (by omega) hmo1 hmoN;have p1':za (LCo c) 2 w (mo:Int)=some (v,e):=by
    rw [show ((w.toNat:Nat):Int)=w by omega] at p1;exact p1
   rw [p1'];have hcs:∀f,cS g.datas f 3 w n a=some (2 ^ w.toNat):=fun f=>by
    unfold cS one_; rw [if_neg (by omega),if_pos rfl]
   refine ⟨_,_,rfl,⟨fun hb=>⟨_,p3 (p2.1 hb),Nat.pow_pos (by omega),p2.1 hb,hcs _⟩,fun f _ _ _ u hu hle=>?_⟩⟩;rw [hcs] at hu;cases hu;exact p2.2 hle
  rw [if_neg k3];by_cases k4:k=4
  ·rw [if_pos k4];rcases S8 hsh with ⟨_,h'⟩ | ⟨_,j1,w1,n1,a1,j2,w2,n2,a2,rfl,hs1,hs2⟩
   ·omega
   ·subst k4;unfold knS at hkn;rw [if_neg (by omega),if_neg (by omega)] at hkn;simp only [knF,Bool.and_eq_true] at hkn;have hn2:s.n=2:=h.1;obtain ⟨q0,t0,u1,u2,u3,u4,u5,u6,u7,q8⟩:=h.2.2.rd (s:=s) (by omega);obtain ⟨q1,t1,o1,o2,o3,o4,o5,o6,o7,_⟩:=q8.rd (s:=s) (by omega);simp only [Fo.dep] at hf hd;obtain ⟨g',rfl⟩:∃g',fuel=g'+1:=⟨fuel - 1,by omega⟩;obtain ⟨v1,b1,x1,x2⟩:=ih g' j2 w2 n2 t1 a2 low o6 hs2 (by unfold knS; exact hkn.2.1) (by omega) (by omega) (by rw [hq]; exact hsT);rw [hq] at x2;have hcs:∀f,cS g.datas f 4 w n (.cons j1 w1 n1 a1 (.cons j2 w2 n2 a2 .nil))=arrO (cS g.datas f j1 w1 n1 a1) (cS g.datas f j2 w2 n2 a2):=fun f=>rfl;have o1':idxA 4 s 1=some q1:=o1;have u1':idxA 4 s 0=some q0:=u1;simp only [o1',o2,o3,o4,o5,Option.bind_some,x1];have big:b1=false→∀f,Below g f→ExT g f bL 63→ExT g f (tabT low bA bL) mo→∀u,arrO (cS g.datas f j1 w1 n1 a1) (cS g.datas f j2 w2 n2 a2)=some u→¬u≤mo:=by
     intro hb f hB e1 e2 u hu hle;cases hy:cS g.datas f j2 w2 n2 a2 with
     | none=>rw [hy] at hu; cases hu
     | some t =>
      have ht:=cS_pos hB.pos j2 w2 n2 a2 t hy;have htm:¬t≤mo:=fun hle=>by
       have:=x2.ex f hB e1 e2 t hy hle;rw [hb] at this; cases this
      rw [hy] at hu;simp only [arrO] at hu;by_cases h1:t=1
      ·omega
      ·rw [if_neg h1] at hu;cases hx:cS g.datas f j1 w1 n1 a1 with
       | none=>rw [hx] at hu; cases hu
       | some x =>
        have hxp:=cS_pos hB.pos j1 w1 n1 a1 x hx;rw [hx] at hu;simp only [Option.map_some,Option.some.injEq] at hu;have:t ^ 1≤t ^ x:=Nat.pow_le_pow_right (by omega) hxp;rw [Nat.pow_one] at this;omega
    cases b1 with
    | false =>
     simp only [Bool.false_eq_true,if_false,Option.bind_some,if_true];exact ⟨_,_,rfl,⟨fun h=>(by cases h),fun f hB e1 e2 u hu hle=>absurd hle (big rfl f hB e1 e2 u (by rw [hcs] at hu; exact hu))⟩⟩
    | true =>
     obtain ⟨t,rfl,t1',t2',t3'⟩:=x2.snd rfl;simp only [if_true,Option.bind_some];by_cases ht1:t=1
     ·subst ht1;rw [decide_eq_true (show ((1:Nat):Int)=1 from rfl)];simp only [if_true];refine ⟨_,_,rfl,⟨fun _=>⟨1,rfl,by omega,by omega,?_⟩,fun f _ _ _ u _ _=>rfl⟩⟩;rw [hcs,t3'];cases cS g.datas (Tc g) j1 w1 n1 a1 <;> rfl
     ·rw [decide_eq_false (show ¬((t:Nat):Int)=1 by omega)];simp only [Bool.false_eq_true,if_false,u1',u2,u3,u4,u5,Option.bind_some];obtain ⟨v2,b2,y1,y2⟩:=ih g' j1 w1 n1 t0 a1 true u6 hs1 (by unfold knS; exact hkn.1) (by omega) (by omega) hsL;rw [y1];simp only [Option.bind_some];have e63:moT true mst=63:=rfl;have eT:tabT true bA bL=bL:=rfl;rw [e63,eT] at y2;cases b2 with
      | false =>
       simp only [Bool.false_eq_true,if_false];refine ⟨_,_,rfl,⟨fun h=>(by cases h),fun f hB e1 e2 u hu hle=>?_⟩⟩;exfalso;rw [hcs] at hu;cases hy:cS g.datas f j2 w2 n2 a2 with
       | none=>rw [hy] at hu; cases hu
       | some t' =>
        have:=z9z (ds:=g.datas) hB.le j2 w2 n2 a2 t' hy;rw [t3'] at this;cases this;rw [hy] at hu;simp only [arrO] at hu;rw [if_neg ht1] at hu;cases hx:cS g.datas f j1 w1 n1 a1 with
        | none=>rw [hx] at hu; cases hu
        | some x =>
         rw [hx] at hu;simp only [Option.map_some,Option.some.injEq] at hu;by_cases hx63:x≤63
         ·have:=y2.ex f hB e1 e1 x hx hx63;cases this
         ·exact zqk (x:=x) (b:=t) (mo:=mo) (by omega) (by omega) hmoN (by rw [hu]; exact hle)
      | true =>
       obtain ⟨x,rfl,z1,z2,z3⟩:=y2.snd rfl;simp only [if_true];obtain ⟨v,e,p1,p2,p3⟩:=zgk c (a:=t) (b:=x) (mo:=mo) (by omega) hmo1 hmoN;rw [p1];have hTc:arrO (cS g.datas (Tc g) j1 w1 n1 a1) (cS g.datas (Tc g) j2 w2 n2 a2)=some (t ^ x):=by
        rw [t3',z3];simp [arrO,ht1]
       refine ⟨_,_,rfl,⟨fun hb=>⟨_,p3 (p2.1 hb),Nat.pow_pos (by omega),p2.1 hb,by rw [hcs]; exact hTc⟩,fun f hB e1 e2 u hu hle=>?_⟩⟩;have:=z9z (ds:=g.datas) hB.le 4 w n _ u hu;rw [hcs,hTc] at this;cases this;exact p2.2 hle
  rw [if_neg k4];by_cases k6:k=6
  ·subst k6;rw [if_pos rfl];have hk:=hkn;unfold knS at hk;rw [if_neg (by omega),if_pos rfl] at hk;have hlt:=ix_lt hk;have hD:S3 (LCo c) H s1 s2 s3 n=some ((ixS g.datas n:Nat):Int):=by
    rw [z4s c hC.sg n];unfold ixS;obtain ⟨i,hi⟩:=Option.isSome_iff_exists.1 hk;rw [hi];rfl
   have q0:(q.add 0).add 0=q.add 0:=by rw [I5 hC.sp]
   have q1:(q.add 0).add 1=q.add 1:=by rw [I5 hC.sp]
   have q2:(q.add 0).add 2=q.add 2:=by rw [I5 hC.sp]
   have r0:rd deSl H (q.add 0)=some s1:=by rw [hC.c0.rd]; rfl
   have r1:rd deSl H (q.add 1)=some s2:=by rw [hC.c1.rd]; rfl
   have r2:rd deSl H (q.add 2)=some s3:=by rw [hC.c2.rd]; rfl
   have r4:rd deSl H (q.add 4)=some ⟨some ⟨ida,0,none⟩,g.datas.length,g.datas.length⟩:=by rw [hC.c4.rd]; rfl
   have r5:rd deSl H (q.add 5)=some ⟨some ⟨idl,0,none⟩,g.datas.length,g.datas.length⟩:=by rw [hC.c5.rd]; rfl
   obtain ⟨pa,e1,e2⟩:=zjx hC.a hC.la hlt;obtain ⟨pl,f1,f2⟩:=zjx hC.l hC.ll hlt;simp only [q0,q1,q2,r0,r1,r2,r4,r5,Option.bind_some,hD,e1,e2,f1,f2];have hT:(if low=true then some ((bL.getD (ixS g.datas n) 0:Nat):Int) else some ((bA.getD (ixS g.datas n) 0:Nat):Int))=some (((tabT low bA bL).getD (ixS g.datas n) 0:Nat):Int):=by
    unfold tabT; cases low <;> rfl
   rw [hT];simp only [Option.bind_some];have hcs:∀f,cS g.datas f 6 w n a=f (ixS g.datas n):=fun f=>by
    unfold cS one_; rw [if_neg (by omega),if_neg (by omega),if_neg (by omega),if_pos rfl]
   refine ⟨_,_,rfl,⟨fun hb=>?_,fun f hB e1 e2 u hu hle=>?_⟩⟩
   ·have hpos:0<(tabT low bA bL).getD (ixS g.datas n) 0:=by have:=of_decide_eq_true hb; omega
    obtain ⟨z1,z2⟩:=hsT _ hlt (by omega);exact ⟨_,rfl,hpos,z2,by rw [hcs]; exact z1⟩
   ·rw [hcs] at hu;have hup:=hB.pos _ u hu;rw [e2 _ hlt u hu hle];exact decide_eq_true (by omega)
  ·rw [if_neg k6];refine ⟨_,_,rfl,⟨fun h=>(by cases h),fun f _ _ _ u hu _=>?_⟩⟩;unfold cS one_ at hu;rw [if_neg k1,if_neg k3,if_neg k4,if_neg k6] at hu;cases hu
end
end Go.Proofs.YtccbilfbhecdaaaGreatDoor
namespace Go.Proofs.YtccbilfbhecdaaaGreatDoor
open Go Go.Abs
set_option maxRecDepth 100000
section
variable {m:Nat} {H:AH} {q:Addr} {ida idl:Nat} {s1 s2 s3:Sl3} {g:Sg} {mst:Nat} {bA bL:List Nat} {L0 fuel:Nat}
structure ByR (g:Sg) (f:Nat→Option Nat) (bL T:List Nat) (mo:Nat):Prop where
 be:Below g f
 l:ExT g f bL 63
 t:ExT g f T mo
theorem sum_b1 (hF:L0=fuel+1) (hfu:15≤fuel) (hC:CtR m H q ida idl s1 s2 s3 g mst bA bL) (hmst:1≤mst) (htop:mst≤maxN) (hG:GoodG g) (hsL:SndT g bL 63) {low:Bool} (hsT:SndT g (tabT low bA bL) (moT low mst))
  {l:List Con} {sc:Sl3} {nm:ByteArray} {v8:Int} (hc:SlL ConA 2 H sc l) {i:Nat} (hi:i<l.length) (hg:∀x∈(l[i]).sels,SelG g x) :
  ∀(t j p:Nat),j+t=(l[i]).sels.length→1≤p→p≤moT low mst →
   (∃u v,loopO (D2 (LCo L0) H nm sc low q ((moT low mst:Nat):Int) v8 (i:Int)) ((p:Int),(j:Int))=some (.inl ((u:Nat),v))∧mulO (some p) (cC g.datas (Tc g) ((l[i]).sels.drop j))=some u∧1≤u∧u≤moT low mst) ∨
   (loopO (D2 (LCo L0) H nm sc low q ((moT low mst:Nat):Int) v8 (i:Int)) ((p:Int),(j:Int))=some (.inr 0)∧∀f,ByR g f bL (tabT low bA bL) (moT low mst)→∀u,mulO (some p) (cC g.datas f ((l[i]).sels.drop j))=some u→¬u≤moT low mst):=by
 have hN:=B2;have hmoN:moT low mst≤maxN:=by unfold moT; split <;> omega
 obtain ⟨q8,g1,g2⟩:=hc.get hi (v:=(i:Int)) rfl;obtain ⟨sl,e1,e2⟩:=g2.ex;have r1:rd deSl H (q8.add 1)=some sl:=by rw [e1.rd]; rfl
 have hln:=e2.n;intro t;induction t with
 | zero =>
  intro j p hj hp1 hp;obtain rfl:j=(l[i]).sels.length:=by omega
  refine .inl ⟨p,_,Y1 (s':=((p:Int),((l[i]).sels.length:Int))) ?_,?_,hp1,hp⟩
  ·unfold D2;simp only [g1,Option.bind_some,r1];rw [if_neg (by omega)]
  ·rw [List.drop_length]; simp [cC,mulO]
 | succ t ih =>
  intro j p hj hp1 hp;have hjl:j<(l[i]).sels.length:=by omega
  obtain ⟨q',k1,k2⟩:=e2.get hjl (v:=(j:Int)) rfl;obtain ⟨s',f1,f2,f3,f4,f5,f6⟩:=k2.ex;have hsp:q'.spot=none:=by
   obtain ⟨a,ha,_⟩:=e2.at_.get j hjl;have:=(e2.low a ha).2;have hq:=J6 (sz:=5) ha (v:=(j:Int)) rfl (show j<sl.n by omega);rw [k1] at hq; cases hq;obtain ⟨b,o,sp⟩:=a;simp only at this; subst this; rw [C5]
  have z0:rd (deI .i64) H ((q'.add 1).add 0)=some (l[i]).sels[j].k:=by rw [I5 hsp,f1.rd]; rfl
  have z1:rd (deI .i64) H ((q'.add 1).add 1)=some (l[i]).sels[j].w:=by rw [I5 hsp,f2.rd]; rfl
  have z2:rd deS H ((q'.add 1).add 2)=some (l[i]).sels[j].sn:=by rw [I5 hsp,f3.rd]; rfl
  have z3:rd deSl H ((q'.add 1).add 3)=some s':=by rw [I5 hsp,f4.rd]; rfl
  have hs:=hg _ (List.getElem_mem hjl);obtain ⟨v,b,o1,o2⟩:=zlh L0 hC hmst htop hG hsL ((l[i]).sels[j].a.dep+1) fuel _ _ _ s' _ low f6 hs.sh hs.kn (by have:=hs.dp; omega) (Nat.lt_succ_self _) hsT;have o1':d8 (LCo L0) H (some q) (l[i]).sels[j].k (l[i]).sels[j].w (l[i]).sels[j].sn s' low=some (v,b):=by
   subst hF; exact o1
  have hdrop:∀f,cC g.datas f ((l[i]).sels.drop j)=mulO (cS g.datas f (l[i]).sels[j].k (l[i]).sels[j].w (l[i]).sels[j].sn (l[i]).sels[j].a) (cC g.datas f ((l[i]).sels.drop (j+1))):=fun f=>by
   rw [List.drop_eq_getElem_cons hjl]; rfl
  have fits:∀f,ByR g f bL (tabT low bA bL) (moT low mst)→∀u,mulO (some p) (cC g.datas f ((l[i]).sels.drop j))=some u→u≤moT low mst→∃t':Nat,b=true∧v=(t':Int)∧1≤t'∧p*t'≤moT low mst∧mulO (some (p*t')) (cC g.datas f ((l[i]).sels.drop (j+1)))=some u:=by
   intro f hf u hu hle;rw [hdrop] at hu;cases hx:cS g.datas f (l[i]).sels[j].k (l[i]).sels[j].w (l[i]).sels[j].sn (l[i]).sels[j].a with
   | none=>rw [hx] at hu; cases hu
   | some t' =>
    cases hy:cC g.datas f ((l[i]).sels.drop (j+1)) with
    | none=>rw [hx,hy] at hu; cases hu
    | some r =>
     have ht:=cS_pos hf.be.pos _ _ _ _ t' hx;have hr:=cC_pos hf.be.pos _ r hy;rw [hx,hy] at hu;simp only [mulO,Option.some.injEq] at hu;have h1:p*t'≤u:=by
      rw [← hu,← Nat.mul_assoc]; exact Nat.le_mul_of_pos_right _ hr
     have h2:t'≤p*t':=Nat.le_mul_of_pos_left _ hp1;have hb:=o2.ex f hf.be hf.l hf.t t' hx (by omega);obtain ⟨w,rfl,_,_,hw⟩:=o2.snd hb;have:=z9z (ds:=g.datas) hf.be.le _ _ _ _ t' hx;rw [hw] at this;cases this;exact ⟨t',hb,rfl,ht,by omega,by simp only [mulO,Option.some.injEq]; rw [Nat.mul_assoc]; exact hu⟩
  have stop:(b=false∨∃t':Nat,b=true∧v=(t':Int)∧1≤t'∧moT low mst / t'<p)→loopO (D2 (LCo L0) H nm sc low q ((moT low mst:Nat):Int) v8 (i:Int)) ((p:Int),(j:Int))=some (.inr 0):=fun hst=>by
   refine N3 ?_;unfold D2;simp only [g1,Option.bind_some,r1];rw [if_pos (show (j:Int)<(sl.n:Int) by omega)];simp only [k1,Option.bind_some,z0,z1,z2,z3,o1'];rcases hst with rfl | ⟨t',rfl,rfl,h1,h2⟩
   ·rfl
   ·simp only [if_true];have hd:moT low mst / t'≤moT low mst:=Nat.div_le_self _ _;rw [if_neg (by omega),zao];generalize moT low mst / t'=dq at h2 hd ⊢;rw [U2 (by omega) (by omega),decide_eq_true (by omega)];rfl
  cases b with
  | false =>
   refine .inr ⟨stop (.inl rfl),fun f hf u hu hle=>?_⟩;obtain ⟨_,h1,_⟩:=fits f hf u hu hle;cases h1
  | true =>
   obtain ⟨t',rfl,h1,h2,h3⟩:=o2.snd rfl;by_cases hgt:moT low mst / t'<p
   ·refine .inr ⟨stop (.inr ⟨t',rfl,rfl,h1,hgt⟩),fun f hf u hu hle=>?_⟩;obtain ⟨t2,_,e,_,h4,_⟩:=fits f hf u hu hle;obtain rfl:t'=t2:=by omega
    have:=(Nat.le_div_iff_mul_le h1).2 h4;omega
   ·have hpt:p*t'≤moT low mst:=(Nat.le_div_iff_mul_le h1).1 (by omega);have hbody:D2 (LCo L0) H nm sc low q ((moT low mst:Nat):Int) v8 (i:Int) ((p:Int),(j:Int))=some (.next (((p*t':Nat):Int),((j+1:Nat):Int))):=by
     unfold D2;simp only [g1,Option.bind_some,r1];rw [if_pos (show (j:Int)<(sl.n:Int) by omega)];simp only [k1,Option.bind_some,z0,z1,z2,z3,o1',if_true];have hd:moT low mst / t'≤moT low mst:=Nat.div_le_self _ _;rw [if_neg (by omega),zao,← Int.natCast_mul];generalize moT low mst / t'=dq at hgt hd ⊢;rw [U2 (by omega) (by omega),decide_eq_false (by omega)];simp only [Option.bind_some,Bool.false_eq_true,if_false];generalize p*t'=pt at hpt ⊢;rw [U2 (by omega) (by omega),V1 hjl e2.len]
    have hassoc:∀f,mulO (some p) (cC g.datas f ((l[i]).sels.drop j))=mulO (mulO (some p) (cS g.datas f (l[i]).sels[j].k (l[i]).sels[j].w (l[i]).sels[j].sn (l[i]).sels[j].a)) (cC g.datas f ((l[i]).sels.drop (j+1))):=fun f=>by
     rw [hdrop,zgi]
    rcases ih (j+1) (p*t') (by omega) (Nat.mul_pos hp1 h1) hpt with ⟨u,w,a1,a2,a3,a4⟩ | ⟨a1,a2⟩
    ·refine .inl ⟨u,w,by rw [W1 hbody]; exact a1,?_,a3,a4⟩;rw [hassoc,h3]; exact a2
    ·refine .inr ⟨by rw [W1 hbody]; exact a1,fun f hf u hu hle=>?_⟩;obtain ⟨t2,_,e,_,_,h5⟩:=fits f hf u hu hle;obtain rfl:t'=t2:=by omega
     exact a2 f hf u h5 hle
theorem sum_b0 (hF:L0=fuel+1) (hfu:15≤fuel) (hC:CtR m H q ida idl s1 s2 s3 g mst bA bL) (hmst:1≤mst) (htop:mst≤maxN) (hG:GoodG g) (hsL:SndT g bL 63) {low:Bool} (hsT:SndT g (tabT low bA bL) (moT low mst))
  {l:List Con} {sc:Sl3} {nm:ByteArray} (hc:SlL ConA 2 H sc l) (hg:∀c∈l,∀x∈c.sels,SelG g x) :
  ∀(t i n:Nat),i+t=l.length→n≤moT low mst →
   (∃u v,loopO (E2 (LCo L0) H nm sc low q ((moT low mst:Nat):Int)) ((n:Int),(i:Int))=some (.inl ((u:Nat),v))∧addO (some n) (cD g.datas (Tc g) (l.drop i))=some u∧u≤moT low mst) ∨
   (loopO (E2 (LCo L0) H nm sc low q ((moT low mst:Nat):Int)) ((n:Int),(i:Int))=some (.inr 0)∧∀f,ByR g f bL (tabT low bA bL) (moT low mst)→∀u,addO (some n) (cD g.datas f (l.drop i))=some u→¬u≤moT low mst):=by
 have hN:=B2;have hmo1:1≤moT low mst:=by unfold moT; split <;> omega
 have hmoN:moT low mst≤maxN:=by unfold moT; split <;> omega
 have hn:=hc.n;intro t;induction t with
 | zero =>
  intro i n hi hle;obtain rfl:i=l.length:=by omega
  refine .inl ⟨n,_,Y1 (s':=((n:Int),(l.length:Int))) ?_,?_,hle⟩
  ·unfold E2;simp only;rw [if_neg (by omega)]
  ·rw [List.drop_length]; simp [cD,addO]
 | succ t ih =>
  intro i n hi hle;have hil:i<l.length:=by omega
  have hdrop:∀f,cD g.datas f (l.drop i)=addO (cC g.datas f (l[i]).sels) (cD g.datas f (l.drop (i+1))):=fun f=>by
   rw [List.drop_eq_getElem_cons hil]; rfl
  have hrun:∀r,loopO (D2 (LCo L0) H nm sc low q ((moT low mst:Nat):Int) (n:Int) (i:Int)) (1,0)=r→(LCo L0).run (D2 (LCo L0) H nm sc low q ((moT low mst:Nat):Int) (n:Int) (i:Int)) (1,0)=r:=fun r h=>h;rcases sum_b1 hF hfu hC hmst htop hG hsL hsT (nm:=nm) (v8:=(n:Int)) hc hil (hg _ (List.getElem_mem hil)) (l[i]).sels.length 0 1 (by omega) (Nat.le_refl _) hmo1 with ⟨a,v,a1,a2,a3,a4⟩ | ⟨a1,a2⟩
  ·rw [List.drop_zero,zep] at a2;have a1':=hrun _ a1;have same:∀f,ByR g f bL (tabT low bA bL) (moT low mst)→∀u,addO (some n) (cD g.datas f (l.drop i))=some u→n+a≤u∧addO (some (n+a)) (cD g.datas f (l.drop (i+1)))=some u:=by
    intro f hf u hu;rw [hdrop] at hu;cases hx:cC g.datas f (l[i]).sels with
    | none=>rw [hx] at hu; cases hu
    | some a' =>
     have:=zh7 (ds:=g.datas) hf.be.le _ a' hx;rw [a2] at this;cases this;cases hy:cD g.datas f (l.drop (i+1)) with
     | none=>rw [hx,hy] at hu; cases hu
     | some r =>
      rw [hx,hy] at hu;simp only [addO,Option.some.injEq] at hu ⊢;omega
   by_cases hgt:moT low mst<n+a
   ·refine .inr ⟨N3 ?_,fun f hf u hu hle2=>?_⟩
    ·unfold E2;simp only;rw [if_pos (show (i:Int)<(sc.n:Int) by omega),a1'];simp only [Option.bind_some];rw [U2 (by omega) (by omega),if_pos (by omega)]
    ·have:=(same f hf u hu).1;omega
   ·have hbody:E2 (LCo L0) H nm sc low q ((moT low mst:Nat):Int) ((n:Int),(i:Int))=some (.next (((n+a:Nat):Int),((i+1:Nat):Int))):=by
     unfold E2;simp only;rw [if_pos (show (i:Int)<(sc.n:Int) by omega),a1'];simp only [Option.bind_some];rw [U2 (by omega) (by omega),if_neg (by omega),← Int.natCast_add n a,U2 (by omega) (by omega),V1 hil hc.len]
    rcases ih (i+1) (n+a) (by omega) (by omega) with ⟨u,w,b1,b2,b3⟩ | ⟨b1,b2⟩
    ·refine .inl ⟨u,w,by rw [W1 hbody]; exact b1,?_,b3⟩;rw [hdrop,← zfk,a2]; exact b2
    ·exact .inr ⟨by rw [W1 hbody]; exact b1,fun f hf u hu hle2=>b2 f hf u (same f hf u hu).2 hle2⟩
  ·have a1':=hrun _ a1;refine .inr ⟨N3 ?_,fun f hf u hu hle2=>?_⟩
   ·unfold E2;simp only;rw [if_pos (show (i:Int)<(sc.n:Int) by omega),a1'];rfl
   ·rw [hdrop] at hu;cases hx:cC g.datas f (l[i]).sels with
    | none=>rw [hx] at hu; cases hu
    | some a' =>
     cases hy:cD g.datas f (l.drop (i+1)) with
     | none=>rw [hx,hy] at hu; cases hu
     | some r =>
      rw [hx,hy] at hu;simp only [addO,Option.some.injEq] at hu;exact a2 f hf a' (by rw [List.drop_zero,zep]; exact hx) (by omega)
theorem zj8 (hF:L0=fuel+1) (hfu:15≤fuel) (hC:CtR m H q ida idl s1 s2 s3 g mst bA bL) (hmst:1≤mst) (htop:mst≤maxN) (hG:GoodG g) (hsL:SndT g bL 63) {low:Bool} (hsT:SndT g (tabT low bA bL) (moT low mst))
  {l:List Con} {sc:Sl3} {nm:ByteArray} (hc:SlL ConA 2 H sc l) (hg:∀c∈l,∀x∈c.sels,SelG g x) :
  ∃x:Nat,M7 (LCo L0) H (some q) nm sc low=some (x:Int)∧(x≠0→cD g.datas (Tc g) l=some x∧x≤moT low mst)∧∀f,ByR g f bL (tabT low bA bL) (moT low mst)→∀u,cD g.datas f l=some u→u≤moT low mst→x=u:=by
 have r3:rd (deI .i64) H (q.add 3)=some (mst:Int):=by rw [hC.c3.rd]; rfl
 have hmo:(if low=true then some (63:Int) else some (mst:Int))=some ((moT low mst:Nat):Int):=by
  unfold moT; cases low <;> rfl
 unfold M7;simp only [Option.bind_some,r3,hmo];have hrun:∀r,loopO (E2 (LCo L0) H nm sc low q ((moT low mst:Nat):Int)) (0,0)=r→(LCo L0).run (E2 (LCo L0) H nm sc low q ((moT low mst:Nat):Int)) (0,0)=r:=fun r h=>h;rcases sum_b0 hF hfu hC hmst htop hG hsL hsT (nm:=nm) hc hg l.length 0 0 (by omega) (Nat.zero_le _) with ⟨u,v,a1,a2,a3⟩ | ⟨a1,a2⟩
 ·rw [List.drop_zero,zd7] at a2;rw [hrun _ a1];refine ⟨u,rfl,fun _=>⟨a2,a3⟩,fun f hf u' hu _=>?_⟩;have:=zgx (ds:=g.datas) hf.be.le _ u' hu;rw [a2] at this;cases this; rfl
 ·rw [hrun _ a1];refine ⟨0,rfl,fun h=>absurd rfl h,fun f hf u hu hle=>?_⟩;exact absurd hle (a2 f hf u (by rw [List.drop_zero,zd7]; exact hu))
end
end Go.Proofs.YtccbilfbhecdaaaGreatDoor
namespace Go.Proofs.YtccbilfbhecdaaaGreatDoor
open Go Go.Abs
set_option maxRecDepth 100000
section
variable {m:Nat} {H0 H:AH} {q:Addr} {ida idl:Nat} {s1 s2 s3:Sl3} {g:Sg} {mst:Nat} {bA bL:List Nat} {L0 fuel:Nat}
theorem zj5 {T:List Nat} {mo:Nat} (hl:T.length=g.datas.length) (hT:SndT g T mo) {r i:Nat} (hi:i<g.datas.length) (e1:ExT g (tcD g r) T mo) (e2:∀j,j<i→∀u,tcD g (r+1) j=some u→u≤mo→T.getD j 0=u) {x:Nat}
  (h1:x≠0→cD g.datas (Tc g) (g.datas[i]).cons=some x∧x≤mo) (h2:∀u,cD g.datas (tcD g r) (g.datas[i]).cons=some u→u≤mo→x=u) :
  SndT g (T.set i x) mo∧ExT g (tcD g r) (T.set i x) mo∧∀j,j<i+1→∀u,tcD g (r+1) j=some u→u≤mo→(T.set i x).getD j 0=u:=by
 have hget:∀j,(T.set i x).getD j 0=if j=i then x else T.getD j 0:=fun j=>by
  by_cases e:j=i
  ·subst e;rw [if_pos rfl];simp [List.getD,hl,hi]
  ·rw [if_neg e];simp [List.getD,List.getElem?_set,Ne.symm e]
 have hstep:∀u,tcD g (r+1) i=some u→u≤mo→x=u:=fun u hu hle=>by
  refine h2 u ?_ hle;have hu:(if h:i<g.datas.length then cD g.datas (tcD g r) (g.datas[i]).cons else none)=some u:=hu;rw [dif_pos hi] at hu;exact hu
 refine ⟨fun j hj hne=>?_,fun j hj u hu hle=>?_,fun j hj u hu hle=>?_⟩
 ·rw [hget] at hne ⊢;by_cases e:j=i
  ·subst e;rw [if_pos rfl] at hne ⊢;rw [Tc_fix hj];exact h1 hne
  ·rw [if_neg e] at hne ⊢;exact hT j hj hne
 ·rw [hget];by_cases e:j=i
  ·subst e;rw [if_pos rfl];exact hstep u (z2v g r j u hu) hle
  ·rw [if_neg e];exact e1 j hj u hu hle
 ·rw [hget];by_cases e:j=i
  ·subst e;rw [if_pos rfl];exact hstep u hu hle
  ·rw [if_neg e];exact e2 j (by omega) u hu hle
structure StR (m:Nat) (H0 H:AH) (q:Addr) (ida idl:Nat) (s1 s2 s3:Sl3) (g:Sg) (mst:Nat) (bA bL:List Nat):Prop where
 ct:CtR m H q ida idl s1 s2 s3 g mst bA bL
 x:Ext H0 H
structure FixR (H0:AH) (q:Addr) (ida idl:Nat) (s1 s2 s3:Sl3) (g:Sg):Prop where
 sg:SigA H0 s1 s2 s3 g
 ia:H0.next≤ida
 il:H0.next≤idl
 ne:ida≠idl
 qa:q.block≠ida
 ql:q.block≠idl
theorem iV_set (l:List Nat) (i x:Nat):(iV l).set i (.int .i64 (x:Int))=iV (l.set i x):=by
 unfold iV; rw [List.map_set]
theorem StR.setL (hX:FixR H0 q ida idl s1 s2 s3 g) (h:StR m H0 H q ida idl s1 s2 s3 g mst bA bL) {i:Nat} (hi:i<g.datas.length) (x:Nat) :
  ∃p H',idxA 1 (⟨some ⟨idl,0,none⟩,g.datas.length,g.datas.length⟩:Sl3) (i:Int)=some p∧H.setCell m p (.int .i64 (x:Int))=some H'∧StR m H0 H' q ida idl s1 s2 s3 g mst bA (bL.set i x)∧Fm (fun id=>id=idl) H H':=by
 obtain ⟨H',a1,a2,a3,a4⟩:=h.ct.l.set (i:=i) (by simp [iV,h.ct.ll,hi]) (.int .i64 (x:Int));rw [iV_set] at a2;have hx:Ext H0 H':=h.x.comp a3 fun id hid _ he=>by have:=hX.il; omega
 have hw:¬(fun id=>id=idl) q.block:=hX.ql;have cel:∀{k:Nat} {v:Value},Cel H (q.add k) v→Cel H' (q.add k) v:=fun hc=>hc.fr a3 (by rw [L3]; exact hw);exact ⟨_,H',X3 hi rfl,a1,⟨⟨hX.sg.ext hx,h.ct.sp,cel h.ct.c0,cel h.ct.c1,cel h.ct.c2,cel h.ct.c3,cel h.ct.c4,cel h.ct.c5,h.ct.a.fr a3 hX.ne,a2,h.ct.la,by rw [List.length_set]; exact h.ct.ll⟩,hx⟩,a3⟩
theorem StR.setA (hX:FixR H0 q ida idl s1 s2 s3 g) (h:StR m H0 H q ida idl s1 s2 s3 g mst bA bL) {i:Nat} (hi:i<g.datas.length) (x:Nat) :
  ∃p H',idxA 1 (⟨some ⟨ida,0,none⟩,g.datas.length,g.datas.length⟩:Sl3) (i:Int)=some p∧H.setCell m p (.int .i64 (x:Int))=some H'∧StR m H0 H' q ida idl s1 s2 s3 g mst (bA.set i x) bL∧Fm (fun id=>id=ida) H H':=by
 obtain ⟨H',a1,a2,a3,a4⟩:=h.ct.a.set (i:=i) (by simp [iV,h.ct.la,hi]) (.int .i64 (x:Int));rw [iV_set] at a2;have hx:Ext H0 H':=h.x.comp a3 fun id hid _ he=>by have:=hX.ia; omega
 have hw:¬(fun id=>id=ida) q.block:=hX.qa;have cel:∀{k:Nat} {v:Value},Cel H (q.add k) v→Cel H' (q.add k) v:=fun hc=>hc.fr a3 (by rw [L3]; exact hw);exact ⟨_,H',X3 hi rfl,a1,⟨⟨hX.sg.ext hx,h.ct.sp,cel h.ct.c0,cel h.ct.c1,cel h.ct.c2,cel h.ct.c3,cel h.ct.c4,cel h.ct.c5,a2,h.ct.l.fr a3 (Ne.symm hX.ne),by rw [List.length_set]; exact h.ct.la,h.ct.ll⟩,hx⟩,a3⟩
structure RdR (g:Sg) (T:List Nat) (mo r i:Nat):Prop where
 snd:SndT g T mo
 ex:ExT g (tcD g r) T mo
 new:∀j,j<i→∀u,tcD g (r+1) j=some u→u≤mo→T.getD j 0=u
theorem RdR.next {T:List Nat} {mo r:Nat} (h:RdR g T mo r g.datas.length):RdR g T mo (r+1) 0 :=
 ⟨h.snd,fun i hi=>h.new i hi,fun j hj=>absurd hj (Nat.not_lt_zero _)⟩
theorem zd2 (hG:GoodG g) (r:Nat):Below g (tcD g r):=⟨fun i=>zh4 hG r i,fun i=>Tc_ge g r i⟩
theorem low_b1 (hF:L0=fuel+1) (hfu:15≤fuel) {k7:Nat} (hX:FixR H0 ⟨k7,0,none⟩ ida idl s1 s2 s3 g) (hmst:1≤mst) (htop:mst≤maxN) (hG:GoodG g) {v6:Int} {r:Nat} :
  ∀(t i:Nat) (H:AH) (bL:List Nat),i+t=g.datas.length→StR m H0 H ⟨k7,0,none⟩ ida idl s1 s2 s3 g mst bA bL→RdR g bL 63 r i →
   ∃H' bL',loopO (j5 (LCo L0) m s1 s2 s3 k7 v6) (H,(i:Int))=some (.inl (H',(g.datas.length:Int)))∧StR m H0 H' ⟨k7,0,none⟩ ida idl s1 s2 s3 g mst bA bL'∧RdR g bL' 63 r g.datas.length:=by
 have hn:=hX.sg.d.n;intro t;induction t with
 | zero =>
  intro i H bL hi hs hr;obtain rfl:i=g.datas.length:=by omega
  refine ⟨H,bL,Y1 ?_,hs,hr⟩;unfold j5;simp only;rw [if_neg (by omega)]
 | succ t ih =>
  intro i H bL hi hs hr;have hil:i<g.datas.length:=by omega
  obtain ⟨a,g1,g2⟩:=hs.ct.sg.d.get hil (v:=(i:Int)) rfl;obtain ⟨sc,e1,e2⟩:=g2.ex;have r0:rd deS H (a.add 0)=some (g.datas[i]).n:=by rw [g2.n.rd]; rfl
  have r1:rd deSl H (a.add 1)=some sc:=by rw [e1.rd]; rfl
  obtain ⟨x,x1,x2,x3⟩:=zj8 hF hfu hs.ct hmst htop hG hr.snd (low:=true) hr.snd (nm:=(g.datas[i]).n) e2 fun c hc y hy=>hG.sel _ (List.getElem_mem hil) c hc y hy;have r5:rd deSl H ((⟨k7,0,none⟩:Addr).add 5)=some ⟨some ⟨idl,0,none⟩,g.datas.length,g.datas.length⟩:=by rw [hs.ct.c5.rd]; rfl
  obtain ⟨p,H1,p1,p2,p3,p4⟩:=hs.setL hX hil x;obtain ⟨t1,t2,t3⟩:=zj5 hs.ct.ll hr.snd hil hr.ex hr.new x2 (fun u hu hle=>x3 _ ⟨zd2 hG r,hr.ex,hr.ex⟩ u hu hle);obtain ⟨H',bL',b1,b2,b3⟩:=ih (i+1) H1 (bL.set i x) (by omega) p3 ⟨t1,t2,t3⟩;refine ⟨H',bL',?_,b2,b3⟩;have hbody:j5 (LCo L0) m s1 s2 s3 k7 v6 (H,(i:Int))=some (.next (H1,((i+1:Nat):Int))):=by
   unfold j5;simp only;rw [if_pos (by omega),g1];simp only [Option.bind_some,r0,r1,x1,r5,p1,p2];rw [V1 hil hX.sg.d.len]
  rw [W1 hbody];exact b1
theorem zq1 (hF:L0=fuel+1) (hfu:15≤fuel) {k7:Nat} (hX:FixR H0 ⟨k7,0,none⟩ ida idl s1 s2 s3 g) (hmst:1≤mst) (htop:mst≤maxN) (hG:GoodG g) {v9:Int} {r:Nat} (hL:SndT g bL 63) (hE:ExT g (Tc g) bL 63) :
  ∀(t i:Nat) (H:AH) (bA:List Nat),i+t=g.datas.length→StR m H0 H ⟨k7,0,none⟩ ida idl s1 s2 s3 g mst bA bL→RdR g bA mst r i →
   ∃H' bA',loopO (X4 (LCo L0) m s1 s2 s3 k7 v9) (H,(i:Int))=some (.inl (H',(g.datas.length:Int)))∧StR m H0 H' ⟨k7,0,none⟩ ida idl s1 s2 s3 g mst bA' bL∧RdR g bA' mst r g.datas.length:=by
 have hn:=hX.sg.d.n;intro t;induction t with
 | zero =>
  intro i H bA hi hs hr;obtain rfl:i=g.datas.length:=by omega
  refine ⟨H,bA,Y1 ?_,hs,hr⟩;unfold X4;simp only;rw [if_neg (by omega)]
 | succ t ih =>
  intro i H bA hi hs hr;have hil:i<g.datas.length:=by omega
  obtain ⟨a,g1,g2⟩:=hs.ct.sg.d.get hil (v:=(i:Int)) rfl;obtain ⟨sc,e1,e2⟩:=g2.ex;have r0:rd deS H (a.add 0)=some (g.datas[i]).n:=by rw [g2.n.rd]; rfl
  have r1:rd deSl H (a.add 1)=some sc:=by rw [e1.rd]; rfl
  obtain ⟨x,x1,x2,x3⟩:=zj8 hF hfu hs.ct hmst htop hG hL (low:=false) hr.snd (nm:=(g.datas[i]).n) e2 fun c hc y hy=>hG.sel _ (List.getElem_mem hil) c hc y hy;have r4:rd deSl H ((⟨k7,0,none⟩:Addr).add 4)=some ⟨some ⟨ida,0,none⟩,g.datas.length,g.datas.length⟩:=by rw [hs.ct.c4.rd]; rfl
  obtain ⟨p,H1,p1,p2,p3,p4⟩:=hs.setA hX hil x;obtain ⟨t1,t2,t3⟩:=zj5 hs.ct.la hr.snd hil hr.ex hr.new x2 (fun u hu hle=>x3 _ ⟨zd2 hG r,fun j hj w hw hl=>hE j hj w (Tc_ge g r j w hw) hl,hr.ex⟩ u hu hle);obtain ⟨H',bA',b1,b2,b3⟩:=ih (i+1) H1 (bA.set i x) (by omega) p3 ⟨t1,t2,t3⟩;refine ⟨H',bA',?_,b2,b3⟩;have hbody:X4 (LCo L0) m s1 s2 s3 k7 v9 (H,(i:Int))=some (.next (H1,((i+1:Nat):Int))):=by
   unfold X4;simp only;rw [if_pos (by omega),g1];simp only [Option.bind_some,r0,r1,x1,r4,p1,p2];rw [V1 hil hX.sg.d.len]
  rw [W1 hbody];exact b1
theorem low_b0 (hF:L0=fuel+1) (hfu:15≤fuel) {k7:Nat} (hX:FixR H0 ⟨k7,0,none⟩ ida idl s1 s2 s3 g) (hmst:1≤mst) (htop:mst≤maxN) (hG:GoodG g) :
  ∀(t r:Nat) (H:AH) (bL:List Nat),r+t=g.datas.length+1→StR m H0 H ⟨k7,0,none⟩ ida idl s1 s2 s3 g mst bA bL→RdR g bL 63 r 0 →
   ∃H' bL' v,loopO (i5 (LCo L0) m s1 s2 s3 k7) (H,(r:Int))=some (.inl (H',v))∧StR m H0 H' ⟨k7,0,none⟩ ida idl s1 s2 s3 g mst bA bL'∧RdR g bL' 63 (g.datas.length+1) 0:=by
 have hn:=hX.sg.d.n;have hsm:=I3 hG;intro t;induction t with
 | zero =>
  intro r H bL hr hs hR;obtain rfl:r=g.datas.length+1:=by omega
  refine ⟨H,bL,_,Y1 (s':=(H,((g.datas.length+1:Nat):Int))) ?_,hs,hR⟩;unfold i5;simp only;rw [if_neg (by omega)]
 | succ t ih =>
  intro r H bL hr hs hR;obtain ⟨H1,bL1,a1,a2,a3⟩:=low_b1 hF hfu hX hmst htop hG (v6:=(r:Int)) g.datas.length 0 H bL (by omega) hs hR;obtain ⟨H',bL',v,b1,b2,b3⟩:=ih (r+1) H1 bL1 (by omega) a2 a3.next;refine ⟨H',bL',v,?_,b2,b3⟩;have a1':(LCo L0).run (j5 (LCo L0) m s1 s2 s3 k7 (r:Int)) (H,0)=_:=a1;have hbody:i5 (LCo L0) m s1 s2 s3 k7 (H,(r:Int))=some (.next (H1,((r+1:Nat):Int))):=by
   unfold i5;simp only;rw [if_pos (by omega),a1'];simp only [Option.bind_some];rw [U2 (by omega) (by omega)];rfl
  rw [W1 hbody];exact b1
theorem zpo (hF:L0=fuel+1) (hfu:15≤fuel) {k7:Nat} (hX:FixR H0 ⟨k7,0,none⟩ ida idl s1 s2 s3 g) (hmst:1≤mst) (htop:mst≤maxN) (hG:GoodG g) (hL:SndT g bL 63) (hE:ExT g (Tc g) bL 63) :
  ∀(t r:Nat) (H:AH) (bA:List Nat),r+t=g.datas.length+1→StR m H0 H ⟨k7,0,none⟩ ida idl s1 s2 s3 g mst bA bL→RdR g bA mst r 0 →
   ∃H' bA' v,loopO (F5 (LCo L0) m s1 s2 s3 k7) (H,(r:Int))=some (.inl (H',v))∧StR m H0 H' ⟨k7,0,none⟩ ida idl s1 s2 s3 g mst bA' bL∧RdR g bA' mst (g.datas.length+1) 0:=by
 have hn:=hX.sg.d.n;have hsm:=I3 hG;intro t;induction t with
 | zero =>
  intro r H bA hr hs hR;obtain rfl:r=g.datas.length+1:=by omega
  refine ⟨H,bA,_,Y1 (s':=(H,((g.datas.length+1:Nat):Int))) ?_,hs,hR⟩;unfold F5;simp only;rw [if_neg (by omega)]
 | succ t ih =>
  intro r H bA hr hs hR;obtain ⟨H1,bA1,a1,a2,a3⟩:=zq1 hF hfu hX hmst htop hG hL hE (v9:=(r:Int)) g.datas.length 0 H bA (by omega) hs hR;obtain ⟨H',bA',v,b1,b2,b3⟩:=ih (r+1) H1 bA1 (by omega) a2 a3.next;refine ⟨H',bA',v,?_,b2,b3⟩;have a1':(LCo L0).run (X4 (LCo L0) m s1 s2 s3 k7 (r:Int)) (H,0)=_:=a1;have hbody:F5 (LCo L0) m s1 s2 s3 k7 (H,(r:Int))=some (.next (H1,((r+1:Nat):Int))):=by
   unfold F5;simp only;rw [if_pos (by omega),a1'];simp only [Option.bind_some];rw [U2 (by omega) (by omega)];rfl
  rw [W1 hbody];exact b1
theorem zh1 {H:AH} {n:Nat} {e:TypeId} {z:Value} (hm:m≤H.next):∃H',newS e (mkCells #[z] 1 n) H=some (H.next,H')∧ArrV e m H' H.next (List.replicate n z)∧Ext H H'∧H'.next=H.next+1:=by
 have hc:(mkCells #[z] 1 n)=List.replicate n z:=by
  unfold mkCells;rw [Nat.mul_one];by_cases h0:n=0
  ·subst h0; rfl
  ·rw [if_neg h0];have:zerosA #[z] n=(List.replicate n z).toArray:=by
    unfold zerosA;refine Array.ext (by simp) fun i h1 h2=>?_;have:i % 1=0:=Nat.mod_one i;simp [this]
   rw [this]
 rw [hc];exact ⟨_,rfl,⟨by rw [AH.get_push_same]; rfl,hm,by simp⟩,Fm.push _ _ _,by simp⟩
theorem replV (n:Nat):List.replicate n (Value.int .i64 0)=iV (List.replicate n 0):=by
 unfold iV; rw [List.map_replicate]; rfl
theorem zhq {mo n:Nat}:RdR g (List.replicate n 0) mo 0 0:=by
 have hz:∀i,(List.replicate n 0).getD i 0=0:=fun i=>by
  simp only [List.getD,List.getElem?_replicate]; split <;> rfl
 exact ⟨fun i _ h=>absurd (hz i) h,fun i _ u hu=>(by cases hu),fun j hj=>absurd hj (Nat.not_lt_zero _)⟩
structure FullR (g:Sg) (mst:Nat) (bA bL:List Nat):Prop where
 sl:SndT g bL 63
 el:ExT g (Tc g) bL 63
 sa:SndT g bA mst
 ea:ExT g (Tc g) bA mst
theorem zci (hF:L0=fuel+1) (hfu:15≤fuel) (hmst:1≤mst) (htop:mst≤maxN) (hG:GoodG g) (hS:SigA H s1 s2 s3 g) (hm:m≤H.next) :
  ∃k7 ida idl H' bA bL,G8 (LCo L0) m H s1 s2 s3 (mst:Int)=some (some ⟨k7,0,none⟩,H')∧Ext H H'∧CtR m H' ⟨k7,0,none⟩ ida idl s1 s2 s3 g mst bA bL∧FullR g mst bA bL:=by
 have hn:=hS.d.n;have hsm:=I3 hG;have hN:mkN 8 (s2.n:Int)=some g.datas.length:=by
  unfold mkN;rw [if_pos ⟨by omega,by omega,by omega⟩,hn];rfl
 obtain ⟨H4,a1,a2,a3,a4⟩:=zh1 (m:=m) (H:=H) (n:=g.datas.length) (e:=3) (z:=.int .i64 0) hm;obtain ⟨H6,b1,b2,b3,b4⟩:=zh1 (m:=m) (H:=H4) (n:=g.datas.length) (e:=3) (z:=.int .i64 0) (by omega);rw [replV] at a2 b2;have x6:=a3.trans b3;obtain ⟨H8,c1,c2,c3⟩:∃H8,newS 89 [(Sl3.v s1),(Sl3.v s2),(Sl3.v s3),(Value.int .i64 (mst:Int)),(Sl3.v (⟨some ⟨H.next,0,none⟩,g.datas.length,g.datas.length⟩:Sl3)),(Sl3.v (⟨some ⟨H4.next,0,none⟩,g.datas.length,g.datas.length⟩:Sl3))] H6=some (H6.next,H8)∧Ext H6 H8∧∀(i:Nat) (v:Value),[(Sl3.v s1),(Sl3.v s2),(Sl3.v s3),(Value.int .i64 (mst:Int)),(Sl3.v (⟨some ⟨H.next,0,none⟩,g.datas.length,g.datas.length⟩:Sl3)),(Sl3.v (⟨some ⟨H4.next,0,none⟩,g.datas.length,g.datas.length⟩:Sl3))][i]? = some v→Cel H8 ((⟨H6.next,0,none⟩:Addr).add i) v :=
  ⟨_,rfl,Fm.push _ _ _,fun i v hv=>by
   rw [C5];have:(⟨H6.next,0+i,none⟩:Addr)=⟨H6.next,i,none⟩:=by rw [Nat.zero_add]
   rw [this];exact Cel.push (c:=[(Sl3.v s1),(Sl3.v s2),(Sl3.v s3),(Value.int .i64 (mst:Int)),(Sl3.v (⟨some ⟨H.next,0,none⟩,g.datas.length,g.datas.length⟩:Sl3)),(Sl3.v (⟨some ⟨H4.next,0,none⟩,g.datas.length,g.datas.length⟩:Sl3))].toArray) rfl (by simpa using hv)⟩
 have x8:=x6.trans c2;have hX:FixR H ⟨H6.next,0,none⟩ H.next H4.next s1 s2 s3 g:=⟨hS,Nat.le_refl _,by omega,by omega,by show H6.next≠H.next; omega,by show H6.next≠H4.next; omega⟩;have hs:StR m H H8 ⟨H6.next,0,none⟩ H.next H4.next s1 s2 s3 g mst (List.replicate g.datas.length 0) (List.replicate g.datas.length 0) :=
  ⟨⟨hS.ext x8,rfl,c3 0 _ rfl,c3 1 _ rfl,c3 2 _ rfl,c3 3 _ rfl,c3 4 _ rfl,c3 5 _ rfl,a2.ext (b3.trans c2),b2.ext c2,by simp,by simp⟩,x8⟩
 obtain ⟨H21,bL,v,d1,d2,d3⟩:=low_b0 hF hfu hX hmst htop hG (g.datas.length+1) 0 H8 _ (by omega) hs zhq;have eTc:tcD g (g.datas.length+1)=Tc g:=z8i g _ (by omega);have hL:=d3.snd;have hE:=d3.ex;rw [eTc] at hE;obtain ⟨H35,bA,w,e1,e2,e3⟩:=zpo hF hfu hX hmst htop hG hL hE (g.datas.length+1) 0 H21 _ (by omega) d2 zhq;have hE2:=e3.ex;rw [eTc] at hE2;refine ⟨H6.next,H.next,H4.next,H35,bA,bL,?_,e2.x,e2.ct,hL,hE,e3.snd,hE2⟩;unfold G8;have d1':(LCo L0).run (i5 (LCo L0) m s1 s2 s3 H6.next) (H8,0)=_:=d1;have e1':(LCo L0).run (F5 (LCo L0) m s1 s2 s3 H6.next) (H21,0)=_:=e1;rw [hN];simp only [Option.bind_some,a1,b1,c1,d1',e1']
theorem zlf (hF:L0=fuel+1) (hfu:15≤fuel) (hmst:1≤mst) (htop:mst≤maxN) (hG:GoodG g) (hC:CtR m H q ida idl s1 s2 s3 g mst bA bL) (hU:FullR g mst bA bL) {k w:Int} {n:ByteArray} {s:Sl3} {a:Fo} (h:SlF H s a) (hs:shS k w n a=true) (hk:knS g.users g.datas k n a=true) (hd:a.dep≤15) :
  ∃v b,d8 (LCo L0) H (some q) k w n s false=some (v,b)∧b=decide (cap mst (cS g.datas (Tc g) k w n a) > 0)∧(b=true→v=((cap mst (cS g.datas (Tc g) k w n a):Nat):Int)):=by
 obtain ⟨v,b,o1,o2⟩:=zlh L0 hC hmst htop hG hU.sl (a.dep+1) fuel k w n s a false h hs hk (by omega) (Nat.lt_succ_self _) hU.sa;have hpos:=cS_pos (ds:=g.datas) (Tc_pos hG) k w n a;have hb1:b=true→∃u:Nat,v=(u:Int)∧1≤u∧u≤mst∧cS g.datas (Tc g) k w n a=some u:=o2.snd;refine ⟨v,b,by subst hF; exact o1,?_,fun hb=>?_⟩
 ·rw [Bool.eq_iff_iff,decide_eq_true_iff];constructor
  ·intro hb;obtain ⟨u,_,h1,h2,h3⟩:=hb1 hb;rw [h3,W3 h2]; omega
  ·intro hc;cases hq:cS g.datas (Tc g) k w n a with
   | none=>rw [hq] at hc; exact absurd hc (Nat.lt_irrefl _)
   | some u =>
    by_cases hle:u≤mst
    ·exact o2.ex (Tc g) ⟨fun i=>Tc_pos hG i,fun i=>.refl _⟩ hU.el hU.ea u hq hle
    ·rw [hq,cap_no hle] at hc; exact absurd hc (Nat.lt_irrefl _)
 ·obtain ⟨u,h0,h1,h2,h3⟩:=hb1 hb;rw [h3,W3 h2,h0]
theorem zkj (hF:L0=fuel+1) (hfu:15≤fuel) (hd:g.dep≤fuel) (hb:SgB g) (hS:SigA H s1 s2 s3 g) (hm:m≤H.next) {k w:Int} {n:ByteArray} {s:Sl3} {a:Fo} (h:SlF H s a) (hn:n.size≤maxS) (hda:a.dep≤fuel) {most:Int} (hmo:most<9223372036854775808) :
  ∃H',z2p (LCo L0) m H k w n s s1 s2 s3 most=some (((countS g k w n a most:Nat):Int),decide (countS g k w n a most > 0),H')∧Ext H H':=by
 have hN:=B2;unfold z2p countS;by_cases h1:most<1
 ·rw [if_pos h1,if_pos (show most<1∨sigS g≠0∨checkS g k w n a≠0 from .inl h1)];exact ⟨H,rfl,Fm.refl _ _⟩
 rw [if_neg h1];obtain ⟨H4,a1,a2⟩:=zco (m:=m) hF hfu hd hb hS hm;rw [a1];simp only [Option.bind_some];by_cases h2:sigS g=0
 ·rw [if_pos h2];have c1:=z5a L0 fuel hF (hS.ext a2) (h.ext a2) hn hda (k:=k) (w:=w);rw [c1];simp only [Option.bind_some];by_cases h3:checkS g k w n a=0
  ·rw [h3];simp only [decide_true,Bool.not_true,Bool.false_eq_true,if_false];rw [if_neg (show ¬(most<1∨sigS g≠0∨(0:Int)≠0) from fun hh=>hh.elim h1 fun hh=>hh.elim (fun hh=>hh h2) fun hh=>hh rfl)];obtain ⟨hG,hNe,_⟩:=sig_ok h2;obtain ⟨s1',s2',s3',s4'⟩:=zae h3;have hmx:Nat.max m H4.next=H4.next:=Nat.max_eq_right (Nat.le_trans hm a2.1);rw [hmx];obtain ⟨k7,ida,idl,H7,bA,bL,d1,d2,d3,d4⟩:=zci (m:=H4.next) (mst:=most.toNat) hF hfu (by omega) (by omega) hG (hS.ext a2) (Nat.le_refl _);rw [show ((most.toNat:Nat):Int)=most by omega] at d1;rw [d1];simp only [Option.bind_some];obtain ⟨v,b,e1,e2,e3⟩:=zlf hF hfu (by omega) (by omega) hG d3 d4 (h.ext (a2.trans d2)) s1' s4' s2';rw [e1];simp only [Option.bind_some];refine ⟨H7,?_,a2.trans d2⟩;rw [← e2];cases b with
   | true=>rw [if_pos rfl,e3 rfl]
   | false =>
    have:¬cap most.toNat (cS g.datas (Tc g) k w n a) > 0:=of_decide_eq_false e2.symm;rw [show cap most.toNat (cS g.datas (Tc g) k w n a)=0 by omega];rfl
  ·rw [decide_eq_false h3];simp only [Bool.not_false,if_true];rw [if_pos (show most<1∨sigS g≠0∨checkS g k w n a≠0 from .inr (.inr h3))];exact ⟨H4,rfl,a2⟩
 ·rw [if_neg h2,if_pos (show most<1∨sigS g≠0∨checkS g k w n a≠0 from .inr (.inl h2))];exact ⟨H4,rfl,a2⟩
end
end Go.Proofs.YtccbilfbhecdaaaGreatDoor
namespace Go.Proofs.YtccbilfbhecdaaaGreatDoor
open Go Go.Abs
set_option maxRecDepth 100000
def SndF (g:Sg) (T:List Bool):Prop:=∀i,i<g.datas.length→T.getD i false=true→(Tc g i).isSome=true
def ExF (g:Sg) (f:Nat→Option Nat) (T:List Bool):Prop:=∀i,i<g.datas.length→(f i).isSome=true→T.getD i false=true
structure EnR (m:Nat) (H:AH) (e:Addr) (q:Addr) (idf:Nat) (s1 s2 s3:Sl3) (g:Sg) (bF:List Bool):Prop where
 sg:SigA H s1 s2 s3 g
 sp:e.spot=none
 c0:Cel H (e.add 0) s1.v
 c1:Cel H (e.add 1) s2.v
 c2:Cel H (e.add 2) s3.v
 c3:Cel H (e.add 3) (Sl3.v ⟨some ⟨idf,0,none⟩,g.datas.length,g.datas.length⟩)
 c4:Cel H (e.add 4) (.pointer (some q))
 f:ArrV 4 m H idf (bV bF)
 lf:bF.length=g.datas.length
section
variable {m:Nat} {H0 H:AH} {e q:Addr} {ida idl idf:Nat} {s1 s2 s3:Sl3} {g:Sg} {bA bL:List Nat} {bF:List Bool} {L0 fuel:Nat}
theorem zhw (hF:L0=fuel+1) (hfu:15≤fuel) (hC:CtR m H q ida idl s1 s2 s3 g 1 bA bL) (hU:FullR g 1 bA bL) (hE:EnR m H e q idf s1 s2 s3 g bF) (hG:GoodG g) (hsF:SndF g bF):∀(d fu:Nat) (k w:Int) (n:ByteArray) (s:Sl3) (a:Fo),SlF H s a→shS k w n a=true→knS g.users g.datas k n a=true→a.dep≤fu→a.dep≤15→a.dep<d →
  ∃b,C9 (LCo L0) (fu+1) H (some e) k w n s=some b∧(b=true→(cS g.datas (Tc g) k w n a).isSome=true)∧∀f,Below g f→ExF g f bF→(cS g.datas f k w n a).isSome=true→b=true:=by
 intro d;induction d with
 | zero=>intro fu k w n s a _ _ _ _ _ h; omega
 | succ d ih =>
  intro fu k w n s a h hsh hkn hf h15 hd;show ∃b,i7 (LCo L0) (C9 (LCo L0) fu) H (some e) k w n s=some b∧_;unfold i7;have hfirst:(if k=1 then some true else some (decide (k=3)))=some (decide (k=1∨k=3)):=by
   by_cases h1:k=1
   ·subst h1; rfl
   ·rw [if_neg h1]; simp [h1]
  rw [hfirst];simp only [Option.bind_some];by_cases k13:k=1∨k=3
  ·rw [decide_eq_true k13,if_pos rfl];refine ⟨true,rfl,fun _=>?_,fun f _ _ _=>rfl⟩;unfold cS one_;rcases k13 with rfl | rfl
   ·rw [if_pos rfl]; rfl
   ·rw [if_neg (by omega),if_pos rfl]; rfl
  rw [decide_eq_false k13];simp only [Bool.false_eq_true,if_false];by_cases k4:k=4
  ·rw [if_pos k4];rcases S8 hsh with ⟨_,h'⟩ | ⟨_,j1,w1,n1,a1,j2,w2,n2,a2,rfl,hs1,hs2⟩
   ·omega
   ·subst k4;unfold knS at hkn;rw [if_neg (by omega),if_neg (by omega)] at hkn;simp only [knF,Bool.and_eq_true] at hkn;have hk1:knS g.users g.datas j1 n1 a1=true:=by unfold knS; exact hkn.1
    have hk2:knS g.users g.datas j2 n2 a2=true:=by unfold knS; exact hkn.2.1
    have hn2:s.n=2:=h.1;obtain ⟨q0,t0,u1,u2,u3,u4,u5,u6,u7,q8⟩:=h.2.2.rd (s:=s) (by omega);obtain ⟨q1,t1,o1,o2,o3,o4,o5,o6,o7,_⟩:=q8.rd (s:=s) (by omega);simp only [Fo.dep] at hf hd h15;obtain ⟨g',rfl⟩:∃g',fu=g'+1:=⟨fu - 1,by omega⟩;obtain ⟨v,b,x1,x2,x3⟩:=zlf hF hfu (Nat.le_refl 1) (by rw [B2]; omega) hG hC hU o6 hs2 hk2 (by omega) (w:=w2);obtain ⟨b1,y1,y2,y3⟩:=ih g' j1 w1 n1 t0 a1 u6 hs1 hk1 (by omega) (by omega) (by omega);obtain ⟨b2,z1,z2,z3⟩:=ih g' j2 w2 n2 t1 a2 o6 hs2 hk2 (by omega) (by omega) (by omega);have hcs:∀f,cS g.datas f 4 w n (.cons j1 w1 n1 a1 (.cons j2 w2 n2 a2 .nil))=arrO (cS g.datas f j1 w1 n1 a1) (cS g.datas f j2 w2 n2 a2):=fun f=>rfl;have r4:rd deP H (e.add 4)=some (some q):=by rw [hE.c4.rd]; rfl
    have o1':idxA 4 s 1=some q1:=o1;have u1':idxA 4 s 0=some q0:=u1;have hone:(if b=true then some (decide (v=1)) else some false)=some (decide (cS g.datas (Tc g) j2 w2 n2 a2=some 1)):=by
     have hpos:=cS_pos (ds:=g.datas) (Tc_pos hG) j2 w2 n2 a2;cases b with
     | true =>
      have hv:=x3 rfl;have hc:cap 1 (cS g.datas (Tc g) j2 w2 n2 a2) > 0:=of_decide_eq_true x2.symm;cases hq:cS g.datas (Tc g) j2 w2 n2 a2 with
      | none=>rw [hq] at hc; exact absurd hc (Nat.lt_irrefl _)
      | some t =>
       have ht:=hpos t hq;by_cases h1:t≤1
       ·obtain rfl:t=1:=by omega
        rw [hq,W3 h1] at hv;rw [hv]; rfl
       ·rw [hq,cap_no h1] at hc; exact absurd hc (Nat.lt_irrefl _)
     | false =>
      have hc:¬cap 1 (cS g.datas (Tc g) j2 w2 n2 a2) > 0:=of_decide_eq_false x2.symm;have hq:¬cS g.datas (Tc g) j2 w2 n2 a2=some 1:=fun hq=>by
       rw [hq] at hc;exact hc (by decide)
      rw [decide_eq_false hq];rfl
    have key:(if b1=true then Option.bind (some b2) (fun x13=>if x13=true then some true else some (decide (cS g.datas (Tc g) j2 w2 n2 a2=some 1))) else some (decide (cS g.datas (Tc g) j2 w2 n2 a2=some 1)))=some ((b1&&b2)||decide (cS g.datas (Tc g) j2 w2 n2 a2=some 1)):=by
     cases b1 <;> cases b2 <;> rfl
    simp only [Option.bind_some,r4,o1',o2,o3,o4,o5,x1,u1',u2,u3,u4,u5,y1,z1,hone];simp only [Option.bind_some] at key;rw [key];refine ⟨_,rfl,fun hb=>?_,fun f hB hX hq=>?_⟩
    ·rw [hcs];rw [Bool.or_eq_true,Bool.and_eq_true,decide_eq_true_iff] at hb;rcases hb with ⟨q1,q2⟩ | hb
     ·have e1:=y2 q1;have e2:=z2 q2;obtain ⟨x,hx⟩:=Option.isSome_iff_exists.1 e1;obtain ⟨t,ht⟩:=Option.isSome_iff_exists.1 e2;rw [hx,ht];simp only [arrO];split <;> rfl
     ·rw [hb];cases cS g.datas (Tc g) j1 w1 n1 a1 <;> rfl
    ·rw [hcs] at hq;cases hy:cS g.datas f j2 w2 n2 a2 with
     | none=>rw [hy] at hq; cases hq
     | some t =>
      rw [Bool.or_eq_true,Bool.and_eq_true,decide_eq_true_iff];by_cases h1:t=1
      ·subst h1;exact .inr (z9z (ds:=g.datas) hB.le j2 w2 n2 a2 1 hy)
      ·left;rw [hy] at hq;simp only [arrO] at hq;rw [if_neg h1] at hq;cases hx:cS g.datas f j1 w1 n1 a1 with
       | none=>rw [hx] at hq; cases hq
       | some x=>exact ⟨y3 f hB hX (by rw [hx]; rfl),z3 f hB hX (by rw [hy]; rfl)⟩
  rw [if_neg k4];by_cases k6:k=6
  ·subst k6;rw [if_pos rfl];have hk:=hkn;unfold knS at hk;rw [if_neg (by omega),if_pos rfl] at hk;have hlt:=ix_lt hk;have hD:S3 (LCo L0) H s1 s2 s3 n=some ((ixS g.datas n:Nat):Int):=by
    rw [z4s L0 hE.sg n];unfold ixS;obtain ⟨i,hi⟩:=Option.isSome_iff_exists.1 hk;rw [hi];rfl
   have e0:(e.add 0).add 0=e.add 0:=by rw [I5 hE.sp]
   have e1:(e.add 0).add 1=e.add 1:=by rw [I5 hE.sp]
   have e2:(e.add 0).add 2=e.add 2:=by rw [I5 hE.sp]
   have r0:rd deSl H (e.add 0)=some s1:=by rw [hE.c0.rd]; rfl
   have r1:rd deSl H (e.add 1)=some s2:=by rw [hE.c1.rd]; rfl
   have r2:rd deSl H (e.add 2)=some s3:=by rw [hE.c2.rd]; rfl
   have r3:rd deSl H (e.add 3)=some ⟨some ⟨idf,0,none⟩,g.datas.length,g.datas.length⟩:=by rw [hE.c3.rd]; rfl
   obtain ⟨pf,f1,f2⟩:=z6f hE.f hE.lf hlt;simp only [Option.bind_some,e0,e1,e2,r0,r1,r2,r3,hD,f1,f2];have hcs:∀f,cS g.datas f 6 w n a=f (ixS g.datas n):=fun f=>by
    unfold cS one_; rw [if_neg (by omega),if_neg (by omega),if_neg (by omega),if_pos rfl]
   exact ⟨_,rfl,fun hb=>by rw [hcs]; exact hsF _ hlt hb,fun f _ hX hq=>by rw [hcs] at hq; exact hX _ hlt hq⟩
  ·rw [if_neg k6];refine ⟨false,rfl,fun h=>(by cases h),fun f _ _ hq=>?_⟩;unfold cS one_ at hq;rw [if_neg (fun h=>k13 (.inl h)),if_neg (fun h=>k13 (.inr h)),if_neg k4,if_neg k6] at hq;cases hq
theorem all_b1 (hF:L0=fuel+1) (hfu:15≤fuel) (hC:CtR m H q ida idl s1 s2 s3 g 1 bA bL) (hU:FullR g 1 bA bL) (hE:EnR m H e q idf s1 s2 s3 g bF) (hG:GoodG g) (hsF:SndF g bF)
  {l:List Con} {sc:Sl3} {nm:ByteArray} (hc:SlL ConA 2 H sc l) {i:Nat} (hi:i<l.length) (hg:∀x∈(l[i]).sels,SelG g x):∀(t j:Nat),j+t=(l[i]).sels.length →
   (∃v,loopO (R2 (LCo L0) H (some e) nm sc (i:Int)) (j:Int)=some (.inl v)∧(cC g.datas (Tc g) ((l[i]).sels.drop j)).isSome=true) ∨
   (loopO (R2 (LCo L0) H (some e) nm sc (i:Int)) (j:Int)=some (.inr false)∧∀f,Below g f→ExF g f bF→¬(cC g.datas f ((l[i]).sels.drop j)).isSome=true):=by
 obtain ⟨q8,g1,g2⟩:=hc.get hi (v:=(i:Int)) rfl;obtain ⟨sl,e1,e2⟩:=g2.ex;have r1:rd deSl H (q8.add 1)=some sl:=by rw [e1.rd]; rfl
 have hln:=e2.n;intro t;induction t with
 | zero =>
  intro j hj;obtain rfl:j=(l[i]).sels.length:=by omega
  refine .inl ⟨_,Y1 (s':=((l[i]).sels.length:Int)) ?_,by rw [List.drop_length]; rfl⟩;unfold R2;simp only [g1,Option.bind_some,r1];rw [if_neg (by omega)]
 | succ t ih =>
  intro j hj;have hjl:j<(l[i]).sels.length:=by omega
  obtain ⟨q',k1,k2⟩:=e2.get hjl (v:=(j:Int)) rfl;obtain ⟨s',f1,f2,f3,f4,f5,f6⟩:=k2.ex;have hsp:q'.spot=none:=by
   obtain ⟨a,ha,_⟩:=e2.at_.get j hjl;have:=(e2.low a ha).2;have hq:=J6 (sz:=5) ha (v:=(j:Int)) rfl (show j<sl.n by omega);rw [k1] at hq; cases hq;obtain ⟨b,o,sp⟩:=a;simp only at this; subst this; rw [C5]
  have z0:rd (deI .i64) H ((q'.add 1).add 0)=some (l[i]).sels[j].k:=by rw [I5 hsp,f1.rd]; rfl
  have z1:rd (deI .i64) H ((q'.add 1).add 1)=some (l[i]).sels[j].w:=by rw [I5 hsp,f2.rd]; rfl
  have z2:rd deS H ((q'.add 1).add 2)=some (l[i]).sels[j].sn:=by rw [I5 hsp,f3.rd]; rfl
  have z3:rd deSl H ((q'.add 1).add 3)=some s':=by rw [I5 hsp,f4.rd]; rfl
  have hs:=hg _ (List.getElem_mem hjl);obtain ⟨b,o1,o2,o3⟩:=zhw hF hfu hC hU hE hG hsF ((l[i]).sels[j].a.dep+1) fuel _ ((l[i]).sels[j].w) _ s' _ f6 hs.sh hs.kn (by have:=hs.dp; omega) hs.dp (Nat.lt_succ_self _);have o1':b8 (LCo L0) H (some e) (l[i]).sels[j].k (l[i]).sels[j].w (l[i]).sels[j].sn s'=some b:=by
   subst hF; exact o1
  have hdrop:∀f,(cC g.datas f ((l[i]).sels.drop j)).isSome=((cS g.datas f (l[i]).sels[j].k (l[i]).sels[j].w (l[i]).sels[j].sn (l[i]).sels[j].a).isSome&&(cC g.datas f ((l[i]).sels.drop (j+1))).isSome):=fun f=>by
   rw [zdi,zdi,List.drop_eq_getElem_cons hjl,List.all_cons]
  cases b with
  | false =>
   refine .inr ⟨N3 ?_,fun f hB hX hq=>?_⟩
   ·unfold R2;simp only [g1,Option.bind_some,r1];rw [if_pos (show (j:Int)<(sl.n:Int) by omega)];simp only [k1,Option.bind_some,z0,z1,z2,z3,o1'];rfl
   ·rw [hdrop,Bool.and_eq_true] at hq;have:=o3 f hB hX hq.1;cases this
  | true =>
   have hbody:R2 (LCo L0) H (some e) nm sc (i:Int) (j:Int)=some (.next ((j+1:Nat):Int)):=by
    unfold R2;simp only [g1,Option.bind_some,r1];rw [if_pos (show (j:Int)<(sl.n:Int) by omega)];simp only [k1,Option.bind_some,z0,z1,z2,z3,o1',if_true];rw [V1 hjl e2.len]
   rcases ih (j+1) (by omega) with ⟨v,a1,a2⟩ | ⟨a1,a2⟩
   ·exact .inl ⟨v,by rw [W1 hbody]; exact a1,by rw [hdrop,a2,o2 rfl]; rfl⟩
   ·refine .inr ⟨by rw [W1 hbody]; exact a1,fun f hB hX hq=>a2 f hB hX ?_⟩;rw [hdrop,Bool.and_eq_true] at hq;exact hq.2
theorem zph (hF:L0=fuel+1) (hfu:15≤fuel) (hC:CtR m H q ida idl s1 s2 s3 g 1 bA bL) (hU:FullR g 1 bA bL) (hE:EnR m H e q idf s1 s2 s3 g bF) (hG:GoodG g) (hsF:SndF g bF)
  {l:List Con} {sc:Sl3} {nm:ByteArray} (hc:SlL ConA 2 H sc l) (hg:∀c∈l,∀x∈c.sels,SelG g x) :
  ∃b,zl (LCo L0) H (some e) nm sc=some b∧(b=true→(cD g.datas (Tc g) l).isSome=true)∧∀f,Below g f→ExF g f bF→(cD g.datas f l).isSome=true→b=true:=by
 have hn:=hc.n;have key:∀(t i:Nat),i+t=l.length →
   (∃v,loopO (S2 (LCo L0) H (some e) nm sc) (i:Int)=some (.inl v)∧(cD g.datas (Tc g) (l.drop i)).isSome=true) ∨
   (loopO (S2 (LCo L0) H (some e) nm sc) (i:Int)=some (.inr false)∧∀f,Below g f→ExF g f bF→¬(cD g.datas f (l.drop i)).isSome=true):=by
  intro t;induction t with
  | zero =>
   intro i hi;obtain rfl:i=l.length:=by omega
   refine .inl ⟨_,Y1 (s':=(l.length:Int)) ?_,by rw [List.drop_length]; rfl⟩;unfold S2;rw [if_neg (by omega)]
  | succ t ih =>
   intro i hi;have hil:i<l.length:=by omega
   have hdrop:∀f,(cD g.datas f (l.drop i)).isSome=((cC g.datas f (l[i]).sels).isSome&&(cD g.datas f (l.drop (i+1))).isSome):=fun f=>by
    rw [zdk,zdk,List.drop_eq_getElem_cons hil,List.all_cons]
   have hrun:∀r,loopO (R2 (LCo L0) H (some e) nm sc (i:Int)) 0=r→(LCo L0).run (R2 (LCo L0) H (some e) nm sc (i:Int)) 0=r:=fun r h=>h;rcases all_b1 hF hfu hC hU hE hG hsF (nm:=nm) hc hil (hg _ (List.getElem_mem hil)) (l[i]).sels.length 0 (by omega) with ⟨v,a1,a2⟩ | ⟨a1,a2⟩
   ·rw [List.drop_zero] at a2;have a1':=hrun _ a1;have hbody:S2 (LCo L0) H (some e) nm sc (i:Int)=some (.next ((i+1:Nat):Int)):=by
     unfold S2;rw [if_pos (by omega),a1'];simp only [Option.bind_some];rw [V1 hil hc.len]
    rcases ih (i+1) (by omega) with ⟨w,b1,b2⟩ | ⟨b1,b2⟩
    ·exact .inl ⟨w,by rw [W1 hbody]; exact b1,by rw [hdrop,a2,b2]; rfl⟩
    ·refine .inr ⟨by rw [W1 hbody]; exact b1,fun f hB hX hq=>b2 f hB hX ?_⟩;rw [hdrop,Bool.and_eq_true] at hq;exact hq.2
   ·rw [List.drop_zero] at a2;have a1':=hrun _ a1;refine .inr ⟨N3 ?_,fun f hB hX hq=>a2 f hB hX ?_⟩
    ·unfold S2;rw [if_pos (by omega),a1'];rfl
    ·rw [hdrop,Bool.and_eq_true] at hq;exact hq.1
 unfold zl;have hrun:∀r,loopO (S2 (LCo L0) H (some e) nm sc) 0=r→(LCo L0).run (S2 (LCo L0) H (some e) nm sc) 0=r:=fun r h=>h;rcases key l.length 0 (by omega) with ⟨v,a1,a2⟩ | ⟨a1,a2⟩
 ·rw [hrun _ a1];exact ⟨true,rfl,fun _=>by rw [List.drop_zero] at a2; exact a2,fun f _ _ _=>rfl⟩
 ·rw [hrun _ a1];exact ⟨false,rfl,fun h=>(by cases h),fun f hB hX hq=>absurd hq (by have:=a2 f hB hX; rwa [List.drop_zero] at this)⟩
structure RdF (g:Sg) (T:List Bool) (r i:Nat):Prop where
 snd:SndF g T
 ex:ExF g (tcD g r) T
 new:∀j,j<i→(tcD g (r+1) j).isSome=true→T.getD j false=true
theorem RdF.next {T:List Bool} {r:Nat} (h:RdF g T r g.datas.length):RdF g T (r+1) 0 :=
 ⟨h.snd,fun i hi=>h.new i hi,fun j hj=>absurd hj (Nat.not_lt_zero _)⟩
theorem zpk {T:List Bool} (hl:T.length=g.datas.length) {r i:Nat} (hi:i<g.datas.length) (h:RdF g T r i) {b:Bool} (h1:b=true→(cD g.datas (Tc g) (g.datas[i]).cons).isSome=true) (h2:(cD g.datas (tcD g r) (g.datas[i]).cons).isSome=true→b=true) :
  RdF g (if b=true then T.set i true else T) r (i+1):=by
 have hnew:(tcD g (r+1) i).isSome=true→b=true:=fun hq=>by
  refine h2 ?_;have hq:(if h:i<g.datas.length then cD g.datas (tcD g r) (g.datas[i]).cons else none).isSome=true:=hq;rw [dif_pos hi] at hq;exact hq
 cases b with
 | false =>
  simp only [Bool.false_eq_true,if_false];refine ⟨h.snd,h.ex,fun j hj hq=>?_⟩;by_cases e:j=i
  ·subst e; have:=hnew hq; cases this
  ·exact h.new j (by omega) hq
 | true =>
  simp only [if_true];have hget:∀j,(T.set i true).getD j false=if j=i then true else T.getD j false:=fun j=>by
   by_cases e:j=i
   ·subst e;rw [if_pos rfl];simp [List.getD,hl,hi]
   ·rw [if_neg e];simp [List.getD,List.getElem?_set,Ne.symm e]
  refine ⟨fun j hj hq=>?_,fun j hj hq=>?_,fun j hj hq=>?_⟩
  ·by_cases e:j=i
   ·subst e; rw [Tc_fix hj]; exact h1 rfl
   ·rw [hget,if_neg e] at hq; exact h.snd j hj hq
  ·rw [hget]; split
   ·rfl
   ·exact h.ex j hj hq
  ·rw [hget]; split
   ·rfl
   ·exact h.new j (by omega) hq
structure FixE (H0:AH) (k6 idf:Nat) (s1 s2 s3:Sl3) (g:Sg) (q:Addr) (ida idl:Nat) (bA bL:List Nat) (m:Nat):Prop where
 ct:CtR m H0 q ida idl s1 s2 s3 g 1 bA bL
 jf:H0.next≤idf
 ne:k6≠idf
theorem CtR.ext {mst:Nat} {H':AH} (h:CtR m H q ida idl s1 s2 s3 g mst bA bL) (hx:Ext H H'):CtR m H' q ida idl s1 s2 s3 g mst bA bL :=
 ⟨h.sg.ext hx,h.sp,h.c0.ext hx,h.c1.ext hx,h.c2.ext hx,h.c3.ext hx,h.c4.ext hx,h.c5.ext hx,h.a.ext hx,h.l.ext hx,h.la,h.ll⟩
theorem zqo (l:List Bool) (i:Nat) (b:Bool):(bV l).set i (.bool b)=bV (l.set i b):=by
 unfold bV; rw [List.map_set]
theorem fin_b1 (hF:L0=fuel+1) (hfu:15≤fuel) {k6:Nat} (hX:FixE H0 k6 idf s1 s2 s3 g q ida idl bA bL m) (hU:FullR g 1 bA bL) (hG:GoodG g) {v4:Int} {r:Nat} :
  ∀(t i:Nat) (H:AH) (bF:List Bool),i+t=g.datas.length→Ext H0 H→EnR m H ⟨k6,0,none⟩ q idf s1 s2 s3 g bF→RdF g bF r i →
   ∃H' bF',loopO (E5 (LCo L0) m s1 s2 s3 k6 v4) (H,(i:Int))=some (.inl (H',(g.datas.length:Int)))∧Ext H0 H'∧EnR m H' ⟨k6,0,none⟩ q idf s1 s2 s3 g bF'∧RdF g bF' r g.datas.length:=by
 have hn:=hX.ct.sg.d.n;intro t;induction t with
 | zero =>
  intro i H bF hi hx hE hr;obtain rfl:i=g.datas.length:=by omega
  refine ⟨H,bF,Y1 ?_,hx,hE,hr⟩;unfold E5;simp only;rw [if_neg (by omega)]
 | succ t ih =>
  intro i H bF hi hx hE hr;have hil:i<g.datas.length:=by omega
  obtain ⟨a,g1,g2⟩:=hE.sg.d.get hil (v:=(i:Int)) rfl;obtain ⟨sc,e1,e2⟩:=g2.ex;have r0:rd deS H (a.add 0)=some (g.datas[i]).n:=by rw [g2.n.rd]; rfl
  have r1:rd deSl H (a.add 1)=some sc:=by rw [e1.rd]; rfl
  obtain ⟨b,x1,x2,x3⟩:=zph hF hfu (hX.ct.ext hx) hU hE hG hr.snd (nm:=(g.datas[i]).n) e2 fun c hc y hy=>hG.sel _ (List.getElem_mem hil) c hc y hy;have r3:rd deSl H ((⟨k6,0,none⟩:Addr).add 3)=some ⟨some ⟨idf,0,none⟩,g.datas.length,g.datas.length⟩:=by rw [hE.c3.rd]; rfl
  have hstep:=zpk hE.lf hil hr x2 (x3 _ (zd2 hG r) hr.ex);obtain ⟨H1,p1,p2,p3⟩:∃H1,(if b=true then Option.bind (rd deSl H ((⟨k6,0,none⟩:Addr).add 3)) (fun x16=>(idxA 1 x16 (i:Int)).bind fun p17=>(H.setCell m p17 (Value.bool true)).bind fun H18=>some H18) else some H)=some H1∧Ext H0 H1∧EnR m H1 ⟨k6,0,none⟩ q idf s1 s2 s3 g (if b=true then bF.set i true else bF):=by
   cases b with
   | false=>exact ⟨H,rfl,hx,hE⟩
   | true =>
    obtain ⟨H1,a1,a2,a3,a4⟩:=hE.f.set (i:=i) (by simp [bV,hE.lf,hil]) (.bool true);rw [zqo] at a2;have hx1:Ext H0 H1:=hx.comp a3 fun id hid _ he=>by have:=hX.jf; omega
    have hw:¬(fun id=>id=idf) (⟨k6,0,none⟩:Addr).block:=hX.ne;have cel:∀{k:Nat} {v:Value},Cel H ((⟨k6,0,none⟩:Addr).add k) v→Cel H1 ((⟨k6,0,none⟩:Addr).add k) v:=fun hc=>hc.fr a3 (by rw [L3]; exact hw);refine ⟨H1,?_,hx1,⟨hX.ct.sg.ext hx1,rfl,cel hE.c0,cel hE.c1,cel hE.c2,cel hE.c3,cel hE.c4,a2,by rw [if_pos rfl,List.length_set]; exact hE.lf⟩⟩;rw [if_pos rfl,r3];simp only [Option.bind_some,X3 hil rfl,a1]
  obtain ⟨H',bF',b1,b2,b3,b4⟩:=ih (i+1) H1 _ (by omega) p2 p3 hstep;refine ⟨H',bF',?_,b2,b3,b4⟩;have hbody:E5 (LCo L0) m s1 s2 s3 k6 v4 (H,(i:Int))=some (.next (H1,((i+1:Nat):Int))):=by
   unfold E5;simp only;rw [if_pos (by omega),g1];simp only [Option.bind_some,r0,r1,x1];rw [p1];simp only [Option.bind_some];rw [V1 hil hX.ct.sg.d.len]
  rw [W1 hbody];exact b1
theorem fin_b0 (hF:L0=fuel+1) (hfu:15≤fuel) {k6:Nat} (hX:FixE H0 k6 idf s1 s2 s3 g q ida idl bA bL m) (hU:FullR g 1 bA bL) (hG:GoodG g) :
  ∀(t r:Nat) (H:AH) (bF:List Bool),r+t=g.datas.length+1→Ext H0 H→EnR m H ⟨k6,0,none⟩ q idf s1 s2 s3 g bF→RdF g bF r 0 →
   ∃H' bF' v,loopO (Z4 (LCo L0) m s1 s2 s3 k6) (H,(r:Int))=some (.inl (H',v))∧Ext H0 H'∧EnR m H' ⟨k6,0,none⟩ q idf s1 s2 s3 g bF'∧RdF g bF' (g.datas.length+1) 0:=by
 have hn:=hX.ct.sg.d.n;have hsm:=I3 hG;intro t;induction t with
 | zero =>
  intro r H bF hr hx hE hR;obtain rfl:r=g.datas.length+1:=by omega
  refine ⟨H,bF,_,Y1 (s':=(H,((g.datas.length+1:Nat):Int))) ?_,hx,hE,hR⟩;unfold Z4;simp only;rw [if_neg (by omega)]
 | succ t ih =>
  intro r H bF hr hx hE hR;obtain ⟨H1,bF1,a1,a2,a3,a4⟩:=fin_b1 hF hfu hX hU hG (v4:=(r:Int)) g.datas.length 0 H bF (by omega) hx hE hR;obtain ⟨H',bF',v,b1,b2,b3,b4⟩:=ih (r+1) H1 bF1 (by omega) a2 a3 a4.next;refine ⟨H',bF',v,?_,b2,b3,b4⟩;have a1':(LCo L0).run (E5 (LCo L0) m s1 s2 s3 k6 (r:Int)) (H,0)=_:=a1;have hbody:Z4 (LCo L0) m s1 s2 s3 k6 (H,(r:Int))=some (.next (H1,((r+1:Nat):Int))):=by
   unfold Z4;simp only;rw [if_pos (by omega),a1'];simp only [Option.bind_some];rw [U2 (by omega) (by omega)];rfl
  rw [W1 hbody];exact b1
theorem replB (n:Nat):List.replicate n (Value.bool false)=bV (List.replicate n false):=by
 unfold bV; rw [List.map_replicate]
theorem zjf (hF:L0=fuel+1) (hfu:15≤fuel) (hG:GoodG g) (hS:SigA H s1 s2 s3 g) (hm:m≤H.next) {k w:Int} {n:ByteArray} {s:Sl3} {a:Fo} (h:SlF H s a) (hs:shS k w n a=true) (hk:knS g.users g.datas k n a=true) (hd:a.dep≤15) :
  ∃x H',zx (LCo L0) m H s1 s2 s3=some (x,H')∧Ext H H'∧b8 (LCo L0) H' x k w n s=some (cS g.datas (Tc g) k w n a).isSome:=by
 have hn:=hS.d.n;have hsm:=I3 hG;have hN:mkN 1 (s2.n:Int)=some g.datas.length:=by
  unfold mkN;rw [if_pos ⟨by omega,by omega,by omega⟩,hn];rfl
 have hmx:Nat.max m H.next=H.next:=Nat.max_eq_right hm;obtain ⟨k7,ida,idl,H3,bA,bL,a1,a2,a3,a4⟩:=zci (m:=H.next) (mst:=1) hF hfu (Nat.le_refl 1) (by rw [B2]; omega) hG hS (Nat.le_refl _);have a3':CtR m H3 ⟨k7,0,none⟩ ida idl s1 s2 s3 g 1 bA bL:=⟨a3.sg,a3.sp,a3.c0,a3.c1,a3.c2,a3.c3,a3.c4,a3.c5,⟨a3.a.get,Nat.le_trans hm a3.a.own,a3.a.low⟩,⟨a3.l.get,Nat.le_trans hm a3.l.own,a3.l.low⟩,a3.la,a3.ll⟩;obtain ⟨H5,b1,b2,b3,b4⟩:=zh1 (m:=m) (H:=H3) (n:=g.datas.length) (e:=4) (z:=.bool false) (Nat.le_trans hm a2.1);rw [replB] at b2;obtain ⟨H7,c1,c2,c3⟩:∃H7,newS 99 [(Sl3.v s1),(Sl3.v s2),(Sl3.v s3),(Sl3.v (⟨some ⟨H3.next,0,none⟩,g.datas.length,g.datas.length⟩:Sl3)),(Value.pointer (some ⟨k7,0,none⟩))] H5=some (H5.next,H7)∧Ext H5 H7∧∀(i:Nat) (v:Value),[(Sl3.v s1),(Sl3.v s2),(Sl3.v s3),(Sl3.v (⟨some ⟨H3.next,0,none⟩,g.datas.length,g.datas.length⟩:Sl3)),(Value.pointer (some ⟨k7,0,none⟩))][i]? = some v→Cel H7 ((⟨H5.next,0,none⟩:Addr).add i) v :=
  ⟨_,rfl,Fm.push _ _ _,fun i v hv=>by
   rw [C5];have:(⟨H5.next,0+i,none⟩:Addr)=⟨H5.next,i,none⟩:=by rw [Nat.zero_add]
   rw [this];exact Cel.push (c:=[(Sl3.v s1),(Sl3.v s2),(Sl3.v s3),(Sl3.v (⟨some ⟨H3.next,0,none⟩,g.datas.length,g.datas.length⟩:Sl3)),(Value.pointer (some ⟨k7,0,none⟩))].toArray) rfl (by simpa using hv)⟩
 have x7:=b3.trans c2;have hX:FixE H3 H5.next H3.next s1 s2 s3 g ⟨k7,0,none⟩ ida idl bA bL m:=⟨a3',Nat.le_refl _,by omega⟩;have hE:EnR m H7 ⟨H5.next,0,none⟩ ⟨k7,0,none⟩ H3.next s1 s2 s3 g (List.replicate g.datas.length false):=⟨a3.sg.ext x7,rfl,c3 0 _ rfl,c3 1 _ rfl,c3 2 _ rfl,c3 3 _ rfl,c3 4 _ rfl,b2.ext c2,by simp⟩;have hz:∀i,(List.replicate g.datas.length false).getD i false=false:=fun i=>by
  simp only [List.getD,List.getElem?_replicate]; split <;> rfl
 have hR:RdF g (List.replicate g.datas.length false) 0 0:=⟨fun i _ h=>(by rw [hz] at h; cases h),fun i _ hq=>(by cases hq),fun j hj=>absurd hj (Nat.not_lt_zero _)⟩;obtain ⟨H21,bF,v,d1,d2,d3,d4⟩:=fin_b0 hF hfu hX a4 hG (g.datas.length+1) 0 H7 _ (by omega) x7 hE hR;have d1':(LCo L0).run (Z4 (LCo L0) m s1 s2 s3 H5.next) (H7,0)=_:=d1;have eTc:tcD g (g.datas.length+1)=Tc g:=z8i g _ (by omega);have hEx:=d4.ex;rw [eTc] at hEx;have x21:=a2.trans d2;obtain ⟨b,e1,e2,e3⟩:=zhw hF hfu (a3'.ext d2) a4 d3 hG d4.snd (a.dep+1) fuel k w n s a (h.ext x21) hs hk (by omega) hd (Nat.lt_succ_self _);refine ⟨some ⟨H5.next,0,none⟩,H21,?_,x21,?_⟩
 ·unfold zx;rw [hN,hmx];have a1':G8 (LCo L0) H.next H s1 s2 s3 1=some (some ⟨k7,0,none⟩,H3):=a1;simp only [Option.bind_some,a1',b1,c1,d1']
 ·have e1':b8 (LCo L0) H21 (some ⟨H5.next,0,none⟩) k w n s=some b:=by subst hF; exact e1
  rw [e1']
  congr 1
  rw [Bool.eq_iff_iff];exact ⟨e2,e3 (Tc g) ⟨fun i=>Tc_pos hG i,fun i=>.refl _⟩ hEx⟩
theorem ziv (hF:L0=fuel+1) (hfu:15≤fuel) (hd:g.dep≤fuel) (hb:SgB g) (hS:SigA H s1 s2 s3 g) (hm:m≤H.next) {k w:Int} {n:ByteArray} {s:Sl3} {a:Fo} (h:SlF H s a) (hn:n.size≤maxS) (hda:a.dep≤fuel) :
  ∃H',z1q (LCo L0) m H k w n s s1 s2 s3=some (finS g k w n a,H')∧Ext H H':=by
 unfold z1q finS;obtain ⟨H4,a1,a2⟩:=zco (m:=m) hF hfu hd hb hS hm;rw [a1];simp only [Option.bind_some];by_cases h2:sigS g=0
 ·rw [if_pos h2];have c1:=z5a L0 fuel hF (hS.ext a2) (h.ext a2) hn hda (k:=k) (w:=w);rw [c1];simp only [Option.bind_some];by_cases h3:checkS g k w n a=0
  ·rw [h3];simp only [decide_true,Bool.not_true,Bool.false_eq_true,if_false];obtain ⟨hG,hNe,_⟩:=sig_ok h2;obtain ⟨s1',s2',s3',s4'⟩:=zae h3;have hmx:Nat.max m H4.next=H4.next:=Nat.max_eq_right (Nat.le_trans hm a2.1);rw [hmx];obtain ⟨x,H7,d1,d2,d3⟩:=zjf (m:=H4.next) hF hfu hG (hS.ext a2) (Nat.le_refl _) (h.ext a2) s1' s4' s2' (w:=w);rw [d1];simp only [Option.bind_some,d3];exact ⟨H7,by simp [h2],a2.trans d2⟩
  ·rw [decide_eq_false h3];simp only [Bool.not_false,if_true];exact ⟨H4,by simp [h3],a2⟩
 ·rw [if_neg h2];exact ⟨H4,by simp [h2],a2⟩
theorem zl1 (hF:L0=fuel+1) (hfu:15≤fuel) (hd:g.dep≤fuel) (hT:HasT H) (hS:SigA H s1 s2 s3 g) (hb:SgB g) {k w:Int} {n:ByteArray} {s:Sl3} {a:Fo} (h:SlF H s a) (hn:n.size≤maxS) (hda:a.dep≤fuel) (hfn:40*(g.datas.length+1)+31≤L0) {mo:Int} (hmo:mo<9223372036854775808) :
  ∃H',zu (LCo L0) H.next H k w n s s1 s2 s3 mo=some (true,H'):=by
 obtain ⟨H3,a1,a2⟩:=zmb (m:=H.next) hF hfu hd hb hS (Nat.le_refl _) h hn hda hfn (k:=k) (w:=w) hmo;obtain ⟨H6,b1,b2⟩:=zkj (m:=H.next) hF hfu hd hb (hS.ext a2) a2.1 (h.ext a2) hn hda (k:=k) (w:=w) hmo;have x6:=a2.trans b2;unfold zu;rw [a1];simp only [Option.bind_some];rw [b1];simp only [Option.bind_some];have hmx:Nat.max H.next H6.next=H6.next:=Nat.max_eq_right x6.1;rw [hmx];obtain ⟨H8,c1,c2⟩:=zl9 (m:=H6.next) hF hfu hd hb (hS.ext x6) (Nat.le_refl _) (h.ext x6) hn hda hfn (k:=k) (w:=w);have x8:=x6.trans c2;rw [c1];simp only [Option.bind_some];obtain ⟨H10,d1,d2⟩:=ziv (m:=H.next) hF hfu hd hb (hS.ext x8) x8.1 (h.ext x8) hn hda (k:=k) (w:=w);have x10:=x8.trans d2;rw [d1];simp only [Option.bind_some,beq_self_eq_true,if_true];rw [znz _ (hT.ext x10)];exact ⟨H10,rfl⟩
end
end Go.Proofs.YtccbilfbhecdaaaGreatDoor
namespace Go.Proofs.YtccbilfbhecdaaaGreatDoor
open Go Go.Abs Go.ChangeShapes Go.WideShapes
set_option maxRecDepth 100000
theorem zj2 {H:Type} {enc:TypeId×Value→H} {W:World} {base:Nat} {args:Array Value} {ds:List (DataW H)} {ps:List MemPlace} (hg:Tryz.prog.globals.size≤W.heap.size)
  (hval:∀(j:Nat) t v,Tryz.f3.params[j]? = some t→args[j]? = some v→Value.okWide Tryz.prog W .any base t v)
  (hA:DataW.TrodAll enc Tryz.prog W 0 (fun _=>true) true Tryz.f3.params.toList args.toList ds ps) (hk:Rows.uptoSmall H ds=true) (hL:laidMet Tryz.prog Rows.sortCountsUptoRow.laid W) (hsh:W.ShapedOpen Tryz.prog)
  (hwt:(DataW.weightsEach Tryz.prog (Tryz.f3.params.toList++[]) ds).all (·≤reachBytes)=true) :
  Calls Tryz.prog 3 args W fun e W'=>e=.returned (.bool true)∧RowKit.Below W.heap.size W W':=by
 rw [Tryz.params3] at hA hval hwt;obtain ⟨v0,vs0,d0,ds0,p0,q0,hargs,rfl,rfl,h0,r0⟩:=trodAll_cons hA;obtain ⟨v1,vs1,d1,ds1,p1,q1,rfl,rfl,rfl,h1,r1⟩:=trodAll_cons r0;obtain ⟨v2,vs2,d2,ds2,p2,q2,rfl,rfl,rfl,h2,r2⟩:=trodAll_cons r1;obtain ⟨rfl,rfl,rfl⟩:=trodAll_nil r2;obtain rfl:args=#[v0,v1,v2]:=by cases args; simp_all
 have hb:=bulks.bound hk;simp only [Rows.uptoBulkAll] at hb;simp only [List.append_nil,DataW.weightsEach,List.all_append,Bool.and_eq_true] at hwt;obtain ⟨φ0,H0x,k0,w0,n0,s0,a0,i0,le0,e0,vr0,sl0,hn0⟩:=zlc (zp2 hg hL hsh) h0 (hval 0 25 v0 rfl rfl) hwt.1;obtain ⟨φ1,H1x,s1u,s1d,s1f,g1,i1,le1,e1,vr1,sg1,hb1,hl1⟩:=zms i0 h1 (hval 1 30 v1 rfl rfl) hwt.2.1 (by omega);obtain ⟨z2,rfl,_,_,hz2⟩:=open_int Tryz.underlying3 (hval 2 3 v2 rfl rfl) h2;obtain ⟨H',hr⟩:=zl1 (L0:=max 15 g1.dep+a0.dep+40*g1.datas.length+101) (fuel:=max 15 g1.dep+a0.dep+40*g1.datas.length+100) rfl (by omega) (by omega) (zmz.ext (e0.trans e1)) sg1 hb1 (k:=k0) (w:=w0) (sl0.ext e1) hn0 (by omega) (by omega) (mo:=z2) (wf_i64 hz2).2;exact zi7 (ne:=NE.plain 1000) sane (zbt hr) i1 (ar3 (vr0.mono le1) vr1 (.int .i64 z2))
theorem zjz (os:Os) {H:Type} (enc:TypeId×Value→H):∃x,DataW.whole enc Tryz.prog ((laidW2 Tryz.prog Rows.sortCountsUptoRow.laid os).forCall (fun _ _=>0) ⟨#[],#[.agg #[.int .i64 0,.int .i64 0,.string ⟨#[]⟩,.slice none 0 0],.agg #[.slice none 0 0,.slice none 0 0,.slice none 0 0],.int .i64 0],[]⟩).memory Tryz.f3.params.toList Rows.sortCountsSpec.vars false (#[.agg #[.int .i64 0,.int .i64 0,.string ⟨#[]⟩,.slice none 0 0],.agg #[.slice none 0 0,.slice none 0 0,.slice none 0 0],.int .i64 0]:Array Value).toList 8=some ([.agg [.lit (.int .i64 0),.lit (.int .i64 0),.lit (.string []),.nil],.agg [.nil,.nil,.nil],.lit (.int .i64 0)],[],x) :=
 ⟨[],by kernel_rfl⟩
theorem zia (os:Os) (started:os.Started) (H:Type) (enc:TypeId×Value→H) (F:Stop.Interp) :
  ReturnsInHanded {} Tryz.checked os 3 .any ((Rows.OpenSpec.upto Rows.sortCountsSpec).preRow enc Tryz.prog Tryz.f3 Rows.sortCountsUptoRow.domain false Rows.sortCountsUptoRow.laid) (((Rows.OpenSpec.upto Rows.sortCountsSpec).at F).post enc Tryz.prog Tryz.f3 false true false false):=by
 obtain ⟨x,hx⟩:=zjz os enc;exact zg4 (C:=Tryz.checked) (s:=Rows.OpenSpec.upto Rows.sortCountsSpec) (k:=Rows.uptoSmall) rfl own started (by kernel_rfl) Tryz.func3 zmt laidOut (by kernel_rfl) rfl (by kernel_rfl)
  (fun ds hds=>by
   have h1:ds.length=3:=hds
   match ds,h1 with
   | [d0,d1,d2],_=>exact ⟨rfl,rfl,rfl⟩)
  rfl (by kernel_rfl)
  (witness_row_atRef (enc:=enc) (C:=Tryz.checked) false (laidW2 Tryz.prog Rows.sortCountsUptoRow.laid os) #[.agg #[.int .i64 0,.int .i64 0,.string ⟨#[]⟩,.slice none 0 0],.agg #[.slice none 0 0,.slice none 0 0,.slice none 0 0],.int .i64 0] rfl (by kernel_rfl) (by kernel_rfl) (by kernel_rfl)
   (OpenSpec.preRow_of_cond 8 hx (by kernel_rfl) (fun k hk=>by cases hk; kernel_rfl) (by kernel_rfl) (zp8 os _)))
  (fun W base args ds ps hg hval hA hk hL hsh hwt=>zj2 hg hval hA hk hL hsh hwt)
theorem zl3:Rows.SortCountsUptoSaid :=
 OpenClaim.holds_of_cond 3 Tryz.f3 rfl rfl rfl rfl rfl rfl rfl ⟨rfl,rfl,rfl,rfl,rfl⟩ rfl rfl rfl rfl rfl (by kernel_rfl) Tryz.func3 (by kernel_rfl)
  (of_decide_eq_true (by kernel_rfl)) (by unfold Func.isWrapper; first | (rw [if_pos (by decide +kernel)]; kernel_rfl) | (rw [if_neg (by decide +kernel)]; exact ⟨rfl,rfl⟩))
  (fun os started H enc _ F=>by rw [OpenClaim.pre_eq_preRow]; exact zia os started H enc F)
theorem zjq (f:FuncId) (fn:Func) (hf:Tryz.pinned.checked.prog.funcNamed "tribunal/tribunallaw04.SortCounts"=some f) (hfn:Tryz.pinned.checked.prog.funcs[f]? = some fn) :
  false=Tryz.pinned.checked.prog.looks []∧∀(j:Nat) t,fn.params[j]? = some t→Tryz.pinned.checked.prog.wantsStandIn t=false:=by
 obtain rfl:f=3:=Option.some.inj ((show Tryz.prog.funcNamed "tribunal/tribunallaw04.SortCounts"=some 3 by kernel_rfl).symm.trans hf) |>.symm;obtain rfl:fn=Tryz.f3:=(Option.some.inj (Tryz.func3.symm.trans hfn)).symm;exact ⟨by kernel_rfl,fun j t ht=>by
  have hall:(Tryz.f3.params.toList.all fun u=>!Tryz.prog.wantsStandIn u)=true:=by kernel_rfl
  have hm:t∈Tryz.f3.params.toList:=by simpa using Array.mem_of_getElem? ht
  exact (show Tryz.prog.wantsStandIn t=false by simpa using List.all_eq_true.1 hall t hm)⟩
theorem sortCounts_holds:Rows.SortCountsUptoCardSaid :=
 Claim7.holds_tied_plain_at .later [] _ _ _ _ zl3 (fun _ h=>by cases h) (by kernel_rfl) (fun _ h=>by cases h) sortCountsUpto_row_tie rfl ⟨rfl,rfl⟩ (by kernel_rfl) rfl zjq (by kernel_rfl)
#print axioms sortCounts_holds
end Go.Proofs.YtccbilfbhecdaaaGreatDoor
