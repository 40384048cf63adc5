/- SortSums is proved where what it reads is of bulk at most 1048576: it returns true and its arguments read as before. No condition beyond the row's own (five listed tables of Go's library as the text lays them). -/
import Derived.Test.YtccbilfbhecdaaaDoorSm4
namespace Go.Proofs.YtccbilfbhecdaaaDoor
open Go Go.Abs
set_option maxRecDepth 100000
theorem z6r {α R S:Type} (l:List α) (p:α→Option R) (f:R→S):(l.findSome? fun x=>(p x).map f)=(l.findSome? p).map f:=by
 induction l with
 | nil=>rfl
 | cons x l ih =>
  rw [List.findSome?_cons,List.findSome?_cons,ih]
  cases p x <;> rfl
section
variable {m:Nat} {H0 H:AH} {s1 s2 s3:Sl3} {g:Sg} {p:Addr} {L0 fuel:Nat}
theorem zot (hF:L0=fuel+1) (hB:Book H p s1 s2 s3 g) {x2 x5 sl:Sl3} {v v':Int} {n5 n8:ByteArray} {ss:List Sel} (h:SlL SelA 5 H sl ss) (hd:∀x∈ss,x.a.dep≤fuel) :
  loopO (z1c (LCo L0) H p x2 v n5 x5 v' n8 sl) 0=some (found ss.length (((ss.map selE).findSome? (errS g)).map fun e=>(e,H))):=by
 have hn:=h.n
 have hl:=z4b (body:=z1c (LCo L0) H p x2 v n5 x5 v' n8 sl) ss.length h.len (fun i=>(errS g (selE (ss.getD i ⟨emptyT,0,0,emptyT,.nil⟩))).map fun e=>(e,H)) (fun i hi=>by
   obtain ⟨q,h1,h2⟩:=h.get hi (v:=(i:Int)) rfl
   obtain ⟨z,e1,e2,e3,e4,e5,e6⟩:=h2.ex
   have r0:rd deS H (q.add 0)=some ss[i].n:=by rw [h2.n.rd]; rfl
   have r1:rd (deI .i64) H (q.add 1)=some ss[i].k:=by rw [e1.rd]; rfl
   have r2:rd (deI .i64) H (q.add 2)=some ss[i].w:=by rw [e2.rd]; rfl
   have r3:rd deS H (q.add 3)=some ss[i].sn:=by rw [e3.rd]; rfl
   have r4:rd deSl H (q.add 4)=some z:=by rw [e4.rd]; rfl
   have eg:ss.getD i ⟨emptyT,0,0,emptyT,.nil⟩=ss[i]:=by simp [List.getD,hi]
   rw [eg]
   unfold z1c
   simp only [if_pos (show (i:Int)<(sl.n:Int) by omega),h1,Option.bind_some,r0,r1,r2,r3,r4,zb2 L0 fuel hF hB e6 e5 (hd _ (List.getElem_mem hi))]
   simp only [errS,selE]
   by_cases hz:checkS g ss[i].k ss[i].w ss[i].sn ss[i].a=0
   ·simp [hz,stepO]
   ·simp [hz,stepO]) (by
   unfold z1c
   rw [if_neg (by omega)])
 rw [hl,z8l ss (fun x=>(errS g (selE x)).map fun e=>(e,H)) ⟨emptyT,0,0,emptyT,.nil⟩,z6r,List.findSome?_map]
 rfl
theorem zog (hF:L0=fuel+1) (hB:Book H p s1 s2 s3 g) {x2 sl:Sl3} {v:Int} {n5:ByteArray} {cs:List Con} (h:SlL ConA 2 H sl cs) (hd:∀c∈cs,∀x∈c.sels,x.a.dep≤fuel) :
  loopO (z1i (LCo L0) H p x2 v n5 sl) 0=some (found cs.length (((cs.flatMap conE).findSome? (errS g)).map fun e=>(e,H))):=by
 have hn:=h.n
 have hl:=z4b (body:=z1i (LCo L0) H p x2 v n5 sl) cs.length h.len (fun i=>((conE (cs.getD i ⟨emptyT,[]⟩)).findSome? (errS g)).map fun e=>(e,H)) (fun i hi=>by
   obtain ⟨q,h1,h2⟩:=h.get hi (v:=(i:Int)) rfl
   obtain ⟨z,e1,e2⟩:=h2.ex
   have r0:rd deS H (q.add 0)=some cs[i].n:=by rw [h2.n.rd]; rfl
   have r1:rd deSl H (q.add 1)=some z:=by rw [e1.rd]; rfl
   have eg:cs.getD i ⟨emptyT,[]⟩=cs[i]:=by simp [List.getD,hi]
   rw [eg]
   unfold z1i
   simp only [if_pos (show (i:Int)<(sl.n:Int) by omega),h1,Option.bind_some,r0,r1]
   show Option.bind (loopO (z1c (LCo L0) H p x2 v n5 sl (i:Int) cs[i].n z) 0) _=_
   rw [zot hF hB e2 (hd _ (List.getElem_mem hi))]
   show _=some (stepO i (((cs[i].sels.map selE).findSome? (errS g)).map fun e=>(e,H)))
   cases (cs[i].sels.map selE).findSome? (errS g) <;> rfl) (by
   unfold z1i
   rw [if_neg (by omega)])
 rw [hl,z8l cs (fun c=>((conE c).findSome? (errS g)).map fun e=>(e,H)) ⟨emptyT,[]⟩,z6r,z7r]
theorem zos (hF:L0=fuel+1) (hB:Book H p s1 s2 s3 g) {sl:Sl3} {ds:List Dat} (h:SlL DatA 2 H sl ds) (hd:∀d∈ds,∀c∈d.cons,∀x∈c.sels,x.a.dep≤fuel) :
  loopO (z1b (LCo L0) H p sl) 0=some (found ds.length (((ds.flatMap datE).findSome? (errS g)).map fun e=>(e,H))):=by
 have hn:=h.n
 have hl:=z4b (body:=z1b (LCo L0) H p sl) ds.length h.len (fun i=>((datE (ds.getD i ⟨emptyT,[]⟩)).findSome? (errS g)).map fun e=>(e,H)) (fun i hi=>by
   obtain ⟨q,h1,h2⟩:=h.get hi (v:=(i:Int)) rfl
   obtain ⟨z,e1,e2⟩:=h2.ex
   have r0:rd deS H (q.add 0)=some ds[i].n:=by rw [h2.n.rd]; rfl
   have r1:rd deSl H (q.add 1)=some z:=by rw [e1.rd]; rfl
   have eg:ds.getD i ⟨emptyT,[]⟩=ds[i]:=by simp [List.getD,hi]
   rw [eg]
   unfold z1b
   simp only [if_pos (show (i:Int)<(sl.n:Int) by omega),h1,Option.bind_some,r0,r1]
   show Option.bind (loopO (z1i (LCo L0) H p sl (i:Int) ds[i].n z) 0) _=_
   rw [zog hF hB e2 (hd _ (List.getElem_mem hi))]
   show _=some (stepO i (((ds[i].cons.flatMap conE).findSome? (errS g)).map fun e=>(e,H)))
   cases (ds[i].cons.flatMap conE).findSome? (errS g) <;> rfl) (by
   unfold z1b
   rw [if_neg (by omega)])
 rw [hl,z8l ds (fun d=>((datE d).findSome? (errS g)).map fun e=>(e,H)) ⟨emptyT,[]⟩,z6r,z7r]
theorem clone73 (c m:Nat) {H:AH} {s:Sl3} {l:List SrtA} (h:∀H',Ext H H'→RdV 4 H' s l.length (l.flatMap srtE.enc)) (hN:l.length≤1000000) (hm:m≤H.next) :
  ∃s' H',z43 (LCo c) m H s=some (s',H')∧VecA srtE 28 m H' l s'∧Ext H H'∧∀id,owns s' id→H.next≤id:=by
 unfold z43
 cases hnil:isNilS s with
 | true =>
  have hp:s.p=none:=by
   unfold isNilS at hnil
   cases hq:s.p with
   | none=>rfl
   | some a=>rw [hq] at hnil; cases hnil
  have:l=[]:=by
   have:=(h H (Fm.refl _ _)).nil hp
   exact List.length_eq_zero_iff.1 this.1
  subst this
  exact ⟨Sl3.nil,H,rfl,VecA.nil _ _ _ _,Fm.refl _ _,fun id h=>absurd h z56⟩
 | false =>
  have hp:Ext H (H.push { obj:=.cells #[] 28 (0,0),opn:=false,esz:=0,ro:=false }):=Fm.push _ _ _
  obtain ⟨s',H',a1,a2,a3⟩:=VecA.app (E:=srtE) (e:=28) (bytes:=56) (l:=[]) (l':=l) (m:=m) (VecA.zero _ _ _ _ ⟨H.next,0,none⟩ ⟨by simp,rfl⟩) (h _ hp) (by simp only [List.length_nil,Nat.zero_add]; exact (room4 hN).1) (by simp only [List.length_nil,Nat.zero_add]; exact (room4 hN).2) (by simp; omega)
  have hx:=a3.ext hp fun id h=>absurd h zfq
  refine ⟨s',H',?_,a2,hx.1,hx.2⟩
  simp only [Bool.false_eq_true,if_false,newR,Option.bind_some]
  have a1':appS m 28 4 56 (H.push { obj:=.cells #[] 28 (0,0),opn:=false,esz:=0,ro:=false }) ⟨some ⟨H.next,0,none⟩,0,0⟩ s=some (s',H'):=a1
  rw [a1']
  rfl
theorem zow (hF:L0=fuel+1) (hB:Book H p s1 s2 s3 g) {x16 y z sl:Sl3} {v:Int} {n n':ByteArray} {k w:Int} {l:List SrtA} (hv:VecA srtE 28 m H l sl) (hN:l.length≤1000000) (hok:∀x∈l,SrtOk H x) (hd:∀x∈l,x.a.dep≤fuel) :
  loopO (z1g (LCo L0) p x16 v n y k w n' z sl H) 0=some (found l.length (((l.map SrtA.er).findSome? (errS g)).map fun e=>(e,H))):=by
 have hsl:SlL (fun H q (x:SrtA)=>SoC H q x.k x.w x.n x.s∧x∈l) 4 H sl l:=by
  have h1:=VecA.sl (R:=fun H q (x:SrtA)=>Cel H (q.add 0) (.int .i64 x.k)∧Cel H (q.add 1) (.int .i64 x.w)∧Cel H (q.add 2) (.string x.n)∧Cel H (q.add 3) (Sl3.v x.s)) hv (by rw [z35]; omega) fun x q hc=>⟨hc 0 _ rfl,hc 1 _ rfl,hc 2 _ rfl,hc 3 _ rfl⟩
  refine ⟨h1.n,h1.cap,h1.top,h1.low,LAt.of fun j hj=>?_⟩
  obtain ⟨a,k1,k2⟩:=h1.at_.get j hj
  have hm:=List.getElem_mem hj
  exact ⟨a,k1,⟨k2.1,k2.2.1,k2.2.2.1,k2.2.2.2,(hok _ hm).2⟩,hm⟩
 have hn:=hsl.n
 have hl:=z4b (body:=z1g (LCo L0) p x16 v n y k w n' z sl H) l.length hsl.len (fun i=>(errS g (l.getD i ⟨0,0,emptyT,Sl3.nil,.nil⟩).er).map fun e=>(e,H)) (fun i hi=>by
   obtain ⟨q,h1,h2,hm⟩:=hsl.get hi (v:=(i:Int)) rfl
   have r0:rd (deI .i64) H (q.add 0)=some l[i].k:=by rw [h2.ck.rd]; rfl
   have r1:rd (deI .i64) H (q.add 1)=some l[i].w:=by rw [h2.cw.rd]; rfl
   have r2:rd deS H (q.add 2)=some l[i].n:=by rw [h2.cn.rd]; rfl
   have r3:rd deSl H (q.add 3)=some l[i].s:=by rw [h2.cs.rd]; rfl
   have eg:l.getD i ⟨0,0,emptyT,Sl3.nil,.nil⟩=l[i]:=by simp [List.getD,hi]
   rw [eg]
   unfold z1g
   simp only [if_pos (show (i:Int)<(sl.n:Int) by omega),h1,Option.bind_some,r0,r1,r2,r3,zb2 L0 fuel hF hB (hok _ hm).1 (hok _ hm).2 (hd _ hm)]
   simp only [errS,SrtA.er]
   by_cases hz:checkS g l[i].k l[i].w l[i].n l[i].a=0
   ·simp [hz,stepO]
   ·simp [hz,stepO]) (by
   unfold z1g
   rw [if_neg (by omega)])
 rw [hl,z8l l (fun x=>(errS g x.er).map fun e=>(e,H)) ⟨0,0,emptyT,Sl3.nil,.nil⟩,z6r,List.findSome?_map]
 rfl
theorem zor (hF:L0=fuel+1) (hB:Book H0 p s1 s2 s3 g) {sl:Sl3} {fs:List Fnc} (h:SlL FncA 6 H0 sl fs) (hm:m≤H0.next) (hsz:∀f∈fs,f.args.len≤64) (hd:∀f∈fs,f.args.dep≤fuel∧f.a.dep≤fuel):∀(d i:Nat) (H:AH),i+d=fs.length→Ext H0 H →
  ∃H',loopO (z1e (LCo L0) m p sl) (H,(i:Int))=some (match ((fs.drop i).flatMap fncE).findSome? (errS g) with | some e=>.inr (e,H') | none=>.inl (H',(fs.length:Int)))∧Ext H0 H':=by
 have hn:=h.n
 intro d
 induction d with
 | zero =>
  intro i H hi hx
  have:i=fs.length:=by omega
  subst this
  refine ⟨H,?_,hx⟩
  rw [List.drop_length]
  refine z15 ?_
  unfold z1e
  simp only [if_neg (show ¬((fs.length:Int)<(sl.n:Int)) by omega)]
 | succ d ih =>
  intro i H hi hx
  have hlt:i<fs.length:=by omega
  obtain ⟨q,g1,g2⟩:=h.get hlt (v:=(i:Int)) rfl
  obtain ⟨y,f1,f2⟩:=g2.ar
  obtain ⟨z,e1,e2,e3,e4,e5,e6⟩:=g2.ex
  have r0:rd deS H (q.add 0)=some fs[i].n:=by rw [(g2.n.ext hx).rd]; rfl
  have r1:rd deSl H (q.add 1)=some y:=by rw [(f1.ext hx).rd]; rfl
  have r2:rd (deI .i64) H (q.add 2)=some fs[i].k:=by rw [(e1.ext hx).rd]; rfl
  have r3:rd (deI .i64) H (q.add 3)=some fs[i].w:=by rw [(e2.ext hx).rd]; rfl
  have r4:rd deS H (q.add 4)=some fs[i].sn:=by rw [(e3.ext hx).rd]; rfl
  have r5:rd deSl H (q.add 5)=some z:=by rw [(e4.ext hx).rd]; rfl
  obtain ⟨la,a1,a2,a3,a4⟩:=zny f2
  have hla:la.length≤64:=by rw [a2]; exact hsz _ (List.getElem_mem hlt)
  have hmH:m≤H.next:=Nat.le_trans hm hx.1
  obtain ⟨x21,H22,b1,b2,b3,b4⟩:=clone73 L0 (Nat.max m H.next) (fun H' hx'=>a4 H' (hx.trans hx')) (by omega) (Nat.max_le.2 ⟨hmH,Nat.le_refl _⟩)
  have b2':VecA srtE 28 m H22 la x21:=by
   unfold VecA at b2 ⊢
   cases b2 with
   | nil hn hv=>exact .nil hn hv
   | zero a ha hn hv=>exact .zero a ha hn hv
   | opn id off cs hm' hid hg hl ho hx=>exact .opn id off cs (Nat.le_trans (Nat.le_max_left _ _) hm') hid hg hl ho hx
  have hx22:=hx.trans b3
  have hm22:m≤H22.next:=Nat.le_trans hm hx22.1
  obtain ⟨z1,G2,t2,G3,p1,p2,p3,p4⟩:=znt b2' ⟨fs[i].k,fs[i].w,fs[i].sn,z,fs[i].a⟩ (by omega) hm22
  have hx3:=p4.ext hx22 fun id hid=>Nat.le_trans hx.1 (b4 id hid)
  have hok:∀w∈la++[⟨fs[i].k,fs[i].w,fs[i].sn,z,fs[i].a⟩],SrtOk G3 w:=fun w hw=>by
   rcases List.mem_append.1 hw with hw | hw
   ·exact (a3 w hw).ext hx3.1
   ·obtain rfl:=List.mem_singleton.1 hw
    exact SrtOk.ext (H:=H0) ⟨e6,e5⟩ hx3.1
  have hdd:∀w∈la++[⟨fs[i].k,fs[i].w,fs[i].sn,z,fs[i].a⟩],w.a.dep≤fuel:=fun w hw=>by
   have hdi:=hd _ (List.getElem_mem hlt)
   rcases List.mem_append.1 hw with hw | hw
   ·have hmm:w.er∈fs[i].args.list:=by rw [← a1]; exact List.mem_map.2 ⟨w,hw,rfl⟩
    have:=zgp hmm
    exact Nat.le_trans this hdi.1
   ·obtain rfl:=List.mem_singleton.1 hw
    exact hdi.2
  have hb4:=zow (m:=m) hF (hB.ext hx3.1) (x16:=sl) (y:=y) (z:=z) (v:=(i:Int)) (n:=fs[i].n) (n':=fs[i].sn) (k:=fs[i].k) (w:=fs[i].w) p3 (by rw [List.length_append]; simp; omega) hok hdd
  have her:(la++[(⟨fs[i].k,fs[i].w,fs[i].sn,z,fs[i].a⟩:SrtA)]).map SrtA.er=fncE fs[i]:=by rw [List.map_append,a1]; rfl
  rw [her] at hb4
  obtain ⟨H',i1,i2⟩:=ih (i+1) G3 (by omega) hx3.1
  have hbody:z1e (LCo L0) m p sl (H,(i:Int))=some (match (fncE fs[i]).findSome? (errS g) with | some e=>.ret (e,G3) | none=>.next (G3,((i+1:Nat):Int))):=by
   unfold z1e
   simp only [if_pos (show (i:Int)<(sl.n:Int) by omega),g1,Option.bind_some,r0,r1,r2,r3,r4,r5,b1]
   have p1':newS 28 [(Value.int .i64 fs[i].k),(Value.int .i64 fs[i].w),(Value.string fs[i].sn),(Sl3.v z)] H22=some (H22.next,G2):=by
    unfold newR at p1
    simp only [Option.some.injEq,Prod.mk.injEq] at p1
    unfold newS pubB
    rw [← p1.2]
   have hz1:z1=⟨some ⟨H22.next,0,none⟩,1,1⟩:=by
    unfold newR at p1
    simp only [Option.some.injEq,Prod.mk.injEq] at p1
    exact p1.1.symm
   rw [p1']
   simp only [Option.bind_some]
   rw [hz1] at p2
   rw [p2]
   simp only [Option.bind_some]
   show Option.bind (loopO (z1g (LCo L0) p sl (i:Int) fs[i].n y fs[i].k fs[i].w fs[i].sn z t2 G3) 0) _=_
   rw [hb4]
   cases (fncE fs[i]).findSome? (errS g) with
   | some e=>rfl
   | none =>
    simp only [Option.map_none,found,Option.bind_some]
    rw [zi hlt h.len]
  rw [List.drop_eq_getElem_cons hlt,List.flatMap_cons,List.findSome?_append]
  cases hq:(fncE fs[i]).findSome? (errS g) with
  | some e =>
   rw [hq] at hbody
   exact ⟨G3,z2f hbody,hx3.1⟩
  | none =>
   rw [hq] at hbody
   exact ⟨H',by rw [zq hbody]; exact i1,i2⟩
theorem zgd (hF:L0=fuel+1) (hm:m≤H.next) (hB:Book H p s1 s2 s3 g) (hS:SigA H s1 s2 s3 g) (hs:manyS g=false) (hd:g.dep≤fuel) :
  ∃H',z3c (LCo L0) m H (some p)=some (allS g,H')∧Ext H H':=by
 have hfb:∀f∈g.funs,f.args.len≤64:=by
  unfold manyS at hs
  simp only [Bool.or_eq_false_iff] at hs
  have h2:=hs.2.1
  rw [List.any_eq_false] at h2
  intro f hf
  have:=h2 f hf
  simp only [badF,decide_eq_true_eq] at this
  omega
 have hadd:∀j,(p.add 0).add j=p.add (0+j):=fun j=>add2 hB.c1 0 j
 have r1:rd deSl H ((p.add 0).add 1)=some s2:=by rw [hadd,hB.c2.rd]; rfl
 have r2:rd deSl H ((p.add 0).add 2)=some s3:=by rw [hadd,hB.c3.rd]; rfl
 have h0:=zos hF hB hS.d fun d hd' c hc x hx=>Nat.le_trans (zjh hd' hc hx) hd
 obtain ⟨H',h3,h4⟩:=zor hF hB hS.f hm hfb (fun f hf=>⟨Nat.le_trans (zje hf).1 hd,Nat.le_trans (zje hf).2 hd⟩) g.funs.length 0 H (by omega) (Fm.refl _ _)
 rw [List.drop_zero] at h3
 unfold z3c allS
 rw [zfj,List.findSome?_append]
 simp only [Option.bind_some,r1]
 show ∃H',Option.bind (loopO (z1b (LCo L0) H p s2) 0) _=_∧_
 rw [h0]
 cases (g.datas.flatMap datE).findSome? (errS g) with
 | some e=>exact ⟨H,rfl,Fm.refl _ _⟩
 | none =>
  refine ⟨H',?_,h4⟩
  simp only [Option.map_none,found,Option.bind_some,r2]
  show Option.bind (loopO (z1e (LCo L0) m p s3) (H,((0:Nat):Int))) _=_
  rw [h3]
  cases (g.funs.flatMap fncE).findSome? (errS g) <;> rfl
end
end Go.Proofs.YtccbilfbhecdaaaDoor
namespace Go.Proofs.YtccbilfbhecdaaaDoor
open Go Go.Abs
set_option maxRecDepth 100000
def natE:Enc Nat:=⟨fun x=>[.int .i64 (x:Int)],1,fun _=>rfl,fun _=>rfl⟩
def IntA (H:AH) (q:Addr) (x:Nat):Prop:=Cel H q (.int .i64 (x:Int))
theorem room8 {n:Nat} (h:n≤10000000000):(2*n+1000)*8≤281474976710656∧n≤281474976710656:=by omega
def ixS (ds:List Dat) (n:ByteArray):Nat:=(dataIx ds n).getD 0
def dtF (ds:List Dat):Fo→List Nat
 | .nil=>[]
 | .cons k _ n a r=>(if k=6 then [ixS ds n] else dtF ds a)++dtF ds r
def dtS (ds:List Dat) (k:Int) (n:ByteArray) (a:Fo):List Nat:=if k=6 then [ixS ds n] else dtF ds a
def dtI (ds:List Dat) (inside:Bool) (k:Int) (n:ByteArray) (a:Fo):List Nat:=if k=6∧inside=false then [ixS ds n] else dtF ds a
theorem za7 (ds:List Dat):∀a:Fo,(dtF ds a).length≤a.size
 | .nil=>by simp [dtF,Fo.size]
 | .cons k w n a r=>by
  have h1:=za7 ds a
  have h2:=za7 ds r
  simp only [dtF,Fo.size,List.length_append]
  split
  ·simp; omega
  ·omega
def stC (ds:List Dat) (c:Con):List Nat:=c.sels.flatMap fun x=>dtS ds x.k x.sn x.a
def stD (ds:List Dat) (d:Dat):List Nat:=d.cons.flatMap (stC ds)
section
variable {m:Nat} {H0 H:AH} {s1 s2 s3:Sl3} {g:Sg} {p:Addr} {L0 fuel:Nat}
theorem nat_sl {l:List Nat} {s:Sl3} (h:VecA natE 3 m H l s) (hN:l.length≤10000000000):SlL IntA 1 H s l:=VecA.sl h (by rw [z35]; omega) fun x q hc=>hc 0 _ rfl
theorem zf3 {s:Sl3} {l:List Nat} (h:SlL IntA 1 H s l):RdV 1 H s l.length (l.flatMap natE.enc):=by
 refine ⟨h.n,fun hp=>?_,fun a ha=>?_,natE.flat_one l⟩
 ·have:l=[]:=by
   cases l with
   | nil=>rfl
   | cons x l =>
    obtain ⟨a,h1,_⟩:=h.at_.get 0 (by simp)
    rw [hp] at h1; cases h1
  subst this; exact ⟨rfl,rfl⟩
 ·have:=z6l (H:=H) (a:=a) (l.flatMap natE.enc) 0 fun i hi=>by
   rw [natE.flat_len] at hi
   have hi':i<l.length:=by
    have:natE.sz=1:=rfl
    rw [this] at hi; omega
   obtain ⟨a',h1,h2⟩:=h.at_.get i hi'
   rw [ha] at h1; cases h1
   have e1:(l.flatMap natE.enc)[i]? = some (.int .i64 (l[i]:Int)):=by
    have:=natE.flat_get (l:=l) (i:=i) (j:=0) hi' (by decide)
    rw [show i*natE.sz+0=i from by show i*1+0=i; omega] at this
    rw [this]; rfl
   rw [List.getElem?_eq_getElem (by rw [natE.flat_len]; exact hi)] at e1
   rw [Option.some.inj e1,Nat.zero_add]
   rw [Nat.zero_add,Nat.mul_one] at h2
   exact h2.1
  rw [natE.flat_len] at this
  exact this
theorem zp2 (x:Nat) (H:AH):∃s H',newR 3 1 #[(Value.int .i64 (x:Int))] H=some (s,H')∧SlL IntA 1 H' s [x]∧Ext H H':=by
 refine ⟨_,_,rfl,SlL.push (xs:=[x]) rfl (by rw [z35]; simp) fun i hi=>?_,Fm.push _ _ _⟩
 obtain rfl:i=0:=by simpa using hi
 exact Cel.push rfl rfl
theorem zez (hB:Book H p s1 s2 s3 g) (n:ByteArray):∃id,rd deM H (p.add 3)=some (some id)∧lk1 Tryd.prog 94 (deI .i64) H (some id) (Value.agg #[(Value.int .i64 6),(Value.string n)])=some ((ixS g.datas n:Nat):Int):=by
 obtain ⟨id,q1,q2,q3⟩:=hB.ex
 refine ⟨id,by rw [q1.rd]; rfl,?_⟩
 have hl:=zhe keyK und94 zero3 rfl q3 (6,n) (deI .i64)
 refine hl.trans ?_
 simp only [bookF,if_neg (show ¬((6:Int)=5) by omega),ixS]
 cases dataIx g.datas n <;> rfl
theorem zef (c:Nat):∀(d fuel:Nat) (H:AH) (k w:Int) (n:ByteArray) (s:Sl3) (a:Fo) (inside:Bool),Book H p s1 s2 s3 g→m≤H.next→SlF H s a→a.size≤1000→a.dep≤fuel→a.dep<d →
  ∃s' H',z1u (LCo c) (fuel+1) m H (some p) k w n s inside=some (s',H')∧SlL IntA 1 H' s' (dtI g.datas inside k n a)∧Ext H H':=by
 intro d
 induction d with
 | zero=>intro fuel H k w n s a inside _ _ _ _ _ h; omega
 | succ d ih =>
  intro fuel H k w n s a inside hB hm h hsz hf hd
  show ∃s' H',z2p (LCo c) (z1u (LCo c) fuel) m H (some p) k w n s inside=_∧_
  unfold z2p dtI
  by_cases hk:k=6∧inside=false
  ·obtain ⟨rfl,rfl⟩:=hk
   obtain ⟨id,r1,r2⟩:=zez hB n
   obtain ⟨s',H',t1,t2,t3⟩:=zp2 (ixS g.datas n) H
   refine ⟨s',H',?_,t2,t3⟩
   simp only [if_true,Bool.not_false,Option.bind_some,r1,r2,t1]
  ·have hc:(if k=6 then some (!inside) else some false)=some false:=by
    by_cases h6:k=6
    ·rw [if_pos h6]
     cases inside with
     | true=>rfl
     | false=>exact absurd ⟨h6,rfl⟩ hk
    ·rw [if_neg h6]
   rw [hc,if_neg hk]
   simp only [Option.bind_some,Bool.false_eq_true,if_false]
   have loop:∀(f:Fo) (i:Nat) (G:AH) (v:Sl3) (l:List Nat),FoA H s.p i f→s.n=i+f.len→f.dep≤a.dep→f.size≤1000→VecA natE 3 m G l v→Ext H G→(∀id,owns v id→H.next≤id)→l.length+f.size≤10000 →
     ∃G' v',loopO (z1r (LCo c) (z1u (LCo c) fuel) m (some p) k w n s) (G,v,(i:Int))=some (.inl (G',v',(s.n:Int)))∧VecA natE 3 m G' (l++dtF g.datas f) v'∧Ch G v G' v':=by
    intro f
    induction f with
    | nil =>
     intro i G v l hA hn _ _ hv hx ho _
     simp only [Fo.len,Nat.add_zero] at hn
     subst hn
     refine ⟨G,v,z15 ?_,by simpa [dtF] using hv,Ch.refl _ _⟩
     unfold z1r
     simp only [if_neg (show ¬((s.n:Int)<(s.n:Int)) by omega)]
    | cons k1 w1 n1 a1 r iha ihr =>
     intro i G v l hA hn hdep hfs hv hx ho hN
     simp only [Fo.len] at hn
     simp only [Fo.dep] at hdep
     simp only [Fo.size] at hfs hN
     obtain ⟨q,t1,q1,q2,q3,q4,q5,q6,q7,q8⟩:=(hA.ext hx).rd (s:=s) (by omega)
     obtain ⟨g',rfl⟩:∃g',fuel=g'+1:=⟨fuel - 1,by omega⟩
     obtain ⟨s',G1,y1,y2,y3⟩:=ih g' G k1 w1 n1 t1 a1 false (hB.ext hx) (Nat.le_trans hm hx.1) q6 (by omega) (by omega) (by omega)
     have hv1:VecA natE 3 m G1 l v:=VecV.ext hv y3
     have hlen:(dtI g.datas false k1 n1 a1).length≤a1.size+1:=by
      unfold dtI
      split
      ·simp
      ·have:=za7 g.datas a1; omega
     obtain ⟨v2,G2,z1,z2,z3⟩:=VecA.app (E:=natE) (e:=3) (bytes:=8) (l':=dtI g.datas false k1 n1 a1) hv1 (zf3 y2) (room8 (by omega)).1 (room8 (by omega)).2 (Nat.le_trans hm (Nat.le_trans hx.1 y3.1))
     have c1:Ch G v G2 v2:=by
      refine ⟨(y3.weak (W':=owns v) fun _ _ h=>h.elim).comp z3.fm fun id _ hn=>hn,fun id hid=>?_⟩
      rcases z3.ow id hid with h | h
      ·exact .inl h
      ·exact .inr (Nat.le_trans y3.1 h)
     obtain ⟨x2,o2⟩:=c1.ext hx ho
     obtain ⟨G3,v3,w1',w2,w3⟩:=ihr (i+1) G2 v2 (l++dtI g.datas false k1 n1 a1) hA.2 (by omega) (by omega) (by omega) z2 x2 o2 (by rw [List.length_append]; omega)
     refine ⟨G3,v3,?_,?_,c1.trans w3⟩
     ·have hb:z1r (LCo c) (z1u (LCo c) (g'+1)) m (some p) k w n s (G,v,(i:Int))=some (.next (G2,v2,((i+1:Nat):Int))):=by
       unfold z1r
       have z1':appS m 3 1 8 G1 v s'=some (v2,G2):=z1
       simp only [if_pos (show (i:Int)<(s.n:Int) by omega),q1,q2,q3,q4,q5,Option.bind_some,y1,z1']
       rw [zi (n:=s.n) (by omega) h.2.1]
      rw [zq hb]
      exact w1'
     ·have e:dtF g.datas (.cons k1 w1 n1 a1 r)=dtI g.datas false k1 n1 a1++dtF g.datas r:=by
       simp [dtF,dtI]
      rw [e,← List.append_assoc]
      exact w2
   obtain ⟨G',v',t1,t2,t3⟩:=loop a 0 H Sl3.nil [] h.2.2 (by rw [h.1]; omega) (Nat.le_refl _) hsz (VecA.nil _ _ _ _) (Fm.refl _ _) (fun id h=>absurd h z56) (by simp; omega)
   obtain ⟨x2,_⟩:=t3.ext (Fm.refl _ _) fun id h=>absurd h z56
   refine ⟨v',G',?_,nat_sl (by simpa using t2) (by have:=za7 g.datas a; omega),x2⟩
   show Option.bind (loopO (z1r (LCo c) (z1u (LCo c) fuel) m (some p) k w n s) (H,Sl3.nil,((0:Nat):Int))) _=_
   rw [t1]
   rfl
end
end Go.Proofs.YtccbilfbhecdaaaDoor
namespace Go.Proofs.YtccbilfbhecdaaaDoor
open Go Go.Abs
set_option maxRecDepth 100000
structure SelG (g:Sg) (x:Sel):Prop where
 sh:shS x.k x.w x.sn x.a=true
 sz:x.a.size≤255
 dp:x.a.dep≤15
 kn:knS g.users g.datas x.k x.sn x.a=true
structure GoodG (g:Sg):Prop where
 many:manyS g=false
 sel:∀d∈g.datas,∀c∈d.cons,∀x∈c.sels,SelG g x
theorem zjq {g:Sg} (hm:manyS g=false) (ha:allS g=0):GoodG g:=by
 refine ⟨hm,fun d hd c hc x hx=>?_⟩
 have hmem:selE x∈sortsE g:=by
  rw [zfj]
  refine List.mem_append.2 (.inl ?_)
  rw [List.mem_flatMap]
  refine ⟨d,hd,?_⟩
  unfold datE
  rw [List.mem_flatMap]
  exact ⟨c,hc,List.mem_map.2 ⟨x,hx,rfl⟩⟩
 have h0:errS g (selE x)=none:=by
  unfold allS at ha
  cases hq:(sortsE g).findSome? (errS g) with
  | some e =>
   rw [hq] at ha
   obtain ⟨y,hy,hye⟩:=List.exists_of_findSome?_eq_some hq
   have:=(err_ok hye).2
   exact absurd ha this
  | none=>exact List.findSome?_eq_none_iff.1 hq _ hmem
 have hc0:checkS g x.k x.w x.sn x.a=0:=by
  unfold errS at h0
  split at h0
  ·assumption
  ·cases h0
 unfold checkS at hc0
 split at hc0
 ·rename_i hw
  obtain ⟨z1,z2,z3⟩:=ze2 hw
  split at hc0
  ·rename_i hk
   exact ⟨z1,by omega,by omega,hk⟩
  ·cases hc0
 ·rename_i hw
  exact absurd hc0 hw
theorem zop (ds:List Dat) (k:Int) (n:ByteArray) (a:Fo):(dtS ds k n a).length≤a.size+1:=by
 unfold dtS
 split
 ·simp
 ·have:=za7 ds a; omega
theorem zh6 {α:Type} {f:α→Nat}:∀{l:List α} {x:α},x∈l→f x≤sumL f l
 | y :: l,x,h=>by
  simp only [sumL]
  rcases List.mem_cons.1 h with rfl | h
  ·omega
  ·have:=zh6 (f:=f) h; omega
theorem zp5 {g:Sg} (hG:GoodG g) {d:Dat} (hd:d∈g.datas) {c:Con} (hc:c∈d.cons):(stC g.datas c).length≤c.sels.length*256 :=
 zgn _ _ fun x hx=>by
  have:=zop g.datas x.k x.sn x.a
  have:=(hG.sel d hd c hc x hx).sz
  omega
theorem zn7 {g:Sg} (hG:GoodG g) {d:Dat} (hd:d∈g.datas):(stD g.datas d).length≤cntD d*256:=by
 unfold stD cntD
 have key:∀l:List Con,(∀c∈l,c∈d.cons)→(l.flatMap (stC g.datas)).length≤sumL (fun c=>c.sels.length) l*256:=by
  intro l
  induction l with
  | nil=>intro _; simp [sumL]
  | cons c l ih =>
   intro h
   rw [List.flatMap_cons,List.length_append]
   have h1:=zp5 hG hd (h c (by simp))
   have h2:=ih fun c hc=>h c (by simp [hc])
   simp only [sumL,Nat.add_mul]
   omega
 have:=key d.cons fun c hc=>hc
 rw [Nat.add_mul]
 omega
theorem zmf {g:Sg} (hG:GoodG g):sumL cntD g.datas≤4096:=by
 have:=hG.many
 unfold manyS at this
 simp only [Bool.or_eq_false_iff,decide_eq_false_iff_not] at this
 have:=this.2.2
 unfold cntG at this
 omega
theorem zf1 {g:Sg} (hG:GoodG g) {d:Dat} (hd:d∈g.datas):(stD g.datas d).length≤1048576:=by
 have h1:=zn7 hG hd
 have h2:=zh6 (f:=cntD) hd
 have h3:=zmf hG
 have:cntD d*256≤4096*256:=Nat.mul_le_mul_right _ (by omega)
 omega
section
variable {m:Nat} {H0 H:AH} {s1 s2 s3:Sl3} {g:Sg} {p:Addr} {L0 fuel:Nat} {s:Sl3} {l:List Nat}
theorem zi9 (hF:L0=fuel+1) (hfu:15≤fuel) (hG:GoodG g) (hB:Book H0 p s1 s2 s3 g) (hm:m≤H0.next) {d:Dat} (hd:d∈g.datas) {c:Con} (hc:c∈d.cons) {x4 sl:Sl3} {v20:Int} {n9:ByteArray} (h:SlL SelA 5 H0 sl c.sels) (hv:VecA natE 3 m H l s) (hx:Ext H0 H) (ho:∀id,owns s id→H0.next≤id) (hN:l.length+(stC g.datas c).length≤2000000) :
  ∃H' s',loopO (z1f (LCo L0) m p x4 v20 n9 sl) (H,s,0)=some (.inl (H',s',(c.sels.length:Int)))∧VecA natE 3 m H' (l++stC g.datas c) s'∧Ch H s H' s':=by
 have key:=z88 (E:=natE) (e:=3) (m:=m) (xs:=c.sels) (body:=z1f (LCo L0) m p x4 v20 n9 sl) (fun x=>dtS g.datas x.k x.sn x.a) 2000000 (H0:=H0)
  (fun i hi G t k hk hx1 hO hN=>by
   have hln:=h.n
   obtain ⟨q,g1,g2⟩:=h.get hi (v:=(i:Int)) rfl
   obtain ⟨z,e1,e2,e3,e4,e5,e6⟩:=g2.ex
   have r0:rd deS G (q.add 0)=some c.sels[i].n:=by rw [(g2.n.ext hx1).rd]; rfl
   have r1:rd (deI .i64) G (q.add 1)=some c.sels[i].k:=by rw [(e1.ext hx1).rd]; rfl
   have r2:rd (deI .i64) G (q.add 2)=some c.sels[i].w:=by rw [(e2.ext hx1).rd]; rfl
   have r3:rd deS G (q.add 3)=some c.sels[i].sn:=by rw [(e3.ext hx1).rd]; rfl
   have r4:rd deSl G (q.add 4)=some z:=by rw [(e4.ext hx1).rd]; rfl
   have hs:=hG.sel d hd c hc _ (List.getElem_mem hi)
   obtain ⟨s',G1,y1,y2,y3⟩:=zef (m:=m) L0 (c.sels[i].a.dep+1) fuel G c.sels[i].k c.sels[i].w c.sels[i].sn z c.sels[i].a false (hB.ext hx1) (Nat.le_trans hm hx1.1) (e6.ext hx1) (by have:=hs.sz; omega) (by have:=hs.dp; omega) (by omega)
   have e:dtI g.datas false c.sels[i].k c.sels[i].sn c.sels[i].a=dtS g.datas c.sels[i].k c.sels[i].sn c.sels[i].a:=by simp [dtI,dtS]
   rw [e] at y2
   obtain ⟨v2,G2,z1,z2,z3⟩:=VecA.app (E:=natE) (e:=3) (bytes:=8) (l':=dtS g.datas c.sels[i].k c.sels[i].sn c.sels[i].a) (VecV.ext hk y3) (zf3 y2) (room8 (by omega)).1 (room8 (by omega)).2 (Nat.le_trans hm (Nat.le_trans hx1.1 y3.1))
   refine ⟨G2,v2,?_,z2,?_⟩
   ·unfold z1f z45
    have e1:(LCo L0).fuel=fuel+1:=hF
    have z1':appS m 3 1 8 G1 t s'=some (v2,G2):=z1
    rw [e1]
    simp only [if_pos (show (i:Int)<(sl.n:Int) by omega),g1,Option.bind_some,r0,r1,r2,r3,r4,y1,z1']
    rw [zi hi h.len]
   ·refine ⟨(y3.weak (W':=owns t) fun _ _ h=>h.elim).comp z3.fm fun id _ hn=>hn,fun id hid=>?_⟩
    rcases z3.ow id hid with h | h
    ·exact .inl h
    ·exact .inr (Nat.le_trans y3.1 h))
  (fun G t hx1=>by
   unfold z1f
   have hln:=h.n
   simp only [if_neg (show ¬((c.sels.length:Int)<(sl.n:Int)) by omega)])
  c.sels.length 0 H s l (by omega) hv hx ho (by rw [List.drop_zero]; exact hN)
 rw [List.drop_zero] at key
 exact key
theorem zb7 (hF:L0=fuel+1) (hfu:15≤fuel) (hG:GoodG g) (hS:SigA H s1 s2 s3 g) (hB:Book H p s1 s2 s3 g) (hm:m≤H.next) {i:Nat} (hi:i<g.datas.length) :
  ∃s' H',z2h (LCo L0) m H (some p) (i:Int)=some (s',H')∧VecA natE 3 m H' (stD g.datas g.datas[i]) s'∧Ext H H'∧∀id,owns s' id→H.next≤id:=by
 have hd:=List.getElem_mem hi
 have hadd:∀j,(p.add 0).add j=p.add (0+j):=fun j=>add2 hB.c1 0 j
 have r1:rd deSl H ((p.add 0).add 1)=some s2:=by rw [hadd,hB.c2.rd]; rfl
 obtain ⟨q,g1,g2⟩:=hS.d.get hi (v:=(i:Int)) rfl
 obtain ⟨z,e1,hc⟩:=g2.ex
 have r2:rd deSl H (q.add 1)=some z:=by rw [e1.rd]; rfl
 have key:=z88 (E:=natE) (e:=3) (m:=m) (xs:=g.datas[i].cons) (body:=z1h (LCo L0) m p z) (stC g.datas) 2000000 (H0:=H)
  (fun j hj G t k hk hx1 hO hN=>by
   have hln:=hc.n
   obtain ⟨q',k1,k2⟩:=hc.get hj (v:=(j:Int)) rfl
   obtain ⟨z',f1,f2⟩:=k2.ex
   have r0:rd deS G (q'.add 0)=some g.datas[i].cons[j].n:=by rw [(k2.n.ext hx1).rd]; rfl
   have r3:rd deSl G (q'.add 1)=some z':=by rw [(f1.ext hx1).rd]; rfl
   obtain ⟨G2,t2,w1,w2,w3⟩:=zi9 hF hfu hG hB hm hd (List.getElem_mem hj) (x4:=z) (v20:=(j:Int)) (n9:=g.datas[i].cons[j].n) f2 hk hx1 hO hN
   refine ⟨G2,t2,?_,w2,w3⟩
   unfold z1h
   simp only [if_pos (show (j:Int)<(z.n:Int) by omega),k1,Option.bind_some,r0,r3]
   show Option.bind (loopO (z1f (LCo L0) m p z (j:Int) g.datas[i].cons[j].n z') (G,t,0)) _=_
   rw [w1]
   simp only [Option.bind_some]
   rw [zi hj hc.len])
  (fun G t hx1=>by
   unfold z1h
   have hln:=hc.n
   simp only [if_neg (show ¬((g.datas[i].cons.length:Int)<(z.n:Int)) by omega)])
  g.datas[i].cons.length 0 H Sl3.nil [] (by omega) (VecA.nil _ _ _ _) (Fm.refl _ _) (fun id h=>absurd h z56) (by rw [List.drop_zero]; have:=zf1 hG hd; show 0+(stD g.datas g.datas[i]).length≤_; omega)
 rw [List.drop_zero] at key
 obtain ⟨H',s',t1,t2,t3⟩:=key
 obtain ⟨x2,o2⟩:=t3.ext (Fm.refl _ _) fun id h=>absurd h z56
 refine ⟨s',H',?_,by simpa [stD] using t2,x2,o2⟩
 unfold z2h
 simp only [Option.bind_some,r1,g1,r2]
 show Option.bind (loopO (z1h (LCo L0) m p z) (H,Sl3.nil,0)) _=_
 have t1':loopO (z1h (LCo L0) m p z) (H,Sl3.nil,0)=_:=t1
 rw [t1']
 rfl
end
def EdgS (g:Sg) (i k:Nat):Prop:=∃h:i<g.datas.length,k∈stD g.datas g.datas[i]
inductive Lean1 (g:Sg) (i:Nat):Nat→Prop
 | one {k:Nat} (h:EdgS g i k):Lean1 g i k
 | more {j k:Nat} (h:Lean1 g i j) (h':EdgS g j k):Lean1 g i k
theorem ix_lt {g:Sg} {n:ByteArray} (h:(dataIx g.datas n).isSome=true):ixS g.datas n<g.datas.length:=by
 unfold ixS
 obtain ⟨i,hi⟩:=Option.isSome_iff_exists.1 h
 rw [hi]
 unfold dataIx at hi
 exact (List.findIdx?_eq_some_iff_getElem.1 hi).1
theorem dtF_lt {g:Sg}:∀{a:Fo},shF a=true→knF g.users g.datas a=true→∀k∈dtF g.datas a,k<g.datas.length
 | .nil,_,_,k,hk=>by simp [dtF] at hk
 | .cons k w n a r,hs,h,j,hj=>by
  simp only [knF,Bool.and_eq_true] at h
  simp only [shF,Bool.and_eq_true] at hs
  simp only [dtF,List.mem_append] at hj
  rcases hj with hj | hj
  ·by_cases h6:k=6
   ·subst h6
    simp only [if_true,List.mem_singleton,if_neg (show ¬((6:Int)=5) by omega)] at hj h
    subst hj
    exact ix_lt h.1
   ·rw [if_neg h6] at hj
    by_cases h5:k=5
    ·have:=zet (k:=k) (w:=w) (n:=n) (a:=a) (by simp only [shS,Bool.and_eq_true]; exact hs.1) (.inl h5)
     subst this
     simp [dtF] at hj
    ·rw [if_neg h5,if_neg h6] at h
     exact dtF_lt hs.1.2 h.1 j hj
  ·exact dtF_lt hs.2 h.2 j hj
theorem dtS_lt {g:Sg} {x:Sel} (h:SelG g x):∀k∈dtS g.datas x.k x.sn x.a,k<g.datas.length:=by
 intro k hk
 have hs:=h.sh
 have hkn:=h.kn
 unfold dtS at hk
 unfold knS at hkn
 by_cases h6:x.k=6
 ·rw [if_pos h6] at hk
  rw [if_neg (by omega),if_pos h6] at hkn
  simp only [List.mem_singleton] at hk
  subst hk
  exact ix_lt hkn
 ·rw [if_neg h6] at hk
  by_cases h5:x.k=5
  ·have:=zet hs (.inl h5)
   rw [this] at hk
   simp [dtF] at hk
  ·rw [if_neg h5,if_neg h6] at hkn
   simp only [shS,Bool.and_eq_true] at hs
   exact dtF_lt hs.2 hkn k hk
theorem stD_lt {g:Sg} (hG:GoodG g) {d:Dat} (hd:d∈g.datas):∀k∈stD g.datas d,k<g.datas.length:=by
 intro k hk
 unfold stD stC at hk
 simp only [List.mem_flatMap] at hk
 obtain ⟨c,hc,x,hx,hk⟩:=hk
 exact dtS_lt (hG.sel d hd c hc x hx) k hk
theorem edg_lt {g:Sg} (hG:GoodG g) {i k:Nat} (h:EdgS g i k):k<g.datas.length:=by
 obtain ⟨hi,h⟩:=h
 exact stD_lt hG (List.getElem_mem hi) k h
theorem zpj {g:Sg} (hG:GoodG g) {i k:Nat} (h:Lean1 g i k):k<g.datas.length:=by
 cases h with
 | one h=>exact edg_lt hG h
 | more _ h=>exact edg_lt hG h
end Go.Proofs.YtccbilfbhecdaaaDoor
namespace Go.Proofs.YtccbilfbhecdaaaDoor
open Go Go.Abs
set_option maxRecDepth 100000
def bV (bl:List Bool):List Value:=bl.map Value.bool
theorem bV_set (bl:List Bool) (i:Nat) (b:Bool):(bV bl).set i (.bool b)=bV (bl.set i b):=by
 unfold bV; rw [List.map_set]
def freeN (bl:List Bool):Nat:=bl.countP fun b=>!b
theorem zfs {bl:List Bool} {i:Nat} (hi:i<bl.length) (hb:bl[i]=false):freeN (bl.set i true)+1=freeN bl:=by
 unfold freeN
 rw [List.countP_set (h:=hi)]
 have hpos:0<bl.countP fun b=>!b:=List.countP_pos_iff.2 ⟨bl[i],List.getElem_mem hi,by simp [hb]⟩
 simp [hb]
 omega
section
variable {m:Nat} {H0 H:AH} {s1 s2 s3:Sl3} {g:Sg} {p:Addr} {L0 fuel:Nat} {s:Sl3} {l:List Nat}
structure Work (g:Sg) (i:Nat) (bl:List Bool) (ql:List Nat):Prop where
 len:bl.length=g.datas.length
 sound:∀k (h:k<bl.length),bl[k]=true→Lean1 g i k
 wait:∀k∈ql,Lean1 g i k
 first:∀k,EdgS g i k→(∃h:k<bl.length,bl[k]=true)∨k∈ql
 next:∀j k,(∃h:j<bl.length,bl[j]=true)→EdgS g j k→(∃h:k<bl.length,bl[k]=true)∨k∈ql
theorem Work.done {i:Nat} {bl:List Bool} (h:Work g i bl []):∀k (hk:k<bl.length),bl[k]=true↔Lean1 g i k:=by
 have key:∀k,Lean1 g i k→∃h:k<bl.length,bl[k]=true:=by
  intro k hk
  induction hk with
  | one h1=>exact (h.first _ h1).resolve_right (by simp)
  | more h1 h2 ih=>exact (h.next _ _ ih h2).resolve_right (by simp)
 exact fun k hk=>⟨h.sound k hk,fun hl=>(key k hl).2⟩
theorem z68 {bl:List Bool} {x k:Nat}:(∃h:k<(bl.set x true).length,(bl.set x true)[k]=true)↔(∃h:k<bl.length,bl[k]=true)∨(k=x∧x<bl.length):=by
 constructor
 ·rintro ⟨h,hb⟩
  have hk:k<bl.length:=by simpa using h
  rw [List.getElem_set] at hb
  split at hb
  ·rename_i e; exact .inr ⟨e.symm,by omega⟩
  ·exact .inl ⟨hk,hb⟩
 ·rintro (⟨h,hb⟩ | ⟨rfl,hx⟩)
  ·refine ⟨by simpa using h,?_⟩
   rw [List.getElem_set]
   split
   ·rfl
   ·exact hb
  ·exact ⟨by simpa using hx,by simp⟩
theorem Work.pop {i x:Nat} {bl:List Bool} {t:List Nat} (h:Work g i bl (x :: t)) (hx:∃h:x<bl.length,bl[x]=true):Work g i bl t:=by
 refine ⟨h.len,h.sound,fun k hk=>h.wait k (by simp [hk]),fun k hk=>?_,fun j k hj hk=>?_⟩
 ·rcases h.first k hk with h1 | h1
  ·exact .inl h1
  ·rcases List.mem_cons.1 h1 with rfl | h1
   ·exact .inl hx
   ·exact .inr h1
 ·rcases h.next j k hj hk with h1 | h1
  ·exact .inl h1
  ·rcases List.mem_cons.1 h1 with rfl | h1
   ·exact .inl hx
   ·exact .inr h1
theorem Work.mark {i x:Nat} {bl:List Bool} {t:List Nat} (h:Work g i bl (x :: t)) (hx:x<g.datas.length):Work g i (bl.set x true) (t++stD g.datas g.datas[x]):=by
 have hlx:Lean1 g i x:=h.wait x (by simp)
 have hxl:x<bl.length:=by rw [h.len]; exact hx
 refine ⟨by simp [h.len],fun k hk hb=>?_,fun k hk=>?_,fun k hk=>?_,fun j k hj hk=>?_⟩
 ·rcases z68.1 ⟨hk,hb⟩ with ⟨h1,h2⟩ | ⟨rfl,_⟩
  ·exact h.sound k h1 h2
  ·exact hlx
 ·rcases List.mem_append.1 hk with hk | hk
  ·exact h.wait k (by simp [hk])
  ·exact .more hlx ⟨hx,hk⟩
 ·rcases h.first k hk with h1 | h1
  ·exact .inl (z68.2 (.inl h1))
  ·rcases List.mem_cons.1 h1 with rfl | h1
   ·exact .inl (z68.2 (.inr ⟨rfl,hxl⟩))
   ·exact .inr (List.mem_append.2 (.inl h1))
 ·rcases z68.1 hj with h1 | ⟨rfl,_⟩
  ·rcases h.next j k h1 hk with h2 | h2
   ·exact .inl (z68.2 (.inl h2))
   ·rcases List.mem_cons.1 h2 with rfl | h2
    ·exact .inl (z68.2 (.inr ⟨rfl,hxl⟩))
    ·exact .inr (List.mem_append.2 (.inl h2))
  ·obtain ⟨_,hk⟩:=hk
   exact .inr (List.mem_append.2 (.inr hk))
theorem zn5 (hF:L0=fuel+1) (hfu:15≤fuel) (hG:GoodG g) (hS:SigA H0 s1 s2 s3 g) (hB:Book H0 p s1 s2 s3 g) (hm:m≤H0.next) {id3 idr n:Nat} {x2:Sl3} {rows:List Value} {i:Nat} (hn:n=g.datas.length) (hi:i<n)
  (hrow:rows[i]? = some (Sl3.v ⟨some ⟨idr,0,none⟩,n,n⟩)) (hne:id3≠idr) (h3:H0.next≤id3) (hr:H0.next≤idr):∀(u q:Nat) (bl:List Bool) (ql:List Nat) (H:AH) (v:Sl3),freeN bl=u→ql.length=q→Work g i bl ql→Ext H0 H →
   ArrV 56 m H id3 rows→ArrV 4 m H idr (bV bl)→VecA natE 3 m H ql v→(∀id,owns v id→H0.next≤id∧id≠id3∧id≠idr)→ql.length+u*1048576≤5000000000 →
   ∃H' v' bl',loopO (z18 (LCo L0) m p x2 ⟨some ⟨id3,0,none⟩,n,n⟩ (i:Int)) (H,v)=some (.inl (H',v'))∧Work g i bl' []∧ArrV 56 m H' id3 rows∧ArrV 4 m H' idr (bV bl')∧Ext H0 H'∧Fm (fun id=>id=idr∨owns v id) H H':=by
 intro u
 induction u using Nat.strongRecOn with
 | ind u ihu =>
  intro q
  induction q with
  | zero =>
   intro bl ql H v hu hq hW hx ha3 har hv ho hN
   obtain rfl:ql=[]:=List.length_eq_zero_iff.1 hq
   refine ⟨H,v,bl,z15 ?_,hW,ha3,har,hx,Fm.refl _ _⟩
   unfold z18
   have:v.n=0:=hv.n
   simp only [this]
   rw [if_neg (by omega)]
  | succ q ihq =>
   intro bl ql H v hu hq hW hx ha3 har hv ho hN
   cases ql with
   | nil=>simp at hq
   | cons x t =>
    have hxn:x<g.datas.length:=zpj hG (hW.wait x (by simp))
    have hxb:x<bl.length:=by rw [hW.len]; exact hxn
    have hvn:v.n=t.length+1:=hv.n
    have hsl:=nat_sl hv (by omega)
    obtain ⟨qa,k1,k2⟩:=hsl.get (i:=0) (by simp) (v:=(0:Int)) rfl
    have r0:rd (deI .i64) H qa=some (x:Int):=by rw [Cel.rd k2]; rfl
    obtain ⟨v1,t1,t2,t3⟩:=hv.tail rfl (by unfold OPEN; simp at hN; omega)
    have r1:rd deSl H ((⟨id3,0,none⟩:Addr).add (i*1))=some ⟨some ⟨idr,0,none⟩,n,n⟩:=by rw [(ha3.cel hrow).rd]; rfl
    have hbx:(bV bl)[x]? = some (.bool bl[x]):=by simp [bV,hxb]
    have r2:rd deB H ((⟨idr,0,none⟩:Addr).add (x*1))=some bl[x]:=by rw [(har.cel hbx).rd]; rfl
    have i3:idxA 1 (⟨some ⟨id3,0,none⟩,n,n⟩:Sl3) (i:Int)=some ((⟨id3,0,none⟩:Addr).add (i*1)):=z50 hi rfl
    have ir:idxA 1 (⟨some ⟨idr,0,none⟩,n,n⟩:Sl3) (x:Int)=some ((⟨idr,0,none⟩:Addr).add (x*1)):=z50 (by omega) rfl
    have o1:∀id,owns v1 id→H0.next≤id∧id≠id3∧id≠idr:=fun id hid=>ho id (t3 id hid)
    simp only [List.length_cons] at hq hN
    cases hb:bl[x] with
    | true =>
     obtain ⟨H',v',bl',w1,w2,w3,w4,w5,w6⟩:=ihq bl t H v1 hu (by omega) (hW.pop ⟨hxb,hb⟩) hx ha3 har t2 o1 (by omega)
     refine ⟨H',v',bl',?_,w2,w3,w4,w5,w6.weak fun id _ h=>?_⟩
     ·have hbody:z18 (LCo L0) m p x2 ⟨some ⟨id3,0,none⟩,n,n⟩ (i:Int) (H,v)=some (.next (H,v1)):=by
       unfold z18
       rw [hb] at r2
       simp only [if_pos (show (v.n:Int) > 0 by omega),k1,Option.bind_some,r0,t1,i3,r1,ir,r2,if_true]
      rw [zq hbody]
      exact w1
     ·rcases h with h | h
      ·exact .inl h
      ·exact .inr (t3 id h)
    | false =>
     obtain ⟨H25,c1,c2,c3,c4⟩:=har.set (i:=x) (by simp [bV]; exact hxb) (.bool true)
     rw [bV_set] at c2
     have xx:Ext H0 H25:=hx.comp c3 fun id hid _ h=>by omega
     have a3':ArrV 56 m H25 id3 rows:=ha3.fr c3 hne
     have v1':VecA natE 3 m H25 t v1:=VecV.fr t2 c3 fun id hid h=>(o1 id hid).2.2 h
     have hmH:m≤H25.next:=Nat.le_trans hm xx.1
     obtain ⟨s',H27,d1,d2,d3,d4⟩:=zb7 hF hfu hG (hS.ext xx) (hB.ext xx) hmH hxn
     have hst:=zf1 hG (List.getElem_mem hxn)
     obtain ⟨v2,H29,e1,e2,e3⟩:=VecA.app (E:=natE) (e:=3) (bytes:=8) (l':=stD g.datas g.datas[x]) (VecV.ext v1' d3) (zf3 (nat_sl d2 (by omega))) (room8 (by omega)).1 (room8 (by omega)).2 (Nat.le_trans hmH d3.1)
     have f29:Fm (fun id=>id=idr∨owns v id) H H29:=by
      refine (c3.weak (W':=fun id=>id=idr∨owns v id) fun id _ h=>.inl h).comp ((d3.weak (W':=owns v1) fun _ _ h=>h.elim).comp e3.fm fun id _ hn=>hn) fun id hid hn h=>?_
      exact hn (.inr (t3 id h))
     have own2:∀id,owns v2 id→owns v1 id∨H27.next≤id:=e3.ow
     have lt3:=ha3.low
     have ltr:=har.low
     have hge:H.next≤H27.next:=by rw [← c4]; exact d3.1
     have o2:∀id,owns v2 id→H0.next≤id∧id≠id3∧id≠idr:=fun id hid=>by
      rcases own2 id hid with h | h
      ·exact o1 id h
      ·have:=hx.1; omega
     have a329:ArrV 56 m H29 id3 rows:=(a3'.ext d3).fr e3.fm fun h=>(o1 id3 h).2.1 rfl
     have ar29:ArrV 4 m H29 idr (bV (bl.set x true)):=(c2.ext d3).fr e3.fm fun h=>(o1 idr h).2.2 rfl
     have x29:Ext H0 H29:=(xx.trans d3).comp e3.fm fun id hid _ h=>by have:=(o1 id h).1; omega
     have hfree:=zfs hxb hb
     obtain ⟨H',v',bl',w1,w2,w3,w4,w5,w6⟩:=ihu (freeN (bl.set x true)) (by omega) _ (bl.set x true) (t++stD g.datas g.datas[x]) H29 v2 rfl rfl (hW.mark hxn) x29 a329 ar29 e2 o2 (by
      rw [List.length_append]
      have:u=freeN (bl.set x true)+1:=by omega
      rw [this,Nat.add_mul] at hN
      omega)
     refine ⟨H',v',bl',?_,w2,w3,w4,w5,f29.comp w6 fun id hid hn h=>?_⟩
     ·have hbody:z18 (LCo L0) m p x2 ⟨some ⟨id3,0,none⟩,n,n⟩ (i:Int) (H,v)=some (.next (H29,v2)):=by
       unfold z18
       rw [hb] at r2
       have e1':appS m 3 1 8 H27 v1 s'=some (v2,H29):=e1
       simp only [if_pos (show (v.n:Int) > 0 by omega),k1,Option.bind_some,r0,t1,i3,r1,ir,r2,Bool.false_eq_true,if_false,c1,d1,e1']
      rw [zq hbody]
      exact w1
     ·rcases h with h | h
      ·exact hn (.inl h)
      ·rcases own2 id h with h | h
       ·exact hn (.inr (t3 id h))
       ·omega
end
end Go.Proofs.YtccbilfbhecdaaaDoor
namespace Go.Proofs.YtccbilfbhecdaaaDoor
open Go Go.Abs
set_option maxRecDepth 100000
theorem z78 {g:Sg} (hG:GoodG g):g.datas.length≤4096:=by
 have:=hG.many
 unfold manyS at this
 simp only [Bool.or_eq_false_iff,decide_eq_false_iff_not] at this
 have:=this.2.2
 unfold cntG at this
 omega
theorem zfa (n:Nat):freeN (List.replicate n false)=n:=by
 unfold freeN
 rw [List.countP_replicate]
 simp
theorem zdd {α:Type} {xs:List α} {body:AH×Int→Option (Lp (AH×Int) (Bool×AH))} (P:Nat→α→Prop) {H0:AH}
  (step:∀(i:Nat) (hi:i<xs.length) (H:AH),Ext H0 H→∃H',Ext H0 H'∧((P i xs[i]∧body (H,(i:Int))=some (.ret (true,H')))∨(¬P i xs[i]∧body (H,(i:Int))=some (.next (H',((i+1:Nat):Int))))))
  (he:∀H,Ext H0 H→body (H,(xs.length:Int))=some (.brk (H,(xs.length:Int)))) :
  ∀(d i:Nat) (H:AH),i+d=xs.length→Ext H0 H→∃H',Ext H0 H'∧(((∃j,∃h:j<xs.length,i≤j∧P j xs[j])∧loopO body (H,(i:Int))=some (.inr (true,H')))∨((¬∃j,∃h:j<xs.length,i≤j∧P j xs[j])∧loopO body (H,(i:Int))=some (.inl (H',(xs.length:Int))))):=by
 intro d
 induction d with
 | zero =>
  intro i H hi hx
  have:i=xs.length:=by omega
  subst this
  refine ⟨H,hx,.inr ⟨?_,z15 (he H hx)⟩⟩
  rintro ⟨j,h,h',_⟩
  omega
 | succ d ih =>
  intro i H hi hx
  have hlt:i<xs.length:=by omega
  obtain ⟨H1,x1,h⟩:=step i hlt H hx
  rcases h with ⟨hp,hb⟩ | ⟨hp,hb⟩
  ·exact ⟨H1,x1,.inl ⟨⟨i,hlt,Nat.le_refl _,hp⟩,z2f hb⟩⟩
  ·obtain ⟨H2,x2,h⟩:=ih (i+1) H1 (by omega) x1
   refine ⟨H2,x2,?_⟩
   rw [zq hb]
   rcases h with ⟨⟨j,hj,h1,h2⟩,h3⟩ | ⟨h1,h3⟩
   ·exact .inl ⟨⟨j,hj,by omega,h2⟩,h3⟩
   ·refine .inr ⟨?_,h3⟩
    rintro ⟨j,hj,h4,h5⟩
    by_cases e:j=i
    ·subst e; exact hp h5
    ·exact h1 ⟨j,hj,by omega,h5⟩
def LeanT (g:Sg) (H:AH) (id3:Nat):Prop:=∀i,i<g.datas.length→∃row:Sl3,Cel H ((⟨id3,0,none⟩:Addr).add (i*1)) row.v∧∀k,k<g.datas.length→∃q b,idxA 1 row (k:Int)=some q∧Cel H q (.bool b)∧(b=true↔Lean1 g i k)
theorem LeanT.ext {g:Sg} {H H':AH} {id3:Nat} (h:LeanT g H id3) (hf:Ext H H'):LeanT g H' id3:=fun i hi=>by
 obtain ⟨row,h1,h2⟩:=h i hi
 exact ⟨row,h1.ext hf,fun k hk=>let ⟨q,b,a1,a2,a3⟩:=h2 k hk; ⟨q,b,a1,a2.ext hf,a3⟩⟩
section
variable {m:Nat} {H0 H:AH} {s1 s2 s3:Sl3} {g:Sg} {p:Addr} {L0 fuel:Nat}
def RowOk (g:Sg) (m:Nat) (H0 H:AH) (id3 n:Nat) (rows:List Value) (j:Nat):Prop :=
 ∃idj bl,rows[j]? = some (Sl3.v ⟨some ⟨idj,0,none⟩,n,n⟩)∧ArrV 4 m H idj (bV bl)∧(∀k (h:k<bl.length),bl[k]=true↔Lean1 g j k)∧bl.length=n∧H0.next≤idj∧idj≠id3
theorem znm (hF:L0=fuel+1) (hfu:15≤fuel) (hG:GoodG g) (hS:SigA H0 s1 s2 s3 g) (hB:Book H0 p s1 s2 s3 g) (hm:m≤H0.next) {id3 n:Nat} (hn:n=g.datas.length) (h3:H0.next≤id3):∀(d i:Nat) (H:AH) (rows:List Value),i+d=n→Ext H0 H→ArrV 56 m H id3 rows→rows.length=n →
   (∀j,j<i→RowOk g m H0 H id3 n rows j) →
   ∃H' rows',loopO (z1q (LCo L0) m p s2 ⟨some ⟨id3,0,none⟩,n,n⟩) (H,(i:Int))=some (.inl (H',(n:Int)))∧Ext H0 H'∧ArrV 56 m H' id3 rows'∧∀j,j<n→RowOk g m H0 H' id3 n rows' j:=by
 have hd:=hS.d.n
 have hnn:n≤4096:=by rw [hn]; exact z78 hG
 intro d
 induction d with
 | zero =>
  intro i H rows hi hx ha hl hr
  obtain rfl:i=n:=by omega
  refine ⟨H,rows,z15 ?_,hx,ha,hr⟩
  unfold z1q
  simp only [if_neg (show ¬((i:Int)<(s2.n:Int)) by omega)]
 | succ d ih =>
  intro i H rows hi hx ha hl hr
  have hin:i<n:=by omega
  have hig:i<g.datas.length:=by omega
  have hmH:=Nat.le_trans hm hx.1
  obtain ⟨H8,b1,b2,b3,b4⟩:=zei (e:=4) (bytes:=1) (m:=m) (H:=H) (z:=.bool false) (n:=n) (by omega) (by omega) hmH
  have hs2:s2.n=n:=by rw [hd,hn]
  have ha8:=ha.ext b3
  obtain ⟨H10,c1,c2,c3,c4⟩:=ha8.set (i:=i) (by omega) (Sl3.v ⟨some ⟨H.next,0,none⟩,n,n⟩)
  have hlow:=ha.low
  have x8:=hx.trans b3
  have x10:Ext H0 H10:=x8.comp c3 fun id hid _ h=>by omega
  have b2':ArrV 4 m H10 H.next (bV (List.replicate n false)):=by
   have:bV (List.replicate n false)=List.replicate n (Value.bool false):=by simp [bV]
   rw [this]
   exact b2.fr c3 (by omega)
  obtain ⟨x11,H12,d1,d2,d3,d4⟩:=zb7 hF hfu hG (hS.ext x10) (hB.ext x10) (Nat.le_trans hm x10.1) hig
  have hst:=zf1 hG (List.getElem_mem hig)
  have x12:=x10.trans d3
  have hrow:(rows.set i (Sl3.v ⟨some ⟨H.next,0,none⟩,n,n⟩))[i]? = some (Sl3.v ⟨some ⟨H.next,0,none⟩,n,n⟩):=by simp [hl,hin]
  have hW:Work g i (List.replicate n false) (stD g.datas g.datas[i]):=by
   refine ⟨by simp [hn],fun k hk hb=>by simp at hb,fun k hk=>.one ⟨hig,hk⟩,fun k hk=>?_,fun j k hj _=>?_⟩
   ·obtain ⟨_,hk⟩:=hk; exact .inr hk
   ·obtain ⟨_,hb⟩:=hj; simp at hb
  obtain ⟨H',v',bl',e1,e2,e3,e4,e5,e6⟩:=zn5 hF hfu hG hS hB hm (x2:=s2) hn hin hrow (by omega) h3 hx.1 n _ (List.replicate n false) _ H12 x11 (zfa n) rfl hW x12 (c2.ext d3) (b2'.ext d3) d2 (fun id hid=>by have:=d4 id hid; have:=b4; have:=x10.1; omega) (by omega)
  have keep:∀j,j<i→RowOk g m H0 H' id3 n (rows.set i (Sl3.v ⟨some ⟨H.next,0,none⟩,n,n⟩)) j:=by
   intro j hj
   obtain ⟨idj,bl,k1,k2,k3,k4,k5,k6⟩:=hr j hj
   have hlj:=k2.low
   refine ⟨idj,bl,?_,?_,k3,k4,k5,k6⟩
   ·rw [List.getElem?_set_ne (by omega)]; exact k1
   ·refine (((k2.ext b3).fr c3 k6).ext d3).fr e6 fun h=>?_
    rcases h with h | h
    ·omega
    ·have:=d4 idj h; omega
  have mine:RowOk g m H0 H' id3 n (rows.set i (Sl3.v ⟨some ⟨H.next,0,none⟩,n,n⟩)) i :=
   ⟨H.next,bl',hrow,e4,e2.done,by rw [e2.len,hn],hx.1,by omega⟩
  obtain ⟨H2,rows',y1,y2,y3,y4⟩:=ih (i+1) H' _ (by omega) e5 e3 (by simp [hl]) fun j hj=>by
   by_cases e:j=i
   ·subst e; exact mine
   ·exact keep j (by omega)
  refine ⟨H2,rows',?_,y2,y3,y4⟩
  have hbody:z1q (LCo L0) m p s2 ⟨some ⟨id3,0,none⟩,n,n⟩ (H,(i:Int))=some (.next (H',((i+1:Nat):Int))):=by
   unfold z1q
   simp only [hs2,if_pos (show (i:Int)<(n:Int) by omega),b1,Option.bind_some,z50 hin rfl,c1,d1]
   show Option.bind (loopO (z18 (LCo L0) m p s2 ⟨some ⟨id3,0,none⟩,n,n⟩ (i:Int)) (H12,x11)) _=_
   rw [e1]
   simp only [Option.bind_some]
   rw [zi hin (by rw [z35]; omega)]
  rw [zq hbody]
  exact y1
theorem ze6 (hF:L0=fuel+1) (hfu:15≤fuel) (hG:GoodG g) (hS:SigA H s1 s2 s3 g) (hB:Book H p s1 s2 s3 g) (hm:m≤H.next) :
  ∃id3 H',z3f (LCo L0) m H (some p)=some (⟨some ⟨id3,0,none⟩,g.datas.length,g.datas.length⟩,H')∧Ext H H'∧LeanT g H' id3:=by
 have hd:=hS.d.n
 have hnn:=z78 hG
 have hadd:∀j,(p.add 0).add j=p.add (0+j):=fun j=>add2 hB.c1 0 j
 have r1:rd deSl H ((p.add 0).add 1)=some s2:=by rw [hadd,hB.c2.rd]; rfl
 obtain ⟨H4,b1,b2,b3,b4⟩:=zei (e:=56) (bytes:=24) (m:=m) (H:=H) (z:=Sl3.v Sl3.nil) (n:=g.datas.length) (by omega) (by omega) hm
 obtain ⟨H',rows',c1,c2,c3,c4⟩:=znm hF hfu hG hS hB hm (id3:=H.next) rfl (Nat.le_refl _) g.datas.length 0 H4 _ (by omega) b3 b2 (by simp) (fun j hj=>absurd hj (Nat.not_lt_zero _))
 refine ⟨H.next,H',?_,c2,fun i hi=>?_⟩
 ·unfold z3f
  simp only [Option.bind_some,r1,hd,b1]
  show Option.bind (loopO (z1q (LCo L0) m p s2 ⟨some ⟨H.next,0,none⟩,g.datas.length,g.datas.length⟩) (H4,((0:Nat):Int))) _=_
  rw [c1]
  rfl
 ·obtain ⟨idj,bl,k1,k2,k3,k4,k5,k6⟩:=c4 i hi
  refine ⟨_,c3.cel k1,fun k hk=>⟨_,bl[k]'(by omega),z50 hk rfl,k2.cel (by simp [bV,k4,hk]),k3 k (by omega)⟩⟩
def NestX (g:Sg) (i:Nat) (x:Sel):Prop:=∃k∈dtI g.datas true x.k x.sn x.a,k=i∨Lean1 g k i
def NestP (g:Sg):Prop:=∃i,∃h:i<g.datas.length,∃c∈(g.datas[i]).cons,∃x∈c.sels,NestX g i x
theorem dtI_lt {g:Sg} {x:Sel} (h:SelG g x):∀k∈dtI g.datas true x.k x.sn x.a,k<g.datas.length:=by
 intro k hk
 have hk:k∈dtF g.datas x.a:=by simpa [dtI] using hk
 have hs:=h.sh
 have hkn:=h.kn
 unfold knS at hkn
 by_cases h56:x.k=5∨x.k=6
 ·have:=zet hs h56
  rw [this] at hk
  simp [dtF] at hk
 ·rw [if_neg (by omega),if_neg (by omega)] at hkn
  simp only [shS,Bool.and_eq_true] at hs
  exact dtF_lt hs.2 hkn k hk
theorem zmr (c:Nat) {id3:Nat} {i:Nat} {x2 x6 x10 x14 x15:Sl3} {v27 v34 y1 y2:Int} {n6 n10 n14 n15:ByteArray} {l:List Nat} (hT:LeanT g H id3) (hi:i<g.datas.length) (hl:SlL IntA 1 H x15 l) (hlt:∀k∈l,k<g.datas.length) :
  loopO (z1m (LCo c) ⟨some ⟨id3,0,none⟩,g.datas.length,g.datas.length⟩ p x2 (i:Int) n6 x6 v27 n10 x10 v34 n14 y1 y2 n15 x14 x15 H) 0=some (found l.length (l.findSome? fun k=>open Classical in if k=i∨Lean1 g k i then some (true,H) else none)):=by
 classical
 have hn:=hl.n
 have hu:=z4b (body:=z1m (LCo c) ⟨some ⟨id3,0,none⟩,g.datas.length,g.datas.length⟩ p x2 (i:Int) n6 x6 v27 n10 x10 v34 n14 y1 y2 n15 x14 x15 H) l.length hl.len (fun j=>if (l.getD j 0)=i∨Lean1 g (l.getD j 0) i then some (true,H) else none) (fun j hj=>by
   obtain ⟨q,h1,h2⟩:=hl.get hj (v:=(j:Int)) rfl
   have r0:rd (deI .i64) H q=some (l[j]:Int):=by rw [Cel.rd h2]; rfl
   have eg:l.getD j 0=l[j]:=by simp [List.getD,hj]
   rw [eg]
   have hkl:=hlt _ (List.getElem_mem hj)
   obtain ⟨row,k1,k2⟩:=hT l[j] hkl
   obtain ⟨q',b,k3,k4,k5⟩:=k2 i hi
   have r1:rd deSl H ((⟨id3,0,none⟩:Addr).add (l[j]*1))=some row:=by rw [k1.rd]; rfl
   have r2:rd deB H q'=some b:=by rw [k4.rd]; rfl
   unfold z1m
   simp only [if_pos (show (j:Int)<(x15.n:Int) by omega),h1,Option.bind_some,r0]
   by_cases e:l[j]=i
   ·have:((l[j]:Nat):Int)=(i:Int):=by omega
    simp [this,e,stepO]
   ·have:¬(((l[j]:Nat):Int)=(i:Int)):=by omega
    simp only [if_neg this,z50 hkl rfl,Option.bind_some,r1,k3,r2]
    cases b with
    | true=>simp [k5.1 rfl,stepO]
    | false =>
     have:¬Lean1 g l[j] i:=fun h=>by have:=k5.2 h; cases this
     simp [this,e,stepO]) (by
   unfold z1m
   rw [if_neg (by omega)])
 rw [hu,z8l l (fun k=>if k=i∨Lean1 g k i then some (true,H) else none) 0]
theorem zlu {R:Type} (l:List Nat) (P:Nat→Prop) [DecidablePred P] (r:R):((∃k∈l,P k)∧(l.findSome? fun k=>if P k then some r else none)=some r)∨((¬∃k∈l,P k)∧(l.findSome? fun k=>if P k then some r else none)=none):=by
 induction l with
 | nil=>exact .inr ⟨by simp,rfl⟩
 | cons x l ih =>
  rw [List.findSome?_cons]
  by_cases h:P x
  ·rw [if_pos h]; exact .inl ⟨⟨x,by simp,h⟩,rfl⟩
  ·rw [if_neg h]
   rcases ih with ⟨⟨k,hk,hp⟩,h2⟩ | ⟨h1,h2⟩
   ·exact .inl ⟨⟨k,by simp [hk],hp⟩,h2⟩
   ·refine .inr ⟨?_,h2⟩
    rintro ⟨k,hk,hp⟩
    rcases List.mem_cons.1 hk with rfl | hk
    ·exact h hp
    ·exact h1 ⟨k,hk,hp⟩
theorem zmh (hF:L0=fuel+1) (hfu:15≤fuel) (hG:GoodG g) (hB:Book H0 p s1 s2 s3 g) (hm:m≤H0.next) {id3 i:Nat} (hT:LeanT g H0 id3) (hi:i<g.datas.length) {c:Con} (hc:c∈(g.datas[i]).cons) {x2 x6 sl:Sl3} {v27:Int} {n6 n10:ByteArray} (h:SlL SelA 5 H0 sl c.sels) (hx:Ext H0 H) :
  ∃H',Ext H0 H'∧(((∃x∈c.sels,NestX g i x)∧loopO (zx (LCo L0) m ⟨some ⟨id3,0,none⟩,g.datas.length,g.datas.length⟩ p x2 (i:Int) n6 x6 v27 n10 sl) (H,0)=some (.inr (true,H'))) ∨
   ((¬∃x∈c.sels,NestX g i x)∧loopO (zx (LCo L0) m ⟨some ⟨id3,0,none⟩,g.datas.length,g.datas.length⟩ p x2 (i:Int) n6 x6 v27 n10 sl) (H,0)=some (.inl (H',(c.sels.length:Int))))):=by
 classical
 have hln:=h.n
 obtain ⟨H',h1,h2⟩:=zdd (xs:=c.sels) (body:=zx (LCo L0) m ⟨some ⟨id3,0,none⟩,g.datas.length,g.datas.length⟩ p x2 (i:Int) n6 x6 v27 n10 sl) (fun _ x=>NestX g i x) (H0:=H0)
  (fun j hj G hG1=>by
   obtain ⟨q,g1,g2⟩:=h.get hj (v:=(j:Int)) rfl
   obtain ⟨z,e1,e2,e3,e4,e5,e6⟩:=g2.ex
   have r0:rd deS G (q.add 0)=some c.sels[j].n:=by rw [(g2.n.ext hG1).rd]; rfl
   have r1:rd (deI .i64) G (q.add 1)=some c.sels[j].k:=by rw [(e1.ext hG1).rd]; rfl
   have r2:rd (deI .i64) G (q.add 2)=some c.sels[j].w:=by rw [(e2.ext hG1).rd]; rfl
   have r3:rd deS G (q.add 3)=some c.sels[j].sn:=by rw [(e3.ext hG1).rd]; rfl
   have r4:rd deSl G (q.add 4)=some z:=by rw [(e4.ext hG1).rd]; rfl
   have hs:=hG.sel _ (List.getElem_mem hi) c hc _ (List.getElem_mem hj)
   obtain ⟨s',G1,y1,y2,y3⟩:=zef (m:=m) L0 (c.sels[j].a.dep+1) fuel G c.sels[j].k c.sels[j].w c.sels[j].sn z c.sels[j].a true (hB.ext hG1) (Nat.le_trans hm hG1.1) (e6.ext hG1) (by have:=hs.sz; omega) (by have:=hs.dp; omega) (by omega)
   have hb3:=zmr (p:=p) L0 (i:=i) (x2:=x2) (x6:=x6) (x10:=sl) (x14:=z) (v27:=v27) (v34:=(j:Int)) (y1:=c.sels[j].k) (y2:=c.sels[j].w) (n6:=n6) (n10:=n10) (n14:=c.sels[j].n) (n15:=c.sels[j].sn) (hT.ext (hG1.trans y3)) hi y2 (dtI_lt hs)
   have e1':(LCo L0).fuel=fuel+1:=hF
   refine ⟨G1,hG1.trans y3,?_⟩
   have hbody:zx (LCo L0) m ⟨some ⟨id3,0,none⟩,g.datas.length,g.datas.length⟩ p x2 (i:Int) n6 x6 v27 n10 sl (G,(j:Int))=(match (found (dtI g.datas true c.sels[j].k c.sels[j].sn c.sels[j].a).length ((dtI g.datas true c.sels[j].k c.sels[j].sn c.sels[j].a).findSome? fun k=>if k=i∨Lean1 g k i then some (true,G1) else none)) with | .inl _=>some (.next (G1,((j+1:Nat):Int))) | .inr r=>some (.ret r)):=by
    unfold zx z45
    rw [e1']
    simp only [if_pos (show (j:Int)<(sl.n:Int) by omega),g1,Option.bind_some,r0,r1,r2,r3,r4,y1]
    show Option.bind (loopO (z1m (LCo L0) ⟨some ⟨id3,0,none⟩,g.datas.length,g.datas.length⟩ p x2 (i:Int) n6 x6 v27 n10 sl (j:Int) c.sels[j].n c.sels[j].k c.sels[j].w c.sels[j].sn z s' G1) 0) _=_
    rw [hb3,zi hj h.len]
    rfl
   rcases zlu (dtI g.datas true c.sels[j].k c.sels[j].sn c.sels[j].a) (fun k=>k=i∨Lean1 g k i) (true,G1) with ⟨hp,hf⟩ | ⟨hp,hf⟩
   ·rw [hf] at hbody
    exact .inl ⟨hp,hbody⟩
   ·rw [hf] at hbody
    exact .inr ⟨hp,hbody⟩)
  (fun G hG1=>by
   unfold zx
   simp only [if_neg (show ¬((c.sels.length:Int)<(sl.n:Int)) by omega)])
  c.sels.length 0 H (by omega) hx
 refine ⟨H',h1,?_⟩
 have iff:(∃j,∃h:j<c.sels.length,0≤j∧NestX g i c.sels[j])↔∃x∈c.sels,NestX g i x:=by
  constructor
  ·rintro ⟨j,hj,_,hp⟩; exact ⟨_,List.getElem_mem hj,hp⟩
  ·rintro ⟨x,hx,hp⟩
   obtain ⟨j,hj,rfl⟩:=List.getElem_of_mem hx
   exact ⟨j,hj,Nat.zero_le _,hp⟩
 rw [iff] at h2
 exact h2
theorem zm8 (hF:L0=fuel+1) (hfu:15≤fuel) (hG:GoodG g) (hB:Book H0 p s1 s2 s3 g) (hm:m≤H0.next) {id3 i:Nat} (hT:LeanT g H0 id3) (hi:i<g.datas.length) {x2 sl:Sl3} {n6:ByteArray} (h:SlL ConA 2 H0 sl (g.datas[i]).cons) (hx:Ext H0 H) :
  ∃H',Ext H0 H'∧(((∃c∈(g.datas[i]).cons,∃x∈c.sels,NestX g i x)∧loopO (zw (LCo L0) m ⟨some ⟨id3,0,none⟩,g.datas.length,g.datas.length⟩ p x2 (i:Int) n6 sl) (H,0)=some (.inr (true,H'))) ∨
   ((¬∃c∈(g.datas[i]).cons,∃x∈c.sels,NestX g i x)∧loopO (zw (LCo L0) m ⟨some ⟨id3,0,none⟩,g.datas.length,g.datas.length⟩ p x2 (i:Int) n6 sl) (H,0)=some (.inl (H',((g.datas[i]).cons.length:Int))))):=by
 have hln:=h.n
 obtain ⟨H',h1,h2⟩:=zdd (xs:=(g.datas[i]).cons) (body:=zw (LCo L0) m ⟨some ⟨id3,0,none⟩,g.datas.length,g.datas.length⟩ p x2 (i:Int) n6 sl) (fun _ c=>∃x∈c.sels,NestX g i x) (H0:=H0)
  (fun j hj G hG1=>by
   obtain ⟨q,g1,g2⟩:=h.get hj (v:=(j:Int)) rfl
   obtain ⟨z,e1,e2⟩:=g2.ex
   have r0:rd deS G (q.add 0)=some (g.datas[i]).cons[j].n:=by rw [(g2.n.ext hG1).rd]; rfl
   have r1:rd deSl G (q.add 1)=some z:=by rw [(e1.ext hG1).rd]; rfl
   obtain ⟨G1,k1,k2⟩:=zmh hF hfu hG hB hm hT hi (List.getElem_mem hj) (x2:=x2) (x6:=sl) (v27:=(j:Int)) (n6:=n6) (n10:=(g.datas[i]).cons[j].n) e2 hG1
   refine ⟨G1,k1,?_⟩
   rcases k2 with ⟨hp,hb⟩ | ⟨hp,hb⟩
   ·refine .inl ⟨hp,?_⟩
    unfold zw
    simp only [if_pos (show (j:Int)<(sl.n:Int) by omega),g1,Option.bind_some,r0,r1]
    show Option.bind (loopO (zx (LCo L0) m ⟨some ⟨id3,0,none⟩,g.datas.length,g.datas.length⟩ p x2 (i:Int) n6 sl (j:Int) (g.datas[i]).cons[j].n z) (G,0)) _=_
    rw [hb]
    rfl
   ·refine .inr ⟨hp,?_⟩
    unfold zw
    simp only [if_pos (show (j:Int)<(sl.n:Int) by omega),g1,Option.bind_some,r0,r1]
    show Option.bind (loopO (zx (LCo L0) m ⟨some ⟨id3,0,none⟩,g.datas.length,g.datas.length⟩ p x2 (i:Int) n6 sl (j:Int) (g.datas[i]).cons[j].n z) (G,0)) _=_
    rw [hb]
    simp only [Option.bind_some]
    rw [zi hj h.len])
  (fun G hG1=>by
   unfold zw
   simp only [if_neg (show ¬(((g.datas[i]).cons.length:Int)<(sl.n:Int)) by omega)])
  (g.datas[i]).cons.length 0 H (by omega) hx
 refine ⟨H',h1,?_⟩
 have iff:(∃j,∃h:j<(g.datas[i]).cons.length,0≤j∧∃x∈((g.datas[i]).cons[j]).sels,NestX g i x)↔∃c∈(g.datas[i]).cons,∃x∈c.sels,NestX g i x:=by
  constructor
  ·rintro ⟨j,hj,_,hp⟩; exact ⟨_,List.getElem_mem hj,hp⟩
  ·rintro ⟨x,hx,hp⟩
   obtain ⟨j,hj,rfl⟩:=List.getElem_of_mem hx
   exact ⟨j,hj,Nat.zero_le _,hp⟩
 rw [iff] at h2
 exact h2
theorem ziv (hF:L0=fuel+1) (hfu:15≤fuel) (hG:GoodG g) (hS:SigA H s1 s2 s3 g) (hB:Book H p s1 s2 s3 g) (hm:m≤H.next) {id3:Nat} (hT:LeanT g H id3) :
  ∃b H',z3t (LCo L0) m H (some p) ⟨some ⟨id3,0,none⟩,g.datas.length,g.datas.length⟩=some (b,H')∧Ext H H'∧(b=true↔NestP g):=by
 have hd:=hS.d.n
 have hadd:∀j,(p.add 0).add j=p.add (0+j):=fun j=>add2 hB.c1 0 j
 have r1:rd deSl H ((p.add 0).add 1)=some s2:=by rw [hadd,hB.c2.rd]; rfl
 obtain ⟨H',h1,h2⟩:=zdd (xs:=g.datas) (body:=z1n (LCo L0) m ⟨some ⟨id3,0,none⟩,g.datas.length,g.datas.length⟩ p s2) (fun i d=>∃c∈d.cons,∃x∈c.sels,NestX g i x) (H0:=H)
  (fun i hi G hG1=>by
   obtain ⟨q,g1,g2⟩:=hS.d.get hi (v:=(i:Int)) rfl
   obtain ⟨z,e1,e2⟩:=g2.ex
   have r0:rd deS G (q.add 0)=some (g.datas[i]).n:=by rw [(g2.n.ext hG1).rd]; rfl
   have r1:rd deSl G (q.add 1)=some z:=by rw [(e1.ext hG1).rd]; rfl
   obtain ⟨G1,k1,k2⟩:=zm8 hF hfu hG hB hm hT hi (x2:=s2) (n6:=(g.datas[i]).n) e2 hG1
   refine ⟨G1,k1,?_⟩
   rcases k2 with ⟨hp,hb⟩ | ⟨hp,hb⟩
   ·refine .inl ⟨hp,?_⟩
    unfold z1n
    simp only [if_pos (show (i:Int)<(s2.n:Int) by omega),g1,Option.bind_some,r0,r1]
    show Option.bind (loopO (zw (LCo L0) m ⟨some ⟨id3,0,none⟩,g.datas.length,g.datas.length⟩ p s2 (i:Int) (g.datas[i]).n z) (G,0)) _=_
    rw [hb]
    rfl
   ·refine .inr ⟨hp,?_⟩
    unfold z1n
    simp only [if_pos (show (i:Int)<(s2.n:Int) by omega),g1,Option.bind_some,r0,r1]
    show Option.bind (loopO (zw (LCo L0) m ⟨some ⟨id3,0,none⟩,g.datas.length,g.datas.length⟩ p s2 (i:Int) (g.datas[i]).n z) (G,0)) _=_
    rw [hb]
    simp only [Option.bind_some]
    rw [zi hi hS.d.len])
  (fun G hG1=>by
   unfold z1n
   simp only [if_neg (show ¬((g.datas.length:Int)<(s2.n:Int)) by omega)])
  g.datas.length 0 H (by omega) (Fm.refl _ _)
 have iff:(∃j,∃h:j<g.datas.length,0≤j∧∃c∈(g.datas[j]).cons,∃x∈c.sels,NestX g j x)↔NestP g:=by
  constructor
  ·rintro ⟨j,hj,_,hp⟩; exact ⟨j,hj,hp⟩
  ·rintro ⟨j,hj,hp⟩; exact ⟨j,hj,Nat.zero_le _,hp⟩
 rw [iff] at h2
 unfold z3t
 simp only [Option.bind_some,r1]
 show ∃b H',Option.bind (loopO (z1n (LCo L0) m ⟨some ⟨id3,0,none⟩,g.datas.length,g.datas.length⟩ p s2) (H,((0:Nat):Int))) _=_∧_
 rcases h2 with ⟨hp,hb⟩ | ⟨hp,hb⟩
 ·exact ⟨true,H',by rw [hb]; rfl,h1,by simp [hp]⟩
 ·exact ⟨false,H',by rw [hb]; rfl,h1,by simp [hp]⟩
end
end Go.Proofs.YtccbilfbhecdaaaDoor
namespace Go.Proofs.YtccbilfbhecdaaaDoor
open Go Go.Abs
set_option maxRecDepth 100000
def On (bl:List Bool) (k:Nat):Prop:=∃h:k<bl.length,bl[k]=true
section
variable {m:Nat} {H0 H:AH} {s1 s2 s3:Sl3} {g:Sg} {L0 fuel:Nat}
end
end Go.Proofs.YtccbilfbhecdaaaDoor
namespace Go.Proofs.YtccbilfbhecdaaaDoor
open Go Go.Abs
set_option maxRecDepth 100000
def gF (ds:List Dat) (bl:List Bool):Fo→Bool
 | .nil=>true
 | .cons _ _ _ _ .nil=>true
 | .cons _ _ _ _ (.cons k _ n a _)=>if k=6 then bl.getD (ixS ds n) false else if k=4 then gF ds bl a else true
def gS (ds:List Dat) (bl:List Bool) (k:Int) (n:ByteArray) (a:Fo):Bool:=if k=6 then bl.getD (ixS ds n) false else if k=4 then gF ds bl a else true
def gC (ds:List Dat) (bl:List Bool) (c:Con):Bool:=c.sels.all fun x=>gS ds bl x.k x.sn x.a
def gD (ds:List Dat) (bl:List Bool) (d:Dat):Bool:=d.cons.any (gC ds bl)
theorem za2 {bl:List Bool} {k:Nat}:bl.getD k false=true↔On bl k:=by
 unfold On
 by_cases h:k<bl.length
 ·simp [List.getD,h]
 ·simp [List.getD,h]
theorem zj2 {ds:List Dat} {bl bl':List Bool} (hm:∀k,On bl k→On bl' k):∀a:Fo,gF ds bl a=true→gF ds bl' a=true
 | .nil,_=>rfl
 | .cons _ _ _ _ .nil,_=>rfl
 | .cons _ _ _ _ (.cons k _ n a _),h=>by
  unfold gF at h ⊢
  by_cases h6:k=6
  ·rw [if_pos h6] at h ⊢
   exact za2.2 (hm _ (za2.1 h))
  ·rw [if_neg h6] at h ⊢
   by_cases h4:k=4
   ·rw [if_pos h4] at h ⊢
    exact zj2 hm a h
   ·rw [if_neg h4]
theorem zok {ds:List Dat} {bl bl':List Bool} (hm:∀k,On bl k→On bl' k) {k:Int} {n:ByteArray} {a:Fo} (h:gS ds bl k n a=true):gS ds bl' k n a=true:=by
 unfold gS at h ⊢
 by_cases h6:k=6
 ·rw [if_pos h6] at h ⊢
  exact za2.2 (hm _ (za2.1 h))
 ·rw [if_neg h6] at h ⊢
  by_cases h4:k=4
  ·rw [if_pos h4] at h ⊢
   exact zj2 hm a h
  ·rw [if_neg h4]
theorem zph {ds:List Dat} {bl bl':List Bool} (hm:∀k,On bl k→On bl' k) {c:Con} (h:gC ds bl c=true):gC ds bl' c=true:=by
 unfold gC at h ⊢
 rw [List.all_eq_true] at h ⊢
 exact fun x hx=>zok hm (h x hx)
theorem zov {ds:List Dat} {bl bl':List Bool} (hm:∀k,On bl k→On bl' k) {d:Dat} (h:gD ds bl d=true):gD ds bl' d=true:=by
 unfold gD at h ⊢
 rw [List.any_eq_true] at h ⊢
 obtain ⟨c,hc,h⟩:=h
 exact ⟨c,hc,zph hm h⟩
inductive Gd (g:Sg):Nat→Prop
 | mk {i:Nat} (h:i<g.datas.length) (bl:List Bool) (hb:∀k,On bl k→Gd g k) (ho:gD g.datas bl g.datas[i]=true):Gd g i
theorem zgm {g:Sg} {bl:List Bool} (hc:∀i (h:i<g.datas.length),gD g.datas bl g.datas[i]=true→On bl i):∀{k:Nat},Gd g k→On bl k:=by
 intro k hk
 induction hk with
 | mk h bl' hb ho ih=>exact hc _ h (zov ih ho)
section
variable {m:Nat} {H0 H:AH} {s1 s2 s3:Sl3} {g:Sg} {p:Addr} {L0 fuel:Nat}
theorem zeu {e:TypeId} {idm N:Nat} {bl:List Bool} (ha:ArrV e m H idm (bV bl)) (hl:bl.length=N) {i:Nat} (hi:i<N) :
  ∃q,idxA 1 (⟨some ⟨idm,0,none⟩,N,N⟩:Sl3) (i:Int)=some q∧rd deB H q=some (bl.getD i false):=by
 have hib:i<bl.length:=by omega
 refine ⟨_,z50 hi rfl,?_⟩
 rw [(ha.cel (show (bV bl)[i]? = some (.bool bl[i]) by simp [bV,hib])).rd]
 simp [deB,List.getD,hib]
theorem zfy (c:Nat) {idm N:Nat} {bl:List Bool} (hB:Book H p s1 s2 s3 g) (ha:ArrV 4 m H idm (bV bl)) (hl:bl.length=N) (hN:N=g.datas.length):∀(d fuel:Nat) (k w:Int) (n:ByteArray) (s:Sl3) (a:Fo),SlF H s a→shS k w n a=true→knS g.users g.datas k n a=true→a.dep≤fuel→a.dep<d →
  z39 (LCo c) (fuel+1) H (some p) k w n s ⟨some ⟨idm,0,none⟩,N,N⟩=some (gS g.datas bl k n a):=by
 intro d
 induction d with
 | zero=>intro fuel k w n s a _ _ _ _ h; omega
 | succ d ih =>
  intro fuel k w n s a h hsh hkn hf hd
  show z1z (LCo c) (z39 (LCo c) fuel) H (some p) k w n s ⟨some ⟨idm,0,none⟩,N,N⟩=_
  unfold z1z gS
  by_cases h6:k=6
  ·subst h6
   obtain ⟨id,r1,r2⟩:=zez hB n
   have hk:=hkn
   unfold knS at hk
   rw [if_neg (by omega),if_pos rfl] at hk
   have hlt:=ix_lt hk
   obtain ⟨q,k1,k2⟩:=zeu ha hl (show ixS g.datas n<N by omega)
   simp only [if_true,Option.bind_some,r1,r2,k1,k2]
  ·rw [if_neg h6,if_neg h6]
   by_cases h4:k=4
   ·rw [if_pos h4,if_pos h4]
    rcases z9h hsh with ⟨_,h'⟩ | ⟨_,k1,w1,n1,a1,k2,w2,n2,a2,rfl,hs1,hs2⟩
    ·omega
    ·unfold knS at hkn
     rw [if_neg (by omega),if_neg h6] at hkn
     simp only [knF,Bool.and_eq_true] at hkn
     have hn2:s.n=2:=h.1
     obtain ⟨_,_,_,_,_,_,_,_,_,q8⟩:=h.2.2.rd (s:=s) (by omega)
     obtain ⟨q,t1,q1,q2,q3,q4,q5,q6,q7,_⟩:=q8.rd (s:=s) (by omega)
     simp only [Fo.dep] at hf hd
     obtain ⟨g',rfl⟩:∃g',fuel=g'+1:=⟨fuel - 1,by omega⟩
     have y:=ih g' k2 w2 n2 t1 a2 q6 hs2 (by unfold knS; exact hkn.2.1) (by omega) (by omega)
     have q1':idxA 4 s 1=some q:=q1
     simp only [q1',q2,q3,q4,q5,Option.bind_some,y]
     simp only [gS,gF]
   ·rw [if_neg h4,if_neg h4]
theorem zh0 (hF:L0=fuel+1) (hfu:15≤fuel) (hG:GoodG g) (hB:Book H p s1 s2 s3 g) {p1 p8:Addr} {idm N:Nat} {bl:List Bool} (h1:Cel H p1 (.pointer (some p))) (h8:Cel H p8 (Sl3.v ⟨some ⟨idm,0,none⟩,N,N⟩)) (ha:ArrV 4 m H idm (bV bl)) (hl:bl.length=N) (hN:N=g.datas.length)
  {d:Dat} (hd:d∈g.datas) {c:Con} (hc:c∈d.cons) {sl:Sl3} (h:SlL SelA 5 H sl c.sels):z20 (LCo L0) H sl (some p1) (some p8)=some (!gC g.datas bl c):=by
 have hln:=h.n
 have hlp:=z4b (body:=z1j (LCo L0) H sl (some p1) (some p8)) c.sels.length h.len (fun j=>if (fun x:Sel=>!gS g.datas bl x.k x.sn x.a) (c.sels.getD j ⟨emptyT,0,0,emptyT,.nil⟩)=true then some (j:Int) else none) (fun j hj=>by
  obtain ⟨q,g1,g2⟩:=h.get hj (v:=(j:Int)) rfl
  obtain ⟨z,e1,e2,e3,e4,e5,e6⟩:=g2.ex
  have r0:rd deS H (q.add 0)=some c.sels[j].n:=by rw [g2.n.rd]; rfl
  have r1:rd (deI .i64) H (q.add 1)=some c.sels[j].k:=by rw [e1.rd]; rfl
  have r2:rd (deI .i64) H (q.add 2)=some c.sels[j].w:=by rw [e2.rd]; rfl
  have r3:rd deS H (q.add 3)=some c.sels[j].sn:=by rw [e3.rd]; rfl
  have r4:rd deSl H (q.add 4)=some z:=by rw [e4.rd]; rfl
  have hs:=hG.sel d hd c hc _ (List.getElem_mem hj)
  have y:=zfy L0 hB ha hl hN (c.sels[j].a.dep+1) fuel c.sels[j].k c.sels[j].w c.sels[j].sn z c.sels[j].a e6 hs.sh hs.kn (by have:=hs.dp; omega) (by omega)
  have eg:c.sels.getD j ⟨emptyT,0,0,emptyT,.nil⟩=c.sels[j]:=by simp [List.getD,hj]
  have f1:rd deP H p1=some (some p):=by rw [h1.rd]; rfl
  have f8:rd deSl H p8=some ⟨some ⟨idm,0,none⟩,N,N⟩:=by rw [h8.rd]; rfl
  have e1':(LCo L0).fuel=fuel+1:=hF
  rw [eg]
  unfold z1j z48 z57
  rw [e1']
  simp only [if_pos (show (j:Int)<(sl.n:Int) by omega),g1,Option.bind_some,r0,r1,r2,r3,r4,f1,f8,y]
  by_cases hgs:gS g.datas bl c.sels[j].k c.sels[j].sn c.sels[j].a=true <;> simp [hgs,stepO]) (by
  unfold z1j
  rw [if_neg (by omega)])
 unfold z20 z3m
 show Option.bind (Option.bind (loopO (z1j (LCo L0) H sl (some p1) (some p8)) 0) _) _=_
 rw [hlp]
 obtain ⟨k1,k2⟩:=zfc c.sels (fun x:Sel=>!gS g.datas bl x.k x.sn x.a) (fun i=>(i:Int)) ⟨emptyT,0,0,emptyT,.nil⟩
 have k3:(c.sels.any fun x=>!gS g.datas bl x.k x.sn x.a)=!gC g.datas bl c:=by
  unfold gC
  rw [List.not_all_eq_any_not]
 rw [k3] at k1
 generalize hq:(List.range c.sels.length).findSome? (fun i=>if (fun x:Sel=>!gS g.datas bl x.k x.sn x.a) (c.sels.getD i ⟨emptyT,0,0,emptyT,.nil⟩)=true then some (i:Int) else none)=q at k1 k2
 cases q with
 | none=>rw [← k1]; rfl
 | some x =>
  rw [← k1]
  obtain ⟨i,rfl⟩:=k2 x rfl
  have:(i:Int)≥0:=by omega
  simp [found,this]
theorem zmd (hF:L0=fuel+1) (hfu:15≤fuel) (hG:GoodG g) (hB:Book H p s1 s2 s3 g) {p1 p8:Addr} {idm N:Nat} {bl:List Bool} (h1:Cel H p1 (.pointer (some p))) (h8:Cel H p8 (Sl3.v ⟨some ⟨idm,0,none⟩,N,N⟩)) (ha:ArrV 4 m H idm (bV bl)) (hl:bl.length=N) (hN:N=g.datas.length)
  {i:Nat} (hi:i<g.datas.length) {x14 sl:Sl3} {n19:ByteArray} (h:SlL ConA 2 H sl (g.datas[i]).cons) {H31:AH} (hset:H.setCell m ((⟨idm,0,none⟩:Addr).add (i*1)) (.bool true)=some H31):∀(t j:Nat),j+t=(g.datas[i]).cons.length →
  loopO (z14 (LCo L0) m p1 p8 x14 (i:Int) n19 sl) (H,(j:Int))=some (if ((g.datas[i]).cons.drop j).any (gC g.datas bl)=true then .inr (.inr H31) else .inl (H,((g.datas[i]).cons.length:Int))):=by
 have hln:=h.n
 intro t
 induction t with
 | zero =>
  intro j hj
  obtain rfl:j=(g.datas[i]).cons.length:=by omega
  rw [List.drop_length]
  simp only [List.any_nil,Bool.false_eq_true,if_false]
  refine z15 ?_
  unfold z14
  simp only [if_neg (show ¬(((g.datas[i]).cons.length:Int)<(sl.n:Int)) by omega)]
 | succ t ih =>
  intro j hj
  have hjl:j<(g.datas[i]).cons.length:=by omega
  obtain ⟨q,g1,g2⟩:=h.get hjl (v:=(j:Int)) rfl
  obtain ⟨z,e1,e2⟩:=g2.ex
  have r0:rd deS H (q.add 0)=some (g.datas[i]).cons[j].n:=by rw [g2.n.rd]; rfl
  have r1:rd deSl H (q.add 1)=some z:=by rw [e1.rd]; rfl
  have hcon:=zh0 hF hfu hG hB h1 h8 ha hl hN (List.getElem_mem hi) (List.getElem_mem hjl) e2
  have f8:rd deSl H p8=some ⟨some ⟨idm,0,none⟩,N,N⟩:=by rw [h8.rd]; rfl
  rw [List.drop_eq_getElem_cons hjl,List.any_cons]
  cases hg:gC g.datas bl (g.datas[i]).cons[j] with
  | true =>
   rw [hg] at hcon
   simp only [Bool.true_or,if_true]
   refine z2f ?_
   unfold z14
   simp only [if_pos (show (j:Int)<(sl.n:Int) by omega),g1,Option.bind_some,r0,r1,hcon,Bool.not_true,Bool.false_eq_true,if_false,f8,z50 (show i<N by omega) rfl,hset]
  | false =>
   rw [hg] at hcon
   have hbody:z14 (LCo L0) m p1 p8 x14 (i:Int) n19 sl (H,(j:Int))=some (.next (H,((j+1:Nat):Int))):=by
    unfold z14
    simp only [if_pos (show (j:Int)<(sl.n:Int) by omega),g1,Option.bind_some,r0,r1,hcon,Bool.not_false,if_true]
    rw [zi hjl h.len]
   rw [zq hbody,ih (j+1) (by omega),Bool.false_or]
def PassG (g:Sg) (m:Nat) (H:AH) (bl:List Bool) (idm N:Nat) (r:Option ((AH×Int)⊕((Sl3×AH)⊕AH))) (i:Nat):Prop :=
 (∃j H',∃hj:j<g.datas.length,r=some (.inr (.inr H'))∧gD g.datas bl g.datas[j]=true∧bl.getD j false=false∧ArrV 4 m H' idm (bV (bl.set j true))∧Fm (fun id=>id=idm) H H') ∨
  (r=some (.inl (H,(N:Int)))∧∀j (hj:j<g.datas.length),i≤j→gD g.datas bl g.datas[j]=true→On bl j)
theorem zmm (hF:L0=fuel+1) (hfu:15≤fuel) (hG:GoodG g) (hS:SigA H s1 s2 s3 g) (hB:Book H p s1 s2 s3 g) {p1 p8:Addr} {idm N:Nat} {bl:List Bool} (h1:Cel H p1 (.pointer (some p))) (h8:Cel H p8 (Sl3.v ⟨some ⟨idm,0,none⟩,N,N⟩)) (ha:ArrV 4 m H idm (bV bl)) (hl:bl.length=N) (hN:N=g.datas.length):∀(t i:Nat),i+t=N →
  PassG g m H bl idm N (loopO (zm (LCo L0) m p1 p8 s2) (H,(i:Int))) i:=by
 have hdn:=hS.d.n
 intro t
 induction t with
 | zero =>
  intro i hi
  obtain rfl:i=N:=by omega
  refine .inr ⟨z15 ?_,fun j hj h=>by omega⟩
  unfold zm
  simp only [if_neg (show ¬((i:Int)<(s2.n:Int)) by omega)]
 | succ t ih =>
  intro i hi
  have hin:i<N:=by omega
  have hig:i<g.datas.length:=by omega
  obtain ⟨q,g1,g2⟩:=hS.d.get hig (v:=(i:Int)) rfl
  obtain ⟨z,e1,e2⟩:=g2.ex
  have r0:rd deS H (q.add 0)=some (g.datas[i]).n:=by rw [g2.n.rd]; rfl
  have r1:rd deSl H (q.add 1)=some z:=by rw [e1.rd]; rfl
  have f8:rd deSl H p8=some ⟨some ⟨idm,0,none⟩,N,N⟩:=by rw [h8.rd]; rfl
  obtain ⟨qm,m1,m2⟩:=zeu ha hl hin
  obtain ⟨H31,c1,c2,c3,c4⟩:=ha.set (i:=i) (by simp [bV]; omega) (.bool true)
  rw [bV_set] at c2
  have hb2:=zmd hF hfu hG hB h1 h8 ha hl hN hig (x14:=s2) (n19:=(g.datas[i]).n) e2 c1 (g.datas[i]).cons.length 0 (by omega)
  rw [List.drop_zero] at hb2
  have hD:(g.datas[i]).cons.any (gC g.datas bl)=gD g.datas bl g.datas[i]:=rfl
  rw [hD] at hb2
  have step:zm (LCo L0) m p1 p8 s2 (H,(i:Int))=some (.next (H,((i+1:Nat):Int)))→(gD g.datas bl g.datas[i]=true→On bl i)→PassG g m H bl idm N (loopO (zm (LCo L0) m p1 p8 s2) (H,(i:Int))) i:=fun hbody hon=>by
   rw [zq hbody]
   rcases ih (i+1) (by omega) with ⟨j,H',hj,w1,w2,w3,w4,w5⟩ | ⟨w1,w2⟩
   ·exact .inl ⟨j,H',hj,w1,w2,w3,w4,w5⟩
   ·refine .inr ⟨w1,fun j hj hij hg=>?_⟩
    by_cases e:j=i
    ·subst e; exact hon hg
    ·exact w2 j hj (by omega) hg
  cases hm:bl.getD i false with
  | true =>
   rw [hm] at m2
   refine step ?_ fun _=>za2.1 hm
   unfold zm
   simp only [if_pos (show (i:Int)<(s2.n:Int) by omega),g1,Option.bind_some,r0,r1,f8,m1,m2,if_true]
   rw [zi hig hS.d.len]
  | false =>
   rw [hm] at m2
   cases hg:gD g.datas bl g.datas[i] with
   | true =>
    rw [hg] at hb2
    simp only [if_true] at hb2
    refine .inl ⟨i,H31,hig,z2f ?_,hg,hm,c2,c3⟩
    unfold zm
    simp only [if_pos (show (i:Int)<(s2.n:Int) by omega),g1,Option.bind_some,r0,r1,f8,m1,m2,Bool.false_eq_true,if_false]
    show Option.bind (loopO (z14 (LCo L0) m p1 p8 s2 (i:Int) (g.datas[i]).n z) (H,((0:Nat):Int))) _=_
    rw [hb2]
    rfl
   | false =>
    rw [hg] at hb2
    simp only [Bool.false_eq_true,if_false] at hb2
    refine step ?_ fun h=>by rw [hg] at h; cases h
    unfold zm
    simp only [if_pos (show (i:Int)<(s2.n:Int) by omega),g1,Option.bind_some,r0,r1,f8,m1,m2,Bool.false_eq_true,if_false]
    show Option.bind (loopO (z14 (LCo L0) m p1 p8 s2 (i:Int) (g.datas[i]).n z) (H,((0:Nat):Int))) _=_
    rw [hb2]
    simp only [Option.bind_some]
    rw [zi hig hS.d.len]
theorem zm3 (hF:L0=fuel+1) (hfu:15≤fuel) (hG:GoodG g) (hS:SigA H0 s1 s2 s3 g) (hB:Book H0 p s1 s2 s3 g) {p1 p8:Addr} {idm N:Nat} (hN:N=g.datas.length) (hid:H0.next≤idm) (hne1:p1.block≠idm) (hne8:p8.block≠idm):∀(u:Nat) (H:AH) (bl:List Bool),freeN bl=u→Ext H0 H→Cel H p1 (.pointer (some p))→Cel H p8 (Sl3.v ⟨some ⟨idm,0,none⟩,N,N⟩)→ArrV 4 m H idm (bV bl)→bl.length=N→(∀k,On bl k→Gd g k) →
  ∃H' bl',loopO (z1a (LCo L0) m p1 p8) H=some (.inl H')∧Cel H' p8 (Sl3.v ⟨some ⟨idm,0,none⟩,N,N⟩)∧ArrV 4 m H' idm (bV bl')∧bl'.length=N∧Fm (fun id=>id=idm) H H'∧∀k,On bl' k↔Gd g k:=by
 intro u
 induction u using Nat.strongRecOn with
 | ind u ih =>
  intro H bl hu hx h1 h8 ha hl hs
  have f1:rd deP H p1=some (some p):=by rw [h1.rd]; rfl
  have hBx:=hB.ext hx
  have hadd:∀j,(p.add 0).add j=p.add (0+j):=fun j=>add2 hB.c1 0 j
  have r1:rd deSl H ((p.add 0).add 1)=some s2:=by rw [hadd,hBx.c2.rd]; rfl
  rcases zmm hF hfu hG (hS.ext hx) hBx h1 h8 ha hl hN N 0 (by omega) with ⟨j,H1,hj,w1,w2,w3,w4,w5⟩ | ⟨w1,w2⟩
  ·have hbody:z1a (LCo L0) m p1 p8 H=some (.next H1):=by
    unfold z1a
    simp only [f1,Option.bind_some,r1]
    show Option.bind (loopO (zm (LCo L0) m p1 p8 s2) (H,((0:Nat):Int))) _=_
    rw [w1]
    rfl
   have hjb:j<bl.length:=by omega
   have hf:bl[j]=false:=by simpa [List.getD,hjb] using w3
   have hfree:=zfs hjb hf
   obtain ⟨H',bl',z1,z2,z3,z4,z5,z6⟩:=ih (freeN (bl.set j true)) (by omega) H1 (bl.set j true) rfl (hx.comp w5 fun id hid' _ h=>by omega) (h1.fr w5 hne1) (h8.fr w5 hne8) w4 (by simp [hl]) fun k hk=>by
    rcases z68.1 hk with h | ⟨rfl,_⟩
    ·exact hs k h
    ·exact .mk hj bl hs w2
   exact ⟨H',bl',by rw [zq hbody]; exact z1,z2,z3,z4,w5.comp z5 fun _ _ h=>h,z6⟩
  ·have hbody:z1a (LCo L0) m p1 p8 H=some (.brk H):=by
    unfold z1a
    simp only [f1,Option.bind_some,r1]
    show Option.bind (loopO (zm (LCo L0) m p1 p8 s2) (H,((0:Nat):Int))) _=_
    rw [w1]
    rfl
   exact ⟨H,bl,z15 hbody,h8,ha,hl,Fm.refl _ _,fun k=>⟨hs k,zgm fun i hi hg=>w2 i hi (Nat.zero_le _) hg⟩⟩
theorem zik (hF:L0=fuel+1) (hfu:15≤fuel) (hG:GoodG g) (hS:SigA H s1 s2 s3 g) (hB:Book H p s1 s2 s3 g) (hm:m≤H.next) :
  ∃id bl H',z3s (LCo L0) m H (some p)=some (⟨some ⟨id,0,none⟩,g.datas.length,g.datas.length⟩,H')∧Ext H H'∧ArrV 4 m H' id (bV bl)∧bl.length=g.datas.length∧∀k,On bl k↔Gd g k:=by
 have hd:=hS.d.n
 have hnn:=z78 hG
 have hadd:∀j,(p.add 0).add j=p.add (0+j):=fun j=>add2 hB.c1 0 j
 have x2:Ext H (H.push (pubB 66 [(Value.pointer (some p))])):=Fm.push _ _ _
 have c1:Cel (H.push (pubB 66 [(Value.pointer (some p))])) ⟨H.next,0,none⟩ (.pointer (some p)):=Cel.push rfl rfl
 generalize hH2:H.push (pubB 66 [(Value.pointer (some p))])=H2 at x2 c1
 have n2:H2.next=H.next+1:=by rw [← hH2]; simp
 obtain ⟨H7,b1,b2,b3,b4⟩:=zei (e:=4) (bytes:=1) (m:=m) (H:=H2) (z:=.bool false) (n:=g.datas.length) (by omega) (by omega) (by omega)
 have b2':ArrV 4 m H7 H2.next (bV (List.replicate g.datas.length false)):=by
  have:bV (List.replicate g.datas.length false)=List.replicate g.datas.length (Value.bool false):=by simp [bV]
  rw [this]; exact b2
 have x9:Ext H7 (H7.push (pubB 56 [(Sl3.v Sl3.nil)])):=Fm.push _ _ _
 have a9:ArrV 56 m (H7.push (pubB 56 [(Sl3.v Sl3.nil)])) H7.next [Sl3.v Sl3.nil]:=⟨AH.get_push_same _ _,by omega,by simp⟩
 generalize hH9:H7.push (pubB 56 [(Sl3.v Sl3.nil)])=H9 at x9 a9
 obtain ⟨H10,d1,d2,d3,d4⟩:=a9.set (i:=0) (by simp) (Sl3.v ⟨some ⟨H2.next,0,none⟩,g.datas.length,g.datas.length⟩)
 have d1':H9.setCell m ⟨H7.next,0,none⟩ (Sl3.v ⟨some ⟨H2.next,0,none⟩,g.datas.length,g.datas.length⟩)=some H10:=by rw [z3k] at d1; exact d1
 have c8:Cel H10 ⟨H7.next,0,none⟩ (Sl3.v ⟨some ⟨H2.next,0,none⟩,g.datas.length,g.datas.length⟩):=by
  have:=d2.cel (i:=0) (v:=Sl3.v ⟨some ⟨H2.next,0,none⟩,g.datas.length,g.datas.length⟩) rfl
  rw [z3k] at this
  exact this
 have x2':Ext H H2:=x2
 have xH:Ext H H10:=((x2'.trans b3).trans x9).comp d3 fun id hid _ h=>by have:=x2'.1; have:=b3.1; omega
 have x210:Ext H2 H10:=(b3.trans x9).comp d3 fun id hid _ h=>by have:=b3.1; omega
 obtain ⟨H',bl',z1,z2,z3,z4,z5,z6⟩:=zm3 hF hfu hG hS hB (m:=m) (p1:=⟨H.next,0,none⟩) (p8:=⟨H7.next,0,none⟩) (idm:=H2.next) rfl (by omega) (by simp; omega) (by simp; omega) g.datas.length H10 (List.replicate g.datas.length false) (zfa _) xH (c1.ext x210) c8 ((b2'.ext x9).fr d3 (by have:=b3.1; omega)) (by simp) (fun k hk=>by obtain ⟨h,hb⟩:=hk; simp at hb)
 refine ⟨H2.next,bl',H',?_,xH.comp z5 fun id hid _ h=>by omega,z3,z4,z6⟩
 have f1:rd deP H2 ⟨H.next,0,none⟩=some (some p):=by rw [c1.rd]; rfl
 have r1:rd deSl H2 ((p.add 0).add 1)=some s2:=by rw [hadd,(hB.c2.ext x2').rd]; rfl
 have f8:rd deSl H' ⟨H7.next,0,none⟩=some ⟨some ⟨H2.next,0,none⟩,g.datas.length,g.datas.length⟩:=by rw [z2.rd]; rfl
 unfold z3s newB
 simp only [Option.bind_some]
 rw [hH2]
 simp only [f1,Option.bind_some,r1,hd,b1]
 rw [hH9]
 simp only [d1',Option.bind_some]
 show Option.bind (loopO (z1a (LCo L0) m ⟨H.next,0,none⟩ ⟨H7.next,0,none⟩) H10) _=_
 rw [z1]
 simp only [Option.bind_some,f8]
theorem zew (c:Nat) {id n:Nat} {bl:List Bool} (ha:ArrV 4 m H id (bV bl)) (hl:bl.length=n) (hn:n≤4096):z47 (LCo c) H ⟨some ⟨id,0,none⟩,n,n⟩ false=some (!(bl.all fun b=>b)):=by
 have hlp:=z4b (body:=z2t (LCo c) H ⟨some ⟨id,0,none⟩,n,n⟩ false) bl.length (by rw [z35]; omega) (fun j=>if (fun b:Bool=>!b) (bl.getD j false)=true then some (j:Int) else none) (fun j hj=>by
  obtain ⟨q,k1,k2⟩:=zeu ha hl (i:=j) (by omega)
  unfold z2t
  simp only [if_pos (show (j:Int)<(n:Int) by omega),k1,Option.bind_some,k2]
  cases bl.getD j false <;> simp [stepO]) (by
  unfold z2t
  simp only []
  rw [if_neg (by omega)])
 unfold z47 z6h
 show Option.bind (Option.bind (loopO (z2t (LCo c) H ⟨some ⟨id,0,none⟩,n,n⟩ false) 0) _) _=_
 rw [hlp]
 obtain ⟨k1,k2⟩:=zfc bl (fun b:Bool=>!b) (fun i=>(i:Int)) false
 have k3:(bl.any fun b=>!b)=!(bl.all fun b=>b):=by rw [List.not_all_eq_any_not]
 rw [k3] at k1
 generalize hq:(List.range bl.length).findSome? (fun i=>if (fun b:Bool=>!b) (bl.getD i false)=true then some (i:Int) else none)=q at k1 k2
 cases q with
 | none=>rw [← k1]; rfl
 | some x =>
  rw [← k1]
  obtain ⟨i,rfl⟩:=k2 x rfl
  have:(i:Int)≥0:=by omega
  simp [found,this]
end
end Go.Proofs.YtccbilfbhecdaaaDoor
namespace Go.Proofs.YtccbilfbhecdaaaDoor
open Go Go.Abs
set_option maxRecDepth 100000
open Classical in
noncomputable def sigS (g:Sg):Int :=
 if manyS g=true then 3 else if namesS g≠0 then namesS g else if allS g≠0 then allS g else if NestP g then 44 else if ∀k,k<g.datas.length→Gd g k then 0 else 43
theorem all_on {bl:List Bool} {n:Nat} {P:Nat→Prop} (h:∀k,On bl k↔P k) (hl:bl.length=n):(bl.all fun b=>b)=true↔∀k,k<n→P k:=by
 rw [List.all_eq_true]
 constructor
 ·intro ha k hk
  exact (h k).1 ⟨by omega,ha _ (List.getElem_mem (by omega))⟩
 ·intro ha b hb
  obtain ⟨i,hi,rfl⟩:=List.getElem_of_mem hb
  exact ((h i).2 (ha i (by omega))).2
section
variable {m:Nat} {H0 H:AH} {s1 s2 s3:Sl3} {g:Sg} {L0 fuel:Nat}
theorem z65 (hF:L0=fuel+1) (hfu:15≤fuel) (hd:g.dep≤fuel) (hb:SgB g) (hS:SigA H s1 s2 s3 g) (hm:m≤H.next) :
  ∃H',z3j (LCo L0) m H s1 s2 s3=some (sigS g,H')∧Ext H H':=by
 unfold z3j sigS
 rw [zm1 L0 hS hb]
 simp only [Option.bind_some]
 cases hmany:manyS g with
 | true=>exact ⟨H,by simp,Fm.refl _ _⟩
 | false =>
  simp only [Bool.false_eq_true,if_false]
  have hsm:=zcr hmany
  obtain ⟨x2,x3,H4,a1,a2,a3,a4,o2,o3⟩:=zk1 L0 hS hm hmany
  have m4:=Nat.le_trans hm a4.1
  obtain ⟨x5,H6,b1,b2,b3,b4⟩:=zdo L0 m (zgy a2) (by omega) m4
  have x6:=a4.trans b3
  obtain ⟨x7,H8,c1,c2,c3⟩:=VecA.app (E:=strE) (e:=9) (bytes:=16) (l:=sortNamesS g) (l':=funNamesS g) (m:=m) b2 (zgy a3 _ b3) (room (by omega)).1 (room (by omega)).2 (Nat.le_trans hm x6.1)
  have x68:Ext H4 H8:=b3.comp c3.fm fun id hid _ h=>by have:=b4 id h; omega
  have x8:Ext H H8:=a4.trans x68
  have hsl:=zd6 c2 (by rw [List.length_append]; omega)
  have hn:=hsl.n
  have hsz:=zkm hS
  rw [a1]
  simp only [Option.bind_some,b1]
  have c1':appS m 9 1 16 H6 x5 x3=some (x7,H8):=c1
  rw [c1']
  simp only [Option.bind_some]
  have hl:loopO (z2d (LCo L0) s1 s2 s3 x2 x3 x7 H8) 0=some (found (sortNamesS g++funNamesS g).length ((List.range (sortNamesS g++funNamesS g).length).findSome? (fun i=>if (fun x=>!nameS x) ((sortNamesS g++funNamesS g).getD i emptyT)=true then some ((42:Int),H8) else none))):=by
   generalize hall:sortNamesS g++funNamesS g=all at hsl hn hsz
   refine z4b all.length hsl.len _ (fun i hi=>?_) ?_
   ·unfold z2d
    obtain ⟨q,h1,h2⟩:=hsl.get hi (v:=(i:Int)) rfl
    have r0:rd deS H8 q=some all[i]:=by rw [Cel.rd h2]; rfl
    have eg:all.getD i emptyT=all[i]:=by simp [List.getD,hi]
    simp only [if_pos (show (i:Int)<(x7.n:Int) by omega),h1,Option.bind_some,r0,zfb L0 (zfk (hsz _ (List.getElem_mem hi))),eg]
    cases nameS all[i] <;> rfl
   ·unfold z2d
    rw [if_neg (by omega)]
  show ∃H',Option.bind (loopO (z2d (LCo L0) s1 s2 s3 x2 x3 x7 H8) 0) _=_∧_
  rw [hl,zfg (sortNamesS g++funNamesS g) (fun x=>!nameS x) ((42:Int),H8) emptyT]
  by_cases h42:((sortNamesS g++funNamesS g).any fun x=>!nameS x)=true
  ·have e:namesS g=42:=by unfold namesS; rw [if_pos h42]
   rw [if_pos h42,e]
   simp only [found,Option.bind_some]
   exact ⟨H8,by simp,x8⟩
  ·rw [if_neg h42]
   simp only [found,Option.bind_some]
   have m8:=Nat.le_trans hm x8.1
   obtain ⟨H9,t1,t2⟩:=zeb L0 (H:=H8) (s:=x2) (l:=sortNamesS g) (m:=m) (fun G hG=>zd6 (VecV.ext a2 (x68.trans hG)) (by omega)) m8
   have htw:∃H14,(Option.bind (z46 (LCo L0) m H8 x2) fun (x16,H17)=>if x16=true then some (H17,true) else Option.bind (z46 (LCo L0) m H17 x3) fun (x18,H19)=>some (H19,x18))=some (H14,twS (sortNamesS g)||twS (funNamesS g))∧Ext H8 H14:=by
    rw [t1]
    simp only [Option.bind_some]
    cases htw1:twS (sortNamesS g) with
    | true=>exact ⟨H9,by simp,t2⟩
    | false =>
     obtain ⟨H10,u1,u2⟩:=zeb L0 (H:=H9) (s:=x3) (l:=funNamesS g) (m:=m) (fun G hG=>zd6 (VecV.ext a3 ((x68.trans t2).trans hG)) (by omega)) (Nat.le_trans m8 t2.1)
     refine ⟨H10,?_,t2.trans u2⟩
     simp only [Bool.false_eq_true,if_false,u1,Option.bind_some,Bool.false_or]
   obtain ⟨H14,w1,w2⟩:=htw
   have x14:=x8.trans w2
   rw [w1]
   simp only [Option.bind_some]
   by_cases h41:(twS (sortNamesS g)||twS (funNamesS g))=true
   ·have e:namesS g=41:=by unfold namesS; rw [if_neg h42,if_pos h41]
    rw [if_pos h41,e]
    exact ⟨H14,by simp,x14⟩
   ·have e:namesS g=0:=by unfold namesS; rw [if_neg h42,if_neg h41]
    rw [if_neg h41,e,if_neg (by simp)]
    have m14:=Nat.le_trans hm x14.1
    obtain ⟨p,H21,p1,p2,p3,p4,p5⟩:=zbn L0 m (hS.ext x14) m14
    have x21:=x14.trans p2
    have m21:=Nat.le_trans hm x21.1
    obtain ⟨H23,q1,q2⟩:=zgd hF m21 p3 (hS.ext x21) hmany hd
    have x23:=x21.trans q2
    rw [p1]
    simp only [Option.bind_some,q1]
    by_cases ha0:allS g=0
    ·rw [if_pos ha0,if_neg (by simp [ha0])]
     have hG:=zjq hmany ha0
     have m23:=Nat.le_trans hm x23.1
     obtain ⟨id3,H25,l1,l2,l3⟩:=ze6 hF hfu hG (hS.ext x23) (p3.ext q2) m23
     have x25:=x23.trans l2
     obtain ⟨b,H27,n1,n2,n3⟩:=ziv hF hfu hG (hS.ext x25) (p3.ext (q2.trans l2)) (Nat.le_trans hm x25.1) l3
     have x27:=x25.trans n2
     rw [l1]
     simp only [Option.bind_some,n1]
     cases b with
     | true =>
      rw [if_pos (n3.1 rfl)]
      exact ⟨H27,rfl,x27⟩
     | false =>
      rw [if_neg (show ¬NestP g from fun h=>absurd (n3.2 h) (by simp))]
      obtain ⟨id,bl,H29,d1,d2,d3,d4,d5⟩:=zik hF hfu hG (hS.ext x27) (p3.ext ((q2.trans l2).trans n2)) (Nat.le_trans hm x27.1)
      rw [d1]
      simp only [Bool.false_eq_true,if_false,Option.bind_some,zew L0 d3 d4 (z78 hG)]
      refine ⟨H29,?_,x27.trans d2⟩
      by_cases ha:(bl.all fun b=>b)=true
      ·rw [ha,if_pos ((all_on d5 d4).1 ha)]
       rfl
      ·rw [if_neg fun h=>ha ((all_on d5 d4).2 h)]
       have ha':(bl.all fun b=>b)=false:=by simpa using ha
       rw [ha']
       rfl
    ·rw [if_neg ha0,if_pos ha0]
     exact ⟨H23,rfl,x23⟩
end
end Go.Proofs.YtccbilfbhecdaaaDoor
namespace Go.Proofs.YtccbilfbhecdaaaDoor
open Go Go.Abs
set_option maxRecDepth 100000
def arrO:Option Nat→Option Nat→Option Nat
 | _,none=>none
 | x,some t=>if t=1 then some 1 else x.map fun s=>t ^ s
def mulO:Option Nat→Option Nat→Option Nat
 | some a,some b=>some (a*b)
 | _,_=>none
def addO:Option Nat→Option Nat→Option Nat
 | some a,some b=>some (a+b)
 | _,_=>none
def one_ (ds:List Dat) (f:Nat→Option Nat) (k w:Int) (n:ByteArray) (l:List (Option Nat)):Option Nat :=
 if k=1 then some 2 else if k=3 then some (2 ^ w.toNat) else if k=4 then arrO (l.getD 0 none) (l.getD 1 none) else if k=6 then f (ixS ds n) else none
def cL (ds:List Dat) (f:Nat→Option Nat):Fo→List (Option Nat)
 | .nil=>[]
 | .cons k w n a r=>one_ ds f k w n (cL ds f a) :: cL ds f r
def cS (ds:List Dat) (f:Nat→Option Nat) (k w:Int) (n:ByteArray) (a:Fo):Option Nat:=one_ ds f k w n (cL ds f a)
def cC (ds:List Dat) (f:Nat→Option Nat) (l:List Sel):Option Nat:=(l.map fun x=>cS ds f x.k x.w x.sn x.a).foldr mulO (some 1)
def cD (ds:List Dat) (f:Nat→Option Nat) (l:List Con):Option Nat:=(l.map fun c=>cC ds f c.sels).foldr addO (some 0)
def leO (a b:Option Nat):Prop:=∀v,a=some v→b=some v
theorem leO.refl (a:Option Nat):leO a a:=fun _ h=>h
theorem leO.none (a:Option Nat):leO none a:=fun _ h=>by cases h
theorem zli {a a' b b':Option Nat} (ha:leO a a') (hb:leO b b'):leO (arrO a b) (arrO a' b'):=by
 intro v h
 cases b with
 | none=>cases h
 | some t =>
  rw [hb t rfl]
  simp only [arrO] at h ⊢
  by_cases h1:t=1
  ·rw [if_pos h1] at h ⊢; exact h
  ·rw [if_neg h1] at h ⊢
   cases a with
   | none=>cases h
   | some s=>rw [ha s rfl]; exact h
theorem zlj {a a' b b':Option Nat} (ha:leO a a') (hb:leO b b'):leO (mulO a b) (mulO a' b'):=by
 intro v h
 cases a with
 | none=>cases h
 | some x =>
  cases b with
  | none=>cases h
  | some y=>rw [ha x rfl,hb y rfl]; exact h
theorem zmo {a a' b b':Option Nat} (ha:leO a a') (hb:leO b b'):leO (addO a b) (addO a' b'):=by
 intro v h
 cases a with
 | none=>cases h
 | some x =>
  cases b with
  | none=>cases h
  | some y=>rw [ha x rfl,hb y rfl]; exact h
section
variable {ds:List Dat} {f f':Nat→Option Nat}
theorem zha (hf:∀i,leO (f i) (f' i)) {k w:Int} {n:ByteArray} {l l':List (Option Nat)} (hl:∀i,leO (l.getD i none) (l'.getD i none)):leO (one_ ds f k w n l) (one_ ds f' k w n l'):=by
 unfold one_
 by_cases h1:k=1
 ·rw [if_pos h1,if_pos h1]; exact .refl _
 rw [if_neg h1,if_neg h1]
 by_cases h3:k=3
 ·rw [if_pos h3,if_pos h3]; exact .refl _
 rw [if_neg h3,if_neg h3]
 by_cases h4:k=4
 ·rw [if_pos h4,if_pos h4]; exact zli (hl 0) (hl 1)
 rw [if_neg h4,if_neg h4]
 by_cases h6:k=6
 ·rw [if_pos h6,if_pos h6]; exact hf _
 rw [if_neg h6,if_neg h6]; exact .refl _
theorem zf0 (hf:∀i,leO (f i) (f' i)):∀(a:Fo) (i:Nat),leO ((cL ds f a).getD i none) ((cL ds f' a).getD i none)
 | .nil,_=>.refl _
 | .cons k w n a r,0=>zha hf (zf0 hf a)
 | .cons k w n a r,i+1=>by
  simp only [cL,List.getD_cons_succ]
  exact zf0 hf r i
theorem zpk (hf:∀i,leO (f i) (f' i)) (k w:Int) (n:ByteArray) (a:Fo):leO (cS ds f k w n a) (cS ds f' k w n a):=zha hf (zf0 hf a)
theorem zjv (hf:∀i,leO (f i) (f' i)):∀l:List Sel,leO (cC ds f l) (cC ds f' l)
 | []=>.refl _
 | x :: l=>zlj (zpk hf _ _ _ _) (zjv hf l)
theorem zj7 (hf:∀i,leO (f i) (f' i)):∀l:List Con,leO (cD ds f l) (cD ds f' l)
 | []=>.refl _
 | c :: l=>zmo (zjv hf _) (zj7 hf l)
end
def tcD (g:Sg):Nat→Nat→Option Nat
 | 0,_=>none
 | r+1,i=>if h:i<g.datas.length then cD g.datas (tcD g r) (g.datas[i]).cons else none
theorem zjb {g:Sg} {i:Nat} (h:¬i<g.datas.length):∀r,tcD g r i=none
 | 0=>rfl
 | r+1=>by simp only [tcD,dif_neg h]
theorem z8o (g:Sg):∀r i,leO (tcD g r i) (tcD g (r+1) i)
 | 0,i=>.none _
 | r+1,i=>by
  show leO (if h:i<g.datas.length then cD g.datas (tcD g r) (g.datas[i]).cons else none) (if h:i<g.datas.length then cD g.datas (tcD g (r+1)) (g.datas[i]).cons else none)
  by_cases h:i<g.datas.length
  ·rw [dif_pos h,dif_pos h]
   exact zj7 (z8o g r) _
  ·rw [dif_neg h,dif_neg h]; exact .refl _
def knN (g:Sg) (r:Nat):Nat:=(List.range g.datas.length).countP fun i=>(tcD g r i).isSome
theorem knN_le (g:Sg) (r:Nat):knN g r≤knN g (r+1):=by
 unfold knN
 refine List.countP_mono_left fun i _ h=>?_
 obtain ⟨v,hv⟩:=Option.isSome_iff_exists.1 h
 rw [z8o g r i v hv]; rfl
theorem zjt (g:Sg) (r:Nat):knN g r≤g.datas.length:=by
 unfold knN
 have:=List.countP_le_length (p:=fun i=>(tcD g r i).isSome) (l:=List.range g.datas.length)
 simpa using this
theorem zbu {α:Type} {p q:α→Bool}:∀{l:List α},(∀x∈l,p x=true→q x=true)→l.countP p=l.countP q→∀x∈l,q x=true→p x=true
 | [],_,_,x,hx,_=>by cases hx
 | y :: l,h,he,x,hx,hq=>by
  have hle:l.countP p≤l.countP q:=List.countP_mono_left fun z hz=>h z (by simp [hz])
  rw [List.countP_cons,List.countP_cons] at he
  have h0:=h y (by simp)
  have hl:l.countP p=l.countP q∧(q y=true→p y=true):=by
   cases hpy:p y with
   | true=>rw [hpy,h0 hpy] at he; simp at he; exact ⟨he,fun _=>rfl⟩
   | false =>
    cases hqy:q y with
    | true=>rw [hpy,hqy] at he; simp at he; omega
    | false=>rw [hpy,hqy] at he; simp at he; exact ⟨he,fun h=>by cases h⟩
  rcases List.mem_cons.1 hx with rfl | hx
  ·exact hl.2 hq
  ·exact zbu (fun z hz=>h z (by simp [hz])) hl.1 x hx hq
theorem zgo {g:Sg} {r:Nat} (h:knN g r=knN g (r+1)):tcD g (r+1)=tcD g r:=by
 funext i
 by_cases hi:i<g.datas.length
 ·have:=zbu (p:=fun i=>(tcD g r i).isSome) (q:=fun i=>(tcD g (r+1) i).isSome) (l:=List.range g.datas.length) (fun i _ h=>by
   obtain ⟨v,hv⟩:=Option.isSome_iff_exists.1 h
   rw [z8o g r i v hv]; rfl) h i (by simpa using hi)
  cases hq:tcD g (r+1) i with
  | none =>
   cases hp:tcD g r i with
   | none=>rfl
   | some v=>rw [z8o g r i v hp] at hq; cases hq
  | some v =>
   obtain ⟨u,hu⟩:=Option.isSome_iff_exists.1 (this (by simp [hq]))
   rw [hu]
   have:=z8o g r i u hu
   rw [hq] at this
   exact this
 ·rw [zjb hi,zjb hi]
theorem zdg {g:Sg} {r:Nat} (h:tcD g (r+1)=tcD g r):∀s,r≤s→tcD g s=tcD g r:=by
 intro s hs
 induction hs with
 | refl=>rfl
 | @step s _ ih =>
  have:tcD g (s+1)=tcD g (r+1):=by
   funext i
   show (if h:i<g.datas.length then cD g.datas (tcD g s) (g.datas[i]).cons else none)=(if h:i<g.datas.length then cD g.datas (tcD g r) (g.datas[i]).cons else none)
   rw [ih]
  exact this.trans h
theorem zfr (g:Sg):∀r,r≤knN g r∨∃s,s≤r∧tcD g (s+1)=tcD g s
 | 0=>.inl (Nat.zero_le _)
 | r+1=>by
  rcases zfr g r with h | ⟨s,h1,h2⟩
  ·by_cases e:knN g r=knN g (r+1)
   ·exact .inr ⟨r,by omega,zgo e⟩
   ·have:=knN_le g r
    exact .inl (by omega)
  ·exact .inr ⟨s,by omega,h2⟩
def Tc (g:Sg):Nat→Option Nat:=tcD g g.datas.length
theorem zln (g:Sg):∀s,g.datas.length≤s→tcD g s=Tc g:=by
 have key:tcD g (g.datas.length+1)=tcD g g.datas.length:=by
  rcases zfr g g.datas.length with h | ⟨s,h1,h2⟩
  ·refine zgo ?_
   have h1:=zjt g g.datas.length
   have h2:=zjt g (g.datas.length+1)
   have h3:=knN_le g g.datas.length
   omega
  ·rw [zdg h2 _ (by omega),zdg h2 _ h1]
 exact zdg key
theorem Tc_fix {g:Sg} {i:Nat} (h:i<g.datas.length):Tc g i=cD g.datas (Tc g) (g.datas[i]).cons:=by
 have:=congrFun (zln g (g.datas.length+1) (by omega)) i
 rw [← this]
 show (if h:i<g.datas.length then cD g.datas (tcD g g.datas.length) (g.datas[i]).cons else none)=_
 rw [dif_pos h]
 rfl
def posO (a:Option Nat):Prop:=∀v,a=some v→1≤v
theorem zo1 {a b:Option Nat} (hb:posO b):posO (arrO a b):=by
 intro v h
 cases b with
 | none=>cases h
 | some t =>
  simp only [arrO] at h
  by_cases h1:t=1
  ·rw [if_pos h1] at h; cases h; exact Nat.le_refl _
  ·rw [if_neg h1] at h
   cases a with
   | none=>cases h
   | some s=>cases h; exact Nat.pow_pos (hb t rfl)
section
variable {ds:List Dat} {f:Nat→Option Nat}
theorem zjd (hf:∀i,posO (f i)) {k w:Int} {n:ByteArray} {l:List (Option Nat)} (hl:∀i,posO (l.getD i none)):posO (one_ ds f k w n l):=by
 unfold one_
 split
 ·intro v h; cases h; omega
 split
 ·intro v h; cases h; exact Nat.pow_pos (by omega)
 split
 ·exact zo1 (hl 1)
 split
 ·exact hf _
 ·intro v h; cases h
theorem cL_pos (hf:∀i,posO (f i)):∀(a:Fo) (i:Nat),posO ((cL ds f a).getD i none)
 | .nil,_=>fun v h=>by simp [cL] at h
 | .cons k w n a r,0=>zjd hf (cL_pos hf a)
 | .cons k w n a r,i+1=>by
  simp only [cL,List.getD_cons_succ]
  exact cL_pos hf r i
theorem cS_pos (hf:∀i,posO (f i)) (k w:Int) (n:ByteArray) (a:Fo):posO (cS ds f k w n a):=zjd hf (cL_pos hf a)
theorem cC_pos (hf:∀i,posO (f i)):∀l:List Sel,posO (cC ds f l)
 | []=>fun v h=>by cases h; exact Nat.le_refl _
 | x :: l=>fun v h=>by
  have h:mulO (cS ds f x.k x.w x.sn x.a) (cC ds f l)=some v:=h
  cases h1:cS ds f x.k x.w x.sn x.a with
  | none=>rw [h1] at h; cases h
  | some a =>
   cases h2:cC ds f l with
   | none=>rw [h1,h2] at h; cases h
   | some b =>
    rw [h1,h2] at h; cases h
    exact Nat.mul_pos (cS_pos hf _ _ _ _ a h1) (cC_pos hf l b h2)
theorem cD_pos (hf:∀i,posO (f i)):∀l:List Con,l≠[]→posO (cD ds f l)
 | [],h=>absurd rfl h
 | c :: l,_=>fun v h=>by
  have h:addO (cC ds f c.sels) (cD ds f l)=some v:=h
  cases h1:cC ds f c.sels with
  | none=>rw [h1] at h; cases h
  | some a =>
   cases h2:cD ds f l with
   | none=>rw [h1,h2] at h; cases h
   | some b =>
    rw [h1,h2] at h; cases h
    have:=cC_pos hf _ a h1
    omega
end
theorem zju {g:Sg} (hG:GoodG g) {d:Dat} (hd:d∈g.datas):d.cons≠[]:=by
 have:=hG.many
 unfold manyS at this
 simp only [Bool.or_eq_false_iff] at this
 have:=List.any_eq_false.1 this.1 d hd
 unfold badD at this
 simp only [Bool.or_eq_true,decide_eq_true_eq,not_or] at this
 intro e
 rw [e] at this
 simp at this
theorem zjj {g:Sg} (hG:GoodG g):∀r i,posO (tcD g r i)
 | 0,i=>fun v h=>by cases h
 | r+1,i=>by
  show posO (if h:i<g.datas.length then cD g.datas (tcD g r) (g.datas[i]).cons else none)
  by_cases h:i<g.datas.length
  ·rw [dif_pos h]
   exact cD_pos (zjj hG r) _ (zju hG (List.getElem_mem h))
  ·rw [dif_neg h]; intro v h; cases h
theorem Tc_pos {g:Sg} (hG:GoodG g) (i:Nat):posO (Tc g i):=zjj hG _ i
theorem zia (a:Option Nat):mulO a none=none:=by cases a <;> rfl
theorem zi8 (a:Option Nat):addO a none=none:=by cases a <;> rfl
theorem zj9 {ds:List Dat} {f:Nat→Option Nat}:∀{l:List Sel} {x:Sel},x∈l→cS ds f x.k x.w x.sn x.a=none→cC ds f l=none
 | y :: l,x,h,hx=>by
  show mulO (cS ds f y.k y.w y.sn y.a) (cC ds f l)=none
  rcases List.mem_cons.1 h with rfl | h
  ·rw [hx]; rfl
  ·rw [zj9 h hx]; exact zia _
theorem zji {ds:List Dat} {f:Nat→Option Nat}:∀{l:List Con} {c:Con},c∈l→cC ds f c.sels=none→cD ds f l=none
 | y :: l,c,h,hx=>by
  show addO (cC ds f y.sels) (cD ds f l)=none
  rcases List.mem_cons.1 h with rfl | h
  ·rw [hx]; rfl
  ·rw [zji h hx]; exact zi8 _
theorem zjz {g:Sg} {i k:Nat} (h:Lean1 g i k):∃j,EdgS g i j∧(j=k∨Lean1 g j k):=by
 induction h with
 | one h=>exact ⟨_,h,.inl rfl⟩
 | more h1 h2 ih =>
  obtain ⟨j,e1,e2⟩:=ih
  refine ⟨j,e1,.inr ?_⟩
  rcases e2 with rfl | e2
  ·exact .one h2
  ·exact .more e2 h2
theorem zo4 {g:Sg} {i j k:Nat} (h:EdgS g i j) (h':Lean1 g j k):Lean1 g i k:=by
 induction h' with
 | one h1=>exact .more (.one h) h1
 | more _ h2 ih=>exact .more ih h2
theorem zl6 {g:Sg} {i j k:Nat} (h:Lean1 g i j) (h':Lean1 g j k):Lean1 g i k:=by
 induction h' with
 | one h1=>exact .more h h1
 | more _ h2 ih=>exact .more ih h2
theorem zoa {g:Sg} (hG:GoodG g) (hN:¬NestP g):∀r i,Lean1 g i i→tcD g r i=none:=by
 intro r
 induction r with
 | zero=>intro i _; rfl
 | succ r ih =>
  intro i hi
  obtain ⟨j,⟨hil,hj⟩,hji⟩:=zjz hi
  have hjj:Lean1 g j j:=by
   rcases hji with rfl | h
   ·exact hi
   ·exact zl6 h (.one ⟨hil,hj⟩)
  have hjl:j=i∨Lean1 g j i:=hji
  have hj':=hj
  unfold stD stC at hj
  simp only [List.mem_flatMap] at hj
  obtain ⟨c,hc,x,hx,hj⟩:=hj
  have hs:=hG.sel _ (List.getElem_mem hil) c hc x hx
  have hcS:cS g.datas (tcD g r) x.k x.w x.sn x.a=none:=by
   unfold dtS at hj
   by_cases h6:x.k=6
   ·rw [if_pos h6] at hj
    simp only [List.mem_singleton] at hj
    unfold cS one_
    rw [if_neg (by omega),if_neg (by omega),if_neg (by omega),if_pos h6,← hj]
    exact ih j hjj
   ·rw [if_neg h6] at hj
    exfalso
    refine hN ⟨i,hil,c,hc,x,hx,j,?_,hjl⟩
    unfold dtI
    rw [if_neg (by simp)]
    exact hj
  show (if h:i<g.datas.length then cD g.datas (tcD g r) (g.datas[i]).cons else none)=none
  rw [dif_pos hil]
  exact zji hc (zj9 hx hcS)
theorem Tc_cyc {g:Sg} (hG:GoodG g) (hN:¬NestP g) {i:Nat} (h:Lean1 g i i):Tc g i=none:=zoa hG hN _ i h
def cap (m:Nat):Option Nat→Nat
 | some v=>if v≤m then v else 0
 | none=>0
theorem cap_le (m:Nat) (a:Option Nat):cap m a≤m:=by
 cases a with
 | none=>exact Nat.zero_le _
 | some v=>simp only [cap]; split <;> omega
def tim (m a b:Nat):Nat:=if a=0∨b=0∨m / b<a then 0 else a*b
theorem z1o {m v:Nat} (h:v≤m):cap m (some v)=v:=if_pos h
theorem cap_no {m v:Nat} (h:¬v≤m):cap m (some v)=0:=if_neg h
theorem tim_z1 (m b:Nat):tim m 0 b=0:=if_pos (.inl rfl)
theorem tim_z2 (m a:Nat):tim m a 0=0:=if_pos (.inr (.inl rfl))
theorem zjm {m:Nat} {x y:Option Nat} (hx:posO x) (hy:posO y):tim m (cap m x) (cap m y)=cap m (mulO x y):=by
 cases x with
 | none=>exact tim_z1 _ _
 | some a =>
  cases y with
  | none=>exact tim_z2 _ _
  | some b =>
   have h1:=hx a rfl
   have h2:=hy b rfl
   show tim m (cap m (some a)) (cap m (some b))=cap m (some (a*b))
   by_cases ha:a≤m
   ·by_cases hb:b≤m
    ·rw [z1o ha,z1o hb]
     by_cases hd:m / b<a
     ·rw [cap_no]
      ·exact if_pos (.inr (.inr hd))
      ·intro h
       have:a≤m / b:=(Nat.le_div_iff_mul_le h2).2 h
       omega
     ·rw [z1o]
      ·exact if_neg (by omega)
      ·exact (Nat.le_div_iff_mul_le h2).1 (by omega)
    ·rw [cap_no hb,tim_z2]
     refine (cap_no fun h=>?_).symm
     have:b≤a*b:=Nat.le_mul_of_pos_left b h1
     omega
   ·rw [cap_no ha,tim_z1]
    refine (cap_no fun h=>?_).symm
    have:a≤a*b:=Nat.le_mul_of_pos_right a h2
    omega
def powN (m b:Nat):Nat→Nat
 | 0=>1
 | s+1=>tim m (powN m b s) b
theorem zhg {m t:Nat} (hm:1≤m) (ht:1≤t):∀s,powN m (cap m (some t)) s=cap m (some (t ^ s))
 | 0=>by simp [powN,cap,hm]
 | s+1=>by
  have h1:posO (some (t ^ s)):=fun v h=>by cases h; exact Nat.pow_pos ht
  have h2:posO (some t):=fun v h=>by cases h; exact ht
  simp only [powN]
  rw [zhg hm ht s,zjm h1 h2]
  rfl
theorem zbv (m:Nat):∀s,1≤s→powN m 0 s=0
 | s+1,_=>by simp [powN,tim]
end Go.Proofs.YtccbilfbhecdaaaDoor
namespace Go.Proofs.YtccbilfbhecdaaaDoor
open Go Go.Abs
set_option maxRecDepth 100000
def keyN (i:Nat):Value:=.int .i64 (i:Int)
theorem natK:KeyK Tryd.prog 3 keyN:=by
 refine ⟨⟨.int .i64,by kernel_rfl,.inl fun a b=>?_⟩,fun a b=>by kernel_rfl,fun a=>?_⟩
 ·show some ((a:Int) == (b:Int))=_
  congr 1
  by_cases h:a=b
  ·subst h; simp
  ·have e:¬((a:Int)=(b:Int)):=by omega
   rw [decide_eq_false h]
   exact beq_false_of_ne e
 ·show (((IntKind.i64 == IntKind.i64)&&((a:Int) == (a:Int))):Bool)=true
  simp
theorem und115:Tryd.prog.underlying 115=some (.map 3 3):=by kernel_rfl
end Go.Proofs.YtccbilfbhecdaaaDoor
namespace Go.Proofs.YtccbilfbhecdaaaDoor
open Go Go.Abs
set_option maxRecDepth 100000
theorem zpc {m b:Nat} {x:Option Nat} (hx:posO x) (hb:1≤b):tim m (cap m x) b=cap m (mulO x (some b)):=by
 cases x with
 | none=>exact tim_z1 _ _
 | some a =>
  have h1:=hx a rfl
  show tim m (cap m (some a)) b=cap m (some (a*b))
  by_cases ha:a≤m
  ·rw [z1o ha]
   by_cases hd:m / b<a
   ·rw [cap_no]
    ·exact if_pos (.inr (.inr hd))
    ·intro h
     have:a≤m / b:=(Nat.le_div_iff_mul_le hb).2 h
     omega
   ·rw [z1o]
    ·exact if_neg (by omega)
    ·exact (Nat.le_div_iff_mul_le hb).1 (by omega)
  ·rw [cap_no ha,tim_z1]
   refine (cap_no fun h=>?_).symm
   have:a≤a*b:=Nat.le_mul_of_pos_right a hb
   omega
theorem zhp {m:Nat} (hm:1≤m):∀s,powN m 2 s=cap m (some (2 ^ s))
 | 0=>by simp [powN,cap,hm]
 | s+1=>by
  have h1:posO (some (2 ^ s)):=fun v h=>by cases h; exact Nat.pow_pos (by omega)
  simp only [powN]
  rw [zhp hm s,zpc h1 (by omega)]
  rfl
theorem zkl (n:Nat):n<2 ^ n:=Nat.lt_two_pow_self
theorem zp3 {m:Nat} (hm:1≤m) {x y:Option Nat} (hx:posO x) (hy:posO y) :
  (if cap m y=1 then 1 else if cap m x=0 then 0 else powN m (cap m y) (cap m x))=cap m (arrO x y):=by
 have z:∀s,(if cap m x=0 then 0 else powN m 0 s)=0∨s=0:=fun s=>by
  by_cases h:s=0
  ·exact .inr h
  ·rw [zbv m s (by omega)]; simp
 cases y with
 | none =>
  show (if (0:Nat)=1 then 1 else if cap m x=0 then 0 else powN m 0 (cap m x))=0
  rw [if_neg (by omega)]
  by_cases h:cap m x=0
  ·rw [if_pos h]
  ·rw [if_neg h,zbv m _ (by omega)]
 | some t =>
  have ht:=hy t rfl
  by_cases h1:t=1
  ·subst h1
   rw [z1o hm,if_pos rfl]
   cases x <;> exact (z1o hm).symm
  ·have harr:arrO x (some t)=x.map fun s=>t ^ s:=by cases x <;> simp [arrO,h1]
   rw [harr]
   by_cases hc:t≤m
   ·rw [z1o hc,if_neg h1]
    cases x with
    | none=>rfl
    | some s =>
     have hs:=hx s rfl
     by_cases hsm:s≤m
     ·rw [z1o hsm,if_neg (by omega)]
      have:=zhg hm ht s
      rw [z1o hc] at this
      exact this
     ·rw [cap_no hsm,if_pos rfl]
      refine (cap_no fun h=>?_).symm
      have h:t ^ s≤m:=h
      have h2:=zkl s
      have h3:2 ^ s≤t ^ s:=Nat.pow_le_pow_left (by omega) s
      omega
   ·rw [cap_no hc,if_neg (by omega)]
    have e:(if cap m x=0 then 0 else powN m 0 (cap m x))=0:=by
     by_cases h:cap m x=0
     ·rw [if_pos h]
     ·rw [if_neg h,zbv m _ (by omega)]
    rw [e]
    cases x with
    | none=>rfl
    | some s =>
     have hs:=hx s rfl
     refine (cap_no fun h=>?_).symm
     have h:t ^ s≤m:=h
     have:t ^ 1≤t ^ s:=Nat.pow_le_pow_right (by omega) hs
     rw [Nat.pow_one] at this
     omega
theorem zl1 (a b c:Option Nat):mulO (mulO a b) c=mulO a (mulO b c):=by
 cases a <;> cases b <;> cases c <;> simp [mulO,Nat.mul_assoc]
theorem zla (a b c:Option Nat):addO (addO a b) c=addO a (addO b c):=by
 cases a <;> cases b <;> cases c <;> simp [addO,Nat.add_assoc]
theorem zh1 (a:Option Nat):mulO (some 1) a=a:=by cases a <;> simp [mulO]
theorem zo7 {a b:Option Nat} (ha:posO a) (hb:posO b):posO (mulO a b):=by
 intro v h
 cases a with
 | none=>cases h
 | some x =>
  cases b with
  | none=>cases h
  | some y=>cases h; exact Nat.mul_pos (ha x rfl) (hb y rfl)
open Classical in
noncomputable def rk (g:Sg) (i:Nat):Nat:=if Lean1 g i i then 0 else (List.range g.datas.length).countP fun k=>decide (Lean1 g i k)
theorem rk_lt {g:Sg} (hG:GoodG g) {i j:Nat} (hi:¬Lean1 g i i) (h:EdgS g i j):rk g j<rk g i:=by
 classical
 have hj:=edg_lt hG h
 have e:rk g i=(List.range g.datas.length).countP fun k=>decide (Lean1 g i k):=by unfold rk; rw [if_neg hi]
 by_cases hjj:Lean1 g j j
 ·have e2:rk g j=0:=by unfold rk; rw [if_pos hjj]
  rw [e2,e]
  exact List.countP_pos_iff.2 ⟨j,by simpa using hj,by simpa using Lean1.one h⟩
 ·have e2:rk g j=(List.range g.datas.length).countP fun k=>decide (Lean1 g j k):=by unfold rk; rw [if_neg hjj]
  rw [e2,e]
  have sub:∀x∈List.range g.datas.length,(fun k=>decide (Lean1 g j k)) x=true→(fun k=>decide (Lean1 g i k)) x=true:=fun x _ hx=>by
   have:Lean1 g j x:=by simpa using hx
   simpa using zo4 h this
  have hle:=List.countP_mono_left sub
  rcases Nat.lt_or_eq_of_le hle with h1 | h1
  ·exact h1
  ·have:=zbu sub h1 j (by simpa using hj) (by simpa using Lean1.one h)
   exact absurd (by simpa using this) hjj
theorem rk_le (g:Sg) (i:Nat):rk g i≤g.datas.length:=by
 classical
 unfold rk
 split
 ·exact Nat.zero_le _
 ·have:=List.countP_le_length (p:=fun k=>decide (Lean1 g i k)) (l:=List.range g.datas.length)
  simpa using this
structure CntI (H0:AH) (q p:Addr) (id3 idk mst:Nat) (g:Sg) (H:AH):Prop where
 x:Ext H0 H
 c0:Cel H (q.add 0) (.pointer (some p))
 c1:Cel H (q.add 1) (.int .i64 (mst:Int))
 c2:Cel H (q.add 2) (Sl3.v ⟨some ⟨id3,0,none⟩,g.datas.length,g.datas.length⟩)
 c3:Cel H (q.add 3) (.map (some idk))
 kn:∃F:Nat→Option Value,MapA keyN H idk F∧∀i v,F i=some v→v=.int .i64 ((cap mst (Tc g i):Nat):Int)
section
variable {m:Nat} {H0 H:AH} {q p:Addr} {id3 idk mst:Nat} {s1 s2 s3:Sl3} {g:Sg}
theorem zgt (a b:Nat):Int.tdiv (a:Int) (b:Int)=((a / b:Nat):Int):=by
 rw [Int.natCast_ediv]
 exact Int.tdiv_eq_ediv_of_nonneg (by omega)
theorem zap (c:Nat) (h1:Cel H (q.add 1) (.int .i64 (mst:Int))) (hmst:mst≤maxN) (a b:Nat):z1w (LCo c) H (some q) (a:Int) (b:Int)=some ((tim mst a b:Nat):Int):=by
 have hN:=z35
 have r1:rd (deI .i64) H (q.add 1)=some (mst:Int):=by rw [h1.rd]; rfl
 unfold z1w
 by_cases ha:a=0
 ·subst ha
  rw [tim_z1]
  simp
 ·rw [if_neg (show ¬((a:Int)=0) by omega)]
  by_cases hb:b=0
  ·subst hb
   rw [tim_z2]
   simp
  ·have hb':¬((b:Int)=0):=by omega
   rw [if_neg hb']
   simp only [Option.bind_some,r1,if_neg hb',zgt]
   have hle:mst / b≤mst:=Nat.div_le_self _ _
   by_cases hd:mst / b<a
   ·have e:tim mst a b=0:=if_pos (.inr (.inr hd))
    rw [e]
    generalize mst / b=dq at hd hle ⊢
    rw [z25 (by omega) (by omega),decide_eq_true (show (a:Int) > ((dq:Nat):Int) by omega)]
    rfl
   ·have e:tim mst a b=a*b:=if_neg (by omega)
    have hm:a*b≤mst:=(Nat.le_div_iff_mul_le (by omega)).1 (by omega)
    rw [e]
    generalize mst / b=dq at hd hle ⊢
    rw [z25 (by omega) (by omega),decide_eq_false (show ¬((a:Int) > ((dq:Nat):Int)) by omega)]
    simp only [Bool.false_eq_true,if_false]
    rw [← Int.natCast_mul]
    generalize a*b=ab at hm ⊢
    rw [z25 (by omega) (by omega)]
theorem zmq (c:Nat) (h1:Cel H (q.add 1) (.int .i64 (mst:Int))) (hmst:mst≤maxN) {k:Int} {n:ByteArray} {s:Sl3} {w:Nat} (hw:w≤4096):∀(t i:Nat),i+t=w→loopO (z1k (LCo c) H (some q) k (w:Int) n s) (((powN mst 2 i:Nat):Int),(i:Int))=some (.inl (((powN mst 2 w:Nat):Int),(w:Int))):=by
 intro t
 induction t with
 | zero =>
  intro i hi
  obtain rfl:i=w:=by omega
  refine z15 ?_
  unfold z1k
  simp only [if_neg (show ¬((i:Int)<(i:Int)) by omega)]
 | succ t ih =>
  intro i hi
  have hb:z1k (LCo c) H (some q) k (w:Int) n s (((powN mst 2 i:Nat):Int),(i:Int))=some (.next (((powN mst 2 (i+1):Nat):Int),((i+1:Nat):Int))):=by
   unfold z1k
   have:=zap c h1 hmst (powN mst 2 i) 2
   have e2:((2:Nat):Int)=2:=rfl
   rw [e2] at this
   simp only [if_pos (show (i:Int)<(w:Int) by omega),this,Option.bind_some]
   rw [zi (n:=w) (by omega) (by rw [z35]; omega)]
   rfl
  rw [zq hb]
  exact ih (i+1) (by omega)
theorem zkt (c:Nat) (h1:Cel H (q.add 1) (.int .i64 (mst:Int))) (hmst:mst≤maxN) {k w:Int} {n:ByteArray} {s:Sl3} {b fr:Nat} (hf:fr≤mst):∀(t i:Nat),i+t=fr→∃v,loopO (z13 (LCo c) (some q) (fr:Int) k w n s (b:Int) H) (((powN mst b i:Nat):Int),(i:Int))=some (.inl (((powN mst b fr:Nat):Int),v)):=by
 intro t
 induction t with
 | zero =>
  intro i hi
  obtain rfl:i=fr:=by omega
  refine ⟨(i:Int),z15 ?_⟩
  unfold z13
  simp only [if_neg (show ¬((i:Int)<(i:Int)) by omega)]
 | succ t ih =>
  intro i hi
  have ht:=zap c h1 hmst (powN mst b i) b
  by_cases hz:powN mst b (i+1)=0
  ·have stay:∀d,powN mst b (i+1+d)=0:=by
    intro d
    induction d with
    | zero=>exact hz
    | succ d ih=>show tim mst (powN mst b (i+1+d)) b=0; rw [ih,tim_z1]
   have hfr:powN mst b fr=0:=by
    have:=stay (fr - (i+1))
    rwa [show i+1+(fr - (i+1))=fr by omega] at this
   refine ⟨(i:Int),z15 ?_⟩
   unfold z13
   have hz':tim mst (powN mst b i) b=0:=hz
   rw [hz'] at ht
   simp only [if_pos (show (i:Int)<(fr:Int) by omega),ht,Option.bind_some,hfr]
   rfl
  ·obtain ⟨v,hv⟩:=ih (i+1) (by omega)
   refine ⟨v,?_⟩
   have hb:z13 (LCo c) (some q) (fr:Int) k w n s (b:Int) H (((powN mst b i:Nat):Int),(i:Int))=some (.next (((powN mst b (i+1):Nat):Int),((i+1:Nat):Int))):=by
    unfold z13
    have hz':¬(((tim mst (powN mst b i) b:Nat):Int)=0):=fun h=>hz (by show tim mst (powN mst b i) b=0; omega)
    simp only [if_pos (show (i:Int)<(fr:Int) by omega),ht,Option.bind_some,if_neg hz']
    rw [zi (n:=fr) (by omega) (by omega)]
    rfl
   rw [zq hb]
   exact hv
end
end Go.Proofs.YtccbilfbhecdaaaDoor
namespace Go.Proofs.YtccbilfbhecdaaaDoor
open Go Go.Abs
set_option maxRecDepth 100000
structure CtC (m:Nat) (H0:AH) (q p:Addr) (id3 idk mst:Nat) (s1 s2 s3:Sl3) (g:Sg):Prop where
 good:GoodG g
 nest:¬NestP g
 book:Book H0 p s1 s2 s3 g
 sig:SigA H0 s1 s2 s3 g
 lean:LeanT g H0 id3
 low:H0.next≤idk
 ne:q.block≠idk
 own:m≤idk
 one:1≤mst
 top:mst≤maxN
section
variable {m:Nat} {H0 H:AH} {q p:Addr} {id3 idk mst:Nat} {s1 s2 s3:Sl3} {g:Sg}
def SortP (m:Nat) (H0:AH) (q p:Addr) (id3 idk mst:Nat) (g:Sg) (rec_:Nat→AH→Option Addr→Int→Int→ByteArray→Sl3→Option (Int×AH)) (k w:Int) (n:ByteArray) (s:Sl3) (a:Fo):Prop :=
 ∀H,CntI H0 q p id3 idk mst g H→∃H',rec_ m H (some q) k w n s=some (((cap mst (cS g.datas (Tc g) k w n a):Nat):Int),H')∧CntI H0 q p id3 idk mst g H'∧Fm (fun i=>i=idk) H H'
theorem zft (a:Option Nat):addO (some 0) a=a:=by cases a <;> simp [addO]
theorem zpb (c:Nat) (hC:CtC m H0 q p id3 idk mst s1 s2 s3 g) {rec_:Nat→AH→Option Addr→Int→Int→ByteArray→Sl3→Option (Int×AH)} {l:List Sel} {x11 sl:Sl3} {v5 v34:Int} {n16:ByteArray} (h:SlL SelA 5 H0 sl l) (hrec:∀x∈l,∀s',SlF H0 s' x.a→SortP m H0 q p id3 idk mst g rec_ x.k x.w x.sn s' x.a) :
  ∀(t j:Nat) (v:Option Nat) (H:AH),j+t=l.length→posO v→CntI H0 q p id3 idk mst g H →
   ∃H',loopO (z1l (LCo c) rec_ m q x11 v5 v34 n16 sl) (H,((cap mst v:Nat):Int),(j:Int))=some (.inl (H',((cap mst (mulO v (cC g.datas (Tc g) (l.drop j))):Nat):Int),(l.length:Int)))∧CntI H0 q p id3 idk mst g H'∧Fm (fun i=>i=idk) H H':=by
 have hln:=h.n
 intro t
 induction t with
 | zero =>
  intro j v H hj hv hI
  obtain rfl:j=l.length:=by omega
  refine ⟨H,z15 ?_,hI,Fm.refl _ _⟩
  unfold z1l
  simp only [if_neg (show ¬((l.length:Int)<(sl.n:Int)) by omega)]
  rw [List.drop_length]
  have:mulO v (cC g.datas (Tc g) [])=v:=by cases v <;> simp [cC,mulO]
  rw [this]
 | succ t ih =>
  intro j v H hj hv hI
  have hjl:j<l.length:=by omega
  obtain ⟨q',g1,g2⟩:=h.get hjl (v:=(j:Int)) rfl
  obtain ⟨z,e1,e2,e3,e4,e5,e6⟩:=g2.ex
  have r0:rd deS H (q'.add 0)=some l[j].n:=by rw [(g2.n.ext hI.x).rd]; rfl
  have r1:rd (deI .i64) H (q'.add 1)=some l[j].k:=by rw [(e1.ext hI.x).rd]; rfl
  have r2:rd (deI .i64) H (q'.add 2)=some l[j].w:=by rw [(e2.ext hI.x).rd]; rfl
  have r3:rd deS H (q'.add 3)=some l[j].sn:=by rw [(e3.ext hI.x).rd]; rfl
  have r4:rd deSl H (q'.add 4)=some z:=by rw [(e4.ext hI.x).rd]; rfl
  obtain ⟨H1,a1,a2,a3⟩:=hrec _ (List.getElem_mem hjl) z e6 H hI
  have hx:=cS_pos (ds:=g.datas) (Tc_pos hC.good) l[j].k l[j].w l[j].sn l[j].a
  have ht:=zap (H:=H1) (q:=q) c a2.c1 hC.top (cap mst v) (cap mst (cS g.datas (Tc g) l[j].k l[j].w l[j].sn l[j].a))
  rw [zjm hv hx] at ht
  obtain ⟨H2,b1,b2,b3⟩:=ih (j+1) (mulO v (cS g.datas (Tc g) l[j].k l[j].w l[j].sn l[j].a)) H1 (by omega) (zo7 hv hx) a2
  refine ⟨H2,?_,b2,a3.comp b3 fun _ _ h=>h⟩
  have hbody:z1l (LCo c) rec_ m q x11 v5 v34 n16 sl (H,((cap mst v:Nat):Int),(j:Int))=some (.next (H1,((cap mst (mulO v (cS g.datas (Tc g) l[j].k l[j].w l[j].sn l[j].a)):Nat):Int),((j+1:Nat):Int))):=by
   unfold z1l
   simp only [if_pos (show (j:Int)<(sl.n:Int) by omega),g1,Option.bind_some,r0,r1,r2,r3,r4,a1,ht]
   rw [zi hjl h.len]
  rw [zq hbody,b1,List.drop_eq_getElem_cons hjl,zl1]
  rfl
theorem zpf (c:Nat) (hC:CtC m H0 q p id3 idk mst s1 s2 s3 g) {rec_:Nat→AH→Option Addr→Int→Int→ByteArray→Sl3→Option (Int×AH)} {l:List Con} {sc:Sl3} (h:SlL ConA 2 H0 sc l) (hrec:∀d∈l,∀x∈d.sels,∀s',SlF H0 s' x.a→SortP m H0 q p id3 idk mst g rec_ x.k x.w x.sn s' x.a) :
  ∀(t j s:Nat) (H:AH),j+t=l.length→s≤mst→CntI H0 q p id3 idk mst g H →
   ∃H',CntI H0 q p id3 idk mst g H'∧Fm (fun i=>i=idk) H H' ∧
    ((∃v,addO (some s) (cD g.datas (Tc g) (l.drop j))=some v∧v≤mst∧loopO (zo (LCo c) rec_ m q sc) (H,(s:Int),(j:Int))=some (.inl (H',(v:Int),(l.length:Int)))) ∨
     (cap mst (addO (some s) (cD g.datas (Tc g) (l.drop j)))=0∧loopO (zo (LCo c) rec_ m q sc) (H,(s:Int),(j:Int))=some (.inr (0,H')))):=by
 have hln:=h.n
 have hN:=z35
 have hone:=hC.one
 have htop:=hC.top
 intro t
 induction t with
 | zero =>
  intro j s H hj hs hI
  obtain rfl:j=l.length:=by omega
  refine ⟨H,hI,Fm.refl _ _,.inl ⟨s,?_,hs,z15 ?_⟩⟩
  ·rw [List.drop_length]; simp [cD,addO]
  ·unfold zo
   simp only [if_neg (show ¬((l.length:Int)<(sc.n:Int)) by omega)]
 | succ t ih =>
  intro j s H hj hs hI
  have hjl:j<l.length:=by omega
  obtain ⟨q',g1,g2⟩:=h.get hjl (v:=(j:Int)) rfl
  obtain ⟨z,e1,e2⟩:=g2.ex
  have r0:rd deS H (q'.add 0)=some l[j].n:=by rw [(g2.n.ext hI.x).rd]; rfl
  have r1:rd deSl H (q'.add 1)=some z:=by rw [(e1.ext hI.x).rd]; rfl
  obtain ⟨H1,a1,a2,a3⟩:=zpb c hC (x11:=sc) (v5:=(s:Int)) (v34:=(j:Int)) (n16:=l[j].n) e2 (hrec _ (List.getElem_mem hjl)) l[j].sels.length 0 (some 1) H (by omega) (fun v h=>by cases h; omega) hI
  rw [List.drop_zero,zh1,z1o hone] at a1
  have a1':(LCo c).run (z1l (LCo c) rec_ m q sc (s:Int) (j:Int) l[j].n z) (H,1,0)=_:=a1
  have rm:rd (deI .i64) H1 (q.add 1)=some (mst:Int):=by rw [a2.c1.rd]; rfl
  have hpos:=cC_pos (ds:=g.datas) (Tc_pos hC.good) l[j].sels
  have htot:addO (some s) (cD g.datas (Tc g) (l.drop j))=addO (addO (some s) (cC g.datas (Tc g) l[j].sels)) (cD g.datas (Tc g) (l.drop (j+1))):=by
   rw [List.drop_eq_getElem_cons hjl,zla]; rfl
  have hle:=cap_le mst (cC g.datas (Tc g) l[j].sels)
  have stop:(cap mst (cC g.datas (Tc g) l[j].sels)=0∨mst - cap mst (cC g.datas (Tc g) l[j].sels)<s)→cap mst (addO (some s) (cD g.datas (Tc g) (l.drop j)))=0∧loopO (zo (LCo c) rec_ m q sc) (H,(s:Int),(j:Int))=some (.inr (0,H1)):=fun hst=>by
   constructor
   ·rw [htot]
    cases hcc:cC g.datas (Tc g) l[j].sels with
    | none=>cases cD g.datas (Tc g) (l.drop (j+1)) <;> rfl
    | some u =>
     have hu:=hpos u hcc
     cases hcd:cD g.datas (Tc g) (l.drop (j+1)) with
     | none=>rfl
     | some w =>
      show cap mst (some (s+u+w))=0
      refine cap_no fun hle2=>?_
      rw [hcc] at hst
      rw [z1o (by omega)] at hst
      omega
   ·refine z2f ?_
    unfold zo
    simp only [if_pos (show (j:Int)<(sc.n:Int) by omega),g1,Option.bind_some,r0,r1,a1']
    generalize cap mst (cC g.datas (Tc g) l[j].sels)=u at hst hle
    have hcond:(if (u:Int)=0 then some true else Option.bind (rd (deI .i64) H1 (q.add 1)) fun x29=>some (decide ((s:Int) > IntKind.i64.wrap (x29 - (u:Int)))))=some true:=by
     by_cases hu:u=0
     ·subst hu; rfl
     ·rw [if_neg (by omega),rm]
      simp only [Option.bind_some]
      rw [z25 (by omega) (by omega),decide_eq_true (by omega)]
    rw [hcond]
    rfl
  by_cases hst:cap mst (cC g.datas (Tc g) l[j].sels)=0∨mst - cap mst (cC g.datas (Tc g) l[j].sels)<s
  ·exact ⟨H1,a2,a3,.inr (stop hst)⟩
  ·obtain ⟨u,hcc,hum⟩:∃u,cC g.datas (Tc g) l[j].sels=some u∧u≤mst:=by
    cases hcc:cC g.datas (Tc g) l[j].sels with
    | none=>rw [hcc] at hst; exact absurd (.inl rfl) hst
    | some u =>
     refine ⟨u,rfl,?_⟩
     rw [hcc] at hst
     rcases Nat.lt_or_ge mst u with h' | h'
     ·exact absurd (.inl (cap_no (by omega))) hst
     ·exact h'
   rw [hcc,z1o hum] at hst
   rw [hcc,z1o hum] at a1'
   obtain ⟨H2,b1,b2,b3⟩:=ih (j+1) (s+u) H1 (by omega) (by omega) a2
   have hbody:zo (LCo c) rec_ m q sc (H,(s:Int),(j:Int))=some (.next (H1,((s+u:Nat):Int),((j+1:Nat):Int))):=by
    unfold zo
    simp only [if_pos (show (j:Int)<(sc.n:Int) by omega),g1,Option.bind_some,r0,r1,a1']
    have hcond:(if (u:Int)=0 then some true else Option.bind (rd (deI .i64) H1 (q.add 1)) fun x29=>some (decide ((s:Int) > IntKind.i64.wrap (x29 - (u:Int)))))=some false:=by
     rw [if_neg (by omega),rm]
     simp only [Option.bind_some]
     rw [z25 (by omega) (by omega),decide_eq_false (by omega)]
    rw [hcond]
    simp only [Option.bind_some,Bool.false_eq_true,if_false]
    rw [zi hjl h.len,← Int.natCast_add,z25 (by omega) (by omega)]
   rw [zq hbody,htot,hcc]
   exact ⟨H2,b1,a3.comp b2 fun _ _ h=>h,b3⟩
theorem zo2 (c:Nat) (hC:CtC m H0 q p id3 idk mst s1 s2 s3 g) {rec_:Nat→AH→Option Addr→Int→Int→ByteArray→Sl3→Option (Int×AH)} {i:Nat} (hi:i<g.datas.length) (hrec:¬Lean1 g i i→∀d∈(g.datas[i]).cons,∀x∈d.sels,∀s',SlF H0 s' x.a→SortP m H0 q p id3 idk mst g rec_ x.k x.w x.sn s' x.a) (hI:CntI H0 q p id3 idk mst g H) :
  ∃H',z29 (LCo c) rec_ m H (some q) (i:Int)=some (((cap mst (Tc g i):Nat):Int),H')∧CntI H0 q p id3 idk mst g H'∧Fm (fun i=>i=idk) H H':=by
 obtain ⟨row,k1,k2⟩:=hC.lean i hi
 obtain ⟨q',b,k3,k4,k5⟩:=k2 i hi
 have r2:rd deSl H (q.add 2)=some ⟨some ⟨id3,0,none⟩,g.datas.length,g.datas.length⟩:=by rw [hI.c2.rd]; rfl
 have r3:rd deSl H ((⟨id3,0,none⟩:Addr).add (i*1))=some row:=by rw [(k1.ext hI.x).rd]; rfl
 have r4:rd deB H q'=some b:=by rw [(k4.ext hI.x).rd]; rfl
 unfold z29
 simp only [Option.bind_some,r2,z50 hi rfl,r3,k3,r4]
 cases b with
 | true =>
  simp only [if_true]
  rw [Tc_cyc hC.good hC.nest (k5.1 rfl)]
  exact ⟨H,rfl,hI,Fm.refl _ _⟩
 | false =>
  have hnc:¬Lean1 g i i:=fun h=>absurd (k5.2 h) (by simp)
  have r0:rd deP H (q.add 0)=some (some p):=by rw [hI.c0.rd]; rfl
  have hadd:∀j,(p.add 0).add j=p.add (0+j):=fun j=>add2 hC.book.c1 0 j
  have r1:rd deSl H ((p.add 0).add 1)=some s2:=by rw [hadd,(hC.book.c2.ext hI.x).rd]; rfl
  obtain ⟨qk,gk1,gk2⟩:=hC.sig.d.get hi (v:=(i:Int)) rfl
  obtain ⟨sc,gk3,hc⟩:=gk2.ex
  have r5:rd deSl H (qk.add 1)=some sc:=by rw [(gk3.ext hI.x).rd]; rfl
  obtain ⟨H',b1,b2,b3⟩:=zpf c hC hc (hrec hnc) (g.datas[i]).cons.length 0 0 H (by omega) (Nat.zero_le _) hI
  rw [List.drop_zero,zft,← Tc_fix hi] at b3
  refine ⟨H',?_,b1,b2⟩
  simp only [Bool.false_eq_true,if_false,r0,Option.bind_some,r1,gk1,r5]
  show Option.bind (loopO (zo (LCo c) rec_ m q sc) (H,((0:Nat):Int),((0:Nat):Int))) _=_
  rcases b3 with ⟨v,c1,c2,c3⟩ | ⟨c1,c3⟩
  ·rw [c3,c1,z1o c2]; rfl
  ·rw [c3,c1]; rfl
end
end Go.Proofs.YtccbilfbhecdaaaDoor
namespace Go.Proofs.YtccbilfbhecdaaaDoor
open Go Go.Abs
set_option maxRecDepth 100000
section
variable {m:Nat} {H0 H:AH} {q p:Addr} {id3 idk mst:Nat} {s1 s2 s3:Sl3} {g:Sg}
theorem CntI.known (hC:CtC m H0 q p id3 idk mst s1 s2 s3 g) (hI:CntI H0 q p id3 idk mst g H) {H':AH} (hf:Fm (fun i=>i=idk) H H') {F:Nat→Option Value} (hM:MapA keyN H' idk F) (hF:∀i v,F i=some v→v=.int .i64 ((cap mst (Tc g i):Nat):Int)):CntI H0 q p id3 idk mst g H':=by
 have hlow:=hC.low
 refine ⟨hI.x.comp hf fun id hid _ h=>by omega,hI.c0.fr hf ?_,hI.c1.fr hf ?_,hI.c2.fr hf ?_,hI.c3.fr hf ?_,F,hM,hF⟩ <;> (rw [z3e]; exact hC.ne)
theorem zn1 (c:Nat) (hC:CtC m H0 q p id3 idk mst s1 s2 s3 g):∀(R d F:Nat) (k w:Int) (n:ByteArray) (s:Sl3) (a:Fo),SlF H0 s a→shS k w n a=true→knS g.users g.datas k n a=true→a.dep≤15→a.dep<d→(∀i∈dtS g.datas k n a,rk g i<R)→40*R+2*a.dep+1≤F →
  SortP m H0 q p id3 idk mst g (zj (LCo c) F).1 k w n s a:=by
 have hN:=z35
 have hone:=hC.one
 have htop:=hC.top
 intro R
 induction R using Nat.strongRecOn with
 | ind R ihR =>
  intro d
  induction d with
  | zero=>intro F k w n s a _ _ _ _ h; omega
  | succ d ihd =>
   intro F k w n s a h hsh hkn hdp hd hrk hF H hI
   obtain ⟨F,rfl⟩:∃f,F=f+1:=⟨F - 1,by omega⟩
   have hx:=hI.x
   have rq:∀{G:AH},CntI H0 q p id3 idk mst g G→rd (deI .i64) G (q.add 1)=some (mst:Int):=fun hG=>by rw [hG.c1.rd]; rfl
   show ∃H',z2a (LCo c) (zj (LCo c) F).1 (zj (LCo c) F).2.1 (zj (LCo c) F).2.2 m H (some q) k w n s=_∧_
   unfold z2a
   have fin:∀(G:AH) (v:Nat),CntI H0 q p id3 idk mst g G→(Option.bind (some q) fun q31=>Option.bind (rd (deI .i64) G (Addr.add q31 1)) fun x32=>if (v:Int) > x32 then some ((0:Int),G) else some ((v:Int),G))=some (((cap mst (some v):Nat):Int),G):=fun G v hG=>by
    simp only [Option.bind_some,rq hG]
    by_cases hv:v≤mst
    ·rw [if_neg (by omega),z1o hv]
    ·rw [if_pos (by omega),cap_no hv]; rfl
   by_cases h1:k=1
   ·rw [if_pos h1]
    refine ⟨H,?_,hI,Fm.refl _ _⟩
    have e:cS g.datas (Tc g) k w n a=some 2:=by unfold cS one_; rw [if_pos h1]
    rw [e]
    exact fin H 2 hI
   rw [if_neg h1]
   by_cases h3:k=3
   ·have hw:1≤w∧w≤4096:=by
     rcases z9h hsh with ⟨_,h'⟩ | ⟨h',_⟩
     ·omega
     ·omega
    obtain ⟨wn,rfl⟩:∃wn:Nat,w=(wn:Int):=⟨w.toNat,by omega⟩
    rw [if_pos h3]
    have hl:=zmq c hI.c1 htop (k:=k) (n:=n) (s:=s) (w:=wn) (by omega) wn 0 (by omega)
    have hl':(LCo c).run (z1k (LCo c) H (some q) k (wn:Int) n s) (1,0)=_:=hl
    refine ⟨H,?_,hI,Fm.refl _ _⟩
    have e:cS g.datas (Tc g) k wn n a=some (2 ^ wn):=by
     unfold cS one_; rw [if_neg h1,if_pos h3]; simp
    rw [hl',e,zhp hone]
    have:=fin H (cap mst (some (2 ^ wn))) hI
    rw [z1o (cap_le _ _)] at this
    exact this
   rw [if_neg h3]
   by_cases h4:k=4
   ·rw [if_pos h4]
    rcases z9h hsh with ⟨_,h'⟩ | ⟨_,k1,w1,n1,a1,k2,w2,n2,a2,rfl,hs1,hs2⟩
    ·omega
    ·unfold knS at hkn
     rw [if_neg (by omega),if_neg (by omega)] at hkn
     simp only [knF,Bool.and_eq_true] at hkn
     have hn2:s.n=2:=h.1
     have rd0:=fun (G:AH) (hG:Ext H0 G)=>(h.2.2.ext hG).rd (s:=s) (by omega)
     obtain ⟨qa,ta,qa1,qa2,qa3,qa4,qa5,qa6,qa7,_⟩:=rd0 H hx
     obtain ⟨qz,tz,qz1,_,_,_,_,qz6,_,qz8⟩:=rd0 H0 (Fm.refl _ _)
     obtain ⟨_,_,_,_,_,_,qaS,_,_,_⟩:=rd0 H hx
     simp only [Fo.dep] at hdp hd hF
     have first:∃q0 t0,SlF H0 t0 a1∧∀G,Ext H0 G→idxA 4 s 0=some q0∧rd (deI .i64) G (q0.add 0)=some k1∧rd (deI .i64) G (q0.add 1)=some w1∧rd deS G (q0.add 2)=some n1∧rd deSl G (q0.add 3)=some t0:=by
      obtain ⟨⟨qq,ss,z1,z2,z3,z4,z5⟩,_⟩:=h.2.2
      refine ⟨qq.add (0*4),ss,⟨z3,z4,z5⟩,fun G hG=>⟨z4l z1 rfl (by omega),?_,?_,?_,?_⟩⟩
      ·rw [(z2.ck.ext hG).rd]; rfl
      ·rw [(z2.cw.ext hG).rd]; rfl
      ·rw [(z2.cn.ext hG).rd]; rfl
      ·rw [(z2.cs.ext hG).rd]; rfl
     have second:∃q0 t0,SlF H0 t0 a2∧∀G,Ext H0 G→idxA 4 s 1=some q0∧rd (deI .i64) G (q0.add 0)=some k2∧rd (deI .i64) G (q0.add 1)=some w2∧rd deS G (q0.add 2)=some n2∧rd deSl G (q0.add 3)=some t0:=by
      obtain ⟨_,⟨qq,ss,z1,z2,z3,z4,z5⟩,_⟩:=h.2.2
      refine ⟨qq.add ((0+1)*4),ss,⟨z3,z4,z5⟩,fun G hG=>⟨z4l z1 rfl (by omega),?_,?_,?_,?_⟩⟩
      ·rw [(z2.ck.ext hG).rd]; rfl
      ·rw [(z2.cw.ext hG).rd]; rfl
      ·rw [(z2.cn.ext hG).rd]; rfl
      ·rw [(z2.cs.ext hG).rd]; rfl
     obtain ⟨q0,t0,f1,f2⟩:=first
     obtain ⟨q2,t2,g1,g2⟩:=second
     have hdt:∀i,i∈dtS g.datas k1 n1 a1∨i∈dtS g.datas k2 n2 a2→i∈dtS g.datas k n (.cons k1 w1 n1 a1 (.cons k2 w2 n2 a2 .nil)):=fun i hi=>by
      unfold dtS at hi ⊢
      rw [if_neg (by omega)]
      simp only [dtF,List.append_nil,List.mem_append]
      exact hi
     obtain ⟨u0,u1,u2,u3,u4⟩:=f2 H hx
     obtain ⟨H1,b1,b2,b3⟩:=ihd F k1 w1 n1 t0 a1 f1 hs1 (by unfold knS; exact hkn.1) (by omega) (by omega) (fun i hi=>hrk i (hdt i (.inl hi))) (by omega) H hI
     obtain ⟨v0,v1,v2,v3,v4⟩:=g2 H1 b2.x
     obtain ⟨_,y1,y2,y3,y4⟩:=g2 H hx
     obtain ⟨F,rfl⟩:∃f,F=f+1:=⟨F - 1,by omega⟩
     obtain ⟨H2,d1,d2,d3⟩:=ihd F k2 w2 n2 t2 a2 g1 hs2 (by unfold knS; exact hkn.2.1) (by omega) (by omega) (fun i hi=>hrk i (hdt i (.inr hi))) (by omega) H1 b2
     have px:=cS_pos (ds:=g.datas) (Tc_pos hC.good) k1 w1 n1 a1
     have py:=cS_pos (ds:=g.datas) (Tc_pos hC.good) k2 w2 n2 a2
     have hac:=zp3 hone px py
     have e:cS g.datas (Tc g) k w n (.cons k1 w1 n1 a1 (.cons k2 w2 n2 a2 .nil))=arrO (cS g.datas (Tc g) k1 w1 n1 a1) (cS g.datas (Tc g) k2 w2 n2 a2):=by
      unfold cS one_
      rw [if_neg h1,if_neg h3,if_pos h4]
      rfl
     rw [e,← hac]
     have hxle:=cap_le mst (cS g.datas (Tc g) k1 w1 n1 a1)
     have harr:(zj (LCo c) (F+1)).2.1 m H1 (some q) ((cap mst (cS g.datas (Tc g) k1 w1 n1 a1):Nat):Int) k2 w2 n2 t2=some (((if cap mst (cS g.datas (Tc g) k2 w2 n2 a2)=1 then 1 else if cap mst (cS g.datas (Tc g) k1 w1 n1 a1)=0 then 0 else powN mst (cap mst (cS g.datas (Tc g) k2 w2 n2 a2)) (cap mst (cS g.datas (Tc g) k1 w1 n1 a1)):Nat):Int),H2):=by
      show z1y (LCo c) (zj (LCo c) F).1 m H1 (some q) ((cap mst (cS g.datas (Tc g) k1 w1 n1 a1):Nat):Int) k2 w2 n2 t2=_
      unfold z1y
      rw [d1]
      simp only [Option.bind_some]
      generalize cap mst (cS g.datas (Tc g) k2 w2 n2 a2)=bs
      generalize cap mst (cS g.datas (Tc g) k1 w1 n1 a1)=fr at hxle
      by_cases hb1:bs=1
      ·rw [if_pos (by omega),if_pos hb1]; rfl
      ·rw [if_neg (by omega),if_neg hb1]
       by_cases hf0:fr=0
       ·rw [if_pos (by omega),if_pos hf0]; rfl
       ·rw [if_neg (by omega),if_neg hf0]
        obtain ⟨v,hv⟩:=zkt c d2.c1 htop (H:=H2) (k:=k2) (w:=w2) (n:=n2) (s:=t2) (b:=bs) hxle fr 0 (by omega)
        have hv':(LCo c).run (z13 (LCo c) (some q) (fr:Int) k2 w2 n2 t2 (bs:Int) H2) (1,0)=_:=hv
        rw [hv']
        rfl
     refine ⟨H2,?_,d2,b3.comp d3 fun _ _ h=>h⟩
     simp only [u0,u1,u2,u3,u4,Option.bind_some,b1,v0,v1,v2,v3,v4,harr,y1,y2,y3,y4,if_true,Option.map_some]
   rw [if_neg h4]
   by_cases h6:k=6
   ·rw [if_pos h6]
    subst h6
    have hk:=hkn
    unfold knS at hk
    rw [if_neg (by omega),if_pos rfl] at hk
    have hlt:=ix_lt hk
    have hri:rk g (ixS g.datas n)<R:=hrk _ (by unfold dtS; rw [if_pos rfl]; simp)
    obtain ⟨idb,r1,r2⟩:=zez (hC.book.ext hx) n
    have r0:rd deP H (q.add 0)=some (some p):=by rw [hI.c0.rd]; rfl
    have rmap:∀{G:AH},CntI H0 q p id3 idk mst g G→rd deM G (q.add 3)=some (some idk):=fun hG=>by rw [hG.c3.rd]; rfl
    obtain ⟨Fk,hM,hFk⟩:=hI.kn
    have hlk:=zd8 natK und115 zero3 rfl hM (ixS g.datas n) (deI .i64)
    have hlk':lkM Tryd.prog 115 (deI .i64) H (some idk) (Value.int .i64 ((ixS g.datas n:Nat):Int))=_:=hlk
    have e:cS g.datas (Tc g) 6 w n a=Tc g (ixS g.datas n):=by
     unfold cS one_
     rw [if_neg (by omega),if_neg (by omega),if_neg (by omega),if_pos rfl]
    have capcap:cap mst (some (cap mst (Tc g (ixS g.datas n))))=cap mst (Tc g (ixS g.datas n)):=z1o (cap_le _ _)
    rw [e]
    cases hq:Fk (ixS g.datas n) with
    | some v =>
     have hv:=hFk _ _ hq
     subst hv
     rw [hq] at hlk'
     have hlk2:lkM Tryd.prog 115 (deI .i64) H (some idk) (Value.int .i64 ((ixS g.datas n:Nat):Int))=some (((cap mst (Tc g (ixS g.datas n)):Nat):Int),true):=hlk'
     refine ⟨H,?_,hI,Fm.refl _ _⟩
     simp only [Option.bind_some,r0,r1,r2,rmap hI,hlk2,if_true]
     have:=fin H (cap mst (Tc g (ixS g.datas n))) hI
     rw [capcap] at this
     exact this
    | none =>
     rw [hq] at hlk'
     have hlk2:lkM Tryd.prog 115 (deI .i64) H (some idk) (Value.int .i64 ((ixS g.datas n:Nat):Int))=some ((0:Int),false):=hlk'
     obtain ⟨F,rfl⟩:∃f,F=f+1:=⟨F - 1,by omega⟩
     obtain ⟨H1,b1,b2,b3⟩:=zo2 c hC hlt (rec_:=(zj (LCo c) F).1) (fun hnc d hd x hx s' hs'=>by
      have hs:=hC.good.sel _ (List.getElem_mem hlt) d hd x hx
      refine ihR (rk g (ixS g.datas n)) hri 16 F x.k x.w x.sn s' x.a hs' hs.sh hs.kn hs.dp (by have:=hs.dp; omega) (fun i hi=>rk_lt hC.good hnc ⟨hlt,?_⟩) (by have:=hs.dp; omega)
      unfold stD stC
      simp only [List.mem_flatMap]
      exact ⟨d,hd,x,hx,hi⟩) hI
     have b1':(zj (LCo c) (F+1)).2.2 m H (some q) ((ixS g.datas n:Nat):Int)=some (((cap mst (Tc g (ixS g.datas n)):Nat):Int),H1):=b1
     obtain ⟨F2,hM2,hF2⟩:=b2.kn
     obtain ⟨H2,c1,c2,c3,c4⟩:=zam natK und115 hM2 hC.own (ixS g.datas n) (.int .i64 ((cap mst (Tc g (ixS g.datas n)):Nat):Int))
     have c1':upM Tryd.prog m 115 H1 (some idk) (Value.int .i64 ((ixS g.datas n:Nat):Int)) (Value.int .i64 ((cap mst (Tc g (ixS g.datas n)):Nat):Int))=some H2:=c1
     have hI2:CntI H0 q p id3 idk mst g H2:=CntI.known hC b2 c3 c2 fun i v hv=>by
      split at hv
      ·rename_i e; subst e; cases hv; rfl
      ·exact hF2 i v hv
     refine ⟨H2,?_,hI2,b3.comp c3 fun _ _ h=>h⟩
     simp only [Option.bind_some,r0,r1,r2,rmap hI,hlk2,Bool.false_eq_true,if_false,b1',rmap b2,c1']
     have:=fin H2 (cap mst (Tc g (ixS g.datas n))) hI2
     rw [capcap] at this
     exact this
   ·rw [if_neg h6]
    refine ⟨H,?_,hI,Fm.refl _ _⟩
    have e:cS g.datas (Tc g) k w n a=none:=by
     unfold cS one_; rw [if_neg h1,if_neg h3,if_neg h4,if_neg h6]
    rw [e]
    have:=fin H 0 hI
    rw [z1o (Nat.zero_le _)] at this
    exact this
end
end Go.Proofs.YtccbilfbhecdaaaDoor
namespace Go.Proofs.YtccbilfbhecdaaaDoor
open Go Go.Abs
set_option maxRecDepth 100000
theorem zmg (g:Sg) (k w:Int) (n:ByteArray) (a:Fo):checkS g k w n a=0∨checkS g k w n a=3∨checkS g k w n a=40:=by
 unfold checkS wrongS
 split <;> split <;> simp_all
 split at*<;> simp_all
theorem zp6 (g:Sg):allS g=0∨allS g=3∨allS g=40:=by
 unfold allS
 cases hq:(sortsE g).findSome? (errS g) with
 | none=>exact .inl rfl
 | some e =>
  obtain ⟨y,hy,hye⟩:=List.exists_of_findSome?_eq_some hq
  rw [(err_ok hye).1]
  exact zmg g _ _ _ _
theorem zfl (g:Sg):namesS g=0∨namesS g=42∨namesS g=41:=by
 unfold namesS
 split
 ·simp
 ·split <;> simp
theorem zni {g:Sg} (h:sigS g=0∨sigS g=43):GoodG g:=by
 classical
 unfold sigS at h
 by_cases h1:manyS g=true
 ·rw [if_pos h1] at h; omega
 ·rw [if_neg h1] at h
  by_cases h2:namesS g≠0
  ·rw [if_pos h2] at h
   have:=zfl g
   omega
  ·rw [if_neg h2] at h
   by_cases h3:allS g≠0
   ·rw [if_pos h3] at h
    have:=zp6 g
    omega
   ·exact zjq (by simpa using h1) (by simpa using h3)
section
variable {H:AH} {s1 s2 s3:Sl3} {g:Sg} {L0 fuel:Nat}
end
end Go.Proofs.YtccbilfbhecdaaaDoor
namespace Go.Proofs.YtccbilfbhecdaaaDoor
open Go Go.Abs
set_option maxRecDepth 100000
theorem sig_ok {g:Sg} (h:sigS g=0):GoodG g∧¬NestP g∧∀k,k<g.datas.length→Gd g k:=by
 classical
 refine ⟨zni (.inl h),fun hn=>?_,?_⟩
 ·unfold sigS at h
  split at h
  ·omega
  ·split at h
   ·exact absurd h (by assumption)
   ·split at h
    ·exact absurd h (by assumption)
    ·omega
 ·unfold sigS at h
  split at h
  ·omega
  ·split at h
   ·exact absurd h (by assumption)
   ·split at h
    ·exact absurd h (by assumption)
    ·split at h
     ·omega
     ·split at h
      ·assumption
      ·omega
theorem zn8 {g:Sg} {k w:Int} {n:ByteArray} {a:Fo} (h:checkS g k w n a=0):shS k w n a=true∧a.dep≤15∧a.size≤255∧knS g.users g.datas k n a=true:=by
 unfold checkS at h
 split at h
 ·rename_i hw
  obtain ⟨z1,z2,z3⟩:=ze2 hw
  split at h
  ·rename_i hk
   exact ⟨z1,by omega,by omega,hk⟩
  ·cases h
 ·rename_i hw
  exact absurd h hw
section
variable {m:Nat} {H0 H:AH} {s1 s2 s3:Sl3} {g:Sg} {L0 fuel mst:Nat}
theorem zgb (hF:L0=fuel+1) (hfu:15≤fuel) (hG:GoodG g) (hN:¬NestP g) (hS:SigA H s1 s2 s3 g) (hm:m≤H.next) (h1:1≤mst) (hmst:mst≤maxN) :
  ∃q p id3 idk H4 H',z4q (LCo L0) m H s1 s2 s3 (mst:Int)=some (some q,H')∧Ext H H'∧Ext H H4∧CtC m H4 q p id3 idk mst s1 s2 s3 g∧CntI H4 q p id3 idk mst g H'∧H.next≤idk∧q.block<H'.next∧idk<H'.next:=by
 obtain ⟨p,H2,p1,p2,p3,p4,p5⟩:=zbn L0 m hS hm
 obtain ⟨id3,H4,l1,l2,l3⟩:=ze6 hF hfu hG (hS.ext p2) p3 (Nat.le_trans hm p2.1)
 have x4:=p2.trans l2
 have x6:Ext H4 (H4.push mapB):=Fm.push _ _ _
 have M6:MapA keyN (H4.push mapB) H4.next fun _=>none:=MapA.new keyN
 have n6:(H4.push mapB).next=H4.next+1:=by simp
 generalize hH6:H4.push mapB=H6 at x6 M6 n6
 have x8:Ext H6 (H6.push (pubB 117 [.pointer (some p),.int .i64 (mst:Int),Sl3.v ⟨some ⟨id3,0,none⟩,g.datas.length,g.datas.length⟩,.map (some H4.next)])):=Fm.push _ _ _
 have cel:∀(i:Nat) (v:Value),[.pointer (some p),.int .i64 (mst:Int),Sl3.v ⟨some ⟨id3,0,none⟩,g.datas.length,g.datas.length⟩,.map (some H4.next)][i]? = some v→Cel (H6.push (pubB 117 [.pointer (some p),.int .i64 (mst:Int),Sl3.v ⟨some ⟨id3,0,none⟩,g.datas.length,g.datas.length⟩,.map (some H4.next)])) ((⟨H6.next,0,none⟩:Addr).add i) v:=fun i v hv=>by
  rw [z3k]
  have:(⟨H6.next,0+i,none⟩:Addr)=⟨H6.next,i,none⟩:=by rw [Nat.zero_add]
  rw [this]
  exact Cel.push (c:=[.pointer (some p),.int .i64 (mst:Int),Sl3.v ⟨some ⟨id3,0,none⟩,g.datas.length,g.datas.length⟩,.map (some H4.next)].toArray) rfl (by simpa using hv)
 have n8:(H6.push (pubB 117 [.pointer (some p),.int .i64 (mst:Int),Sl3.v ⟨some ⟨id3,0,none⟩,g.datas.length,g.datas.length⟩,.map (some H4.next)])).next=H6.next+1:=by simp
 generalize hH8:H6.push (pubB 117 [.pointer (some p),.int .i64 (mst:Int),Sl3.v ⟨some ⟨id3,0,none⟩,g.datas.length,g.datas.length⟩,.map (some H4.next)])=H8 at x8 cel n8
 have x48:=x6.trans x8
 have:=x4.1
 refine ⟨⟨H6.next,0,none⟩,p,id3,H4.next,H4,H8,?_,x4.trans x48,x4,⟨hG,hN,p3.ext l2,hS.ext x4,l3,Nat.le_refl _,?_,by omega,h1,hmst⟩,⟨x48,cel 0 _ rfl,cel 1 _ rfl,cel 2 _ rfl,cel 3 _ rfl,_,M6.fr x8 (by omega) fun h=>h,fun i v hv=>by cases hv⟩,by omega,?_,by omega⟩
 ·unfold z4q newM newB
  rw [p1]
  simp only [Option.bind_some,l1]
  rw [hH6]
  simp only [hH8]
 ·show H6.next≠H4.next; omega
 ·show H6.next<H8.next; omega
noncomputable def countS (g:Sg) (k w:Int) (n:ByteArray) (a:Fo) (most:Int):Nat:=if most<1∨sigS g≠0∨checkS g k w n a≠0 then 0 else cap most.toNat (cS g.datas (Tc g) k w n a)
theorem zec (hF:L0=fuel+1) (hfu:15≤fuel) (hd:g.dep≤fuel) (hb:SgB g) (hS:SigA H s1 s2 s3 g) (hm:m≤H.next) {k w:Int} {n:ByteArray} {s:Sl3} {a:Fo} (h:SlF H s a) (hn:n.size≤maxS) (hda:a.dep≤fuel) (hfn:40*(g.datas.length+1)+31≤L0) {most:Int} (hmo:most<9223372036854775808) :
  ∃H',z5l (LCo L0) m H k w n s s1 s2 s3 most=some (((countS g k w n a most:Nat):Int),decide (countS g k w n a most > 0),H')∧Ext H H':=by
 have hN:=z35
 unfold z5l countS
 by_cases h1:most<1
 ·rw [if_pos h1,if_pos (show most<1∨sigS g≠0∨checkS g k w n a≠0 from .inl h1)]
  exact ⟨H,rfl,Fm.refl _ _⟩
 ·rw [if_neg h1]
  obtain ⟨H4,a1,a2⟩:=z65 hF hfu hd hb hS hm
  rw [a1]
  simp only [Option.bind_some]
  by_cases h2:sigS g=0
  ·rw [if_pos h2]
   obtain ⟨H6,b1,b2⟩:=zle L0 fuel hF (m:=m) (hS.ext a2) (Nat.le_trans hm a2.1) (h.ext a2) hn hda (k:=k) (w:=w)
   rw [b1]
   simp only [Option.bind_some]
   have x6:=a2.trans b2
   by_cases h3:checkS g k w n a=0
   ·rw [if_neg (show ¬(most<1∨sigS g≠0∨checkS g k w n a≠0) by rintro (h | h | h); exact h1 h; exact h h2; exact h h3)]
    rw [decide_eq_true h3]
    simp only [Bool.not_true,Bool.false_eq_true,if_false]
    obtain ⟨hG,hNe,_⟩:=sig_ok h2
    obtain ⟨c1,c2,c3,c4⟩:=zn8 h3
    have m6:=Nat.le_trans hm x6.1
    have hmax:Nat.max m H6.next=H6.next:=Nat.max_eq_right m6
    obtain ⟨mst,rfl⟩:∃mst:Nat,most=(mst:Int):=⟨most.toNat,by omega⟩
    obtain ⟨q,p,id3,idk,H4',H8,e1,e2,e3,e4,e5,e6,_,_⟩:=zgb (m:=H6.next) hF hfu hG hNe (hS.ext x6) (Nat.le_refl _) (mst:=mst) (by omega) (by omega)
    have e4':CtC m H4' q p id3 idk mst s1 s2 s3 g:=⟨e4.good,e4.nest,e4.book,e4.sig,e4.lean,e4.low,e4.ne,Nat.le_trans m6 e4.own,e4.one,e4.top⟩
    have x6':=x6.trans e3
    obtain ⟨H10,f1,f2,f3⟩:=zn1 L0 e4' (g.datas.length+1) 16 L0 k w n s a (h.ext x6') c1 c4 c2 (by omega) (fun i _=>by have:=rk_le g i; omega) (by omega) H8 e5
    have f1':z5s (LCo L0) m H8 (some q) k w n s=_:=f1
    have e7:=e3.1
    have e8:=e2.1
    refine ⟨H10,?_,(x6.trans e2).comp f3 fun id hid _ hw=>by have:=e6; have:=x6.1; omega⟩
    rw [hmax,e1]
    simp only [Option.bind_some,f1',Int.toNat_natCast]
    congr 3
    rw [Bool.eq_iff_iff]
    simp
   ·rw [decide_eq_false h3,if_pos (show most<1∨sigS g≠0∨checkS g k w n a≠0 from .inr (.inr h3))]
    exact ⟨H6,rfl,x6⟩
  ·rw [if_neg h2,if_pos (show most<1∨sigS g≠0∨checkS g k w n a≠0 from .inr (.inl h2))]
   exact ⟨H4,rfl,a2⟩
end
end Go.Proofs.YtccbilfbhecdaaaDoor
namespace Go.Proofs.YtccbilfbhecdaaaDoor
open Go Go.Abs
set_option maxRecDepth 100000
section
variable {m:Nat} {H0 H:AH} {q e p:Addr} {id3 idk idm:Nat} {s1 s2 s3:Sl3} {g:Sg} {L0:Nat}
structure CtE (m:Nat) (H0:AH) (q e p:Addr) (id3 idk idm:Nat) (s1 s2 s3:Sl3) (g:Sg) (L0:Nat):Prop where
 c:CtC m H0 q p id3 idk 1 s1 s2 s3 g
 low:H0.next≤idm
 nk:idm≠idk
 qm:q.block≠idm
 ek:e.block≠idk
 em:e.block≠idm
 own:m≤idm
 fu:40*(g.datas.length+1)+31≤L0
structure EndI (H0:AH) (q e p:Addr) (id3 idk idm:Nat) (g:Sg) (H:AH):Prop where
 c:CntI H0 q p id3 idk 1 g H
 e0:Cel H (e.add 0) (.pointer (some q))
 e1:Cel H (e.add 1) (.map (some idm))
 lt:idk<H.next∧idm<H.next
 kn:∃F:Nat→Option Value,MapA keyN H idm F∧∀i v,F i=some v→v=.bool (Tc g i).isSome
end
end Go.Proofs.YtccbilfbhecdaaaDoor
namespace Go.Proofs.YtccbilfbhecdaaaDoor
open Go Go.Abs
set_option maxRecDepth 100000
section
variable {H:AH} {s1 s2 s3:Sl3} {g:Sg} {L0 fuel:Nat}
theorem zfh {k w:Int} {n:ByteArray} {a:Fo} {mo:Int} (h0:¬mo<1) (h1:sigS g=0) (h2:checkS g k w n a=0):countS g k w n a mo=cap mo.toNat (cS g.datas (Tc g) k w n a):=by
 unfold countS
 rw [if_neg]
 rintro (h | h | h)
 ·exact h0 h
 ·exact h h1
 ·exact h h2
end
end Go.Proofs.YtccbilfbhecdaaaDoor
namespace Go.Proofs.YtccbilfbhecdaaaDoor
open Go Go.Abs
set_option maxRecDepth 100000
def z5f:(Bool×AH)→Value
 | (r0,_)=>(Value.bool r0)
def z5q (_:AH):(Bool×AH)→AH:=fun r=>r.2
noncomputable def B7:Code:=(Tryd.f7.body).getD .skip
noncomputable def z10 (L:LC) (m:Nat) (a0_0 a0_1 a0_2:Sl3) (_x10_0:ByteArray) (_x10_1:Sl3) (x11:Int) (x12:Bool) (_v8_15 _v62_16:Int) (_x18_0:ByteArray) (x18_1:Sl3):(AH×Int×Int)→Option (Lp (AH×Int×Int) (Bool×AH)):=fun (H19,v11_20,v69_21) =>
 if v69_21<(x18_1.n:Int) then
  Option.bind (idxA 5 x18_1 v69_21) fun p22 =>
  Option.bind (rd deS H19 (Addr.add p22 0)) fun _ =>
  Option.bind (rd (deI .i64) H19 (Addr.add p22 1)) fun x23_1 =>
  Option.bind (rd (deI .i64) H19 (Addr.add p22 2)) fun x23_2 =>
  Option.bind (rd deS H19 (Addr.add p22 3)) fun x23_3 =>
  Option.bind (rd deSl H19 (Addr.add p22 4)) fun x23_4 =>
  Option.bind (z5l L m H19 x23_1 x23_2 x23_3 x23_4 a0_0 a0_1 a0_2 1073741824) fun (x24,x25,H26) =>
  Option.bind (α:=Bool) (
   if x25=true then
    if x24<1 then
     some true
    else
     if x24=0 then none else
     some (decide (v11_20 > (IntKind.i64.wrap (Int.tdiv 1073741824 x24))))
   else
    some true) fun v91_27 =>
  if v91_27=true then
   if x12=true then
    some (.ret (false,H26))
   else
    some (.ret ((decide (x11=0)),H26))
  else
   some (.next (H26,(IntKind.i64.wrap (v11_20*x24)),(IntKind.i64.wrap (v69_21+1))))
 else
  some (.brk (H19,v11_20,v69_21))
def zaj (_L:LC) (_m:Nat) (a0_0 a0_1 a0_2:Sl3) (x10_0:ByteArray) (x10_1:Sl3) (x11:Int) (x12:Bool) (v8_15 v62_16:Int) (x18_0:ByteArray) (x18_1:Sl3):(AH×Int×Int)→KN×Lcs:=fun (_,v11_20,v69_21)=>([kI 11 v11_20,kI 69 v69_21,kL 2 0 0,kI 6 x11,kB 7 x12,kI 8 v8_15,kS 60 x10_1,kI 61 (x10_1.n:Int),kI 62 v62_16,kS 67 x18_1,kI 68 (x18_1.n:Int)],[some (33,[(Sl3.v a0_0),(Sl3.v a0_1),(Sl3.v a0_2)]),some (46,[(Value.string x10_0),(Sl3.v x10_1)]),some (50,[(Value.string x18_0),(Sl3.v x18_1)])])
noncomputable def zy (L:LC) (m:Nat) (a0_0 a0_1 a0_2:Sl3) (x10_0:ByteArray) (x10_1:Sl3) (x11:Int) (x12:Bool):(AH×Int×Int)→Option (Lp (AH×Int×Int) (Bool×AH)):=fun (H14,v8_15,v62_16) =>
 if v62_16<(x10_1.n:Int) then
  Option.bind (idxA 2 x10_1 v62_16) fun p17 =>
  Option.bind (rd deS H14 (Addr.add p17 0)) fun x18_0 =>
  Option.bind (rd deSl H14 (Addr.add p17 1)) fun x18_1 =>
  Option.bind (L.run (z10 L m a0_0 a0_1 a0_2 x10_0 x10_1 x11 x12 v8_15 v62_16 x18_0 x18_1) (H14,1,0)) fun o=>match o with
  | .inl (H28,v11_29,_) =>
   if (IntKind.i64.wrap (v8_15+v11_29)) > 1073741824 then
    if x12=true then
     some (.ret (false,H28))
    else
     some (.ret ((decide (x11=0)),H28))
   else
    some (.next (H28,(IntKind.i64.wrap (v8_15+v11_29)),(IntKind.i64.wrap (v62_16+1))))
  | .inr r=>some (.ret r)
 else
  some (.brk (H14,v8_15,v62_16))
def zaw (_L:LC) (_m:Nat) (a0_0 a0_1 a0_2:Sl3) (x10_0:ByteArray) (x10_1:Sl3) (x11:Int) (x12:Bool):(AH×Int×Int)→KN×Lcs:=fun (_,v8_15,v62_16)=>([kI 8 v8_15,kI 62 v62_16,kL 2 0 0,kI 6 x11,kB 7 x12,kS 60 x10_1,kI 61 (x10_1.n:Int)],[some (33,[(Sl3.v a0_0),(Sl3.v a0_1),(Sl3.v a0_2)]),some (46,[(Value.string x10_0),(Sl3.v x10_1)])])
noncomputable def z5g (L:LC) (m:Nat) (H:AH) (a0_0 a0_1 a0_2:Sl3) (a1:Int):Option (Bool×AH) :=
 Option.bind (z5z L H) fun x1 =>
 if x1=true then
  Option.bind (α:=(AH×Bool)) (
   Option.bind (z3j L m H a0_0 a0_1 a0_2) fun (x4,H5) =>
   if x4=0 then
    some (H5,(decide ((a0_1.n:Int)=0)))
   else
    some (H5,true)) fun (H2,v26_3) =>
  if v26_3=true then
   Option.bind (z3j L m H2 a0_0 a0_1 a0_2) fun (x6,H7) =>
   if x6=40 then
    some ((decide ((IntKind.i64.wrap ((a0_1.n:Int)+(a0_2.n:Int))) > 0)),H7)
   else
    some (true,H7)
  else
   Option.bind (if (IntKind.u64.wrap (a0_1.n:Int))=0 then none else some (Int.tmod (IntKind.u64.wrap a1) (IntKind.u64.wrap (a0_1.n:Int)))) fun x8 =>
   Option.bind (idxA 2 a0_1 x8) fun p9 =>
   Option.bind (rd deS H2 (Addr.add p9 0)) fun x10_0 =>
   Option.bind (rd deSl H2 (Addr.add p9 1)) fun x10_1 =>
   Option.bind (z5l L m H2 6 0 x10_0 Sl3.nil a0_0 a0_1 a0_2 1073741824) fun (x11,x12,H13) =>
   Option.bind (L.run (zy L m a0_0 a0_1 a0_2 x10_0 x10_1 x11 x12) (H13,0,0)) fun o=>match o with
   | .inl (H31,v8_32,_) =>
    if x12=true then
     some ((decide (x11=v8_32)),H31)
    else
     some (false,H31)
   | .inr r=>some r
 else
  some (false,H)
theorem z6j {E H L m a0_0 a0_1 a0_2 x10_0 x10_1 x11 x12 v8_15 v62_16 x18_0 x18_1} :LoopF Tryd.prog (NE.plain 1000) m E Tryd.f7 ((cfst (csnd (cfst (csnd (csnd (cfst (cfst (csnd (csnd (cfst (cfst (csnd (cfst (csnd (csnd (csnd (csnd (csnd (csnd B7)))))))))))))))))))) (zaj L m a0_0 a0_1 a0_2 x10_0 x10_1 x11 x12 v8_15 v62_16 x18_0 x18_1) (fun s=>s.1) 2 z5f (z5q H) (z10 L m a0_0 a0_1 a0_2 x10_0 x10_1 x11 x12 v8_15 v62_16 x18_0 x18_1):=by
 rintro ⟨H19,v11_20,v69_21⟩ o h
 unfold z10 at h
 try dsimp only at h
 refine WS.sq (WS.rg (RS.mS 1 [kB 70 (decide (v69_21<(x18_1.n:Int)))] (RS.dn (WS.nxt (WS.sq ?_)))))
 rcases z8 h with ⟨hp,h⟩ | ⟨hp,h⟩
 ·refine WS.fx 70 true (decide_eq_true hp) (WS.cT (WS.sk (WS.nxt (WS.sq (WS.bk 3 (WS.sq (WS.rg ?_)))))))
  obtain ⟨p22,hx,h⟩:=bind_some h
  refine RS.ix 71 48 52 (.tmp 67) (.tmp 69) hx ?_
  obtain ⟨x23_0,hx0,h⟩:=bind_some h
  obtain ⟨x23_1,hx1,h⟩:=bind_some h
  obtain ⟨x23_2,hx2,h⟩:=bind_some h
  obtain ⟨x23_3,hx3,h⟩:=bind_some h
  obtain ⟨x23_4,hx4,h⟩:=bind_some h
  refine RS.la 72 52 (.tmp 71) 5 (z7 (z0 hx0 zd) (z7 (z0 hx1 z9) (z7 (z0 hx2 z9) (z7 (z0 hx3 zd) (z7 (z0 hx4 za) zg))))) (RS.mL 2 [kL 13 3 0] ([some (33,[(Sl3.v a0_0),(Sl3.v a0_1),(Sl3.v a0_2)]),some (46,[(Value.string x10_0),(Sl3.v x10_1)]),some (50,[(Value.string x18_0),(Sl3.v x18_1)]),some (52,[(Value.string x23_0),(Value.int .i64 x23_1),(Value.int .i64 x23_2),(Value.string x23_3),(Sl3.v x23_4)])]) (RS.dn (WS.nxt (WS.sq (WS.rg (RS.mS 3 [kA 76 #[(Sl3.v a0_0),(Sl3.v a0_1),(Sl3.v a0_2)],kA 75 #[(Value.int .i64 x23_1),(Value.int .i64 x23_2),(Value.string x23_3),(Sl3.v x23_4)],kL 74 3 1] ?_))))))
  obtain ⟨⟨x24,x25,H26⟩,hx,h⟩:=bind_some h
  try dsimp only at h
  refine RS.cl (some 77) (v:=(Value.tuple #[(Value.int .i64 x24),(Value.bool x25)])) 22 #[(Value.agg #[(Value.int .i64 x23_1),(Value.int .i64 x23_2),(Value.string x23_3),(Sl3.v x23_4)]),(Value.agg #[(Sl3.v a0_0),(Sl3.v a0_1),(Sl3.v a0_2)]),(Value.int .i64 1073741824)] (zb5 hx) (RS.mS 5 [kB 15 x25,kI 14 x24,kB 79 x25,kI 78 x24,(73,.val (Value.tuple #[(Value.int .i64 x24),(Value.bool x25)]))] (RS.dn (WS.nxt (WS.sq ?_))))
  obtain ⟨v91_27,hx,h⟩:=bind_some h
  refine WS.sq ?_
  refine WS.join ([kB 91 v91_27,kL 2 0 0,kI 6 x11,kB 7 x12,kI 8 v8_15,kI 11 v11_20,kI 14 x24,kS 60 x10_1,kI 61 (x10_1.n:Int),kI 62 v62_16,kS 67 x18_1,kI 68 (x18_1.n:Int),kI 69 v69_21]) ([some (33,[(Sl3.v a0_0),(Sl3.v a0_1),(Sl3.v a0_2)]),some (46,[(Value.string x10_0),(Sl3.v x10_1)]),some (50,[(Value.string x18_0),(Sl3.v x18_1)]),some (52,[(Value.string x23_0),(Value.int .i64 x23_1),(Value.int .i64 x23_2),(Value.string x23_3),(Sl3.v x23_4)])]) H26 ?_ (fun a w hs=>WS.nxt ?_ a w hs)
  ·clear h; rename _=>h
   refine WS.rg (RS.mS 3 [kB 82 (!x25),kB 81 (!x25),kB 80 x25] ?_)
   rcases z8 h with ⟨hp,h⟩ | ⟨hp,h⟩
   ·refine RS.fx 82 false (nb_not hp) (RS.mS 4 [kB 86 (decide (x24<1)),kB 85 (decide (x24<1)),kB 84 (decide (x24<1)),kI 83 x24] ?_)
    rcases z8 h with ⟨hp,h⟩ | ⟨hp,h⟩
    ·refine RS.fx 86 true (decide_eq_true hp) (RS.mS 5 [kB 91 true,kU 90,kU 89,kU 88,kU 87] (RS.dn ?_))
     cases h
     exact fun a w hs=>(jsN (hs.sb 4))
    ·refine RS.fx 86 false (decide_eq_false hp) (RS.mS 2 [kI 88 x24,kI 87 v11_20] ?_)
     rcases z8 h with ⟨_,h⟩ | ⟨hx,h⟩
     ·cases h
     ·refine RS.o (H':=H26) (some 89) (Value.int .i64 (IntKind.i64.wrap (Int.tdiv 1073741824 x24))) (Abs.run_quo (t:=3) (u:=3) (x:=.const (Value.int .i64 1073741824)) (y:=.tmp 88) (by kernel_rfl) (by kernel_rfl) (by kernel_rfl) hx) (RS.mS 2 [kB 91 (decide (v11_20 > (IntKind.i64.wrap (Int.tdiv 1073741824 x24)))),kB 90 (decide (v11_20 > (IntKind.i64.wrap (Int.tdiv 1073741824 x24))))] (RS.dn ?_))
      cases h
      exact fun a w hs=>(jsN (hs.sb 4))
   ·refine RS.fx 82 true (z34 hp) (RS.mS 9 [kB 91 true,kU 90,kU 89,kU 88,kU 87,kB 86 true,kB 85 true,kU 84,kU 83] (RS.dn ?_))
    cases h
    exact fun a w hs=>(jsN (hs.sb 4))
  ·clear hx
   rcases z8 h with ⟨hp,h⟩ | ⟨hp,h⟩
   ·refine WS.fx 91 true hp (WS.cT (WS.sq (WS.rg (RS.mS 3 [kB 94 (!x12),kB 93 (!x12),kB 92 x12] ?_))))
    rcases z8 h with ⟨hp,h⟩ | ⟨hp,h⟩
    ·refine RS.fx 94 false (nb_not hp) (RS.mS 4 [kB 4 false,kB 97 false,kU 96,kU 95] (RS.dn (WS.nxt (WS.rt ?_))))
     cases h
     exact fun a w hs=>sqR (bkR (sqR (lsR rfl (rS hs))))
    ·refine RS.fx 94 true (z34 hp) (RS.mS 4 [kB 4 (decide (x11=0)),kB 97 (decide (x11=0)),kB 96 (decide (x11=0)),kI 95 x11] (RS.dn (WS.nxt (WS.rt ?_))))
     cases h
     exact fun a w hs=>sqR (bkR (sqR (lsR rfl (rS hs))))
   ·refine WS.fx 91 false (b_not hp) (WS.cF (WS.sk (WS.nxt (WS.rg (RS.mS 4 [kI 11 (IntKind.i64.wrap (v11_20*x24)),kI 100 (IntKind.i64.wrap (v11_20*x24)),kI 99 x24,kI 98 v11_20] (RS.dn ?_))))))
    refine fun a w hs=>bkN ((WS.nxt ?_ a w hs))
    refine WS.rg (RS.mS 2 [kI 69 (IntKind.i64.wrap (v69_21+1)),kI 101 (IntKind.i64.wrap (v69_21+1))] (RS.dn ?_))
    cases h
    exact fun a w hs=>lsN rfl (hs.sb 3)
 ·refine WS.fx 70 false (decide_eq_false hp) (WS.cF (WS.ex 2 ?_))
  cases h
  exact fun a w hs=>sqE (lsB rfl (hs.sb 3))
theorem z6u {E H L m a0_0 a0_1 a0_2 x10_0 x10_1 x11 x12} :LoopF Tryd.prog (NE.plain 1000) m E Tryd.f7 ((cfst (csnd (cfst (csnd (csnd (csnd (csnd (csnd (csnd B7)))))))))) (zaw L m a0_0 a0_1 a0_2 x10_0 x10_1 x11 x12) (fun s=>s.1) 0 z5f (z5q H) (zy L m a0_0 a0_1 a0_2 x10_0 x10_1 x11 x12):=by
 rintro ⟨H14,v8_15,v62_16⟩ o h
 unfold zy at h
 try dsimp only at h
 refine WS.sq (WS.rg (RS.mS 1 [kB 63 (decide (v62_16<(x10_1.n:Int)))] (RS.dn (WS.nxt (WS.sq ?_)))))
 rcases z8 h with ⟨hp,h⟩ | ⟨hp,h⟩
 ·refine WS.fx 63 true (decide_eq_true hp) (WS.cT (WS.sk (WS.nxt (WS.sq (WS.bk 1 (WS.sq (WS.rg ?_)))))))
  obtain ⟨p17,hx,h⟩:=bind_some h
  refine RS.ix 64 44 50 (.tmp 60) (.tmp 62) hx ?_
  obtain ⟨x18_0,hx0,h⟩:=bind_some h
  obtain ⟨x18_1,hx1,h⟩:=bind_some h
  refine RS.la 65 50 (.tmp 64) 2 (z7 (z0 hx0 zd) (z7 (z0 hx1 za) zg)) (RS.mL 2 [kL 10 2 0] ([some (33,[(Sl3.v a0_0),(Sl3.v a0_1),(Sl3.v a0_2)]),some (46,[(Value.string x10_0),(Sl3.v x10_1)]),some (50,[(Value.string x18_0),(Sl3.v x18_1)])]) (RS.dn (WS.nxt (WS.sq (WS.rg (RS.mS 1 [kI 11 1] (RS.dn (WS.nxt (WS.sq ?_)))))))))
  refine WS.sq (WS.rg (RS.mS 4 [kI 69 0,kI 68 (x18_1.n:Int),kS 67 x18_1,kL 66 2 1] (RS.dn (WS.nxt (WS.bk 2 ?_)))))
  obtain ⟨o,hl,h⟩:=bind_some h
  rcases o with ⟨H28,v11_29,v69_30⟩ | r
  ·try dsimp only at h
   refine WS.lI (z6j (L:=L) (E:=E) (m:=m) (H:=H)) (L.ok hl) 3 ?_
   clear hl
   refine fun a w hs=>bkE ((WS.nxt ?_ a w hs))
   refine WS.sq (WS.rg (RS.mS 4 [kI 8 (IntKind.i64.wrap (v8_15+v11_29)),kI 104 (IntKind.i64.wrap (v8_15+v11_29)),kI 103 v11_29,kI 102 v8_15] (RS.dn (WS.nxt (WS.sq (WS.rg (RS.mS 2 [kB 106 (decide ((IntKind.i64.wrap (v8_15+v11_29)) > 1073741824)),kI 105 (IntKind.i64.wrap (v8_15+v11_29))] (RS.dn (WS.nxt ?_)))))))))
   rcases z8 h with ⟨hp,h⟩ | ⟨hp,h⟩
   ·refine WS.fx 106 true (decide_eq_true hp) (WS.cT (WS.sq (WS.rg (RS.mS 3 [kB 109 (!x12),kB 108 (!x12),kB 107 x12] ?_))))
    rcases z8 h with ⟨hp,h⟩ | ⟨hp,h⟩
    ·refine RS.fx 109 false (nb_not hp) (RS.mS 4 [kB 4 false,kB 112 false,kU 111,kU 110] (RS.dn (WS.nxt (WS.rt ?_))))
     cases h
     exact fun a w hs=>bkR (sqR (lsR rfl (rS hs)))
    ·refine RS.fx 109 true (z34 hp) (RS.mS 4 [kB 4 (decide (x11=0)),kB 112 (decide (x11=0)),kB 111 (decide (x11=0)),kI 110 x11] (RS.dn (WS.nxt (WS.rt ?_))))
     cases h
     exact fun a w hs=>bkR (sqR (lsR rfl (rS hs)))
   ·refine WS.fx 106 false (decide_eq_false hp) (WS.cF (WS.sk ?_))
    refine fun a w hs=>bkN ((WS.nxt ?_ a w hs))
    refine WS.rg (RS.mS 2 [kI 62 (IntKind.i64.wrap (v62_16+1)),kI 113 (IntKind.i64.wrap (v62_16+1))] (RS.dn ?_))
    cases h
    exact fun a w hs=>lsN rfl (hs.sb 2)
  ·try dsimp only at h
   refine WS.lR (z6j (L:=L) (E:=E) (m:=m) (H:=H)) (L.ok hl) 3 ?_
   cases h
   exact fun a w hq=>bkR (sqR (bkR (sqR (lsR rfl hq))))
 ·refine WS.fx 63 false (decide_eq_false hp) (WS.cF (WS.ex 0 ?_))
  cases h
  exact fun a w hs=>sqE (lsB rfl (hs.sb 2))
theorem zci {L:LC} {m:Nat} {H:AH} {a0_0 a0_1 a0_2:Sl3} {a1:Int} {r:(Bool×AH)} (h:z5g L m H a0_0 a0_1 a0_2 a1=some r) :
  CallS Tryd.prog (NE.plain 1000) m 7 #[(Value.agg #[(Sl3.v a0_0),(Sl3.v a0_1),(Sl3.v a0_2)]),(Value.int .i64 a1)] H (z5f r) (z5q H r):=by
 refine CallS.mk (args:=[(Value.agg #[(Sl3.v a0_0),(Sl3.v a0_1),(Sl3.v a0_2)]),(Value.int .i64 a1)]) Tryd.func7 (B:=B7) (by kernel_rfl) (fun E _=>?_)
 unfold z5g at h
 refine WS.sq (WS.rg (RS.mL 2 [kB 4 false,kL 2 0 0] ([some (33,[(Sl3.v a0_0),(Sl3.v a0_1),(Sl3.v a0_2)])]) (RS.dn (WS.nxt (WS.sq (WS.sq (WS.rg ?_)))))))
 obtain ⟨x1,hx,h⟩:=bind_some h
 refine RS.cl (some 16) (v:=(Value.bool x1)) 17 #[] (zes hx) (RS.mS 1 [kB 17 (!x1)] (RS.dn (WS.nxt ?_)))
 rcases z8 h with ⟨hp,h⟩ | ⟨hp,h⟩
 ·refine WS.fx 17 false (nb_not hp) (WS.cF (WS.sk (WS.nxt (WS.sq ?_))))
  obtain ⟨⟨H2,v26_3⟩,hx,h⟩:=bind_some h
  try dsimp only at h
  refine WS.sq ?_
  refine WS.join ([kB 26 v26_3,kI 1 a1,kL 2 0 0]) ([some (33,[(Sl3.v a0_0),(Sl3.v a0_1),(Sl3.v a0_2)])]) H2 ?_ (fun a w hs=>WS.nxt ?_ a w hs)
  ·clear h; rename _=>h
   refine WS.rg (RS.mS 1 [kA 18 #[(Sl3.v a0_0),(Sl3.v a0_1),(Sl3.v a0_2)]] ?_)
   obtain ⟨⟨x4,H5⟩,hx,h⟩:=bind_some h
   try dsimp only at h
   refine RS.cl (some 19) (v:=(Value.int .i64 x4)) 20 #[(Value.agg #[(Sl3.v a0_0),(Sl3.v a0_1),(Sl3.v a0_2)])] (z67 hx) (RS.mS 2 [kB 21 (!decide (x4=0)),kB 20 (!decide (x4=0))] ?_)
   rcases z8 h with ⟨hp,h⟩ | ⟨hp,h⟩
   ·refine RS.fx 21 false (z76 hp) (RS.mS 5 [kB 26 (decide ((a0_1.n:Int)=0)),kB 25 (decide ((a0_1.n:Int)=0)),kI 24 (a0_1.n:Int),kS 23 a0_1,kL 22 0 1] (RS.dn ?_))
    cases h
    exact fun a w hs=>(jsN (hs.sb 1))
   ·refine RS.fx 21 true (z66 hp) (RS.mS 5 [kB 26 true,kU 25,kU 24,kU 23,kU 22] (RS.dn ?_))
    cases h
    exact fun a w hs=>(jsN (hs.sb 1))
  ·clear hx
   rcases z8 h with ⟨hp,h⟩ | ⟨hp,h⟩
   ·refine WS.fx 26 true hp (WS.cT (WS.sq (WS.rg (RS.mS 1 [kA 27 #[(Sl3.v a0_0),(Sl3.v a0_1),(Sl3.v a0_2)]] ?_))))
    obtain ⟨⟨x6,H7⟩,hx,h⟩:=bind_some h
    try dsimp only at h
    refine RS.cl (some 28) (v:=(Value.int .i64 x6)) 20 #[(Value.agg #[(Sl3.v a0_0),(Sl3.v a0_1),(Sl3.v a0_2)])] (z67 hx) (RS.mS 2 [kB 30 (!decide (x6=40)),kB 29 (!decide (x6=40))] ?_)
    rcases z8 h with ⟨hp,h⟩ | ⟨hp,h⟩
    ·refine RS.fx 30 false (z76 hp) (RS.mS 10 [kB 4 (decide ((IntKind.i64.wrap ((a0_1.n:Int)+(a0_2.n:Int))) > 0)),kB 39 (decide ((IntKind.i64.wrap ((a0_1.n:Int)+(a0_2.n:Int))) > 0)),kB 38 (decide ((IntKind.i64.wrap ((a0_1.n:Int)+(a0_2.n:Int))) > 0)),kI 37 (IntKind.i64.wrap ((a0_1.n:Int)+(a0_2.n:Int))),kI 36 (a0_2.n:Int),kS 35 a0_2,kL 34 0 2,kI 33 (a0_1.n:Int),kS 32 a0_1,kL 31 0 1] (RS.dn (WS.nxt (WS.rt ?_))))
     cases h
     exact fun a w hs=>sqR (rtR (rS hs))
    ·refine RS.fx 30 true (z66 hp) (RS.mS 10 [kB 4 true,kB 39 true,kU 38,kU 37,kU 36,kU 35,kU 34,kU 33,kU 32,kU 31] (RS.dn (WS.nxt (WS.rt ?_))))
     cases h
     exact fun a w hs=>sqR (rtR (rS hs))
   ·refine WS.fx 26 false (b_not hp) (WS.cF (WS.sk (WS.nxt (WS.sq ?_))))
    obtain ⟨x8,hx_8,h⟩:=bind_some h
    obtain ⟨p9,hx_9,h⟩:=bind_some h
    obtain ⟨x10_0,hx0_10,h⟩:=bind_some h
    obtain ⟨x10_1,hx1_10,h⟩:=bind_some h
    refine WS.toone ([kL 2 0 0,kL 5 1 0]) ([some (33,[(Sl3.v a0_0),(Sl3.v a0_1),(Sl3.v a0_2)]),some (46,[(Value.string x10_0),(Sl3.v x10_1)])]) H2 ?_ ?_
    ·clear h
     refine WS.dr [0,1,4,5] [0,1,0,4,0,16,48,112,252,511,1023,0,4095] 13 (fun hcl=>?_)
     refine DA.tL 0 (some 40) (.loc 0 1) (DA.tL 1 (some 41) (.val (Sl3.v a0_1)) (DA.tL 4 (some 44) (.loc 0 1) (DA.tL 5 (some 45) (.val (Sl3.v a0_1)) (DA.tP 2 (some 42) (Value.int .i64 a1) (DA.restart [0,1,3,4,5,6] (by kernel_rfl) (DA.tK 3 (some 43) (Value.int .u64 (IntKind.u64.wrap a1)) (DA.tK 6 (some 46) (Value.int .i64 (a0_1.n:Int)) (DA.restart [0,1,3,4,5,6,7] (by kernel_rfl) (DA.tK 7 (some 47) (Value.int .u64 (IntKind.u64.wrap (a0_1.n:Int))) ?_)))))))))
     refine DA.two 8 11 (by kernel_rfl) ?_ ?_
     ·refine DA.aHk (H':=H2) 8 (some 48) true (Value.int .u64 x8) (Abs.run_brem (t:=47) (u:=47) (x:=.tmp 43) (y:=.tmp 47) (by kernel_rfl) (by kernel_rfl) (by kernel_rfl) hx_8) (DA.tPx 9 (some 49) (Value.pointer (some p9)) (Abs.det_idx (s:=a0_1) (k:=.u64) (t:=30) (e:=46) (x:=.tmp 41) (y:=.tmp 48) (by kernel_rfl) (by kernel_rfl) (by kernel_rfl) (by kernel_rfl) (by kernel_rfl) hx_9) (DA.restart [0,1,3,4,5,6,7,10] (by kernel_rfl) (DA.tD 10 (some 50) (Value.agg #[(Value.string x10_0),(Sl3.v x10_1)]) (Abs.det_loadA (t:=46) (x:=.tmp 49) (a:=p9) (k:=2) (by kernel_rfl) (by kernel_rfl) (by kernel_rfl) (by kernel_rfl) (z7 (z0 hx0_10 zd) (z7 (z0 hx1_10 za) zg))) (DA.on 11 (DA.aL 11 (some 5) (.loc 1 0) ([some (33,[(Sl3.v a0_0),(Sl3.v a0_1),(Sl3.v a0_2)]),some (46,[(Value.string (⟨#[]⟩:ByteArray)),(Sl3.v Sl3.nil)])]) false (DA.on 12 (DA.aL 12 none (.val undef) ([some (33,[(Sl3.v a0_0),(Sl3.v a0_1),(Sl3.v a0_2)]),some (46,[(Value.string x10_0),(Sl3.v x10_1)])]) false (DA.dn ?_))))))))
      exact fun a w hs=>jsN (hs.sb 2)
     ·refine DA.aL 11 (some 5) (.loc 1 0) ([some (33,[(Sl3.v a0_0),(Sl3.v a0_1),(Sl3.v a0_2)]),some (46,[(Value.string (⟨#[]⟩:ByteArray)),(Sl3.v Sl3.nil)])]) true (DA.on 8 (DA.aHk (H':=H2) 8 (some 48) false (Value.int .u64 x8) (Abs.run_brem (t:=47) (u:=47) (x:=.tmp 43) (y:=.tmp 47) (by kernel_rfl) (by kernel_rfl) (by kernel_rfl) hx_8) (DA.tPx 9 (some 49) (Value.pointer (some p9)) (Abs.det_idx (s:=a0_1) (k:=.u64) (t:=30) (e:=46) (x:=.tmp 41) (y:=.tmp 48) (by kernel_rfl) (by kernel_rfl) (by kernel_rfl) (by kernel_rfl) (by kernel_rfl) hx_9) (DA.on 10 (DA.aH (H':=H2) 10 (some 50) (Value.agg #[(Value.string x10_0),(Sl3.v x10_1)]) (Abs.run_loadAg (t:=46) (x:=.tmp 49) (a:=p9) (k:=2) (by kernel_rfl) (by kernel_rfl) (by kernel_rfl) (by kernel_rfl) (z7 (z0 hx0_10 zd) (z7 (z0 hx1_10 za) zg))) (DA.on 12 (DA.aL 12 none (.val undef) ([some (33,[(Sl3.v a0_0),(Sl3.v a0_1),(Sl3.v a0_2)]),some (46,[(Value.string x10_0),(Sl3.v x10_1)])]) false (DA.dn ?_))))))))
      exact fun a w hs=>jsN (hs.sb 2)
    ·refine WS.nxt (WS.sq (WS.rg (RS.mS 4 [kA 55 #[(Sl3.v a0_0),(Sl3.v a0_1),(Sl3.v a0_2)],kA 54 #[(Value.int .i64 6),(Value.int .i64 0),(Value.string x10_0),(Sl3.v Sl3.nil)],kT 53 x10_0,kL 52 1 0] ?_)))
     obtain ⟨⟨x11,x12,H13⟩,hx,h⟩:=bind_some h
     try dsimp only at h
     refine RS.cl (some 56) (v:=(Value.tuple #[(Value.int .i64 x11),(Value.bool x12)])) 22 #[(Value.agg #[(Value.int .i64 6),(Value.int .i64 0),(Value.string x10_0),(Sl3.v Sl3.nil)]),(Value.agg #[(Sl3.v a0_0),(Sl3.v a0_1),(Sl3.v a0_2)]),(Value.int .i64 1073741824)] (zb5 hx) (RS.mS 5 [kB 7 x12,kI 6 x11,kB 58 x12,kI 57 x11,(51,.val (Value.tuple #[(Value.int .i64 x11),(Value.bool x12)]))] (RS.dn (WS.nxt (WS.sq (WS.rg (RS.mS 1 [kI 8 0] (RS.dn (WS.nxt (WS.sq ?_)))))))))
     refine WS.sq (WS.rg (RS.mS 4 [kI 62 0,kI 61 (x10_1.n:Int),kS 60 x10_1,kL 59 1 1] (RS.dn (WS.nxt (WS.bk 0 ?_)))))
     obtain ⟨o,hl,h⟩:=bind_some h
     rcases o with ⟨H31,v8_32,v62_33⟩ | r
     ·try dsimp only at h
      refine WS.lI (z6u (L:=L) (E:=E) (m:=m) (H:=H)) (L.ok hl) 2 ?_
      clear hl
      refine fun a w hs=>bkE ((WS.nxt ?_ a w hs))
      refine WS.sq (WS.rg (RS.mS 2 [kB 115 x12,kB 114 x12] ?_))
      rcases z8 h with ⟨hp,h⟩ | ⟨hp,h⟩
      ·refine RS.fx 115 true hp (RS.mS 5 [kB 4 (decide (x11=v8_32)),kB 119 (decide (x11=v8_32)),kB 118 (decide (x11=v8_32)),kI 117 v8_32,kI 116 x11] (RS.dn (WS.nxt (WS.rt ?_))))
       cases h
       exact fun a w hs=>rtR (rS hs)
      ·refine RS.fx 115 false (b_not hp) (RS.mS 5 [kB 4 false,kB 119 false,kU 118,kU 117,kU 116] (RS.dn (WS.nxt (WS.rt ?_))))
       cases h
       exact fun a w hs=>rtR (rS hs)
     ·try dsimp only at h
      refine WS.lR (z6u (L:=L) (E:=E) (m:=m) (H:=H)) (L.ok hl) 2 ?_
      cases h
      exact fun a w hq=>bkR (sqR (rtR hq))
 ·refine WS.fx 17 true (z34 hp) (WS.cT (WS.sq (WS.rg (RS.mS 1 [kB 4 false] (RS.dn (WS.nxt (WS.rt ?_)))))))
  cases h
  exact fun a w hs=>sqR (rtR (rS hs))
end Go.Proofs.YtccbilfbhecdaaaDoor
namespace Go.Proofs.YtccbilfbhecdaaaDoor
open Go Go.Abs
set_option maxRecDepth 100000
def MSS:Nat:=1073741824
theorem zh9 {M:Nat} {x:Option Nat} (hx:posO x):cap M x=0↔∀v,x=some v→M<v:=by
 cases x with
 | none=>simp [cap]
 | some v =>
  have:=hx v rfl
  constructor
  ·intro h u hu
   cases hu
   by_cases hv:v≤M
   ·rw [z1o hv] at h; omega
   ·omega
  ·intro h
   have:=h v rfl
   exact cap_no (by omega)
theorem zpe {M:Nat} {x:Option Nat} (h:cap M x > 0):∃v,x=some v∧v≤M∧cap M x=v:=by
 cases x with
 | none=>exact absurd h (Nat.lt_irrefl _)
 | some v =>
  by_cases hv:v≤M
  ·exact ⟨v,rfl,hv,z1o hv⟩
  ·rw [cap_no hv] at h; omega
section
variable {ds:List Dat} {f:Nat→Option Nat}
theorem cD_big (hf:∀i,posO (f i)) {M:Nat}:∀{l:List Con} {c:Con},c∈l→cap M (cC ds f c.sels)=0→cap M (cD ds f l)=0
 | y :: l,c,h,hx=>by
  show cap M (addO (cC ds f y.sels) (cD ds f l))=0
  rcases List.mem_cons.1 h with rfl | h
  ·have:=(zh9 (cC_pos hf _)).1 hx
   cases h1:cC ds f c.sels with
   | none=>rfl
   | some u =>
    have hu:=this u h1
    cases h2:cD ds f l with
    | none=>rfl
    | some v =>
     show cap M (some (u+v))=0
     exact cap_no (by omega)
  ·have ih:=cD_big hf h hx
   cases h1:cC ds f y.sels with
   | none=>rfl
   | some u =>
    cases h2:cD ds f l with
    | none=>rfl
    | some v =>
     show cap M (some (u+v))=0
     refine cap_no fun hle=>?_
     rw [h2,z1o (by omega)] at ih
     have:=cD_pos hf l (fun e=>by rw [e] at h; cases h) v h2
     omega
end
section
variable {m:Nat} {H0 H:AH} {s1 s2 s3:Sl3} {g:Sg} {L0 fuel:Nat}
theorem zpn (hF:L0=fuel+1) (hfu:15≤fuel) (hd:g.dep≤fuel) (hb:SgB g) (hS:SigA H0 s1 s2 s3 g) (hm:m≤H0.next) (hfn:40*(g.datas.length+1)+31≤L0) (hsig:sigS g=0) {l:List Sel} (hl:∀x∈l,SelG g x∧x.a.dep≤fuel) {cnt:Nat} (hcnt:cap MSS (cC g.datas (Tc g) l)=0→cnt=0) {x0:ByteArray} {x1 sl:Sl3} {v8 v62:Int} {n18:ByteArray} (h:SlL SelA 5 H0 sl l) :
  ∀(t j P:Nat) (H:AH),j+t=l.length→P≤MSS→1≤P→mulO (some P) (cC g.datas (Tc g) (l.drop j))=cC g.datas (Tc g) l→Ext H0 H →
   ∃H',Ext H0 H'∧((∃v,cC g.datas (Tc g) l=some v∧v≤MSS∧loopO (z10 (LCo L0) m s1 s2 s3 x0 x1 (cnt:Int) (decide (cnt > 0)) v8 v62 n18 sl) (H,(P:Int),(j:Int))=some (.inl (H',(v:Int),(l.length:Int)))) ∨
    loopO (z10 (LCo L0) m s1 s2 s3 x0 x1 (cnt:Int) (decide (cnt > 0)) v8 v62 n18 sl) (H,(P:Int),(j:Int))=some (.inr (true,H'))):=by
 have hln:=h.n
 have hM:MSS=1073741824:=rfl
 have hTp:=Tc_pos (sig_ok hsig).1
 intro t
 induction t with
 | zero =>
  intro j P H hj hP h1 hfull hx
  obtain rfl:j=l.length:=by omega
  rw [List.drop_length] at hfull
  refine ⟨H,hx,.inl ⟨P,by rw [← hfull]; simp [cC,mulO],hP,z15 ?_⟩⟩
  unfold z10
  simp only [if_neg (show ¬((l.length:Int)<(sl.n:Int)) by omega)]
 | succ t ih =>
  intro j P H hj hP h1 hfull hx
  have hjl:j<l.length:=by omega
  obtain ⟨q',g1,g2⟩:=h.get hjl (v:=(j:Int)) rfl
  obtain ⟨z,e1,e2,e3,e4,e5,e6⟩:=g2.ex
  have r0:rd deS H (q'.add 0)=some l[j].n:=by rw [(g2.n.ext hx).rd]; rfl
  have r1:rd (deI .i64) H (q'.add 1)=some l[j].k:=by rw [(e1.ext hx).rd]; rfl
  have r2:rd (deI .i64) H (q'.add 2)=some l[j].w:=by rw [(e2.ext hx).rd]; rfl
  have r3:rd deS H (q'.add 3)=some l[j].sn:=by rw [(e3.ext hx).rd]; rfl
  have r4:rd deSl H (q'.add 4)=some z:=by rw [(e4.ext hx).rd]; rfl
  obtain ⟨hs,hdx⟩:=hl _ (List.getElem_mem hjl)
  have hck:checkS g l[j].k l[j].w l[j].sn l[j].a=0:=by
   have hsz:=hs.sz
   have hdp:=hs.dp
   have f1:fewS l[j].a=true:=by unfold fewS; exact decide_eq_true (by omega)
   unfold checkS wrongS; rw [if_pos f1,if_pos hs.sh,if_pos rfl,if_pos hs.kn]
  obtain ⟨H1,a1,a2⟩:=zec (m:=m) hF hfu hd hb (hS.ext hx) (Nat.le_trans hm hx.1) (e6.ext hx) e5 hdx hfn (k:=l[j].k) (w:=l[j].w) (most:=1073741824) (by omega)
  have hc:=zfh (g:=g) (mo:=1073741824) (by omega) hsig hck
  have eM:(1073741824:Int).toNat=MSS:=rfl
  rw [eM] at hc
  rw [hc] at a1
  have hxp:=cS_pos (ds:=g.datas) hTp l[j].k l[j].w l[j].sn l[j].a
  have hrest:=cC_pos (ds:=g.datas) hTp (l.drop (j+1))
  have hcl:cC g.datas (Tc g) (l.drop j)=mulO (cS g.datas (Tc g) l[j].k l[j].w l[j].sn l[j].a) (cC g.datas (Tc g) (l.drop (j+1))):=by rw [List.drop_eq_getElem_cons hjl]; rfl
  have x1':=hx.trans a2
  have stop:cap MSS (cC g.datas (Tc g) l)=0→(∀v91,v91=true→(if v91=true then (if decide (cnt > 0)=true then some (Lp.ret (S:=AH×Int×Int) (false,H1)) else some (.ret (decide ((cnt:Int)=0),H1))) else none)=some (.ret (true,H1))):=fun hz v91 hv=>by
   have:=hcnt hz
   subst this hv
   rfl
  by_cases hc0:cap MSS (cS g.datas (Tc g) l[j].k l[j].w l[j].sn l[j].a)=0
  ·have hz:cap MSS (cC g.datas (Tc g) l)=0:=by
    rw [← hfull,hcl]
    have:=(zh9 hxp).1 hc0
    cases h2:cS g.datas (Tc g) l[j].k l[j].w l[j].sn l[j].a with
    | none=>rfl
    | some u =>
     have hu:=this u h2
     cases h3:cC g.datas (Tc g) (l.drop (j+1)) with
     | none=>rfl
     | some w =>
      show cap MSS (some (P*(u*w)))=0
      have hw:=hrest w h3
      refine cap_no fun hle=>?_
      have b1:u*1≤u*w:=Nat.mul_le_mul_left _ hw
      have b2:1*(u*w)≤P*(u*w):=Nat.mul_le_mul_right _ h1
      omega
   have hcn:=hcnt hz
   subst hcn
   refine ⟨H1,x1',.inr (z2f ?_)⟩
   unfold z10
   simp only [if_pos (show (j:Int)<(sl.n:Int) by omega),g1,Option.bind_some,r0,r1,r2,r3,r4,a1,hc0]
   rfl
  ·obtain ⟨u,hu,huM,huc⟩:=zpe (M:=MSS) (x:=cS g.datas (Tc g) l[j].k l[j].w l[j].sn l[j].a) (by omega)
   have hu1:=hxp u hu
   rw [huc] at a1
   have hd1:decide (u > 0)=true:=decide_eq_true (by omega)
   have htd:Int.tdiv 1073741824 (u:Int)=((MSS / u:Nat):Int):=zgt 1073741824 u
   have hdiv:MSS / u≤MSS:=Nat.div_le_self _ _
   have hu0:¬((u:Int)=0):=by omega
   have hul:¬((u:Int)<1):=by omega
   by_cases hgt:MSS / u<P
   ·have hz:cap MSS (cC g.datas (Tc g) l)=0:=by
     rw [← hfull,hcl,hu]
     cases h3:cC g.datas (Tc g) (l.drop (j+1)) with
     | none=>rfl
     | some w =>
      show cap MSS (some (P*(u*w)))=0
      have hw:=hrest w h3
      refine cap_no fun hle=>?_
      have b1:P*(u*1)≤P*(u*w):=Nat.mul_le_mul_left _ (Nat.mul_le_mul_left _ hw)
      rw [Nat.mul_one] at b1
      have:=(Nat.le_div_iff_mul_le (show 0<u by omega)).2 (Nat.le_trans b1 hle)
      omega
    have hcn:=hcnt hz
    subst hcn
    refine ⟨H1,x1',.inr (z2f ?_)⟩
    unfold z10
    simp only [if_pos (show (j:Int)<(sl.n:Int) by omega),g1,Option.bind_some,r0,r1,r2,r3,r4,a1,hd1,if_true,if_neg hul,if_neg hu0,htd]
    generalize MSS / u=dq at hgt hdiv ⊢
    rw [z25 (by omega) (by omega),decide_eq_true (by omega)]
    rfl
   ·have hPu:P*u≤MSS:=(Nat.le_div_iff_mul_le (show 0<u by omega)).1 (by omega)
    obtain ⟨H2,b1,b2⟩:=ih (j+1) (P*u) H1 (by omega) hPu (Nat.mul_pos h1 hu1) (by rw [← hfull,hcl,hu]; cases cC g.datas (Tc g) (l.drop (j+1)) <;> simp [mulO,Nat.mul_assoc]) x1'
    have hbody:z10 (LCo L0) m s1 s2 s3 x0 x1 (cnt:Int) (decide (cnt > 0)) v8 v62 n18 sl (H,(P:Int),(j:Int))=some (.next (H1,((P*u:Nat):Int),((j+1:Nat):Int))):=by
     unfold z10
     simp only [if_pos (show (j:Int)<(sl.n:Int) by omega),g1,Option.bind_some,r0,r1,r2,r3,r4,a1,hd1,if_true,if_neg hul,if_neg hu0,htd]
     rw [← Int.natCast_mul]
     generalize P*u=pu at hPu ⊢
     generalize MSS / u=dq at hgt hdiv ⊢
     rw [z25 (by omega) (by omega),decide_eq_false (by omega)]
     simp only [Bool.false_eq_true,if_false]
     rw [z25 (by omega) (by omega),zi hjl h.len]
    rw [zq hbody]
    exact ⟨H2,b1,b2⟩
theorem zoo (hF:L0=fuel+1) (hfu:15≤fuel) (hd:g.dep≤fuel) (hb:SgB g) (hS:SigA H0 s1 s2 s3 g) (hm:m≤H0.next) (hfn:40*(g.datas.length+1)+31≤L0) (hsig:sigS g=0) {l:List Con} (hl:∀c∈l,∀x∈c.sels,SelG g x∧x.a.dep≤fuel) {cnt:Nat} (hcnt:cap MSS (cD g.datas (Tc g) l)=0→cnt=0) {x0:ByteArray} {sc:Sl3} (h:SlL ConA 2 H0 sc l) :
  ∀(t j S:Nat) (H:AH),j+t=l.length→S≤MSS→addO (some S) (cD g.datas (Tc g) (l.drop j))=cD g.datas (Tc g) l→Ext H0 H →
   ∃H',Ext H0 H'∧((∃v,cD g.datas (Tc g) l=some v∧v≤MSS∧loopO (zy (LCo L0) m s1 s2 s3 x0 sc (cnt:Int) (decide (cnt > 0))) (H,(S:Int),(j:Int))=some (.inl (H',(v:Int),(l.length:Int)))) ∨
    loopO (zy (LCo L0) m s1 s2 s3 x0 sc (cnt:Int) (decide (cnt > 0))) (H,(S:Int),(j:Int))=some (.inr (true,H'))):=by
 have hln:=h.n
 have hM:MSS=1073741824:=rfl
 have hTp:=Tc_pos (sig_ok hsig).1
 intro t
 induction t with
 | zero =>
  intro j S H hj hP hfull hx
  obtain rfl:j=l.length:=by omega
  rw [List.drop_length] at hfull
  refine ⟨H,hx,.inl ⟨S,by rw [← hfull]; simp [cD,addO],hP,z15 ?_⟩⟩
  unfold zy
  simp only [if_neg (show ¬((l.length:Int)<(sc.n:Int)) by omega)]
 | succ t ih =>
  intro j S H hj hP hfull hx
  have hjl:j<l.length:=by omega
  obtain ⟨q',g1,g2⟩:=h.get hjl (v:=(j:Int)) rfl
  obtain ⟨z,e1,e2⟩:=g2.ex
  have r0:rd deS H (q'.add 0)=some l[j].n:=by rw [(g2.n.ext hx).rd]; rfl
  have r1:rd deSl H (q'.add 1)=some z:=by rw [(e1.ext hx).rd]; rfl
  have hmem:=List.getElem_mem hjl
  have hcl:cD g.datas (Tc g) (l.drop j)=addO (cC g.datas (Tc g) l[j].sels) (cD g.datas (Tc g) (l.drop (j+1))):=by rw [List.drop_eq_getElem_cons hjl]; rfl
  obtain ⟨H1,a1,a2⟩:=zpn (m:=m) hF hfu hd hb (hS.ext hx) (Nat.le_trans hm hx.1) hfn hsig (hl _ hmem) (cnt:=cnt) (fun hz=>hcnt (cD_big hTp hmem hz)) (x0:=x0) (x1:=sc) (v8:=(S:Int)) (v62:=(j:Int)) (n18:=l[j].n) (SlL.ext e2 hx fun _ _ h=>h.ext hx) l[j].sels.length 0 1 H (by omega) (by omega) (Nat.le_refl _) (by rw [List.drop_zero,zh1]) (Fm.refl _ _)
  have x1':=hx.trans a1
  have e1':((1:Nat):Int)=1:=rfl
  rcases a2 with ⟨v,b1,b2,b3⟩ | b3
  ·have b3':(LCo L0).run (z10 (LCo L0) m s1 s2 s3 x0 sc (cnt:Int) (decide (cnt > 0)) (S:Int) (j:Int) l[j].n z) (H,1,0)=_:=b3
   by_cases hgt:S+v≤MSS
   ·obtain ⟨H2,c1,c2⟩:=ih (j+1) (S+v) H1 (by omega) hgt (by rw [← hfull,hcl,b1]; cases cD g.datas (Tc g) (l.drop (j+1)) <;> simp [addO,Nat.add_assoc]) x1'
    have hbody:zy (LCo L0) m s1 s2 s3 x0 sc (cnt:Int) (decide (cnt > 0)) (H,(S:Int),(j:Int))=some (.next (H1,((S+v:Nat):Int),((j+1:Nat):Int))):=by
     unfold zy
     simp only [if_pos (show (j:Int)<(sc.n:Int) by omega),g1,Option.bind_some,r0,r1,b3']
     rw [← Int.natCast_add,z25 (by omega) (by omega),if_neg (by omega),zi hjl h.len]
    rw [zq hbody]
    exact ⟨H2,c1,c2⟩
   ·have hz:cap MSS (cD g.datas (Tc g) l)=0:=by
     rw [← hfull,hcl,b1]
     cases cD g.datas (Tc g) (l.drop (j+1)) with
     | none=>rfl
     | some w =>
      show cap MSS (some (S+(v+w)))=0
      exact cap_no (by omega)
    have hcn:=hcnt hz
    subst hcn
    refine ⟨H1,x1',.inr (z2f ?_)⟩
    unfold zy
    simp only [if_pos (show (j:Int)<(sc.n:Int) by omega),g1,Option.bind_some,r0,r1,b3']
    rw [← Int.natCast_add,z25 (by omega) (by omega),if_pos (by omega)]
    rfl
  ·have b3':(LCo L0).run (z10 (LCo L0) m s1 s2 s3 x0 sc (cnt:Int) (decide (cnt > 0)) (S:Int) (j:Int) l[j].n z) (H,1,0)=_:=b3
   refine ⟨H1,x1',.inr (z2f ?_)⟩
   unfold zy
   simp only [if_pos (show (j:Int)<(sc.n:Int) by omega),g1,Option.bind_some,r0,r1,b3']
end
end Go.Proofs.YtccbilfbhecdaaaDoor
namespace Go.Proofs.YtccbilfbhecdaaaDoor
open Go Go.Abs
set_option maxRecDepth 100000
theorem tw_ne {l:List ByteArray} (h:twS l=false) {i j:Nat} (hij:i<j) (hj:j<l.length):l[i]'(by omega)≠l[j]:=by
 intro e
 have:twS l=true:=zej.2 ⟨j,hj,by
  unfold hasU
  rw [List.any_eq_true]
  refine ⟨l[i]'(by omega),?_,decide_eq_true e⟩
  rw [List.mem_take_iff_getElem]
  exact ⟨i,by omega,rfl⟩⟩
 rw [h] at this
 cases this
section
variable {g:Sg}
theorem zgz (h:sigS g=0):(sortNamesS g++funNamesS g).any (fun x=>!nameS x)=false∧twS (sortNamesS g)=false∧twS (funNamesS g)=false∧namesS g=0:=by
 have hn:namesS g=0:=by
  unfold sigS at h
  split at h
  ·omega
  ·split at h
   ·exact absurd h (by assumption)
   ·rename_i hq; simpa using hq
 have hn':=hn
 unfold namesS at hn'
 split at hn'
 ·omega
 ·rename_i h1
  split at hn'
  ·omega
  ·rename_i h2
   have h2:(twS (sortNamesS g)||twS (funNamesS g))=false:=by simpa using h2
   rw [Bool.or_eq_false_iff] at h2
   exact ⟨by simpa using h1,h2.1,h2.2,hn⟩
theorem z71 {i:Nat} (hi:i<g.datas.length):∃h:g.users.length+i<(sortNamesS g).length,(sortNamesS g)[g.users.length+i]=(g.datas[i]).n:=by
 have hl:(g.datas.flatMap fun d=>[d.n])=g.datas.map fun d=>d.n:=by
  induction g.datas with
  | nil=>rfl
  | cons x l ih=>rw [List.flatMap_cons,ih]; rfl
 unfold sortNamesS
 rw [hl]
 refine ⟨by simp; omega,?_⟩
 rw [List.getElem_append_right (by omega)]
 simp
theorem zjc (h:sigS g=0) {i:Nat} (hi:i<g.datas.length):dataIx g.datas (g.datas[i]).n=some i:=by
 obtain ⟨_,h2,_,_⟩:=zgz h
 unfold dataIx
 rw [List.findIdx?_eq_some_iff_getElem]
 refine ⟨hi,decide_eq_true rfl,fun j hji=>?_⟩
 have hj:j<g.datas.length:=by omega
 obtain ⟨a1,a2⟩:=z71 hj
 obtain ⟨b1,b2⟩:=z71 hi
 have:=tw_ne h2 (i:=g.users.length+j) (j:=g.users.length+i) (by omega) b1
 rw [a2,b2] at this
 simpa using this
theorem zmt (h:sigS g=0) {i:Nat} (hi:i<g.datas.length):nameS (g.datas[i]).n=true:=by
 obtain ⟨h1,_,_,_⟩:=zgz h
 obtain ⟨a1,a2⟩:=z71 hi
 rw [List.any_eq_false] at h1
 have:=h1 (g.datas[i]).n (by rw [← a2]; exact List.mem_append.2 (.inl (List.getElem_mem a1)))
 simpa using this
theorem zkx (h:sigS g=0) {i:Nat} (hi:i<g.datas.length):checkS g 6 0 (g.datas[i]).n .nil=0:=by
 have f1:fewS .nil=true:=by unfold fewS; exact decide_eq_true (by simp [Fo.dep,Fo.size])
 have hs:shS 6 0 (g.datas[i]).n .nil=true:=by
  unfold shS headS
  simp [shF,zmt h hi,Fo.len]
 have hk:knS g.users g.datas 6 (g.datas[i]).n .nil=true:=by
  unfold knS
  rw [if_neg (by omega),if_pos rfl,zjc h hi]
  rfl
 unfold checkS wrongS
 rw [if_pos f1,if_pos hs,if_pos rfl,if_pos hk]
theorem zp4 (h:sigS g=0) {i:Nat} (hi:i<g.datas.length):cS g.datas (Tc g) 6 0 (g.datas[i]).n .nil=Tc g i:=by
 unfold cS one_
 rw [if_neg (by omega),if_neg (by omega),if_neg (by omega),if_pos rfl]
 unfold ixS
 rw [zjc h hi]
 rfl
theorem sig_40 (h:sigS g=40):g.datas.length+g.funs.length > 0:=by
 classical
 have ha:allS g=40:=by
  have h1:=zfl g
  unfold sigS at h
  split at h
  ·omega
  ·split at h
   ·omega
   ·split at h
    ·exact h
    ·split at h
     ·omega
     ·split at h <;> omega
 rcases Nat.eq_zero_or_pos (g.datas.length+g.funs.length) with h0 | h0
 ·have hd:g.datas=[]:=List.length_eq_zero_iff.1 (by omega)
  have hf:g.funs=[]:=List.length_eq_zero_iff.1 (by omega)
  unfold allS sortsE at ha
  rw [hd,hf] at ha
  simp at ha
 ·exact h0
variable {H:AH} {s1 s2 s3:Sl3} {L0 fuel:Nat}
theorem zml (hF:L0=fuel+1) (hfu:15≤fuel) (hd:g.dep≤fuel) (hT:HasT H) (hS:SigA H s1 s2 s3 g) (hb:SgB g) (hfn:40*(g.datas.length+1)+31≤L0) (z:Int) :
  ∃H',z5g (LCo L0) H.next H s1 s2 s3 z=some (true,H'):=by
 have hM:MSS=1073741824:=rfl
 have hN:=z35
 have eS:maxS=140737488351232:=rfl
 have hdn:=hS.d.n
 have hfn':=hS.f.n
 have hb2:=hb.d
 have hb3:=hb.f
 obtain ⟨H2,a1,a2⟩:=z65 (m:=H.next) hF hfu hd hb hS (Nat.le_refl _)
 unfold z5g
 rw [zm0 _ hT]
 simp only [Option.bind_some,if_true,a1]
 by_cases hsig:sigS g=0
 ·by_cases h0:g.datas.length=0
  ·have hd0:decide ((s2.n:Int)=0)=true:=decide_eq_true (by omega)
   obtain ⟨H7,b1,b2⟩:=z65 (m:=H.next) hF hfu hd hb (hS.ext a2) a2.1
   simp only [if_pos hsig,Option.bind_some,hd0,if_true,b1]
   rw [hsig]
   exact ⟨H7,rfl⟩
  ·have hd0:decide ((s2.n:Int)=0)=false:=decide_eq_false (by omega)
   simp only [if_pos hsig,Option.bind_some,hd0,Bool.false_eq_true,if_false]
   obtain ⟨i,hi,hx8⟩:∃i,i<g.datas.length∧(if (IntKind.u64.wrap (s2.n:Int))=0 then none else some (Int.tmod (IntKind.u64.wrap z) (IntKind.u64.wrap (s2.n:Int))))=some (i:Int):=by
    have w1:IntKind.u64.wrap (s2.n:Int)=(g.datas.length:Int):=by
     rw [znf (by omega) (by omega)]; omega
    have w2:0≤IntKind.u64.wrap z:=by
     show 0≤z % 18446744073709551616
     omega
    rw [w1,if_neg (by omega)]
    obtain ⟨u,hu⟩:∃u:Nat,IntKind.u64.wrap z=(u:Int):=⟨(IntKind.u64.wrap z).toNat,by omega⟩
    rw [hu]
    refine ⟨u % g.datas.length,Nat.mod_lt _ (by omega),?_⟩
    congr 1
   rw [hx8]
   obtain ⟨q,g1,g2⟩:=hS.d.get hi (v:=(i:Int)) rfl
   obtain ⟨sc,e1,hc⟩:=g2.ex
   have r0:rd deS H2 (q.add 0)=some (g.datas[i]).n:=by rw [(g2.n.ext a2).rd]; rfl
   have r1:rd deSl H2 (q.add 1)=some sc:=by rw [(e1.ext a2).rd]; rfl
   have hnil:SlF H2 Sl3.nil .nil:=⟨rfl,by rw [hN]; show (0:Nat)≤_; omega,trivial⟩
   obtain ⟨H13,c1,c2⟩:=zec (m:=H.next) hF hfu hd hb (hS.ext a2) a2.1 hnil g2.nm (by show (0:Nat)≤_; omega) hfn (k:=6) (w:=0) (most:=1073741824) (by omega)
   have hcs:=zfh (g:=g) (mo:=1073741824) (by omega) hsig (zkx hsig hi)
   rw [show (1073741824:Int).toNat=MSS from rfl,zp4 hsig hi] at hcs
   rw [hcs] at c1
   obtain ⟨hG,_,_⟩:=sig_ok hsig
   have x13:=a2.trans c2
   obtain ⟨H31,d1,d2⟩:=zoo (m:=H.next) hF hfu hd hb (hS.ext x13) x13.1 hfn hsig (l:=(g.datas[i]).cons) (fun c hc' x hx=>⟨hG.sel _ (List.getElem_mem hi) c hc' x hx,Nat.le_trans (zjh (List.getElem_mem hi) hc' hx) hd⟩) (cnt:=cap MSS (Tc g i)) (fun hz=>by rw [Tc_fix hi]; exact hz) (x0:=(g.datas[i]).n) (SlL.ext hc x13 fun _ _ h=>h.ext x13) (g.datas[i]).cons.length 0 0 H13 (by omega) (Nat.zero_le _) (by rw [List.drop_zero,zft]) (Fm.refl _ _)
   simp only [Option.bind_some,g1,r0,r1,c1]
   rcases d2 with ⟨v,t1,t2,t3⟩ | t3
   ·have t3':(LCo L0).run (zy (LCo L0) H.next s1 s2 s3 (g.datas[i]).n sc ((cap MSS (Tc g i):Nat):Int) (decide (cap MSS (Tc g i) > 0))) (H13,0,0)=_:=t3
    rw [t3']
    have hcap:cap MSS (Tc g i)=v:=by rw [Tc_fix hi,t1,z1o t2]
    have hv1:=cD_pos (Tc_pos hG) (g.datas[i]).cons (zju hG (List.getElem_mem hi)) v t1
    rw [hcap,decide_eq_true (show v > 0 by omega)]
    simp
   ·have t3':(LCo L0).run (zy (LCo L0) H.next s1 s2 s3 (g.datas[i]).n sc ((cap MSS (Tc g i):Nat):Int) (decide (cap MSS (Tc g i) > 0))) (H13,0,0)=_:=t3
    rw [t3']
    exact ⟨H31,rfl⟩
 ·obtain ⟨H7,b1,b2⟩:=z65 (m:=H.next) hF hfu hd hb (hS.ext a2) a2.1
  simp only [if_neg hsig,Option.bind_some,if_true,b1]
  by_cases h40:sigS g=40
  ·have:=sig_40 h40
   rw [if_pos h40,← Int.natCast_add,z25 (by omega) (by omega),decide_eq_true (by omega)]
   exact ⟨H7,rfl⟩
  ·rw [if_neg h40]
   exact ⟨H7,rfl⟩
end
end Go.Proofs.YtccbilfbhecdaaaDoor
namespace Go.Proofs.YtccbilfbhecdaaaDoor
open Go Go.Abs Go.ChangeShapes Go.WideShapes
set_option maxRecDepth 100000
theorem zky {H:Type} {enc:TypeId×Value→H} {W:World} {base:Nat} {args:Array Value} {ds:List (DataW H)} {ps:List MemPlace} (hg:Tryd.prog.globals.size≤W.heap.size)
  (hval:∀(j:Nat) t v,Tryd.f7.params[j]? = some t→args[j]? = some v→Value.okWide Tryd.prog W .any base t v)
  (hA:DataW.TrodAll enc Tryd.prog W 0 (fun _=>true) true Tryd.f7.params.toList args.toList ds ps) (hk:Rows.uptoSmall H ds=true) (hL:laidMet Tryd.prog Rows.sortSumsUptoRow.laid W) (hsh:W.ShapedOpen Tryd.prog)
  (hwt:(DataW.weightsEach Tryd.prog (Tryd.f7.params.toList++[]) ds).all (·≤reachBytes)=true) :
  Calls Tryd.prog 7 args W fun e W'=>e=.returned (.bool true)∧RowKit.Below W.heap.size W W':=by
 rw [Tryd.params7] at hA hval hwt
 obtain ⟨v0,vs0,d0,ds0,p0,q0,hargs,rfl,rfl,h0,r0⟩:=trodAll_cons hA
 obtain ⟨v1,vs1,d1,ds1,p1,q1,rfl,rfl,rfl,h1,r1⟩:=trodAll_cons r0
 obtain ⟨rfl,rfl,rfl⟩:=trodAll_nil r1
 obtain rfl:args=#[v0,v1]:=by cases args; simp_all
 have hb:=bulks.bound hk
 simp only [Rows.uptoBulkAll] at hb
 simp only [List.append_nil,DataW.weightsEach,List.all_append,Bool.and_eq_true] at hwt
 obtain ⟨φ0,H0x,s0u,s0d,s0f,g0,i0,le0,e0,vr0,sg0,hb0⟩:=zl5 (znz hg hL hsh) h0 (hval 0 33 v0 rfl rfl) hwt.1
 obtain ⟨z1,rfl,_,_,hz1⟩:=open_int Tryd.underlying3 (hval 1 3 v1 rfl rfl) h1
 obtain ⟨H',hr⟩:=zml (L0:=max 15 g0.dep+40*g0.datas.length+101) (fuel:=max 15 g0.dep+40*g0.datas.length+100) rfl (by omega) (by omega) (zkk.ext e0) sg0 hb0 (by omega) z1
 exact zfz (ne:=NE.plain 1000) sane (zci hr) i0 (ar2 vr0 (.int .i64 z1))
theorem zk4 (os:Os) {H:Type} (enc:TypeId×Value→H):∃x,DataW.whole enc Tryd.prog ((laidW2 Tryd.prog Rows.sortSumsUptoRow.laid os).forCall (fun _ _=>0) ⟨#[],#[.agg #[.slice none 0 0,.slice none 0 0,.slice none 0 0],.int .i64 0],[]⟩).memory Tryd.f7.params.toList Rows.sortSumsSpec.vars false (#[.agg #[.slice none 0 0,.slice none 0 0,.slice none 0 0],.int .i64 0]:Array Value).toList 8=some ([.agg [.nil,.nil,.nil],.lit (.int .i64 0)],[],x) :=
 ⟨[],by kernel_rfl⟩
theorem zhy (os:Os) (started:os.Started) (H:Type) (enc:TypeId×Value→H) (F:Stop.Interp) :
  ReturnsInHanded {} Tryd.checked os 7 .any ((Rows.OpenSpec.upto Rows.sortSumsSpec).preRow enc Tryd.prog Tryd.f7 Rows.sortSumsUptoRow.domain false Rows.sortSumsUptoRow.laid) (((Rows.OpenSpec.upto Rows.sortSumsSpec).at F).post enc Tryd.prog Tryd.f7 false true false false):=by
 obtain ⟨x,hx⟩:=zk4 os enc
 exact zds (C:=Tryd.checked) (s:=Rows.OpenSpec.upto Rows.sortSumsSpec) (k:=Rows.uptoSmall) rfl own started (by kernel_rfl) Tryd.func7 zl3 laidOut (by kernel_rfl) rfl (by kernel_rfl)
  (fun ds hds=>by
   have h1:ds.length=2:=hds
   match ds,h1 with
   | [d0,d1],_=>exact ⟨rfl,rfl,rfl⟩)
  rfl (by kernel_rfl)
  (witness_row_atRef (enc:=enc) (C:=Tryd.checked) false (laidW2 Tryd.prog Rows.sortSumsUptoRow.laid os) #[.agg #[.slice none 0 0,.slice none 0 0,.slice none 0 0],.int .i64 0] rfl (by kernel_rfl) (by kernel_rfl) (by kernel_rfl)
   (OpenSpec.preRow_of_cond 8 hx (by kernel_rfl) (fun k hk=>by cases hk; kernel_rfl) (by kernel_rfl) (znh os _)))
  (fun W base args ds ps hg hval hA hk hL hsh hwt=>zky hg hval hA hk hL hsh hwt)
theorem zlz:Rows.SortSumsUptoSaid :=
 OpenClaim.holds_of_cond 7 Tryd.f7 rfl rfl rfl rfl rfl rfl rfl ⟨rfl,rfl,rfl,rfl,rfl⟩ rfl rfl rfl rfl rfl (by kernel_rfl) Tryd.func7 (by kernel_rfl)
  (of_decide_eq_true (by kernel_rfl)) (by unfold Func.isWrapper; first | (rw [if_pos (by decide +kernel)]; kernel_rfl) | (rw [if_neg (by decide +kernel)]; exact ⟨rfl,rfl⟩))
  (fun os started H enc _ F=>by rw [OpenClaim.pre_eq_preRow]; exact zhy os started H enc F)
theorem zlh (f:FuncId) (fn:Func) (hf:Tryd.pinned.checked.prog.funcNamed "tribunal/tribunallaw04.SortSums"=some f) (hfn:Tryd.pinned.checked.prog.funcs[f]? = some fn) :
  false=Tryd.pinned.checked.prog.looks []∧∀(j:Nat) t,fn.params[j]? = some t→Tryd.pinned.checked.prog.wantsStandIn t=false:=by
 obtain rfl:f=7:=Option.some.inj ((show Tryd.prog.funcNamed "tribunal/tribunallaw04.SortSums"=some 7 by kernel_rfl).symm.trans hf) |>.symm
 obtain rfl:fn=Tryd.f7:=(Option.some.inj (Tryd.func7.symm.trans hfn)).symm
 exact ⟨by kernel_rfl,fun j t ht=>by
  have hall:(Tryd.f7.params.toList.all fun u=>!Tryd.prog.wantsStandIn u)=true:=by kernel_rfl
  have hm:t∈Tryd.f7.params.toList:=by simpa using Array.mem_of_getElem? ht
  exact (show Tryd.prog.wantsStandIn t=false by simpa using List.all_eq_true.1 hall t hm)⟩
theorem sortSums_holds:Rows.SortSumsUptoCardSaid :=
 Claim7.holds_tied_plain_at .later [] _ _ _ _ zlz (fun _ h=>by cases h) (by kernel_rfl) (fun _ h=>by cases h) sortSumsUpto_row_tie rfl ⟨rfl,rfl⟩ (by kernel_rfl) rfl zlh (by kernel_rfl)
#print axioms sortSums_holds
end Go.Proofs.YtccbilfbhecdaaaDoor
