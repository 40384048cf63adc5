/- SortTurns is proved where what it reads is of bulk at most 1048576: it returns true and its arguments read as before. No condition beyond the row's own (five listed tables of Go's library as the text lays them). -/
import Derived.Test.YtccbilfbhecdaaaDoorTv5
namespace Go.Proofs.YtccbilfbhecdaaaDoor
open Go Go.Abs
set_option maxRecDepth 100000
theorem z8y {S R:Type} {body:S→Option (Lp S R)} (Inv:Nat→S→Prop) (post:S→Prop) (he:∀s,Inv 0 s→∃s',body s=some (.brk s')∧post s')
  (hs:∀i s,Inv (i+1) s→∃s',body s=some (.next s')∧Inv i s'):∀i s,Inv i s→∃s',loopO body s=some (.inl s')∧post s':=by
 intro i
 induction i with
 | zero =>
  intro s h
  obtain ⟨s',h1,h2⟩:=he s h
  exact ⟨s',zy h1,h2⟩
 | succ i ih =>
  intro s h
  obtain ⟨s',h1,h2⟩:=hs i s h
  obtain ⟨s2,h3,h4⟩:=ih s' h2
  exact ⟨s2,by rw [zl h1]; exact h3,h4⟩
theorem zd7 {α:Type} {l:List α} {i:Nat} (hi:i<l.length):(l.drop i).reverse=(l.drop (i+1)).reverse++[l[i]]:=by
 rw [List.drop_eq_getElem_cons hi,List.reverse_cons]
theorem VecA.slOk {α γ:Type} {E:Enc α} {e:TypeId} {m:Nat} {H:AH} {l:List α} {s:Sl3} (h:VecA E e m H l s) (hN:l.length≤maxN) (er:α→γ) {R:AH→Addr→γ→Prop}
  (hR:∀x∈l,∀q,(∀j v,(E.enc x)[j]? = some v→Cel H (q.add j) v)→R H q (er x)):SlL R E.sz H s (l.map er):=by
 have h1:=VecA.sl (R:=fun H q x=>∀j v,(E.enc x)[j]? = some v→Cel H (q.add j) v) h hN fun x q hx=>hx
 refine ⟨by rw [h1.n]; simp,h1.cap,h1.top,h1.low,LAt.of fun j hj=>?_⟩
 have hj':j<l.length:=by simpa using hj
 obtain ⟨a,e1,e2⟩:=h1.at_.get j hj'
 refine ⟨a,e1,?_⟩
 rw [List.getElem_map]
 exact hR _ (List.getElem_mem hj') _ e2
structure RawC where
 s:Sl3
 c:Con
structure RawD where
 s:Sl3
 d:Dat
structure RawF where
 s:Sl3
 s':Sl3
 f:Fnc
def rawCE:Enc RawC:=⟨fun x=>[.string x.c.n,Sl3.v x.s],2,fun _=>rfl,fun _=>rfl⟩
def rawDE:Enc RawD:=⟨fun x=>[.string x.d.n,Sl3.v x.s],2,fun _=>rfl,fun _=>rfl⟩
def rawFE:Enc RawF:=⟨fun x=>[.string x.f.n,Sl3.v x.s,.int .i64 x.f.k,.int .i64 x.f.w,.string x.f.sn,Sl3.v x.s'],6,fun _=>rfl,fun _=>rfl⟩
theorem roomS {n b:Nat} (h:n≤1048576) (hb:b≤96):(2*n+1000)*b≤281474976710656∧n≤281474976710656:=by
 have:(2*n+1000)*b≤(2*1048576+1000)*96:=Nat.mul_le_mul (by omega) hb
 omega
theorem zaj {i:Nat} (hi:i+1≤maxN):IntKind.i64.wrap (((i+1:Nat):Int) - 1 - 1)=(i:Int) - 1:=by
 have:=z1r
 rw [z3p (by omega) (by omega)]
 omega
theorem z9b {n:Nat} (hi:n≤maxN):IntKind.i64.wrap ((n:Int) - 1)=(n:Int) - 1:=by
 have:=z1r
 rw [z3p (by omega) (by omega)]
section
variable {m:Nat} {H:AH} {s1 s2 s3:Sl3} {g:Sg}
theorem zon (c:Nat) (hS:SigA H s1 s2 s3 g) (hU:g.users.length≤1048576) (hm:m≤H.next) {w4 w5:Sl3} :
  ∃H' v z,loopO (z2b (LCo c) m s1 s2 s3) (H,IntKind.i64.wrap ((s1.n:Int) - 1),Sl3.nil,w4,w5)=some (.inl (H',v,z,w4,w5))∧SlL StrM 1 H' z g.users.reverse∧Ext H H':=by
 have hn:=hS.u.n
 have hN:=z1r
 obtain ⟨s',h1,H',v,z,rfl,h2,h3⟩:=z8y (body:=z2b (LCo c) m s1 s2 s3)
  (fun i st=>∃G z,st=(G,(i:Int) - 1,z,w4,w5)∧i≤g.users.length∧Ext H G∧VecA strE 9 m G (g.users.drop i).reverse z∧(∀id,owns z id→H.next≤id))
  (fun st=>∃H' v z,st=(H',v,z,w4,w5)∧SlL StrM 1 H' z g.users.reverse∧Ext H H')
  (fun st h=>by
   obtain ⟨G,z,rfl,_,hx,hv,_⟩:=h
   refine ⟨(G,((0:Nat):Int) - 1,z,w4,w5),?_,G,_,z,rfl,?_,hx⟩
   ·unfold z2b
    simp only
    rw [if_neg (by omega)]
   ·rw [List.drop_zero] at hv
    exact zr3 hv (by rw [List.length_reverse]; omega) fun x hx=>zpz hS.u x (by simpa using hx))
  (fun i st h=>by
   obtain ⟨G,z,rfl,hi,hx,hv,ho⟩:=h
   obtain ⟨a,g1,g2⟩:=hS.u.get (i:=i) (by omega) (v:=((i+1:Nat):Int) - 1) (by omega)
   have r0:rd deS G a=some g.users[i]:=by rw [(Cel.ext g2.1 hx).rd]; rfl
   have hl:(g.users.drop (i+1)).reverse.length+1≤1048576:=by simp; omega
   obtain ⟨z1,G1,z2,G2,p1,p2,p3,p4⟩:=VecA.push (bytes:=16) hv g.users[i] (roomS (b:=16) hl (by omega)).1 (roomS (b:=16) hl (by omega)).2 (Nat.le_trans hm hx.1) (own_lt hv)
   obtain ⟨x2,o2⟩:=p4.ext hx ho
   refine ⟨(G2,(i:Int) - 1,z2,w4,w5),?_,G2,z2,rfl,by omega,x2,by rw [zd7 (by omega)]; exact p3,o2⟩
   unfold z2b
   simp only
   rw [if_pos (by omega),g1]
   simp only [Option.bind_some,r0]
   have p1':newR 9 1 #[(Value.string g.users[i])] G=some (z1,G1):=p1
   have p2':appS m 9 1 16 G1 z z1=some (z2,G2):=p2
   rw [p1']
   simp only [Option.bind_some,p2']
   rw [zaj (by omega)])
  g.users.length (H,(g.users.length:Int) - 1,Sl3.nil,w4,w5) ⟨H,Sl3.nil,rfl,Nat.le_refl _,Fm.refl _ _,by rw [List.drop_length]; exact VecA.nil _ _ _ _,fun id h=>absurd h z3y⟩
 refine ⟨H',v,z,?_,h2,h3⟩
 rw [hn,z9b (by omega)]
 exact h1
def FncOk (H:AH) (x:RawF):Prop:=x.f.n.size≤maxS∧SlF H x.s x.f.args∧x.f.sn.size≤maxS∧SlF H x.s' x.f.a
theorem zoi (c:Nat) {H0:AH} (hx0:Ext H0 H) (hS:SigA H0 s1 s2 s3 g) (hU:g.funs.length≤1048576) (hm:m≤H.next) {w3 w4:Sl3} :
  ∃H' v z,loopO (z2e (LCo c) m s1 s2 s3) (H,IntKind.i64.wrap ((s3.n:Int) - 1),w3,w4,Sl3.nil)=some (.inl (H',v,w3,w4,z))∧SlL FncA 6 H' z g.funs.reverse∧Ext H H':=by
 have hn:=hS.f.n
 have hN:=z1r
 obtain ⟨s',h1,H',v,z,rfl,h2,h3⟩:=z8y (body:=z2e (LCo c) m s1 s2 s3)
  (fun i st=>∃G z l,st=(G,(i:Int) - 1,w3,w4,z)∧i≤g.funs.length∧Ext H G∧VecA rawFE 89 m G l z∧(∀id,owns z id→H.next≤id)∧l.map (·.f)=(g.funs.drop i).reverse∧∀x∈l,FncOk H0 x)
  (fun st=>∃H' v z,st=(H',v,w3,w4,z)∧SlL FncA 6 H' z g.funs.reverse∧Ext H H')
  (fun st h=>by
   obtain ⟨G,z,l,rfl,_,hx,hv,_,hl,hok⟩:=h
   refine ⟨(G,((0:Nat):Int) - 1,w3,w4,z),?_,G,_,z,rfl,?_,hx⟩
   ·unfold z2e
    simp only
    rw [if_neg (by omega)]
   ·rw [List.drop_zero] at hl
    rw [← hl]
    have hll:l.length=g.funs.length:=by have:=congrArg List.length hl; simpa using this
    refine VecA.slOk hv (by omega) _ fun x hx' q hc=>?_
    obtain ⟨o1,o2,o3,o4⟩:=hok x hx'
    have hxx:=hx0.trans hx
    exact ⟨hc 0 _ rfl,o1,⟨x.s,hc 1 _ rfl,o2.ext hxx⟩,⟨x.s',hc 2 _ rfl,hc 3 _ rfl,hc 4 _ rfl,hc 5 _ rfl,o3,o4.ext hxx⟩⟩)
  (fun i st h=>by
   obtain ⟨G,z,l,rfl,hi,hx,hv,ho,hl,hok⟩:=h
   obtain ⟨a,g1,g2⟩:=hS.f.get (i:=i) (by omega) (v:=((i+1:Nat):Int) - 1) (by omega)
   obtain ⟨sa,e1,e2⟩:=g2.ar
   obtain ⟨sb,f1,f2,f3,f4,f5,f6⟩:=g2.ex
   have hxx:=hx0.trans hx
   have r0:rd deS G (a.add 0)=some g.funs[i].n:=by rw [(g2.n.ext hxx).rd]; rfl
   have r1:rd deSl G (a.add 1)=some sa:=by rw [(e1.ext hxx).rd]; rfl
   have r2:rd (deI .i64) G (a.add 2)=some g.funs[i].k:=by rw [(f1.ext hxx).rd]; rfl
   have r3:rd (deI .i64) G (a.add 3)=some g.funs[i].w:=by rw [(f2.ext hxx).rd]; rfl
   have r4:rd deS G (a.add 4)=some g.funs[i].sn:=by rw [(f3.ext hxx).rd]; rfl
   have r5:rd deSl G (a.add 5)=some sb:=by rw [(f4.ext hxx).rd]; rfl
   have hll:l.length+(i+1)=g.funs.length:=by have:=congrArg List.length hl; simp at this; omega
   have hb:l.length+1≤1048576:=by omega
   obtain ⟨z1,G1,z2,G2,p1,p2,p3,p4⟩:=VecA.push (bytes:=96) hv ⟨sa,sb,g.funs[i]⟩ (roomS (b:=96) hb (by omega)).1 (roomS (b:=96) hb (by omega)).2 (Nat.le_trans hm hx.1) (own_lt hv)
   obtain ⟨x2,o2⟩:=p4.ext hx ho
   refine ⟨(G2,(i:Int) - 1,w3,w4,z2),?_,G2,z2,_,rfl,by omega,x2,p3,o2,?_,?_⟩
   ·unfold z2e
    simp only
    rw [if_pos (by omega),g1]
    simp only [Option.bind_some,r0,r1,r2,r3,r4,r5]
    have p1':newR 89 1 #[(Value.string g.funs[i].n),(Sl3.v sa),(Value.int .i64 g.funs[i].k),(Value.int .i64 g.funs[i].w),(Value.string g.funs[i].sn),(Sl3.v sb)] G=some (z1,G1):=p1
    have p2':appS m 89 6 96 G1 z z1=some (z2,G2):=p2
    rw [p1']
    simp only [Option.bind_some,p2']
    rw [zaj (by omega)]
   ·rw [zd7 (by omega),List.map_append,hl]; rfl
   ·intro x hx'
    rcases List.mem_append.1 hx' with h' | h'
    ·exact hok x h'
    ·rw [List.mem_singleton] at h'
     subst h'
     exact ⟨g2.nm,e2,f5,f6⟩)
  g.funs.length (H,(g.funs.length:Int) - 1,w3,w4,Sl3.nil) ⟨H,Sl3.nil,[],rfl,Nat.le_refl _,Fm.refl _ _,VecA.nil _ _ _ _,fun id h=>absurd h z3y,by simp,fun x hx=>by cases hx⟩
 refine ⟨H',v,z,?_,h2,h3⟩
 rw [hn,z9b (by omega)]
 exact h1
def ConOk (H:AH) (x:RawC):Prop:=x.c.n.size≤maxS∧SlL SelA 5 H x.s x.c.sels
theorem zo5 (c:Nat) {H0:AH} (hx0:Ext H0 H) (hS:SigA H0 s1 s2 s3 g) {k:Nat} (hk:k<g.datas.length) {v5:Int} (hv5:v5=k) (hU:(g.datas[k]).cons.length≤1048576) (hm:m≤H.next) {w3 w4 w5 sc:Sl3} {nm:ByteArray}
  (hsc:SlL ConA 2 H0 sc (g.datas[k]).cons) (hcel:∃q,idxA 2 s2 (k:Int)=some q∧Cel H0 (q.add 1) (Sl3.v sc)) :
  ∃H' v z l,loopO (z2f (LCo c) m s1 s2 s3 v5 w3 w4 w5) (H,IntKind.i64.wrap ((sc.n:Int) - 1),nm,Sl3.nil)=some (.inl (H',v,nm,z))∧VecA rawCE 50 m H' l z∧l.map (·.c)=(g.datas[k]).cons.reverse∧(∀x∈l,ConOk H0 x)∧(∀id,owns z id→H.next≤id)∧Ext H H':=by
 have hn:=hsc.n
 have hN:=z1r
 subst hv5
 obtain ⟨q,q1,q2⟩:=hcel
 obtain ⟨s',h1,H',v,z,l,rfl,h2,h3,h4,h5,h6⟩:=z8y (body:=z2f (LCo c) m s1 s2 s3 (k:Int) w3 w4 w5)
  (fun i st=>∃G z l,st=(G,(i:Int) - 1,nm,z)∧i≤(g.datas[k]).cons.length∧Ext H G∧VecA rawCE 50 m G l z∧(∀id,owns z id→H.next≤id)∧l.map (·.c)=((g.datas[k]).cons.drop i).reverse∧∀x∈l,ConOk H0 x)
  (fun st=>∃H' v z l,st=(H',v,nm,z)∧VecA rawCE 50 m H' l z∧l.map (·.c)=(g.datas[k]).cons.reverse∧(∀x∈l,ConOk H0 x)∧(∀id,owns z id→H.next≤id)∧Ext H H')
  (fun st h=>by
   obtain ⟨G,z,l,rfl,_,hx,hv,ho,hl,hok⟩:=h
   refine ⟨(G,((0:Nat):Int) - 1,nm,z),?_,G,_,z,l,rfl,hv,by rw [hl,List.drop_zero],hok,ho,hx⟩
   unfold z2f
   simp only
   rw [if_neg (by omega)])
  (fun i st h=>by
   obtain ⟨G,z,l,rfl,hi,hx,hv,ho,hl,hok⟩:=h
   obtain ⟨a,g1,g2⟩:=hsc.get (i:=i) (by omega) (v:=((i+1:Nat):Int) - 1) (by omega)
   obtain ⟨sa,e1,e2⟩:=g2.ex
   have hxx:=hx0.trans hx
   have rq:rd deSl G (q.add 1)=some sc:=by rw [(q2.ext hxx).rd]; rfl
   have r0:rd deS G (a.add 0)=some (g.datas[k]).cons[i].n:=by rw [(g2.n.ext hxx).rd]; rfl
   have r1:rd deSl G (a.add 1)=some sa:=by rw [(e1.ext hxx).rd]; rfl
   have hll:l.length+(i+1)=(g.datas[k]).cons.length:=by have:=congrArg List.length hl; simp at this; omega
   have hb:l.length+1≤1048576:=by omega
   obtain ⟨z1,G1,z2,G2,p1,p2,p3,p4⟩:=VecA.push (bytes:=40) hv ⟨sa,(g.datas[k]).cons[i]⟩ (roomS (b:=40) hb (by omega)).1 (roomS (b:=40) hb (by omega)).2 (Nat.le_trans hm hx.1) (own_lt hv)
   obtain ⟨x2,o2⟩:=p4.ext hx ho
   refine ⟨(G2,(i:Int) - 1,nm,z2),?_,G2,z2,_,rfl,by omega,x2,p3,o2,?_,?_⟩
   ·unfold z2f
    simp only
    rw [if_pos (by omega),q1]
    simp only [Option.bind_some,rq,g1,r0,r1]
    have p1':newR 50 1 #[(Value.string (g.datas[k]).cons[i].n),(Sl3.v sa)] G=some (z1,G1):=p1
    have p2':appS m 50 2 40 G1 z z1=some (z2,G2):=p2
    rw [p1']
    simp only [Option.bind_some,p2']
    rw [zaj (by omega)]
   ·rw [zd7 (by omega),List.map_append,hl]; rfl
   ·intro x hx'
    rcases List.mem_append.1 hx' with h' | h'
    ·exact hok x h'
    ·rw [List.mem_singleton] at h'
     subst h'
     exact ⟨g2.nm,e2⟩)
  (g.datas[k]).cons.length (H,((g.datas[k]).cons.length:Int) - 1,nm,Sl3.nil) ⟨H,Sl3.nil,[],rfl,Nat.le_refl _,Fm.refl _ _,VecA.nil _ _ _ _,fun id h=>absurd h z3y,by simp,fun x hx=>by cases hx⟩
 refine ⟨H',v,z,l,?_,h2,h3,h4,h5,h6⟩
 rw [hn,z9b (by omega)]
 exact h1
def DatOk (m:Nat) (H0 H:AH) (t:Sl3) (x:RawD):Prop:=x.d.n.size≤maxS∧∃l,VecA rawCE 50 m H l x.s∧l.map (·.c)=x.d.cons∧l.length≤maxN∧(∀y∈l,ConOk H0 y)∧∀id,owns x.s id→¬owns t id
theorem DatOk.ch {m:Nat} {H0 H H':AH} {t t':Sl3} {x:RawD} (h:DatOk m H0 H t x) (hc:Ch H t H' t'):DatOk m H0 H' t' x:=by
 obtain ⟨h1,l,h2,h3,h4,h5,h6⟩:=h
 refine ⟨h1,l,VecV.fr h2 hc.fm h6,h3,h4,h5,fun id hi ht=>?_⟩
 rcases hc.ow id ht with h7 | h7
 ·exact h6 id hi h7
 ·have:=own_lt h2 id hi; omega
theorem DatOk.stands {m:Nat} {H0 H:AH} {t:Sl3} {x:RawD} (h:DatOk m H0 H t x) (hx:Ext H0 H):SlL ConA 2 H x.s x.d.cons:=by
 obtain ⟨_,l,h2,h3,h4,h5,_⟩:=h
 rw [← h3]
 refine VecA.slOk h2 h4 _ fun y hy q hc=>?_
 obtain ⟨o1,o2⟩:=h5 y hy
 exact ⟨hc 0 _ rfl,o1,y.s,hc 1 _ rfl,o2.ext hx fun _ _ h=>h.ext hx⟩
theorem zoh (c:Nat) {H0:AH} (hx0:Ext H0 H) (hS:SigA H0 s1 s2 s3 g) (hU:g.datas.length≤1048576) (hC:∀d∈g.datas,d.cons.length≤1048576) (hm:m≤H.next) {w3 w5:Sl3} :
  ∃H' v z,loopO (z2c (LCo c) m s1 s2 s3) (H,IntKind.i64.wrap ((s2.n:Int) - 1),w3,Sl3.nil,w5)=some (.inl (H',v,w3,z,w5))∧SlL DatA 2 H' z (g.datas.map turnD).reverse∧Ext H H':=by
 have hn:=hS.d.n
 have hN:=z1r
 obtain ⟨s',h1,H',v,z,rfl,h2,h3⟩:=z8y (body:=z2c (LCo c) m s1 s2 s3)
  (fun i st=>∃G z l,st=(G,(i:Int) - 1,w3,z,w5)∧i≤g.datas.length∧Ext H G∧VecA rawDE 46 m G l z∧(∀id,owns z id→H.next≤id)∧l.map (·.d)=((g.datas.drop i).map turnD).reverse∧∀x∈l,DatOk m H0 G z x)
  (fun st=>∃H' v z,st=(H',v,w3,z,w5)∧SlL DatA 2 H' z (g.datas.map turnD).reverse∧Ext H H')
  (fun st h=>by
   obtain ⟨G,z,l,rfl,_,hx,hv,_,hl,hok⟩:=h
   refine ⟨(G,((0:Nat):Int) - 1,w3,z,w5),?_,G,_,z,rfl,?_,hx⟩
   ·unfold z2c
    simp only
    rw [if_neg (by omega)]
   ·rw [List.drop_zero] at hl
    rw [← hl]
    have hll:l.length=g.datas.length:=by have:=congrArg List.length hl; simpa using this
    refine VecA.slOk hv (by omega) _ fun x hx' q hc=>?_
    have o:=hok x hx'
    exact ⟨hc 0 _ rfl,o.1,x.s,hc 1 _ rfl,o.stands (hx0.trans hx)⟩)
  (fun i st h=>by
   obtain ⟨G,z,l,rfl,hi,hx,hv,ho,hl,hok⟩:=h
   have hi':i<g.datas.length:=by omega
   obtain ⟨a,g1,g2⟩:=hS.d.get (i:=i) hi' (v:=(i:Int)) rfl
   obtain ⟨sc,e1,e2⟩:=g2.ex
   have hxx:=hx0.trans hx
   have r0:rd deS G (a.add 0)=some g.datas[i].n:=by rw [(g2.n.ext hxx).rd]; rfl
   have r1:rd deSl G (a.add 1)=some sc:=by rw [(e1.ext hxx).rd]; rfl
   have ei:((i+1:Nat):Int) - 1=(i:Int):=by omega
   obtain ⟨G1,v1,z1,l1,b1,b2,b3,b4,b5,b6⟩:=zo5 c (w3:=w3) (w4:=z) (w5:=w5) (nm:=g.datas[i].n) hxx hS hi' (v5:=((i+1:Nat):Int) - 1) ei (hC _ (List.getElem_mem hi')) (Nat.le_trans hm hx.1) e2 ⟨a,g1,e1⟩
   have hll:l.length+(i+1)=g.datas.length:=by have:=congrArg List.length hl; simp at this; omega
   have hb:l.length+1≤1048576:=by omega
   have hv1:VecA rawDE 46 m G1 l z:=VecV.ext hv b6
   have hl1:l1.length=(g.datas[i]).cons.length:=by have:=congrArg List.length b3; simpa using this
   obtain ⟨z2,G2,z3,G3,p1,p2,p3,p4⟩:=VecA.push (bytes:=40) hv1 ⟨z1,turnD g.datas[i]⟩ (roomS (b:=40) hb (by omega)).1 (roomS (b:=40) hb (by omega)).2 (Nat.le_trans hm (hx.trans b6).1) (own_lt hv1)
   obtain ⟨x3,o3⟩:=p4.ext (hx.trans b6) ho
   refine ⟨(G3,(i:Int) - 1,w3,z3,w5),?_,G3,z3,_,rfl,by omega,x3,p3,o3,?_,?_⟩
   ·unfold z2c
    simp only
    rw [if_pos (by omega)]
    simp only [ei] at b1 ⊢
    rw [g1]
    simp only [Option.bind_some,r0,r1]
    have b1':(LCo c).run (z2f (LCo c) m s1 s2 s3 (i:Int) w3 z w5) (G,IntKind.i64.wrap ((sc.n:Int) - 1),g.datas[i].n,Sl3.nil)=_:=b1
    rw [b1']
    have p1':newR 46 1 #[(Value.string g.datas[i].n),(Sl3.v z1)] G1=some (z2,G2):=p1
    have p2':appS m 46 2 40 G2 z z2=some (z3,G3):=p2
    simp only [Option.bind_some]
    rw [p1']
    simp only [Option.bind_some,p2']
    have:=zaj (i:=i) (by omega)
    rw [ei] at this
    rw [this]
   ·rw [List.map_append,hl,List.drop_eq_getElem_cons hi']
    simp only [List.map_cons,List.map_nil,List.reverse_cons]
   ·intro x hx'
    rcases List.mem_append.1 hx' with h' | h'
    ·have o:=hok x h'
     have o1:DatOk m H0 G1 z x:=by
      obtain ⟨q1,lq,q2,q3,q4,q5,q6⟩:=o
      exact ⟨q1,lq,VecV.ext q2 b6,q3,q4,q5,q6⟩
     exact o1.ch p4
    ·rw [List.mem_singleton] at h'
     subst h'
     have o1:DatOk m H0 G1 z ⟨z1,turnD g.datas[i]⟩:=⟨g2.nm,l1,b2,b3,by have:=e2.len; omega,b4,fun id h1 h2=>by
      have:=b5 id h1
      have:=own_lt hv id h2
      omega⟩
     exact o1.ch p4)
  g.datas.length (H,(g.datas.length:Int) - 1,w3,Sl3.nil,w5) ⟨H,Sl3.nil,[],rfl,Nat.le_refl _,Fm.refl _ _,VecA.nil _ _ _ _,fun id h=>absurd h z3y,by simp,fun x hx=>by cases hx⟩
 refine ⟨H',v,z,?_,h2,h3⟩
 rw [hn,z9b (by omega)]
 exact h1
theorem zkc (c:Nat) (hS:SigA H s1 s2 s3 g) (hU:g.users.length≤1048576) (hD:g.datas.length≤1048576) (hF:g.funs.length≤1048576) (hC:∀d∈g.datas,d.cons.length≤1048576) (hm:m≤H.next) :
  ∃z1 z2 z3 H',z5m (LCo c) m H s1 s2 s3=some (z1,z2,z3,H')∧SigA H' z1 z2 z3 (turnG g)∧Ext H H':=by
 obtain ⟨H1,v1,z1,a1,a2,a3⟩:=zon (m:=m) (w4:=Sl3.nil) (w5:=Sl3.nil) c hS hU hm
 obtain ⟨H2,v2,z2,b1,b2,b3⟩:=zoh (m:=m) (w3:=z1) (w5:=Sl3.nil) c a3 hS hD hC (Nat.le_trans hm a3.1)
 obtain ⟨H3,v3,z3,c1,c2,c3⟩:=zoi (m:=m) (w3:=z1) (w4:=z2) c (a3.trans b3) hS hF (Nat.le_trans hm (a3.trans b3).1)
 refine ⟨z1,z2,z3,H3,?_,⟨a2.ext (b3.trans c3) fun _ _ h=>h.ext (b3.trans c3),b2.ext c3 fun _ _ h=>h.ext c3,c2⟩,(a3.trans b3).trans c3⟩
 unfold z5m
 have a1':(LCo c).run (z2b (LCo c) m s1 s2 s3) (H,IntKind.i64.wrap ((s1.n:Int) - 1),Sl3.nil,Sl3.nil,Sl3.nil)=_:=a1
 have b1':(LCo c).run (z2c (LCo c) m s1 s2 s3) (H1,IntKind.i64.wrap ((s2.n:Int) - 1),z1,Sl3.nil,Sl3.nil)=_:=b1
 have c1':(LCo c).run (z2e (LCo c) m s1 s2 s3) (H2,IntKind.i64.wrap ((s3.n:Int) - 1),z1,z2,Sl3.nil)=_:=c1
 rw [a1']
 simp only [Option.bind_some]
 rw [b1']
 simp only [Option.bind_some]
 rw [c1']
 rfl
end
end Go.Proofs.YtccbilfbhecdaaaDoor
namespace Go.Proofs.YtccbilfbhecdaaaDoor
open Go Go.Abs
set_option maxRecDepth 100000
section
variable {H:AH} {s1 s2 s3:Sl3} {g:Sg} {L0 fuel:Nat}
def TabG (g:Sg) (m:Nat) (H:AH) (s:Sl3):Prop:=(¬(sigS g=0∨sigS g=43)∧s=Sl3.nil)∨((sigS g=0∨sigS g=43)∧∃id bl,s=⟨some ⟨id,0,none⟩,g.datas.length,g.datas.length⟩∧ArrV 4 m H id (bV bl)∧bl.length=g.datas.length∧∀k,On bl k↔Gd g k)
theorem TabG.ext {m:Nat} {H':AH} {s:Sl3} (h:TabG g m H s) (hx:Ext H H'):TabG g m H' s:=by
 rcases h with h | ⟨h1,id,bl,h2,h3,h4,h5⟩
 ·exact .inl h
 ·exact .inr ⟨h1,id,bl,h2,h3.ext hx,h4,h5⟩
theorem zes {m:Nat} (hF:L0=fuel+1) (hfu:15≤fuel) (hd:g.dep≤fuel) (hb:SgB g) (hS:SigA H s1 s2 s3 g) (hm:m≤H.next) :
  ∃s H',z5h (LCo L0) m H s1 s2 s3=some (s,H')∧Ext H H'∧TabG g m H' s:=by
 obtain ⟨H2,a1,a2⟩:=z5d hF hfu hd hb hS hm
 unfold z5h
 rw [a1]
 simp only [Option.bind_some]
 have hc:(if sigS g=0 then some false else some (!decide (sigS g=43)))=some (!decide (sigS g=0∨sigS g=43)):=by
  by_cases h0:sigS g=0 <;> simp [h0]
 rw [hc]
 simp only [Option.bind_some]
 by_cases h:sigS g=0∨sigS g=43
 ·have hG:=zbu h
  have m2:=Nat.le_trans hm a2.1
  obtain ⟨p,H5,p1,p2,p3,p4,p5⟩:=zag L0 m (hS.ext a2) m2
  have x5:=a2.trans p2
  obtain ⟨id,bl,H7,d1,d2,d3,d4,d5⟩:=zep hF hfu hG (hS.ext x5) p3 (Nat.le_trans hm x5.1)
  rw [decide_eq_true h]
  simp only [Bool.not_true,Bool.false_eq_true,if_false,p1,Option.bind_some,d1]
  exact ⟨_,H7,rfl,x5.trans d2,.inr ⟨h,id,bl,rfl,d3,d4,d5⟩⟩
 ·rw [decide_eq_false h]
  exact ⟨_,H2,rfl,a2,.inl ⟨h,rfl⟩⟩
end
end Go.Proofs.YtccbilfbhecdaaaDoor
namespace Go.Proofs.YtccbilfbhecdaaaDoor
open Go Go.Abs
set_option maxRecDepth 100000
theorem zbk {α:Type} {f:α→Nat} {B:Nat}:∀{l:List α},(∀x∈l,f x≤B)→maxL f l≤B
 | [],_=>Nat.zero_le _
 | x :: l,h=>by
  simp only [maxL]
  have h1:=h x (by simp)
  have h2:=zbk (l:=l) fun y hy=>h y (by simp [hy])
  omega
theorem zpl (g:Sg):(turnG g).dep≤g.dep:=by
 have key:maxL (fun d:Dat=>maxL (fun c:Con=>maxL Sel.dep c.sels) d.cons) (turnG g).datas≤g.dep:=by
  refine zbk fun d hd=>zbk fun c hc=>zbk fun x hx=>?_
  simp only [turnG,List.mem_reverse,List.mem_map] at hd
  obtain ⟨d0,hd0,rfl⟩:=hd
  simp only [turnD,List.mem_reverse] at hc
  exact zlr hd0 hc hx
 have key2:maxL Fnc.dep (turnG g).funs≤g.dep:=by
  refine zbk fun f hf=>?_
  simp only [turnG,List.mem_reverse] at hf
  have:=zgz hf
  unfold Fnc.dep
  omega
 show max _ _≤_
 omega
section
variable {H:AH} {s1 s2 s3:Sl3} {g:Sg} {L0 fuel:Nat}
theorem TabG.n {m:Nat} {s:Sl3} (h:TabG g m H s):s.n=if sigS g=0∨sigS g=43 then g.datas.length else 0:=by
 rcases h with ⟨h1,rfl⟩ | ⟨h1,id,bl,rfl,_⟩
 ·rw [if_neg h1]; rfl
 ·rw [if_pos h1]
theorem zmj (c:Nat) {m m':Nat} {xa xb:Sl3} (ha:TabG g m H xa) (hb:TabG (turnG g) m' H xb) (hN:g.datas.length≤1048576) {i1 i2:Int} {b1:ByteArray} {y1 y2 y3 y4 y5 y6 y7:Sl3} :
  ∃v,loopO (z10 (LCo c) i1 i2 b1 y1 y2 y3 y4 y5 y6 y7 xa xb H) 0=some (.inl v):=by
 have eN:=z1r
 have hna:=ha.n
 have hnb:=hb.n
 by_cases h:sigS g=0∨sigS g=43
 ·rw [if_pos h] at hna
  rw [if_pos (z5r.2 h),z2y] at hnb
  have step:∀i,i<g.datas.length→z10 (LCo c) i1 i2 b1 y1 y2 y3 y4 y5 y6 y7 xa xb H (i:Int)=some (.next ((i+1:Nat):Int)):=by
   intro i hi
   rcases ha with ⟨h1,_⟩ | ⟨_,ida,bla,rfl,a3,a4,a5⟩
   ·exact absurd h h1
   rcases hb with ⟨h1,_⟩ | ⟨_,idb,blb,rfl,b3,b4,b5⟩
   ·exact absurd (z5r.2 h) h1
   obtain ⟨q1,e1,e2⟩:=zbc a3 a4 hi
   have hj:g.datas.length - 1 - i<(turnG g).datas.length:=by rw [z2y]; omega
   obtain ⟨q2,f1,f2⟩:=zbc b3 b4 hj
   have hbit:bla.getD i false=blb.getD (g.datas.length - 1 - i) false:=by
    rw [Bool.eq_iff_iff,z6d,z6d,a5,b5]
    exact (zgm h hi).symm
   unfold z10
   rw [if_pos (by omega),e1]
   simp only [Option.bind_some,e2]
   rw [z9b (n:=(turnG g).datas.length) (by rw [z2y]; omega),z2y,z3p (by omega) (by omega),show (g.datas.length:Int) - 1 - (i:Int)=((g.datas.length - 1 - i:Nat):Int) by omega]
   rw [z2y] at f1
   rw [f1]
   simp only [Option.bind_some,f2,hbit,beq_self_eq_true,if_true]
   rw [zi hi (by omega)]
  have last:z10 (LCo c) i1 i2 b1 y1 y2 y3 y4 y5 y6 y7 xa xb H (g.datas.length:Int)=some (.brk (g.datas.length:Int)):=by
   unfold z10
   rw [if_neg (by omega)]
  have key:∀(t i:Nat),i+t=g.datas.length→loopO (z10 (LCo c) i1 i2 b1 y1 y2 y3 y4 y5 y6 y7 xa xb H) (i:Int)=some (.inl (g.datas.length:Int)):=by
   intro t
   induction t with
   | zero =>
    intro i hi
    obtain rfl:i=g.datas.length:=by omega
    exact zy last
   | succ t ih =>
    intro i hi
    rw [zl (step i (by omega))]
    exact ih (i+1) (by omega)
  exact ⟨_,key g.datas.length 0 (by omega)⟩
 ·rw [if_neg h] at hna
  refine ⟨0,zy ?_⟩
  unfold z10
  rw [if_neg (by omega)]
theorem znd (hF:L0=fuel+1) (hfu:15≤fuel) (hd:g.dep≤fuel) (hT:HasT H) (hS:SigA H s1 s2 s3 g) (hb:SgB g) (hU:g.users.length≤1048576) (hD:g.datas.length≤1048576) (hFn:g.funs.length≤1048576) (hC:∀d∈g.datas,d.cons.length≤1048576)
  {k w:Int} {n:ByteArray} {s:Sl3} {a:Fo} (h:SlF H s a) (hn:n.size≤maxS) (hda:a.dep≤fuel) (hfn:40*(g.datas.length+1)+31≤L0) {mo:Int} (hmo:mo<9223372036854775808) :
  ∃H',z5j (LCo L0) H.next H k w n s s1 s2 s3 mo=some (true,H'):=by
 obtain ⟨z1,z2,z3,H2,a1,hS2,x2⟩:=zkc (m:=H.next) L0 hS hU hD hFn hC (Nat.le_refl _)
 have hd':(turnG g).dep≤fuel:=Nat.le_trans (zpl g) hd
 have hb':SgB (turnG g):=⟨by show (g.users.reverse).length≤_; rw [List.length_reverse]; exact hb.u,by rw [z2y]; exact hb.d,by show (g.funs.reverse).length≤_; rw [List.length_reverse]; exact hb.f⟩
 have hfn':40*((turnG g).datas.length+1)+31≤L0:=by rw [z2y]; exact hfn
 unfold z5j
 rw [a1]
 simp only [Option.bind_some]
 obtain ⟨H5,b1,b2⟩:=zg3 (m:=H.next) hF hfu hd hb (hS.ext x2) x2.1 (h.ext x2) hn hda hfn (k:=k) (w:=w) hmo
 have x5:=x2.trans b2
 rw [b1]
 simp only [Option.bind_some]
 obtain ⟨H8,c1,c2⟩:=zg3 (m:=H.next) hF hfu hd' hb' (hS2.ext b2) x5.1 (h.ext x5) hn hda hfn' (k:=k) (w:=w) hmo
 have x8:=x5.trans c2
 rw [c1]
 simp only [Option.bind_some]
 have hmx:∀{G:AH},Ext H G→Nat.max H.next G.next=G.next:=fun hx=>Nat.max_eq_right hx.1
 rw [hmx x8]
 obtain ⟨xa,H10,d1,d2,ta⟩:=zes (m:=H8.next) hF hfu hd hb (hS.ext x8) (Nat.le_refl _)
 have x10:=x8.trans d2
 rw [d1]
 simp only [Option.bind_some]
 have hS8:=hS2.ext (b2.trans c2)
 obtain ⟨xb,H12,e1,e2,tb⟩:=zes (m:=H.next) hF hfu hd' hb' (hS8.ext d2) x10.1
 have x12:=x10.trans e2
 rw [e1]
 simp only [Option.bind_some]
 have hS12:=hS8.ext (d2.trans e2)
 have ta:=ta.ext e2
 refine zpf (fun x=>Ext H12 x.1∧x.2=false) ?_ ?_
 ·rw [zom _ (hT.ext x12)]
  simp only [Option.bind_some,if_true]
  rw [hmx x12]
  obtain ⟨H17,f1,f2⟩:=z5d (m:=H12.next) hF hfu hd hb (hS.ext x12) (Nat.le_refl _)
  have x17:=x12.trans f2
  rw [f1]
  simp only [Option.bind_some]
  rw [hmx x17]
  obtain ⟨H19,g1,g2⟩:=z5d (m:=H17.next) hF hfu hd' hb' (hS12.ext f2) (Nat.le_refl _)
  have x19:=x17.trans g2
  rw [g1]
  simp only [Option.bind_some]
  have ez:decide (sigS g=0)=decide (sigS (turnG g)=0):=by
   rw [decide_eq_decide]; exact z87.symm
  rw [ez,zk2]
  simp only [beq_self_eq_true,if_true]
  rw [hmx x19]
  obtain ⟨H21,p1,p2⟩:=zeo (m:=H19.next) hF hfu hd hb (hS.ext x19) (Nat.le_refl _) (h.ext x19) hn hda hfn (k:=k) (w:=w)
  have x21:=x19.trans p2
  rw [p1]
  simp only [Option.bind_some]
  obtain ⟨H23,q1,q2⟩:=zeo (m:=H.next) hF hfu hd' hb' (hS12.ext ((f2.trans g2).trans p2)) x21.1 (h.ext x21) hn hda hfn' (k:=k) (w:=w)
  rw [q1]
  simp only [Option.bind_some]
  rw [zo0]
  simp only [beq_self_eq_true,if_true]
  refine ⟨_,rfl,((f2.trans g2).trans p2).trans q2,?_⟩
  have en:xa.n=xb.n:=by
   rw [ta.n,tb.n,z2y]
   by_cases hq:sigS g=0∨sigS g=43
   ·rw [if_pos hq,if_pos (z5r.2 hq)]
   ·rw [if_neg hq,if_neg fun h=>hq (z5r.1 h)]
  simp [en]
 rintro ⟨H13,v⟩ ⟨x13,hv⟩
 simp only at x13 hv
 subst hv
 simp only [Bool.false_eq_true,if_false]
 obtain ⟨v,hv⟩:=zmj L0 (ta.ext x13) (tb.ext x13) hD (i1:=k) (i2:=w) (b1:=n) (y1:=s) (y2:=s1) (y3:=s2) (y4:=s3) (y5:=z1) (y6:=z2) (y7:=z3)
 have hv':(LCo L0).run (z10 (LCo L0) k w n s s1 s2 s3 z1 z2 z3 xa xb H13) 0=some (.inl v):=hv
 rw [hv']
 exact ⟨H13,rfl⟩
end
end Go.Proofs.YtccbilfbhecdaaaDoor
namespace Go.Proofs.YtccbilfbhecdaaaDoor
open Go Go.Abs Go.ChangeShapes Go.WideShapes
set_option maxRecDepth 100000
theorem zkt {H:Type} {enc:TypeId×Value→H} {W:World} {base:Nat} {args:Array Value} {ds:List (DataW H)} {ps:List MemPlace} (hg:Tryd.prog.globals.size≤W.heap.size)
  (hval:∀(j:Nat) t v,Tryd.f10.params[j]? = some t→args[j]? = some v→Value.okWide Tryd.prog W .any base t v)
  (hA:DataW.TrodAll enc Tryd.prog W 0 (fun _=>true) true Tryd.f10.params.toList args.toList ds ps) (hk:Rows.uptoSmall H ds=true) (hL:laidMet Tryd.prog Rows.sortTurnsUptoRow.laid W) (hsh:W.ShapedOpen Tryd.prog)
  (hwt:(DataW.weightsEach Tryd.prog (Tryd.f10.params.toList++[]) ds).all (·≤reachBytes)=true) :
  Calls Tryd.prog 10 args W fun e W'=>e=.returned (.bool true)∧RowKit.Below W.heap.size W W':=by
 rw [Tryd.params10] at hA hval hwt
 obtain ⟨v0,vs0,d0,ds0,p0,q0,hargs,rfl,rfl,h0,r0⟩:=trodAll_cons hA
 obtain ⟨v1,vs1,d1,ds1,p1,q1,rfl,rfl,rfl,h1,r1⟩:=trodAll_cons r0
 obtain ⟨v2,vs2,d2,ds2,p2,q2,rfl,rfl,rfl,h2,r2⟩:=trodAll_cons r1
 obtain ⟨rfl,rfl,rfl⟩:=trodAll_nil r2
 obtain rfl:args=#[v0,v1,v2]:=by cases args; simp_all
 have hb:=bulks.bound hk
 simp only [Rows.uptoBulkAll] at hb
 simp only [List.append_nil,DataW.weightsEach,List.all_append,Bool.and_eq_true] at hwt
 obtain ⟨φ0,H0x,k0,w0,n0,s0,a0,i0,le0,e0,vr0,sl0,hn0⟩:=zkv (zqg hg hL hsh) h0 (hval 0 28 v0 rfl rfl) hwt.1
 obtain ⟨φ1,H1x,s1u,s1d,s1f,g1,i1,le1,e1,vr1,sg1,hb1,hl1⟩:=zm4 i0 h1 (hval 1 33 v1 rfl rfl) hwt.2.1 (by omega)
 obtain ⟨z2,rfl,_,_,hz2⟩:=open_int Tryd.underlying3 (hval 2 3 v2 rfl rfl) h2
 obtain ⟨H',hr⟩:=znd (L0:=max 15 g1.dep+a0.dep+40*g1.datas.length+101) (fuel:=max 15 g1.dep+a0.dep+40*g1.datas.length+100) rfl (by omega) (by omega) (zmn.ext (e0.trans e1)) sg1 hb1 hl1.u hl1.d hl1.f hl1.c (k:=k0) (w:=w0) (sl0.ext e1) hn0 (by omega) (by omega) (mo:=z2) (wf_i64 hz2).2
 exact zic (ne:=NE.plain 1000) sane (zdg hr) i1 (ar3 (vr0.mono le1) vr1 (.int .i64 z2))
theorem zkw (os:Os) {H:Type} (enc:TypeId×Value→H):∃x,DataW.whole enc Tryd.prog ((laidW2 Tryd.prog Rows.sortTurnsUptoRow.laid os).forCall (fun _ _=>0) ⟨#[],#[.agg #[.int .i64 0,.int .i64 0,.string ⟨#[]⟩,.slice none 0 0],.agg #[.slice none 0 0,.slice none 0 0,.slice none 0 0],.int .i64 0],[]⟩).memory Tryd.f10.params.toList Rows.sortTurnsSpec.vars false (#[.agg #[.int .i64 0,.int .i64 0,.string ⟨#[]⟩,.slice none 0 0],.agg #[.slice none 0 0,.slice none 0 0,.slice none 0 0],.int .i64 0]:Array Value).toList 8=some ([.agg [.lit (.int .i64 0),.lit (.int .i64 0),.lit (.string []),.nil],.agg [.nil,.nil,.nil],.lit (.int .i64 0)],[],x) :=
 ⟨[],by kernel_rfl⟩
theorem zja (os:Os) (started:os.Started) (H:Type) (enc:TypeId×Value→H) (F:Stop.Interp) :
  ReturnsInHanded {} Tryd.checked os 10 .any ((Rows.OpenSpec.upto Rows.sortTurnsSpec).preRow enc Tryd.prog Tryd.f10 Rows.sortTurnsUptoRow.domain false Rows.sortTurnsUptoRow.laid) (((Rows.OpenSpec.upto Rows.sortTurnsSpec).at F).post enc Tryd.prog Tryd.f10 false true false false):=by
 obtain ⟨x,hx⟩:=zkw os enc
 exact zfk (C:=Tryd.checked) (s:=Rows.OpenSpec.upto Rows.sortTurnsSpec) (k:=Rows.uptoSmall) rfl own started (by kernel_rfl) Tryd.func10 zn4 laidOut (by kernel_rfl) rfl (by kernel_rfl)
  (fun ds hds=>by
   have h1:ds.length=3:=hds
   match ds,h1 with
   | [d0,d1,d2],_=>exact ⟨rfl,rfl,rfl⟩)
  rfl (by kernel_rfl)
  (witness_row_atRef (enc:=enc) (C:=Tryd.checked) false (laidW2 Tryd.prog Rows.sortTurnsUptoRow.laid os) #[.agg #[.int .i64 0,.int .i64 0,.string ⟨#[]⟩,.slice none 0 0],.agg #[.slice none 0 0,.slice none 0 0,.slice none 0 0],.int .i64 0] rfl (by kernel_rfl) (by kernel_rfl) (by kernel_rfl)
   (OpenSpec.preRow_of_cond 8 hx (by kernel_rfl) (fun k hk=>by cases hk; kernel_rfl) (by kernel_rfl) (zq8 os _)))
  (fun W base args ds ps hg hval hA hk hL hsh hwt=>zkt hg hval hA hk hL hsh hwt)
theorem zn6:Rows.SortTurnsUptoSaid :=
 OpenClaim.holds_of_cond 10 Tryd.f10 rfl rfl rfl rfl rfl rfl rfl ⟨rfl,rfl,rfl,rfl,rfl⟩ rfl rfl rfl rfl rfl (by kernel_rfl) Tryd.func10 (by kernel_rfl)
  (of_decide_eq_true (by kernel_rfl)) (by unfold Func.isWrapper; first | (rw [if_pos (by decide +kernel)]; kernel_rfl) | (rw [if_neg (by decide +kernel)]; exact ⟨rfl,rfl⟩))
  (fun os started H enc _ F=>by rw [OpenClaim.pre_eq_preRow]; exact zja os started H enc F)
theorem zl3 (f:FuncId) (fn:Func) (hf:Tryd.pinned.checked.prog.funcNamed "tribunal/tribunallaw04.SortTurns"=some f) (hfn:Tryd.pinned.checked.prog.funcs[f]? = some fn) :
  false=Tryd.pinned.checked.prog.looks []∧∀(j:Nat) t,fn.params[j]? = some t→Tryd.pinned.checked.prog.wantsStandIn t=false:=by
 obtain rfl:f=10:=Option.some.inj ((show Tryd.prog.funcNamed "tribunal/tribunallaw04.SortTurns"=some 10 by kernel_rfl).symm.trans hf) |>.symm
 obtain rfl:fn=Tryd.f10:=(Option.some.inj (Tryd.func10.symm.trans hfn)).symm
 exact ⟨by kernel_rfl,fun j t ht=>by
  have hall:(Tryd.f10.params.toList.all fun u=>!Tryd.prog.wantsStandIn u)=true:=by kernel_rfl
  have hm:t∈Tryd.f10.params.toList:=by simpa using Array.mem_of_getElem? ht
  exact (show Tryd.prog.wantsStandIn t=false by simpa using List.all_eq_true.1 hall t hm)⟩
theorem sortTurns_holds:Rows.SortTurnsUptoCardSaid :=
 Claim7.holds_tied_plain_at .later [] _ _ _ _ zn6 (fun _ h=>by cases h) (by kernel_rfl) (fun _ h=>by cases h) sortTurnsUpto_row_tie rfl ⟨rfl,rfl⟩ (by kernel_rfl) rfl zl3 (by kernel_rfl)
#print axioms sortTurns_holds
end Go.Proofs.YtccbilfbhecdaaaDoor
