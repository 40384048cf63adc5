/- EgraphOwn is proved where what it reads is of bulk at most 1048576: it returns true and its argument reads as before. No condition beyond the row's own (listed tables of Go's library as the text lays them). -/
import Derived.Test.YtgkhbmoidenjaaaDoorOw5
namespace Go.Proofs.YtgkhbmoidenjaaaDoor
open Go Go.Abs Go.Abs.Eg
set_option maxRecDepth 100000
section
variable {T:Tys} {m:Nat} {H0 H H':AH} {L:GL} {x:Gh} {R:RL} {Tb:AH→Prop} {tx:Key→ByteArray}
abbrev Tb0 (H0:AH):AH→Prop:=fun H=>Ext H0 H
theorem tb0_fr {W:Nat→Prop} (hlo:H0.next≤m) (h:Tb0 H0 H) (hf:Fm W H H') (hw:∀id,W id→m≤id):Tb0 H0 H' :=
 ⟨Nat.le_trans h.1 hf.1,fun id b hid hn hg=>hf.2 id b (Nat.lt_of_lt_of_le hid h.1) (fun hwi=>by have:=hw id hwi; omega) (h.2 id b hid hn hg)⟩
theorem env0 (hT:TyOK T) (hH:HasT H0) (hlo:H0.next≤m):Env T txK m (Tb0 H0):=zjs hT.I (fun H h=>hH.ext h) fun h hf hw=>tb0_fr hlo h hf hw
theorem GS.fr {W:Nat→Prop} (hE:Env T tx m Tb) (h:GS T tx m Tb H L x) (hf:Fm W H H') (hw:∀c id,L.fp c id→¬W id) (hm:∀id,W id→m≤id):GS T tx m Tb H' L x :=
 ⟨⟨h.gr.rep.other hf hw,hE.tb h.gr.tb hf hm,h.gr.mi,h.gr.mx,h.gr.sm,Nat.le_trans h.gr.nm hf.1,h.gr.cll,h.gr.li⟩,h.ids,h.sdr⟩
structure PG (T:Tys) (m:Nat) (H0 H:AH) (L:GL) (x:Gh) (R:RL):Prop where
 gs:GS T txK m (Tb0 H0) H L x
 rf:RF m H R x.g.N x.sd
 sep:∀c id,L.fp c id→¬R.fp id
 nok:NOK x.g.N
theorem PG.old (h:PG T m H0 H L x R):Ext H0 H:=h.gs.gr.tb
theorem PG.ext (hE:Env T txK m (Tb0 H0)) (h:PG T m H0 H L x R) (hf:Ext H H'):PG T m H0 H' L x R:=⟨h.gs.ext hE hf,RR.ext h.rf hf,h.sep,h.nok⟩
theorem PG.fr {W:Nat→Prop} (hE:Env T txK m (Tb0 H0)) (h:PG T m H0 H L x R) (hf:Fm W H H') (hw:∀c id,L.fp c id→¬W id) (hw2:∀id,R.fp id→¬W id) (hm:∀id,W id→m≤id):PG T m H0 H' L x R :=
 ⟨h.gs.fr hE hf hw hm,RR.fr h.rf hf hw2,h.sep,h.nok⟩
theorem PG.rf1 (h:PG T m H0 H L x R) {H1:AH} {L1:GL} {x1:Gh} (g:GO T txK m (Tb0 H0) H.next H L H1 L1 x1):RF m H1 R x.g.N x.sd :=
 RR.fr h.rf g.fm fun id hid hw=>by
  obtain ⟨c,hc⟩:=hw (RR.low h.rf hid).2;exact h.sep c id hc hid
def Wp (L:GL) (R:RL) (n0:Nat) (id:Nat):Prop:=id<n0→(∃c,L.fp c id)∨R.fp id
structure PO (T:Tys) (m:Nat) (H0 H:AH) (L:GL) (R:RL) (H':AH) (L':GL) (x':Gh) (R':RL):Prop where
 pg:PG T m H0 H' L' x' R'
 q:L'.q=L.q
 rq:R'.q=R.q
 fm:Fm (Wp L R H.next) H H'
 fp:∀c id,L'.fp c id→L.fp c id∨H.next≤id
 rfp:∀id,R'.fp id→R.fp id∨H.next≤id
theorem PG.both (hE:Env T txK m (Tb0 H0)) (h:PG T m H0 H L x R) {H1 H2:AH} {L1:GL} {x1:Gh} {R':RL} {N':List Nd} {sd':List Sd} (g:GO T txK m (Tb0 H0) H.next H L H1 L1 x1) (r:RO m H1.next H1 R H2 R' N' sd')
  (hN:x1.g.N=N') (hS:x1.sd=sd') (hk:NOK N'):PO T m H0 H L R H2 L1 x1 R':=by
 subst hN; subst hS;have hle:=g.fm.1;have hRlt:∀id,R.fp id→id<H.next:=fun id hid=>(RR.low h.rf hid).2;refine ⟨⟨g.gs.fr hE r.fm (fun c id hc hw=>?_) (fun id hw=>?_),r.rr,fun c id hc hr=>?_,hk⟩,g.q,r.q,?_,g.fp,fun id hid=>?_⟩
 ·have hr:=hw (g.gs.gr.rep.low hc).2;rcases g.fp c id hc with h1 | h1
  ·exact h.sep c id h1 hr
  ·have:=hRlt id hr; omega
 ·by_cases hlt:id<H1.next
  ·exact (RR.low h.rf (hw hlt)).1
  ·have:=g.gs.gr.nm; omega
 ·rcases g.fp c id hc with h1 | h1
  ·rcases r.fp id hr with h2 | h2
   ·exact h.sep c id h1 h2
   ·have:=(h.gs.gr.rep.low h1).2; omega
  ·rcases r.fp id hr with h2 | h2
   ·have:=hRlt id h2; omega
   ·have:=(g.gs.gr.rep.low hc).2; omega
 ·refine (g.fm.weak fun id _ hw=>?_).comp (W':=fun id=>id<H1.next→R.fp id) r.fm fun id hid hn hw=>hn ?_
  ·exact fun hlt=>.inl (hw hlt)
  ·exact fun hlt=>.inr (hw (by omega))
 ·rcases r.fp id hid with h1 | h1
  ·exact .inl h1
  ·exact .inr (by omega)
theorem PG.nlen (h:PG T m H0 H L x R):x.g.N.length≤1048576:=h.gs.gr.sm.n
theorem PG.args (h:PG T m H0 H L x R):∀z∈x.g.N,z.args.length≤64:=fun z hz=>by
 obtain ⟨i,hi,rfl⟩:=List.mem_iff_getElem.1 hz;exact h.gs.gr.sm.args i _ (List.getElem?_eq_getElem hi)
variable {kt e:TypeId}
theorem zi7 (hE:Env T txK m (Tb0 H0)) (hP:PE T 58 kt e) (hT:TyOK T) (k:Nat) (h:PG T m H0 H L x R) {kd sy:Int} {s:Sl3} {aa:List Int} {a b tg:Int} (hk:1≤kd∧kd≤4)
  (hsy:-9223372036854775808≤sy∧sy<9223372036854775808) (hs:∀H',Fm (Wp L R H.next) H H'→AR H' s aa) (ht:totN x.g.N+aa.length≤1048576) (hl:x.sd.length≤1048576) :
  ∃H' L' x' R',G8 (LCo k) m H (GL.p L) (RL.p R) kd sy s a b tg=some (true,H')∧PO T m H0 H L R H' L' x' R'∧totN x'.g.N≤totN x.g.N+aa.length∧x'.sd.length≤x.sd.length+1:=by
 unfold G8;by_cases h1:kd=1
 ·subst h1;rw [if_pos rfl];obtain ⟨H1,L1,x1,a1,a2,a3,a4⟩:=z2u hE hP hT k h.gs hsy (fun H' hx=>hs H' (hx.weak fun _ _ h=>h.elim)) ht;obtain ⟨H2,R2,b1,b2⟩:=zez k (h.rf1 a2) a2.gs.gr.nm (v:=sy) (hs H1 (a2.fm.weak fun _ _ hw hlt=>.inl (hw hlt))) h.args h.nlen;refine ⟨H2,L1,x1,R2,?_,h.both hE a2 b2 a3 a4 (h.nok.add sy aa),by rw [a3]; exact zl9 _ _ _,by rw [a4]; omega⟩;rw [a1];simp only [Option.bind_some];rw [b1];simp only [Option.bind_some,if_true,decide_true]
 rw [if_neg h1];by_cases h2:kd=2
 ·subst h2;rw [if_pos rfl];obtain ⟨H1,L1,x1,a1,a2,a3,a4⟩:=zh8 hE hP hT k h.gs hsy (by omega);obtain ⟨H2,R2,b1,b2⟩:=zce k (h.rf1 a2) a2.gs.gr.nm sy h.args h.nlen;refine ⟨H2,L1,x1,R2,?_,h.both hE a2 b2 a3 a4 (h.nok.val sy),by rw [a3]; have:=zkd x.g.N sy; omega,by rw [a4]; omega⟩;rw [a1];simp only [Option.bind_some];rw [b1];simp only [Option.bind_some,if_true,decide_true]
 rw [if_neg h2];by_cases h3:kd=3
 ·subst h3;rw [if_pos rfl];obtain ⟨H1,L1,x1,a1,a2,a3,a4⟩:=z67 hE hP hT k h.gs a b tg false hl;obtain ⟨H2,R2,b1,b2⟩:=z8v k (h.rf1 a2) a2.gs.gr.nm a b tg false hl;refine ⟨H2,L1,x1,R2,?_,h.both hE a2 b2 a3 a4 h.nok,by rw [a3]; omega,by rw [a4]; exact zfi _ _ _⟩;unfold P4;rw [a1];simp only [Option.bind_some];rw [b1];simp only [Option.bind_some,decide_true]
 rw [if_neg h3];have h4:kd=4:=by omega
 subst h4;rw [if_pos rfl];obtain ⟨H1,L1,x1,a1,a2,a3,a4⟩:=z67 hE hP hT k h.gs a b tg true hl;obtain ⟨H2,R2,b1,b2⟩:=z8v k (h.rf1 a2) a2.gs.gr.nm a b tg true hl;refine ⟨H2,L1,x1,R2,?_,h.both hE a2 b2 a3 a4 h.nok,by rw [a3]; omega,by rw [a4]; exact zfi _ _ _⟩;unfold M4;rw [a1];simp only [Option.bind_some];rw [b1];simp only [Option.bind_some,decide_true]
theorem new_RF (hm:m≤H.next):RF m (H.push (pubB 32 [Sl3.v Sl3.nil,Sl3.v Sl3.nil,Sl3.v Sl3.nil])) ⟨H.next,Sl3.nil,Sl3.nil,[]⟩ [] []:=RR.new hm
end
end Go.Proofs.YtgkhbmoidenjaaaDoor
namespace Go.Proofs.YtgkhbmoidenjaaaDoor
open Go Go.Abs Go.Abs.Eg
set_option maxRecDepth 100000
section
variable {T:Tys} {m:Nat} {H0 H H':AH} {L L2:GL} {x y:Gh} {R:RL} {kt e:TypeId}
structure TG (T:Tys) (m:Nat) (H0 H:AH) (L:GL) (x:Gh) (R:RL) (L2:GL) (y:Gh):Prop where
 pg:PG T m H0 H L x R
 gs:GS T txK m (Tb0 H0) H L2 y
 sg:∀c c' id,L2.fp c id→¬L.fp c' id
 sr:∀c id,L2.fp c id→¬R.fp id
end
end Go.Proofs.YtgkhbmoidenjaaaDoor
namespace Go.Proofs.YtgkhbmoidenjaaaDoor
open Go Go.Abs Go.Abs.Eg
set_option maxRecDepth 100000
def ty0:Tys:=⟨63,86,91,3,79,109,78⟩
theorem ty0_ok:TyOK ty0:=⟨rfl,rfl,rfl,rfl,rfl,rfl,rfl⟩
section
variable {m:Nat} {H0 H H':AH} {L L2:GL} {x y:Gh} {R:RL}
end
end Go.Proofs.YtgkhbmoidenjaaaDoor
namespace Go.Proofs.YtgkhbmoidenjaaaDoor
open Go Go.Abs Go.Abs.Eg
set_option maxRecDepth 100000
theorem bnd {α β:Type} {a:Option α} {f:α→Option β} {x:α} {r:Option β} (h:a=some x) (h2:f x=r):Option.bind a f=r:=by rw [h]; exact h2
section
variable {T:Tys} {tx:Key→ByteArray} {m m1:Nat} {H:AH} {L:GL} {x:Gh}
theorem zho (k:Nat) (h:Rep T tx m H L x) (hm1:m1≤H.next):∀{i:Nat} {q:List Nat},Pa x.fe i q→∀(pre:List Nat) (v:Sl3) (Hc:AH),Ext H Hc→SlA EI 3 m1 Hc (pre++[i]) v→(∀id,fpt v id→H.next≤id)→pre.length+q.length≤1048576 →
  ∃H' s z,loopO (M2 (LCo k) m1 (GL.p L)) (Hc,(i:Int),v)=some (.inl (H',z,s))∧SlA EI 3 m1 H' (pre++q) s∧Ext H H'∧∀id,fpt s id→H.next≤id:=by
 intro i q hp;induction hp with
 | root hf =>
  rename_i i l;intro pre v Hc hx hv hfr hl;have hr:=h.ext hx;have hi:=(List.getElem?_eq_some_iff.1 hf).1;obtain ⟨q,r1,_,r2,_⟩:=rd_EE (show SlA EE T.E m Hc x.fe L.sF from hr.hold .F) hi (v:=(i:Int)) rfl;have he:x.fe[i]=(-1,l):=by rw [List.getElem?_eq_getElem hi] at hf; exact Option.some.inj hf
  rw [he] at r2;refine ⟨Hc,v,(i:Int),O1 ?_,hv,hx,hfr⟩;unfold M2;simp only [GL.p,Option.bind_some];rw [hr.q (j:=6) (v:=L.sF.v) rfl deSl];simp only [show deSl (Sl3.v L.sF)=some L.sF from rfl,Option.bind_some,r1,r2];rw [if_neg (by omega)]
 | step hf hq ih =>
  rename_i i j l q;intro pre v Hc hx hv hfr hl;have hr:=h.ext hx;have hi:=(List.getElem?_eq_some_iff.1 hf).1;obtain ⟨p,r1,_,r2,_⟩:=rd_EE (show SlA EE T.E m Hc x.fe L.sF from hr.hold .F) hi (v:=(i:Int)) rfl;have he:x.fe[i]=((j:Int),l):=by rw [List.getElem?_eq_getElem hi] at hf; exact Option.some.inj hf
  rw [he] at r2;simp only [List.length_cons] at hl;obtain ⟨z,H1,s',H2,a1,a2,a3,a4,a5,a6⟩:=hv.push (bytes:=8) j (by simp only [List.length_append,List.length_singleton]; omega) (by simp only [List.length_append,List.length_singleton]; omega) (Nat.le_trans hm1 hx.1);have hx2:Ext H H2:=hx.comp a5 fun id hlt _ hw=>by have:=hfr id hw; omega
  have hfr2:∀id,fpt s' id→H.next≤id:=fun id hid=>by
   rcases a6 id hid with h1 | h1
   ·exact hfr id h1
   ·exact Nat.le_trans hx.1 h1
  obtain ⟨H',s,z',b1,b2,b3⟩:=ih (pre++[i]) s' H2 hx2 a4 hfr2 (by rw [List.length_append,List.length_singleton]; omega);refine ⟨H',s,z',?_,by simpa using b2,b3⟩;have hb:M2 (LCo k) m1 (GL.p L) (Hc,(i:Int),v)=some (.next (H2,(j:Int),s')):=by
   unfold M2;simp only [GL.p,Option.bind_some];rw [hr.q (j:=6) (v:=L.sF.v) rfl deSl];simp only [show deSl (Sl3.v L.sF)=some L.sF from rfl,Option.bind_some,r1,r2];rw [if_pos (by omega)];rw [show newR 3 1 #[Value.int .i64 (j:Int)] Hc=some (z,H1) from a1];simp only [Option.bind_some];rw [show appS m1 3 1 8 H1 v z=some (s',H2) from a3];rfl
  rw [K1 hb];exact b1
theorem zbm (k:Nat) (h:Rep T tx m H L x) (hm1:m1≤H.next) {i:Nat} {q:List Nat} (hp:Pa x.fe i q) (hn:x.fe.length≤1048576) :
  ∃s H',u5 (LCo k) m1 H (GL.p L) (i:Int)=some (s,H')∧Vw H' s q∧Ext H H':=by
 have hx:Ext H (H.push { obj:=.cells (EI.enc i).toArray 3 (0,0),opn:=false,esz:=0,ro:=false }):=Fm.push _ _ _;have hrow:=SlA.row (E:=EI) (e:=3) (H:=H) (m:=m1) i hm1;have hql:=pa_len hp;obtain ⟨H',s,z,b1,b2,b3,b4⟩:=zho k h hm1 hp [] ⟨some ⟨H.next,0,none⟩,1,1⟩ _ hx hrow (fun id hid=>by
  obtain ⟨_,a,ha,rfl⟩:=hid;cases ha;exact Nat.le_refl _) (by simp only [List.length_nil]; omega)
 refine ⟨s,H',?_,Vw.of (by simpa using b2) (pa_ne hp),b3⟩;unfold u5;rw [show newR 3 1 #[Value.int .i64 (i:Int)] H=some (⟨some ⟨H.next,0,none⟩,1,1⟩,H.push { obj:=.cells (EI.enc i).toArray 3 (0,0),opn:=false,esz:=0,ro:=false }) from rfl];simp only [Option.bind_some];rw [show (LCo k).run (M2 (LCo k) m1 (GL.p L))=loopO (M2 (LCo k) m1 (GL.p L)) from rfl,b1];rfl
theorem zgd (k0:Nat) (a0:Option Addr) (p1 p3:Nat) (y0 y1 y2:Int) (y3:Bool) (s11:Sl3) {p q:List Nat} (hpl:p.length≤1048576) (hql:q.length≤1048576):∀(k l:Nat) (s1 s2:Sl3),k≤p.length→l≤q.length→p.drop k=q.drop l→Vw H s1 (p.take k)→Vw H s2 (q.take l) →
  ∃t1 t2 k' l',loopO (J2 (LCo k0) a0 p1 p3 y0 y1 y2 y3 s11 H) (s1,s2)=some (.inl (t1,t2))∧Vw H t1 (p.take k')∧Vw H t2 (q.take l')∧Strip p q (p.take k') (q.take l'):=by
 intro k;induction k with
 | zero =>
  intro l s1 s2 hk hl hd h1 h2;refine ⟨s1,s2,0,l,O1 ?_,h1,h2,z90 hk hl hd (.inl rfl)⟩;unfold J2;have:=h1.n;simp only [List.take_zero,List.length_nil] at this;simp only [this];rw [if_neg (by omega)];rfl
 | succ k ih =>
  intro l s1 s2 hk hl hd h1 h2;have n1:s1.n=k+1:=by rw [h1.n,List.length_take]; omega
  cases l with
  | zero =>
   refine ⟨s1,s2,k+1,0,O1 ?_,h1,h2,z90 hk hl hd (.inr (.inl rfl))⟩;unfold J2;have:=h2.n;simp only [List.take_zero,List.length_nil] at this;simp only [this];rw [if_pos (by omega),if_neg (by omega)];rfl
  | succ l =>
   have n2:s2.n=l+1:=by rw [h2.n,List.length_take]; omega
   obtain ⟨q1,a1,a2⟩:=h1.at_ (i:=k) (by rw [List.length_take]; omega) (v:=(k:Int)) rfl;obtain ⟨q2,a3,a4⟩:=h2.at_ (i:=l) (by rw [List.length_take]; omega) (v:=(l:Int)) rfl;rw [List.getElem_take] at a2 a4;have w1:IntKind.i64.wrap ((s1.n:Int) - 1)=(k:Int):=by rw [n1]; exact k7 (by omega) (by omega)
   have w2:IntKind.i64.wrap ((s2.n:Int) - 1)=(l:Int):=by rw [n2]; exact k7 (by omega) (by omega)
   by_cases he:p[k]=q[l]
   ·obtain ⟨t1,b1,b2⟩:=h1.init (k:=k) (by omega) (v:=(k:Int)) rfl;obtain ⟨t2,b3,b4⟩:=h2.init (k:=l) (by omega) (v:=(l:Int)) rfl;obtain ⟨u1,u2,k',l',c1,c2⟩:=ih l t1 t2 (by omega) (by omega) (by rw [List.drop_eq_getElem_cons (by omega),List.drop_eq_getElem_cons (i:=l) (by omega),hd,he]) b2 b4;refine ⟨u1,u2,k',l',?_,c2⟩;rw [K1 (s':=(t1,t2)) ?_]
    ·exact c1
    ·unfold J2;simp only [w1,w2,a1,a2,a3,a4,b1,b3,Option.bind_some];rw [if_pos (by omega),if_pos (by omega)];simp only [Option.bind_some];rw [if_pos (by simp [he])]
   ·refine ⟨s1,s2,k+1,l+1,O1 ?_,h1,h2,z90 hk hl hd (.inr (.inr ?_))⟩
    ·unfold J2;simp only [w1,w2,a1,a2,a3,a4,Option.bind_some];rw [if_pos (by omega),if_pos (by omega)];simp only [Option.bind_some];rw [if_neg (by simpa using fun e=>he (Int.ofNat.inj e))]
    ·rw [Nat.add_sub_cancel,Nat.add_sub_cancel,List.getElem?_eq_getElem (by omega),List.getElem?_eq_getElem (by omega)]
     simpa using he
theorem zby (n:Nat):(Builtin.zeroCells #[Value.int .i64 0] n).toList.all Abs.one=true∧(Builtin.zeroCells #[Value.int .i64 0] n).toList.length=n:=by
 have:(Builtin.zeroCells #[Value.int .i64 0] n).toList=List.replicate n (.int .i64 0):=by
  refine List.eq_replicate_iff.2 ⟨by simp [Builtin.zeroCells],fun b hb=>?_⟩;unfold Builtin.zeroCells at hb;rw [Array.toList_map] at hb;obtain ⟨i,_,rfl⟩:=List.mem_map.1 hb;have:i % (#[Value.int .i64 0]:Array Value).size=0:=Nat.mod_one i;rw [this];rfl
 rw [this];simp [Abs.one]
theorem zk3 (n:Nat) (hn:n≤4194304) (h0:0<n) (m:Nat) (H:AH):∃cs:List Value,cs.all Abs.one=true∧cs.length=n∧aAppend Tryd.prog m #[27,3] #[Sl3.v Sl3.nil,.int .i64 (n:Int)] H=some (Sl3.v ⟨some ⟨H.next,0,none⟩,n,OPEN⟩,H.push { obj:=.cells cs.toArray 3 (0,0),opn:=true,esz:=1,ro:=false }):=by
 refine ⟨(Builtin.zeroCells #[Value.int .i64 0] n).toList,(zby n).1,(zby n).2,?_⟩;have e1:aSrc Tryd.prog 3 3 ((Tryd.prog.info? 3).getD default) (.int .i64 (n:Int)) H=some (n,(Builtin.zeroCells #[Value.int .i64 0] n).toList):=by
  have:aSrc Tryd.prog 3 3 ((Tryd.prog.info? 3).getD default) (.int .i64 (n:Int)) H=bif Nat.ble (n*8) 281474976710656&&true&&true then some (n,(Builtin.zeroCells #[Value.int .i64 0] n).toList) else none:=by kernel_rfl
  rw [this,ble_of (by omega)];rfl
 have e2:aAppend Tryd.prog m #[27,3] #[Sl3.v Sl3.nil,.int .i64 (n:Int)] H=(match aSrc Tryd.prog 3 3 ((Tryd.prog.info? 3).getD default) (.int .i64 (n:Int)) H with
    | some (k,new)=>bif Nat.beq k 0 then (some (.slice none 0 0,H)) else grown H 3 1 8 k new
    | none=>none):=by kernel_rfl
 rw [e2,e1];simp only;rw [zbh (by omega)];unfold grown;rw [ble_of (by omega),ble_of (by omega)];rfl
theorem gOp_of {α:Type} {P:Program} {m:Nat} {ops:Array Oper} {j:Nat} {kn:KN} {de:Value→Option α} {H H':AH} {v:Value} {y:α} (h:runOp P (NE.plain 0) ih0 m (opAt ops j) (evV kn) H=some (v,H')) (hd:de v=some y):gOp P m ops j kn de H=some (y,H'):=by
 unfold gOp;rw [h];simp [hd]
theorem zjq {e:TypeId} {m:Nat} {H:AH} (hm:m≤H.next) (cs:Array Value):VecA EI e m (H.push { obj:=.cells cs e (0,0),opn:=true,esz:=1,ro:=false }) [] ⟨some ⟨H.next,0,none⟩,0,OPEN⟩ :=
 VecV.opn H.next 0 cs hm (by simp) (AH.get_push_same _ _) (by simp) (by simp) fun i v hv=>by simp at hv
theorem zi6 (k:Nat) (n:Nat) (hn:n≤4194304) (hm:m≤H.next):∃s H',g9 (LCo k) m H Sl3.nil (n:Int)=some (s,H')∧VecA EI 3 m H' [] s∧Ext H H'∧∀id,owns s id→H.next≤id:=by
 unfold g9;rw [if_neg (by omega)];have w1:IntKind.i64.wrap ((0:Int) - ((Sl3.nil.n:Nat):Int))=0:=k7 (n:=0) rfl (by omega);have w2:IntKind.i64.wrap ((n:Int) - 0)=(n:Int):=k7 (n:=n) (by omega) (by omega);by_cases h0:n=0
 ·subst h0;refine ⟨Sl3.nil,H,bnd (x:=(H,Sl3.nil)) (bnd (x:=(0:Int)) (by kernel_rfl) ?_) rfl,VecA.nil _ _ _ _,Fm.refl _ _,fun id h=>absurd h z5r⟩;simp only [w1];rw [if_neg (by simpa using (show ¬IntKind.i64.wrap ((0:Int) - 0) > 0 by decide))]
 ·obtain ⟨cs,c1,c2,c3⟩:=zk3 n hn (by omega) m H;refine ⟨⟨some ⟨H.next,0,none⟩,0,OPEN⟩,_,bnd (x:=(H.push { obj:=.cells cs.toArray 3 (0,0),opn:=true,esz:=1,ro:=false },⟨some ⟨H.next,0,none⟩,0,OPEN⟩)) (bnd (x:=(0:Int)) (by kernel_rfl) ?_) rfl,zjq hm _,Fm.push _ _ _,fun id h=>?_⟩
  ·simp only [w1,w2];rw [if_pos (by omega)];refine bnd (x:=(0:Int)) (by kernel_rfl) ?_;refine bnd (x:=Sl3.nil) (by kernel_rfl) ?_;refine bnd (x:=(⟨some ⟨H.next,0,none⟩,n,OPEN⟩,H.push { obj:=.cells cs.toArray 3 (0,0),opn:=true,esz:=1,ro:=false })) (gOp_of (v:=Sl3.v ⟨some ⟨H.next,0,none⟩,n,OPEN⟩) (Eq.trans (b:=aAppend Tryd.prog m #[27,3] #[Sl3.v Sl3.nil,.int .i64 (n:Int)] H) (by kernel_rfl) c3) rfl) ?_;refine bnd (x:=⟨some ⟨H.next,0,none⟩,0,OPEN⟩) ?_ rfl;unfold slc;simp only [if_true];have hb:slcB n n none (some ((Sl3.nil.n:Nat):Int)) none=some (0,0,n):=by
    unfold slcB;simp only [boundI,Option.isSome_none,Bool.false_and,cond_false];rw [if_pos ⟨by omega,by show ((0:Nat):Int)≤n; omega⟩];rfl
   rw [hb];simp only [AH.get_push_same];rw [if_pos ⟨trivial,trivial,rfl⟩,Nat.zero_mul,add_zero]
  ·obtain ⟨_,a,ha,rfl⟩:=h;cases ha;exact Nat.le_refl _
theorem zes (k:Nat) {z s1 s2:Sl3} {l1 l2:List Nat} (hz:RoS H z [s1,s2]) (h1:Vw H s1 l1) (h2:Vw H s2 l2) (n1:l1.length≤1048576) (n2:l2.length≤1048576) (hm:m≤H.next) :
  ∃s H',K7 (LCo k) m H z=some (s,H')∧VecA EI 3 m H' (l1++l2) s∧Ext H H'∧∀id,owns s id→H.next≤id:=by
 have hn:z.n=2:=hz.len;obtain ⟨p0,g1,g2⟩:=hz.get (i:=0) (by simp) (v:=0) rfl;obtain ⟨p1,g3,g4⟩:=hz.get (i:=1) (by simp) (v:=1) rfl;simp only [List.getElem_cons_zero,List.getElem_cons_succ] at g2 g4;have e1:=h1.n;have e2:=h2.n;have w0:IntKind.i64.wrap ((0:Int)+(s1.n:Int))=((l1.length:Nat):Int):=k7 (by omega) (by omega);have w1:IntKind.i64.wrap (((l1.length:Nat):Int)+(s2.n:Int))=((l1.length+l2.length:Nat):Int):=k7 (by omega) (by omega);have v0:IntKind.i64.wrap ((0:Int)+1)=1:=by decide
 have v1:IntKind.i64.wrap ((1:Int)+1)=2:=by decide
 have l0:loopO (J4 (LCo k) H z) (0,0)=some (.inl (((l1.length+l2.length:Nat):Int),2)):=by
  rw [K1 (s':=(((l1.length:Nat):Int),1)),K1 (s':=(((l1.length+l2.length:Nat):Int),2)),O1 (s':=(((l1.length+l2.length:Nat):Int),2))]
  ·unfold J4;simp only [hn];rfl
  ·unfold J4;simp only [hn,g3,g4,w1,v1,Option.bind_some];rw [if_pos (by decide),if_neg (by omega)]
  ·unfold J4;simp only [hn,g1,g2,w0,v0,Option.bind_some];rw [if_pos (by decide),if_neg (by omega)]
 obtain ⟨s0,H0,a1,a2,a3,a4⟩:=zi6 (H:=H) (m:=m) k (l1.length+l2.length) (by omega) hm;obtain ⟨s1',H1,b1,b2,b3⟩:=a2.app (bytes:=8) (h1.ext a3).rdv (by simp only [List.length_nil]; omega) (by simp only [List.length_nil]; omega) (Nat.le_trans hm a3.1);obtain ⟨x1,o1⟩:=b3.ext a3 a4;obtain ⟨s2',H2,c1,c2,c3⟩:=b2.app (bytes:=8) (h2.ext x1).rdv (by simp only [List.length_nil,List.length_append]; omega) (by simp only [List.length_nil,List.length_append]; omega) (Nat.le_trans hm x1.1);obtain ⟨x2,o2⟩:=c3.ext x1 o1;have lp:loopO (K4 (LCo k) m z) (H0,s0,0)=some (.inl (H2,s2',2)):=by
  rw [K1 (s':=(H1,s1',1)),K1 (s':=(H2,s2',2)),O1 (s':=(H2,s2',2))]
  ·unfold K4;simp only [hn];rfl
  ·unfold K4;obtain ⟨p1',g3',g4'⟩:=(hz.ext x1).get (i:=1) (by simp) (v:=1) rfl;simp only [List.getElem_cons_zero,List.getElem_cons_succ] at g4';simp only [hn,g3',g4',v1,Option.bind_some];rw [if_pos (by decide)];exact bnd (x:=(s2',H2)) c1 rfl
  ·unfold K4;obtain ⟨p0',g1',g2'⟩:=(hz.ext a3).get (i:=0) (by simp) (v:=0) rfl;simp only [List.getElem_cons_zero] at g2';simp only [hn,g1',g2',v0,Option.bind_some];rw [if_pos (by decide)];exact bnd (x:=(s1',H1)) b1 rfl
 refine ⟨s2',H2,?_,by simpa using c2,x2,o2⟩;unfold K7;refine bnd (x:=.inl (((l1.length+l2.length:Nat):Int),2)) ?_ ?_
 ·exact l0
 refine bnd (x:=(s0,H0)) a1 ?_;refine bnd (x:=.inl (H2,s2',2)) ?_ rfl;exact lp
end
end Go.Proofs.YtgkhbmoidenjaaaDoor
namespace Go.Proofs.YtgkhbmoidenjaaaDoor
open Go Go.Abs Go.Abs.Eg
set_option maxRecDepth 100000
theorem intK:KeyK Tryd.prog 3 (Value.int .i64):=by
 refine ⟨⟨.int .i64,by kernel_rfl,.inl fun a b=>?_⟩,fun a b=>by kernel_rfl,fun a=>?_⟩
 ·show some (a == b)=_
  congr 1
 ·show (IntKind.i64 == IntKind.i64&&a == a)=true;simp
theorem undZ:Tryd.prog.underlying 110=some (.map 3 3):=by kernel_rfl
theorem zeroZ:(Tryd.prog.info? 3).bind (·.zero)=some (.int .i64 0):=by kernel_rfl
def st4 (w:Nat×Nat):Int×Int×Int×Bool:=((w.1:Int),(w.2:Int),0,false)
structure XN (H0 Hc:AH) (D:List Nat) (T:List Int) (K:Nat):Prop where
 ext:Ext H0 Hc
 nx:H0.next+2≤Hc.next
 tg:∃f,MapB Hc H0.next f∧(∀t,(f t).isSome=true↔t∈T)∧∀t u,f t=some u→∃c:Int,u=.int .i64 c
 dn:∃f,MapB Hc (H0.next+1) f∧∀n:Nat,(n ∉ D→f n=none)∧(n∈D→∃c:Nat,f n=some (.int .i64 c)∧1≤c∧c≤K)
section
variable {T:Tys} {tx:Key→ByteArray} {m:Nat} {H0 Hc H':AH} {L:GL} {x:Gh} {D:List Nat} {Ts:List Int} {K:Nat} {v:Sl3} {ql:List (Nat×Nat)}
theorem XN.fr {W:Nat→Prop} (h:XN H0 Hc D Ts K) (hf:Fm W Hc H') (hw:∀id,W id→H0.next+2≤id):XN H0 H' D Ts K:=by
 obtain ⟨f,h1,h2⟩:=h.tg;obtain ⟨g,h3,h4⟩:=h.dn;have hn:=h.nx;exact ⟨h.ext.comp hf fun id hlt _ hq=>by have:=hw id hq; omega,Nat.le_trans hn hf.1,⟨f,h1.fr hf (by omega) fun hq=>by have:=hw _ hq; omega,h2⟩,⟨g,h3.fr hf (by omega) fun hq=>by have:=hw _ hq; omega,h4⟩⟩
theorem XN.ext_ (h:XN H0 Hc D Ts K) (hf:Ext Hc H'):XN H0 H' D Ts K:=h.fr hf fun _ h=>h.elim
theorem XN.old (h:XN H0 Hc D Ts K) (hm:m≤H0.next) (hK:K<4611686018427387904) {n:Nat} (hn:n∈D) :
  ∃(c c':Int) (H':AH),lk1 Tryd.prog 110 (deI .i64) Hc (some (H0.next+1)) (.int .i64 (n:Int))=some c∧upM Tryd.prog m 110 Hc (some (H0.next+1)) (.int .i64 (n:Int)) (.int .i64 (IntKind.i64.wrap (c+1)))=some H'∧lk1 Tryd.prog 110 (deI .i64) H' (some (H0.next+1)) (.int .i64 (n:Int))=some c'∧c' > 1 ∧
   XN H0 H' D Ts (K+1)∧Fm (fun i=>i=H0.next+1) Hc H'∧H'.next=Hc.next:=by
 obtain ⟨g,h3,h4⟩:=h.dn;obtain ⟨c,h5,h6,h7⟩:=(h4 n).2 hn;obtain ⟨f,h1,h2⟩:=h.tg;have hnx:=h.nx;have e1:=z2o intK undZ zeroZ rfl h3.u.toA (n:Int) (deI .i64);obtain ⟨H',b1,b2,b3,b4⟩:=h3.up intK undZ (m:=m) (by omega) (n:Int) (.int .i64 ((c+1:Nat):Int));have e2:=z2o intK undZ zeroZ rfl b2.u.toA (n:Int) (deI .i64);rw [h5] at e1;rw [if_pos rfl] at e2;have hw:IntKind.i64.wrap ((c:Int)+1)=((c+1:Nat):Int):=k7 (by omega) (by omega);refine ⟨(c:Int),((c+1:Nat):Int),H',e1,by rw [hw]; exact b1,e2,by omega,⟨h.ext.comp b3 fun id hlt _ hq=>by omega,by omega,⟨f,h1.fr b3 (by omega) (by omega),h2⟩,_,b2,fun z=>⟨fun hz=>?_,fun hz=>?_⟩⟩,b3,b4⟩
 ·have:¬(z:Int)=(n:Int):=fun e=>hz (by rw [Int.ofNat.inj e]; exact hn);simp only [if_neg this];exact (h4 z).1 hz
 ·by_cases e:(z:Int)=(n:Int)
  ·simp only [if_pos e];exact ⟨c+1,rfl,by omega,by omega⟩
  ·simp only [if_neg e];obtain ⟨d,g1,g2,g3⟩:=(h4 z).2 hz;exact ⟨d,g1,g2,by omega⟩
theorem XN.new (h:XN H0 Hc D Ts K) (hm:m≤H0.next) {n:Nat} (hn:n ∉ D) :
  ∃(H':AH),lk1 Tryd.prog 110 (deI .i64) Hc (some (H0.next+1)) (.int .i64 (n:Int))=some 0∧upM Tryd.prog m 110 Hc (some (H0.next+1)) (.int .i64 (n:Int)) (.int .i64 (IntKind.i64.wrap (0+1)))=some H'∧lk1 Tryd.prog 110 (deI .i64) H' (some (H0.next+1)) (.int .i64 (n:Int))=some 1 ∧
   XN H0 H' (n :: D) Ts (K+1)∧Fm (fun i=>i=H0.next+1) Hc H'∧H'.next=Hc.next:=by
 obtain ⟨g,h3,h4⟩:=h.dn;obtain ⟨f,h1,h2⟩:=h.tg;have hnx:=h.nx;have e1:=z2o intK undZ zeroZ rfl h3.u.toA (n:Int) (deI .i64);obtain ⟨H',b1,b2,b3,b4⟩:=h3.up intK undZ (m:=m) (by omega) (n:Int) (.int .i64 1);have e2:=z2o intK undZ zeroZ rfl b2.u.toA (n:Int) (deI .i64);rw [(h4 n).1 hn] at e1;rw [if_pos rfl] at e2;have hw:IntKind.i64.wrap ((0:Int)+1)=1:=by decide
 refine ⟨H',e1,by rw [hw]; exact b1,e2,⟨h.ext.comp b3 fun id hlt _ hq=>by omega,by omega,⟨f,h1.fr b3 (by omega) (by omega),h2⟩,_,b2,fun z=>⟨fun hz=>?_,fun hz=>?_⟩⟩,b3,b4⟩
 ·have:¬(z:Int)=(n:Int):=fun e=>hz (by rw [Int.ofNat.inj e]; exact List.mem_cons_self);simp only [if_neg this];exact (h4 z).1 fun hd=>hz (List.mem_cons_of_mem _ hd)
 ·by_cases e:(z:Int)=(n:Int)
  ·simp only [if_pos e];exact ⟨1,rfl,by omega,by omega⟩
  ·simp only [if_neg e];rcases List.mem_cons.1 hz with hz | hz
   ·exact absurd (congrArg Int.ofNat hz) e
   ·obtain ⟨d,g1,g2,g3⟩:=(h4 z).2 hz;exact ⟨d,g1,g2,by omega⟩
theorem XN.tag (h:XN H0 Hc D Ts K) (hm:m≤H0.next) (t:Int) :
  ∃(c:Int) (H':AH),lk1 Tryd.prog 110 (deI .i64) Hc (some H0.next) (.int .i64 t)=some c∧upM Tryd.prog m 110 Hc (some H0.next) (.int .i64 t) (.int .i64 (IntKind.i64.wrap (c+1)))=some H' ∧
   XN H0 H' D (t :: Ts) K∧Fm (fun i=>i=H0.next) Hc H'∧H'.next=Hc.next:=by
 obtain ⟨g,h3,h4⟩:=h.dn;obtain ⟨f,h1,h2,h5⟩:=h.tg;have hnx:=h.nx;have e1:=z2o intK undZ zeroZ rfl h1.u.toA t (deI .i64);obtain ⟨c,hc⟩:∃c:Int,deI .i64 ((f t).getD (.int .i64 0))=some c:=by
  cases hf:f t with
  | none=>exact ⟨0,rfl⟩
  | some u =>
   obtain ⟨c,rfl⟩:=h5 t u hf;exact ⟨c,rfl⟩
 obtain ⟨H',b1,b2,b3,b4⟩:=h1.up intK undZ (m:=m) (by omega) t (.int .i64 (IntKind.i64.wrap (c+1)));refine ⟨c,H',e1.trans hc,b1,⟨h.ext.comp b3 fun id hlt _ hq=>by omega,by omega,⟨_,b2,fun z=>?_,fun z u hu=>?_⟩,g,h3.fr b3 (by omega) (by omega),h4⟩,b3,b4⟩
 ·by_cases e:z=t
  ·simp [e]
  ·simp only [if_neg e,List.mem_cons];rw [h2 z];exact ⟨.inr,fun hh=>hh.resolve_left e⟩
 ·by_cases e:z=t
  ·simp only [if_pos e,Option.some.injEq] at hu;exact ⟨_,hu.symm⟩
  ·simp only [if_neg e] at hu;exact h5 z u hu
theorem zhy (k:Nat) (hr:Rep T tx m H0 L x) (p1 p3:Nat) (y0 y1 y2:Int) (y3:Bool) (s29:Sl3) (v80:Int) (z0 z1 z2:Int) (z4:Bool) {b':Nat} {xa xb:Nd} {sa:Sl3} (hb:x.g.N[b']? = some xb) (hsa:SlA EI T.I m H0 xa.args sa) (hl:xa.args.length=xb.args.length) (h64:xa.args.length≤64) (hm:m≤H0.next) (hq0:ql.length≤134217728) :
  ∀(j i:Nat) (Hc:AH) (v:Sl3),i+j=xa.args.length→XN H0 Hc D Ts K→VecA ES 91 m Hc ((ql++(xa.args.zip xb.args).take i).map st4) v→(∀id,owns v id→H0.next+2≤id) →
   ∃H' v' e,loopO (W2 (LCo k) m p1 p3 y0 y1 y2 y3 s29 v80 ⟨L.q,0,none⟩ z0 z1 z2 (b':Int) z4 sa) (Hc,v,(i:Int))=some (.inl (H',v',e))∧XN H0 H' D Ts K∧VecA ES 91 m H' ((ql++xa.args.zip xb.args).map st4) v'∧Ch Hc v H' v'∧∀id,owns v' id→H0.next+2≤id:=by
 have hzl:(xa.args.zip xb.args).length=xa.args.length:=by rw [List.length_zip,hl,Nat.min_self]
 intro j;induction j with
 | zero =>
  intro i Hc v hij hX hv hw;have hi:i=xa.args.length:=by omega
  subst hi;rw [List.take_of_length_le (by omega)] at hv;refine ⟨Hc,v,(xa.args.length:Int),O1 ?_,hX,hv,Ch.refl _ _,hw⟩;unfold W2;simp only [hsa.cnt];rw [if_neg (by omega)]
 | succ j ih =>
  intro i Hc v hij hX hv hw;have hi:i<xa.args.length:=by omega
  have hrc:=hr.ext hX.ext;obtain ⟨q1,a1,a2⟩:=rd_EI (hsa.ext hX.ext) hi (v:=(i:Int)) rfl;obtain ⟨q2,sb,b1,_,b3,_,b5,_⟩:=hrc.node hb (v:=(b':Int)) rfl;obtain ⟨q3,c1,c2⟩:=rd_EI b5 (i:=i) (by omega) (v:=(i:Int)) rfl;have hlen:((ql++(xa.args.zip xb.args).take i).map st4).length≤134217728+64:=by
   rw [List.length_map,List.length_append,List.length_take]; omega
  have hnx:=hX.nx;obtain ⟨zr,H1,v',H2,d1,d2,d3,d4⟩:=hv.push (bytes:=32) (st4 (xa.args[i],xb.args[i]'(by omega))) (by omega) (by omega) (by omega) (fun id ho=>(VecV.own hv id ho).2);have hX2:=hX.fr d4.fm hw;have hw2:∀id,owns v' id→H0.next+2≤id:=fun id ho=>by
   rcases d4.ow id ho with h1 | h1
   ·exact hw id h1
   ·omega
  have hz:(xa.args.zip xb.args).take (i+1)=(xa.args.zip xb.args).take i++[(xa.args[i],xb.args[i]'(by omega))]:=by
   rw [List.take_succ_eq_append_getElem (by omega),List.getElem_zip]
  obtain ⟨H',v'',e,f1,f2,f3,f4,f5⟩:=ih (i+1) H2 v' (by omega) hX2 (by rw [hz,← List.append_assoc,List.map_append]; exact d3) hw2;refine ⟨H',v'',e,?_,f2,f3,d4.trans f4,f5⟩;rw [K1 (s':=(H2,v',((i+1:Nat):Int))) ?_]
  ·exact f1
  ·unfold W2;simp only [hsa.cnt];rw [if_pos (by omega)];simp only [a1,a2,Option.bind_some];rw [hrc.q (j:=0) (v:=L.sN.v) rfl deSl];simp only [show deSl (Sl3.v L.sN)=some L.sN from rfl,b1,b3,c1,c2,Option.bind_some];refine bnd (x:=(zr,H1)) d1 ?_;refine bnd (x:=(v',H2)) d2 ?_;rw [N1 (n:=xa.args.length) hi (by rw [Q1]; omega)]
structure ZR (m:Nat) (H0 Hc:AH) (z:List Nat) (s v:Sl3):Prop where
 z:VecA EI 3 m Hc z s
 lo:∀id,owns s id→H0.next+2≤id
 nv:∀id,owns s id→¬owns v id
theorem ZR.fr {W:Nat→Prop} {z:List Nat} {s v':Sl3} (h:ZR m H0 Hc z s v) (hf:Fm W Hc H') (hw:∀id,owns s id→¬W id) (hv:∀id,owns v' id→owns v id∨Hc.next≤id):ZR m H0 H' z s v' :=
 ⟨h.z.fr hf hw,h.lo,fun id h1 h2=>by
  rcases hv id h2 with h3 | h3
  ·exact h.nv id h1 h3
  ·have:=(VecV.own h.z id h1).2; omega⟩
theorem zin (k:Nat) (hr:Rep T tx m H0 L x) (hS:Small x.g) (hfl:x.fe.length≤1048576) (hm:m≤H0.next) (y0 y1 y2:Int) (y3:Bool) {a b:Nat} {w:Nat×Nat} {z:List Nat} {s:Sl3} (hzl:z.length≤4194304)
  (hargs:∀(i:Nat) y,x.g.N[i]? = some y→∀a∈y.args,a<x.fe.length)
  {i:Nat} (hi:i<z.length) {k':Nat} {l:Lb} (he:x.fe[z[i]]? = some ((k':Int),l)) (hk:LOK x.g.N x.sd (US x.fe) z[i] k' l)
  (hX:XN H0 Hc D Ts K) (hK:K<4611686018427387904) (hI:XI x.g.N x.sd x.fe a b (w :: ql) D Ts) (hq:VecA ES 91 m Hc (ql.map st4) v) (hw:∀id,owns v id→H0.next+2≤id) (hz:ZR m H0 Hc z s v) (hql:ql.length≤134217728) :
  ∃H' v' q' D' T',Z1 (LCo k) m (GL.p L) H0.next (H0.next+1) y0 y1 y2 y3 s (Hc,v,(i:Int))=some (.next (H',v',((i+1:Nat):Int)))∧XN H0 H' D' T' (K+1)∧XI x.g.N x.sd x.fe a b (w :: q') D' T'∧VecA ES 91 m H' (q'.map st4) v'∧(∀id,owns v' id→H0.next+2≤id)∧ZR m H0 H' z s v' ∧
   z[i]∈D'∧(∀n∈D,n∈D')∧q'.length+64*D.length≤ql.length+64*D'.length∧(Ts.length≤D.length→T'.length≤D'.length):=by
 obtain ⟨q1,a1,a2⟩:=rd_EI hz.z.toS hi (v:=(i:Int)) rfl;have hnext:IntKind.i64.wrap ((i:Int)+1)=((i+1:Nat):Int):=N1 (n:=z.length) hi (by rw [Q1]; omega);have hcn:(s.n:Int)=(z.length:Int):=by rw [hz.z.n]
 have hnx:=hX.nx;have zne:∀id,owns s id→¬id=H0.next+1:=fun id ho e=>by have:=hz.lo id ho; omega
 have zne0:∀id,owns s id→¬id=H0.next:=fun id ho e=>by have:=hz.lo id ho; omega
 have vne:∀id,owns v id→¬id=H0.next+1:=fun id ho e=>by have:=hw id ho; omega
 have vne0:∀id,owns v id→¬id=H0.next:=fun id ho e=>by have:=hw id ho; omega
 by_cases hD:z[i]∈D
 ·obtain ⟨c,c',H1,b1,b2,b3,b4,b5,b6,b7⟩:=hX.old hm hK hD;refine ⟨H1,v,ql,D,Ts,?_,b5,hI,hq.fr b6 vne,hw,hz.fr b6 zne fun id h=>.inl h,hD,fun n h=>h,Nat.le_refl _,fun h=>h⟩;unfold Z1;simp only [hcn];rw [if_pos (by omega)];refine bnd (x:=(H1,v)) ?_ (by simp only [hnext]);simp only [a1,a2,Option.bind_some];refine bnd b1 ?_;refine bnd b2 ?_;refine bnd b3 ?_;rw [if_pos b4]
 ·obtain ⟨H1,b1,b2,b3,b5,b6,b7⟩:=hX.new hm hD;have hr1:=hr.ext b5.ext;have hi':=(List.getElem?_eq_some_iff.1 he).1;have hel:x.fe[z[i]]=((k':Int),l):=by rw [List.getElem?_eq_getElem hi'] at he; exact Option.some.inj he
  obtain ⟨p,r1,_,r2,r3,r4,r5,r6⟩:=rd_EE (show SlA EE T.E m H1 x.fe L.sF from hr1.hold .F) hi' (v:=(z[i]:Int)) rfl;rw [hel] at r2 r3 r4 r5 r6;obtain ⟨t,f,o,cg⟩:=l;have open1:∀(r:AH×Sl3),(if cg=true then
     (rd deSl H1 (Addr.add ⟨L.q,0,none⟩ 0)).bind fun x47 => (idxA 3 x47 f).bind fun p48 => (rd deSl H1 (Addr.add p48 1)).bind fun x49 => (loopO (W2 (LCo k) m H0.next (H0.next+1) y0 y1 y2 y3 s (i:Int) ⟨L.q,0,none⟩ (k':Int) t f o cg x49) (H1,v,0)).bind fun oo=>match oo with
     | .inl (H64,v9_65,_) =>
      some (H64,v9_65)
     | .inr _=>none
    else
     (lk1 Tryd.prog 110 (deI .i64) H1 (some H0.next) (Value.int .i64 t)).bind fun x45 => (upM Tryd.prog m 110 H1 (some H0.next) (Value.int .i64 t) (Value.int .i64 (IntKind.i64.wrap (x45+1)))).bind fun H46 => some (H46,v))=some r→Z1 (LCo k) m (GL.p L) H0.next (H0.next+1) y0 y1 y2 y3 s (Hc,v,(i:Int))=some (.next (r.1,r.2,((i+1:Nat):Int))):=by
   intro r hh;unfold Z1;simp only [hcn];rw [if_pos (by omega)];refine bnd (x:=r) ?_ (by simp only [hnext]);simp only [a1,a2,Option.bind_some];refine bnd b1 ?_;refine bnd b2 ?_;refine bnd b3 ?_;rw [if_neg (by omega)];rw [hr1.q (j:=6) (v:=L.sF.v) rfl deSl];simp only [show deSl (Sl3.v L.sF)=some L.sF from rfl,Option.bind_some,r1,r2,r3,r4,r5,r6];exact hh
  rcases hk with ⟨hc,ht⟩ | ⟨hc,a',b',xa,xb,e1,e2,e3,e4,e5,e6,e7,e8,e9⟩
  ·
   have hc:cg=false:=hc;subst hc;obtain ⟨c,H2,g1,g2,g3,g4,g5⟩:=b5.tag hm t;have hI2:=hI.tagged hD he ht;refine ⟨H2,v,ql,z[i] :: D,t :: Ts,open1 (H2,v) ?_,g3,hI2,(hq.fr b6 vne).fr g4 vne0,hw,(hz.fr b6 zne fun id h=>.inl h).fr g4 zne0 fun id h=>.inl h,List.mem_cons_self,fun n h=>List.mem_cons_of_mem _ h,by simp only [List.length_cons]; omega,fun h=>by simp only [List.length_cons]; omega⟩;rw [if_neg (by simp)];exact bnd g1 (bnd g2 rfl)
  ·
   have hc:cg=true:=hc;have e1:f=a':=e1;have e2:o=b':=e2;subst hc e1 e2;obtain ⟨q2,sa,s1,_,s3,_,s5,s6⟩:=hr1.node e4 (v:=(a':Int)) rfl;have t5:SlA EI T.I m H0 xa.args sa:=by
    obtain ⟨q3,sa',_,_,_,_,t5,t6⟩:=hr.node e4 (v:=(a':Int)) rfl;rw [s6] at t6;cases t6;exact t5
   obtain ⟨H2,v',e,f1,f2,f3,f4,f5⟩:=zhy (ql:=ql) (D:=z[i] :: D) (Ts:=Ts) (K:=K+1) k hr H0.next (H0.next+1) y0 y1 y2 y3 s (i:Int) (k':Int) t (a':Int) true e5 t5 e8 (hS.args _ _ e4) hm hql xa.args.length 0 H1 v (by omega) b5 (by rw [List.take_zero,List.append_nil]; exact hq.fr b6 vne) hw;have hI2:=hI.congd hD he e4 e5 fun k u v hu hv=>⟨e9 k u v hu hv,hargs _ _ e4 u (List.mem_of_getElem? hu),hargs _ _ e5 v (List.mem_of_getElem? hv)⟩;have hz2:=(hz.fr b6 zne fun id h=>.inl h).fr f4.fm (fun id h1 h2=>hz.nv id h1 h2) f4.ow;have h64:=hS.args _ _ e4;refine ⟨H2,v',ql++xa.args.zip xb.args,z[i] :: D,Ts,open1 (H2,v') ?_,f2,by simpa using hI2,f3,f5,hz2,List.mem_cons_self,fun n h=>List.mem_cons_of_mem _ h,by simp only [List.length_cons,List.length_append,List.length_zip]; omega,fun h=>by simp only [List.length_cons]; omega⟩;rw [if_pos rfl];rw [hr1.q (j:=0) (v:=L.sN.v) rfl deSl];simp only [show deSl (Sl3.v L.sN)=some L.sN from rfl,s1,s3,Option.bind_some];refine bnd (x:=.inl (H2,v',e)) ?_ rfl;exact f1
end
end Go.Proofs.YtgkhbmoidenjaaaDoor
namespace Go.Proofs.YtgkhbmoidenjaaaDoor
open Go Go.Abs Go.Abs.Eg
set_option maxRecDepth 100000
section
variable {T:Tys} {tx:Key→ByteArray} {m:Nat} {H0 Hc H':AH} {L:GL} {x:Gh} {D:List Nat} {Ts:List Int} {K:Nat} {v:Sl3} {ql:List (Nat×Nat)}
theorem zcx (k:Nat) (hr:Rep T tx m H0 L x) (hS:Small x.g) (hfl:x.fe.length≤1048576) (hm:m≤H0.next) (y0 y1 y2:Int) (y3:Bool) {a b:Nat} {w:Nat×Nat} {z:List Nat} {s:Sl3} (hzl:z.length≤2097152)
  (hargs:∀(i:Nat) y,x.g.N[i]? = some y→∀a∈y.args,a<x.fe.length) (hed:∀n∈z,∃(k':Nat) (l:Lb),x.fe[n]? = some ((k':Int),l)∧LOK x.g.N x.sd (US x.fe) n k' l) (pc:Nat) :
  ∀(j i:Nat) (Hc:AH) (v:Sl3) (ql:List (Nat×Nat)) (D:List Nat) (Ts:List Int) (K:Nat),i+j=z.length→XN H0 Hc D Ts K→K+j<4611686018427387904→XI x.g.N x.sd x.fe a b (w :: ql) D Ts→VecA ES 91 m Hc (ql.map st4) v→(∀id,owns v id→H0.next+2≤id)→ZR m H0 Hc z s v →
   ql.length+pc≤1+64*D.length→Ts.length≤D.length →
   ∃H' v' q' D' T' e,loopO (Z1 (LCo k) m (GL.p L) H0.next (H0.next+1) y0 y1 y2 y3 s) (Hc,v,(i:Int))=some (.inl (H',v',e))∧XN H0 H' D' T' (K+j)∧XI x.g.N x.sd x.fe a b (w :: q') D' T'∧VecA ES 91 m H' (q'.map st4) v'∧(∀id,owns v' id→H0.next+2≤id) ∧
    (∀n∈z.drop i,n∈D')∧(∀n∈D,n∈D')∧q'.length+pc≤1+64*D'.length∧T'.length≤D'.length:=by
 intro j;induction j with
 | zero =>
  intro i Hc v ql D Ts K hij hX hK hI hq hw hz hl ht;refine ⟨Hc,v,ql,D,Ts,(i:Int),O1 ?_,hX,hI,hq,hw,?_,fun n h=>h,hl,ht⟩
  ·unfold Z1;simp only [hz.z.n];rw [if_neg (by omega)]
  ·rw [List.drop_of_length_le (by omega)];intro n hn;cases hn
 | succ j ih =>
  intro i Hc v ql D Ts K hij hX hK hI hq hw hz hl ht;have hi:i<z.length:=by omega
  have hDl:=hI.le;obtain ⟨k',l,he,hk⟩:=hed z[i] (List.getElem_mem hi);obtain ⟨H1,v1,q1,D1,T1,b1,b2,b3,b4,b5,b6,b7,b8,b9,b10⟩:=zin k hr hS hfl hm y0 y1 y2 y3 (by omega) hargs hi he hk hX (by omega) hI hq hw hz (by omega);obtain ⟨H2,v2,q2,D2,T2,e,c1,c2,c3,c4,c5,c6,c7,c8,c9⟩:=ih (i+1) H1 v1 q1 D1 T1 (K+1) (by omega) b2 (by omega) b3 b4 b5 b6 (by omega) (b10 ht);refine ⟨H2,v2,q2,D2,T2,e,by rw [K1 b1]; exact c1,by rw [show K+(j+1)=K+1+j by omega]; exact c2,c3,c4,c5,fun n hn=>?_,fun n hn=>c7 n (b8 n hn),c8,c9⟩;rw [List.drop_eq_getElem_cons hi] at hn;rcases List.mem_cons.1 hn with rfl | hn
  ·exact c7 _ b7
  ·exact c6 n hn
theorem zgr (k:Nat) (hr:Rep T tx m H0 L x) (hS:Small x.g) (hfl:x.fe.length≤1048576) (hm:m≤H0.next) (hall:∀i,i<x.fe.length→∃p,Pa x.fe i p) (hargs:∀(i:Nat) y,x.g.N[i]? = some y→∀a∈y.args,a<x.fe.length) {a b:Nat} {w:Nat×Nat} {pc:Nat}
  (hX:XN H0 Hc D Ts (pc*2097152)) (hI:XI x.g.N x.sd x.fe a b (w :: ql) D Ts) (hq:VecA ES 91 m Hc ((w :: ql).map st4) v∨ql=[]∧SlA ES 91 m Hc [st4 w] v) (hw:∀id,fpt v id→H0.next+2≤id) (hl:(w :: ql).length+pc≤1+64*D.length) (ht:Ts.length≤D.length) :
  ∃H' v' q' D' T',X2 (LCo k) m (GL.p L) H0.next (H0.next+1) (Hc,v)=some (.next (H',v'))∧XN H0 H' D' T' ((pc+1)*2097152)∧XI x.g.N x.sd x.fe a b q' D' T'∧VecA ES 91 m H' (q'.map st4) v'∧(∀id,owns v' id→H0.next+2≤id)∧q'.length+(pc+1)≤1+64*D'.length∧T'.length≤D'.length:=by
 have hDl:=hI.le;simp only [List.length_cons] at hl;have hsl:SlA ES 91 m Hc ((w :: ql).map st4) v:=by
  rcases hq with h | ⟨rfl,h⟩
  ·exact h.toS
  ·exact h
 have hcnt:v.n=ql.length+1:=by rw [hsl.cnt,List.length_map]; rfl
 obtain ⟨hj,hu,hv⟩:=hI.qj w List.mem_cons_self;obtain ⟨p,hp⟩:=hall _ hu;obtain ⟨q,hqq⟩:=hall _ hv;obtain ⟨p9,r1,r2,r3,r4,r5⟩:=rd_ES hsl (i:=0) (by simp) (v:=0) rfl;have hw0:((w :: ql).map st4)[0]'(by simp)=st4 w:=rfl;rw [hw0] at r2 r3 r4 r5;have hq':VecA ES 91 m Hc (st4 w :: ql.map st4) v∨ql.map st4=[]∧SlA ES 91 m Hc [st4 w] v:=hq.imp (fun h=>h) fun h=>⟨by rw [h.1]; rfl,h.2⟩;obtain ⟨s11,t1,t2,t3⟩:=zds (x:=st4 w) (l:=ql.map st4) (s:=v) hq' (by rw [List.length_map]; unfold OPEN; omega);have hmc:m≤Hc.next:=Nat.le_trans hm hX.ext.1;have hrc:=hr.ext hX.ext;obtain ⟨x12,H13,a1,a2,a3⟩:=zbm (m1:=Nat.max m Hc.next) k hrc (Nat.max_le.2 ⟨hmc,Nat.le_refl _⟩) hp hfl;obtain ⟨x14,H15,b1,b2,b3⟩:=zbm (m1:=m) k (hrc.ext a3) (Nat.le_trans hmc a3.1) hqq hfl;have hpl:=pa_len hp;have hql:=pa_len hqq;obtain ⟨v11,v12,k',l',c1,c2,c3,c4⟩:=zgd (H:=H15) k (GL.p L) H0.next (H0.next+1) (w.1:Int) (w.2:Int) 0 false s11 (p:=p) (q:=q) (by omega) (by omega) p.length q.length x12 x14 (Nat.le_refl _) (Nat.le_refl _) (by simp) (by rw [List.take_length]; exact a2.ext b3) (by rw [List.take_length]; exact b2);obtain ⟨s27,H28,d1,d2,d3,d4⟩:=zj9 (e:=27) (H:=H15) [v11,v12];have hx28:Ext Hc H28:=(a3.trans b3).trans d3;obtain ⟨x29,H30,e1,e2,e3,e4⟩:=zes (m:=m) k d2 (c2.ext d3) (c3.ext d3) (by rw [List.length_take]; omega) (by rw [List.length_take]; omega) (Nat.le_trans hmc hx28.1);have hx30:Ext Hc H30:=hx28.trans e3;have hnx:=hX.nx;have hlast:=(zd hall hj).1 p q hp hqq;have hbt:=c4.btw hp hqq;have hse:=zh1 hp hqq hlast c4;have hlk:=ju_lok hall hj p q hp hqq;obtain ⟨H',v',q',D',T',e,f1,f2,f3,f4,f5,f6,f7,f8,f9⟩:=zcx (a:=a) (b:=b) (w:=w) k hr hS hfl hm (w.1:Int) (w.2:Int) 0 false (z:=p.take k'++q.take l') (s:=x29) (by rw [List.length_append,List.length_take,List.length_take]; omega) hargs
  (fun n hn=>by
   obtain ⟨k1,l1,g1⟩:=hse n hn;exact ⟨k1,l1,g1,hlk n ((hbt n).1 hn) k1 l1 g1⟩) (pc+1) (p.take k'++q.take l').length 0 H30 s11 ql D Ts (pc*2097152) (by omega) (hX.ext_ hx30) (by rw [List.length_append,List.length_take,List.length_take]; omega) hI (t2.ext hx30) (fun id ho=>hw id (t3 id (F7 ho)))
  ⟨e2,fun id ho=>by have:=e4 id ho; have:=hx28.1; omega,fun id h1 h2=>by have:=e4 id h1; have:=(SlG.fp hsl (t3 id (F7 h2))).2; have:=hx28.1; omega⟩ (by omega) ht
 refine ⟨H',v',q',D',T',?_,?_,f3.pop fun p' q' c hp' hq' hc=>?_,f4,f5,f8,f9⟩
 ·unfold X2;simp only [hcnt];rw [if_pos (by omega)];refine bnd r1 ?_;refine bnd r2 ?_;refine bnd r3 ?_;refine bnd r4 ?_;refine bnd r5 ?_;refine bnd t1 ?_;refine bnd (x:=(x12,H13)) a1 ?_;refine bnd (x:=(x14,H15)) b1 ?_;refine bnd (x:=.inl (v11,v12)) ?_ ?_
  ·exact c1
  refine bnd (x:=(s27,H28)) d1 ?_;refine bnd (x:=(x29,H30)) e1 ?_;refine bnd (x:=.inl (H',v',e)) ?_ rfl;exact f1
 ·obtain ⟨g,h3,h4⟩:=f2.dn;refine ⟨f2.ext,f2.nx,f2.tg,g,h3,fun n=>⟨(h4 n).1,fun hn=>?_⟩⟩;obtain ⟨c,i1,i2,i3⟩:=(h4 n).2 hn;refine ⟨c,i1,i2,Nat.le_trans i3 ?_⟩;rw [List.length_append,List.length_take,List.length_take];omega
 ·rw [hp'.uniq hp,hq'.uniq hqq] at hc;exact f6 c (by rw [List.drop_zero]; exact (hbt c).2 hc)
theorem zdv (k:Nat) (hr:Rep T tx m H0 L x) (hS:Small x.g) (hfl:x.fe.length≤1048576) (hm:m≤H0.next) (hall:∀i,i<x.fe.length→∃p,Pa x.fe i p) (hargs:∀(i:Nat) y,x.g.N[i]? = some y→∀a∈y.args,a<x.fe.length) {a b:Nat} :
  ∀(r pc:Nat) (Hc:AH) (v:Sl3) (ql:List (Nat×Nat)) (D:List Nat) (Ts:List Int),pc+r=67108866→XN H0 Hc D Ts (pc*2097152)→XI x.g.N x.sd x.fe a b ql D Ts→(VecA ES 91 m Hc (ql.map st4) v∨∃w,ql=[w]∧SlA ES 91 m Hc [st4 w] v)→(∀id,fpt v id→H0.next+2≤id)→ql.length+pc≤1+64*D.length→Ts.length≤D.length →
   ∃H' e D' T' K',loopO (X2 (LCo k) m (GL.p L) H0.next (H0.next+1)) (Hc,v)=some (.inl (H',e))∧XN H0 H' D' T' K'∧XI x.g.N x.sd x.fe a b [] D' T'∧T'.length≤D'.length:=by
 intro r;induction r with
 | zero =>
  intro pc Hc v ql D Ts hpc hX hI hq hw hl ht;have:=hI.le;exfalso; omega
 | succ r ih =>
  intro pc Hc v ql D Ts hpc hX hI hq hw hl ht;cases ql with
  | nil =>
   refine ⟨Hc,v,D,Ts,_,O1 ?_,hX,hI,ht⟩;have hv:v.n=0:=by
    rcases hq with h | ⟨w,h,_⟩
    ·exact h.n
    ·cases h
   unfold X2;simp only [hv];rw [if_neg (by omega)]
  | cons w ql =>
   obtain ⟨H1,v1,q1,D1,T1,b1,b2,b3,b4,b5,b6,b7⟩:=zgr k hr hS hfl hm hall hargs hX hI (by
    rcases hq with h | ⟨w',h,h2⟩
    ·exact .inl h
    ·cases h; exact .inr ⟨rfl,h2⟩) hw hl ht
   obtain ⟨H',e,D',T',K',c1,c2⟩:=ih (pc+1) H1 v1 q1 D1 T1 (by omega) b2 b3 (.inl b4) (fun id hid=>by
    refine b5 id ⟨?_,hid.2⟩;cases b4 with
    | nil hn hv=>exact absurd hid U1
    | zero a ha hn hv=>exact absurd rfl hid.1
    | opn=>rfl) b6 b7
   exact ⟨H',e,D',T',K',by rw [K1 b1]; exact c1,c2⟩
theorem z7v {Tb:AH→Prop} (k:Nat) (h:GS T tx m Tb H0 L x) {a b:Nat} (ha:a<x.g.n) (hb:b<x.g.n) (ho:x.g.o a=x.g.o b) :
  ∃s H' zs,V3 (LCo k) m H0 (GL.p L) (a:Int) (b:Int)=some (s,H')∧RowI 3 m H' zs s∧Ext H0 H'∧(∀id,fpt s id→H0.next≤id)∧zs.Pairwise (·<·)∧(∀t∈zs,∃s∈x.sd,s.2.2.2=false∧s.2.2.1=t)∧Cong x.g.N (Mof (withT x.sd (·∈zs))) a b:=by
 have hfl:x.fe.length=x.g.n:=by
  have:=congrArg List.length h.gr.rep.fel;rw [List.length_map] at this;rw [this,h.gr.mi.flen]
 have hn:=h.gr.sm.n;have hall:∀i,i<x.fe.length→∃p,Pa x.fe i p:=fun i hi=>(h.gr.mi.way i (by omega)).pa h.gr.rep.fel;have hargs:∀(i:Nat) y,x.g.N[i]? = some y→∀a∈y.args,a<x.fe.length:=fun i y hy a ha=>by
  have h1:=h.gr.mi.args i y hy a ha;have h2:i<x.g.n:=(List.getElem?_eq_some_iff.1 hy).1;omega
 have hm:=h.gr.nm;have hju:=h.gr.li a b ha hb ho
 let H2:=H0.push mapB
 let H4:=H2.push mapB
 have n2:H2.next=H0.next+1:=rfl;have n4:H4.next=H0.next+2:=rfl;have x4:Ext H0 H4:=Ext.trans (H1:=H2) (Fm.push _ _ _) (Fm.push _ _ _);have m1:MapB H4 H0.next fun _=>none:=(MapB.new (H:=H0)).fr (Fm.push (fun _=>False) H2 mapB) (show H0.next<H0.next+1 by omega) (fun h=>h);have m2:MapB H4 (H0.next+1) fun _=>none:=MapB.new (H:=H2);have hX0:XN H0 H4 [] [] 0:=⟨x4,by omega,⟨_,m1,fun t=>by simp,fun t u hu=>by cases hu⟩,⟨_,m2,fun n=>⟨fun _=>rfl,fun hn=>by cases hn⟩⟩⟩;have hrow:=SlA.row (E:=ES) (e:=91) (H:=H4) (m:=m) (st4 (a,b)) (by omega);obtain ⟨H5,e,D,Ts,K,b1,b2,b3,b4⟩:=zdv k h.gr.rep h.gr.sm (by omega) hm hall hargs (a:=a) (b:=b) 67108866 0 _ ⟨some ⟨H4.next,0,none⟩,1,1⟩ [(a,b)] [] [] (by omega) (hX0.ext_ (Fm.push _ _ _)) (XI.start hju (by omega) (by omega)) (.inr ⟨_,rfl,hrow⟩) (fun id hid=>by
  obtain ⟨_,q,hq,rfl⟩:=hid;cases hq;exact Nat.le_refl _) (by simp) (by simp)
 obtain ⟨f,g1,g2,g3⟩:=b2.tg;have hDl:=b3.le;obtain ⟨zs,s,H',c1,c2,c3,c4,c5,c6⟩:=zii (e:=3) (m:=m) g1 (by have:=b2.nx; omega) (T:=Ts) (fun z hz=>(g2 z).1 hz) (by omega);have hz:∀z,z∈zs↔z∈Ts:=fun z=>(c3 z).trans (g2 z);refine ⟨s,H',zs,?_,c4,b2.ext.trans c5,fun id hid=>Nat.le_trans b2.ext.1 (c6 id hid),c2,fun t ht=>b3.tl t ((hz t).1 ht),b3.done hall hju (by omega) (by omega) hz⟩;unfold V3;refine bnd (x:=(H0.next,H2)) rfl ?_;refine bnd (x:=(H0.next+1,H4)) rfl ?_;refine bnd (x:=(⟨some ⟨H4.next,0,none⟩,1,1⟩,H4.push { obj:=.cells (ES.enc (st4 (a,b))).toArray 91 (0,0),opn:=false,esz:=0,ro:=false })) rfl ?_;refine bnd (x:=.inl (H5,e)) ?_ ?_
 ·exact b1
 ·exact c1
end
end Go.Proofs.YtgkhbmoidenjaaaDoor
namespace Go.Proofs.YtgkhbmoidenjaaaDoor
open Go Go.Abs Go.Abs.Eg
set_option maxRecDepth 100000
def RA (m:Nat) (H:AH) (id n:Nat) (f:Nat→Nat):Prop:=ArrV 3 m H id ((List.range n).map fun i=>Value.int .i64 (f i:Nat))
abbrev arS (id n:Nat):Sl3:=⟨some ⟨id,0,none⟩,n,n⟩
section
variable {m:Nat} {H H0 Hc H':AH} {id n:Nat} {f g:Nat→Nat}
theorem RA.at_ (h:RA m H id n f) {i:Nat} (hi:i<n) {v:Int} (hv:v=i):idxA 1 (arS id n) v=some ((⟨id,0,none⟩:Addr).add i)∧rd (deI .i64) H ((⟨id,0,none⟩:Addr).add i)=some ((f i:Nat):Int):=by
 refine ⟨by have:=zj1 (id:=id) hi hv; rwa [Nat.mul_one] at this,?_⟩;have:=ArrV.rd (j:=i) h (v:=.int .i64 (f i:Nat)) (by rw [List.getElem?_map,List.getElem?_range hi]; rfl) (deI .i64);rw [this]; rfl
theorem RA.congr (h:RA m H id n f) (he:∀i,i<n→f i=g i):RA m H id n g:=by
 unfold RA at *;have:((List.range n).map fun i=>Value.int .i64 (g i:Nat))=(List.range n).map fun i=>Value.int .i64 (f i:Nat):=List.map_congr_left fun i hi=>by rw [he i (List.mem_range.1 hi)]
 rw [this]; exact h
theorem RA.set (h:RA m H id n f) {i:Nat} (hi:i<n) (c:Nat):∃H',H.setCell m ((⟨id,0,none⟩:Addr).add i) (.int .i64 (c:Nat))=some H'∧RA m H' id n (fun j=>if j=i then c else f j)∧Fm (fun j=>j=id) H H'∧H'.next=H.next:=by
 obtain ⟨H',h1,h2,h3,h4⟩:=ArrV.set h (i:=i) (by simpa using hi) (.int .i64 (c:Nat));rw [Nat.mul_one] at h1;refine ⟨H',h1,?_,h3,h4⟩;have:(((List.range n).map fun i=>Value.int .i64 (f i:Nat)).set i (.int .i64 (c:Nat)))=(List.range n).map fun j=>Value.int .i64 ((if j=i then c else f j:Nat):Int):=by
  refine List.ext_getElem? fun j=>?_;rw [List.getElem?_set,List.getElem?_map,List.getElem?_map];by_cases hj:j<n
  ·rw [List.getElem?_range hj];by_cases e:i=j
   ·subst e; simp [hi]
   ·rw [if_neg e];simp only [Option.map_some,if_neg (fun h:j=i=>e h.symm)]
  ·rw [List.getElem?_eq_none (l:=List.range n) (by simpa using hj),if_neg (by omega)];rfl
 unfold RA;rw [← this]; exact h2
theorem za0 (k:Nat) (x y:Nat) (hn:n≤1048576):∀(d i:Nat) (Hc:AH),i+d=n→RA m Hc id n (fun j=>if j<i then jn f x y j else f j) →
  ∃H' e,loopO (i6 (LCo k) m (arS id n) (x:Int) (y:Int)) (Hc,(i:Int))=some (.inl (H',e))∧RA m H' id n (jn f x y)∧Fm (fun j=>j=id) Hc H'∧H'.next=Hc.next:=by
 intro d;induction d with
 | zero =>
  intro i Hc hd h;have:i=n:=by omega
  subst this;refine ⟨Hc,(i:Int),O1 ?_,h.congr fun j hj=>if_pos hj,Fm.refl _ _,rfl⟩;unfold i6;simp only [if_neg (show ¬((i:Nat):Int)<((i:Nat):Int) by omega)]
 | succ d ih =>
  intro i Hc hd h;have hi:i<n:=by omega
  obtain ⟨a1,a2⟩:=h.at_ hi (v:=(i:Int)) rfl;simp only [if_neg (Nat.lt_irrefl i)] at a2;have hw:IntKind.i64.wrap ((i:Int)+1)=((i+1:Nat):Int):=N1 (n:=n) hi (by rw [Q1]; omega);by_cases e:f i=y
  ·obtain ⟨H1,b1,b2,b3,b4⟩:=h.set hi x;obtain ⟨H',e',c1,c2,c3,c4⟩:=ih (i+1) H1 (by omega) (b2.congr fun j hj=>by
    by_cases e1:j=i
    ·subst e1;rw [if_pos rfl,if_pos (Nat.lt_succ_self _)];unfold jn; rw [if_pos e]
    ·rw [if_neg e1];by_cases e2:j<i
     ·rw [if_pos e2,if_pos (by omega)]
     ·rw [if_neg e2,if_neg (by omega)])
   refine ⟨H',e',?_,c2,b3.comp c3 fun _ _ h=>h,c4.trans b4⟩;rw [K1 (s':=(H1,((i+1:Nat):Int))) ?_]
   ·exact c1
   ·unfold i6;simp only;rw [if_pos (by omega)];refine bnd (x:=H1) ?_ (by simp only [hw]);refine bnd a1 ?_;refine bnd a2 ?_;rw [if_pos (by rw [e])];refine bnd a1 ?_;exact bnd b1 rfl
  ·obtain ⟨H',e',c1,c2,c3,c4⟩:=ih (i+1) Hc (by omega) (h.congr fun j hj=>by
    by_cases e1:j=i
    ·subst e1;rw [if_neg (Nat.lt_irrefl _),if_pos (Nat.lt_succ_self _)];unfold jn; rw [if_neg e]
    ·by_cases e2:j<i
     ·rw [if_pos e2,if_pos (by omega)]
     ·rw [if_neg e2,if_neg (by omega)])
   refine ⟨H',e',?_,c2,c3,c4⟩;rw [K1 (s':=(Hc,((i+1:Nat):Int))) ?_]
   ·exact c1
   ·unfold i6;simp only;rw [if_pos (by omega)];refine bnd (x:=Hc) ?_ (by simp only [hw]);refine bnd a1 ?_;refine bnd a2 ?_;rw [if_neg (by omega)]
theorem za8 (k:Nat) (hn:n≤1048576) (h:RA m Hc id n f) {a b:Nat} (ha:a<n) (hb:b<n):∃H' x y,G7 (LCo k) m Hc (arS id n) (a:Int) (b:Int)=some H'∧RA m H' id n (jn f x y)∧Fm (fun j=>j=id) Hc H'∧H'.next=Hc.next∧x≤y∧(f a=x∧f b=y∨f a=y∧f b=x):=by
 obtain ⟨a1,a2⟩:=h.at_ ha (v:=(a:Int)) rfl;obtain ⟨b1,b2⟩:=h.at_ hb (v:=(b:Int)) rfl;by_cases e:f b<f a
 ·obtain ⟨H',e',c1,c2,c3,c4⟩:=za0 k (f b) (f a) hn n 0 Hc (by omega) (h.congr fun j _=>(if_neg (by omega)).symm);refine ⟨H',f b,f a,?_,c2,c3,c4,by omega,.inr ⟨rfl,rfl⟩⟩;unfold G7;refine bnd a1 ?_;refine bnd a2 ?_;refine bnd b1 ?_;refine bnd b2 ?_;refine bnd (x:=(((f b:Nat):Int),((f a:Nat):Int))) (by rw [if_pos (by omega)]) ?_;refine bnd (x:=.inl (H',e')) ?_ rfl;exact c1
 ·obtain ⟨H',e',c1,c2,c3,c4⟩:=za0 k (f a) (f b) hn n 0 Hc (by omega) (h.congr fun j _=>(if_neg (by omega)).symm);refine ⟨H',f a,f b,?_,c2,c3,c4,by omega,.inl ⟨rfl,rfl⟩⟩;unfold G7;refine bnd a1 ?_;refine bnd a2 ?_;refine bnd b1 ?_;refine bnd b2 ?_;refine bnd (x:=(((f a:Nat):Int),((f b:Nat):Int))) (by rw [if_neg (by omega)]) ?_;refine bnd (x:=.inl (H',e')) ?_ rfl;exact c1
theorem zg2 (k:Nat) (h:RA m Hc id n f) {p q:Nd} {s1 s2:Sl3} {m1 m2:Nat} (hp:SlA EI 3 m1 Hc p.args s1) (hq:SlA EI 3 m2 Hc q.args s2) (hl:p.args.length≤64) (ha:∀a∈p.args,a<n) (hb:∀a∈q.args,a<n) :
  B9 (LCo k) Hc p.sym p.value s1 q.sym q.value s2 (arS id n)=some (alk f p q):=by
 unfold B9;refine bnd (x:=(p.value||(q.value||!(decide (p.sym=q.sym)&&decide (p.args.length=q.args.length))))) ?_ ?_
 ·rw [hp.cnt,hq.cnt];by_cases h1:p.value=true
  ·simp [h1]
  ·by_cases h2:q.value=true
   ·rw [if_neg h1,if_pos h2]; simp [h2]
   ·by_cases h3:p.sym=q.sym
    ·rw [if_neg h1,if_neg h2,if_pos h3];have:decide ((p.args.length:Int)=(q.args.length:Int))=decide (p.args.length=q.args.length):=by
      rw [decide_eq_decide]; omega
     rw [this];simp [h1,h2,h3]
    ·rw [if_neg h1,if_neg h2,if_neg h3]; simp [h3]
 by_cases hc:p.value=false∧q.value=false∧p.sym=q.sym∧p.args.length=q.args.length
 ·obtain ⟨c1,c2,c3,c4⟩:=hc;rw [if_neg (by simp [c1,c2,c3,c4])];have A:=scanI (f:=F5 (LCo k) Hc p.sym p.value s1 q.sym q.value s2 (arS id n)) p.args.length (fun i=>decide ((p.args.map f)[i]? ≠ (q.args.map f)[i]?)) (fun i=>(i:Int)) (fun _=>false) (fun i hi hh=>?_) (fun i hi hh=>?_) ?_;rotate_left
  ·obtain ⟨q1,r1,r2⟩:=rd_EI hp hi (v:=(i:Int)) rfl;obtain ⟨q2,r3,r4⟩:=rd_EI hq (i:=i) (by omega) (v:=(i:Int)) rfl;obtain ⟨t1,t2⟩:=h.at_ (ha _ (List.getElem_mem hi)) (v:=(p.args[i]:Int)) rfl;obtain ⟨t3,t4⟩:=h.at_ (hb _ (List.getElem_mem (show i<q.args.length by omega))) (v:=((q.args[i]'(by omega):Nat):Int)) rfl;have he:f p.args[i]=f (q.args[i]'(by omega)):=by
    have:=of_decide_eq_false hh;rw [List.getElem?_map,List.getElem?_map,List.getElem?_eq_getElem hi,List.getElem?_eq_getElem (show i<q.args.length by omega)] at this
    simpa using this
   unfold F5;simp only [hp.cnt,if_pos (show (i:Int)<(p.args.length:Int) by omega),r1,r2,r3,r4,t1,t2,t3,t4,Option.bind_some];rw [if_pos (by rw [he]),N1 (n:=p.args.length) hi (by rw [Q1]; omega)]
  ·obtain ⟨q1,r1,r2⟩:=rd_EI hp hi (v:=(i:Int)) rfl;obtain ⟨q2,r3,r4⟩:=rd_EI hq (i:=i) (by omega) (v:=(i:Int)) rfl;obtain ⟨t1,t2⟩:=h.at_ (ha _ (List.getElem_mem hi)) (v:=(p.args[i]:Int)) rfl;obtain ⟨t3,t4⟩:=h.at_ (hb _ (List.getElem_mem (show i<q.args.length by omega))) (v:=((q.args[i]'(by omega):Nat):Int)) rfl;have he:¬f p.args[i]=f (q.args[i]'(by omega)):=by
    have:=of_decide_eq_true hh;rw [List.getElem?_map,List.getElem?_map,List.getElem?_eq_getElem hi,List.getElem?_eq_getElem (show i<q.args.length by omega)] at this
    simpa using this
   unfold F5;simp only [hp.cnt,if_pos (show (i:Int)<(p.args.length:Int) by omega),r1,r2,r3,r4,t1,t2,t3,t4,Option.bind_some];rw [if_neg (by omega)]
  ·unfold F5;simp only [hp.cnt,if_neg (show ¬((p.args.length:Int)<(p.args.length:Int)) by omega)]
  have hk:alk f p q=decide (p.args.map f=q.args.map f):=by unfold alk; simp [c1,c2,c3]
  rw [hk];rcases A with ⟨i,hi,hh,_,e⟩ | ⟨hall,e⟩
  ·refine bnd (x:=.inr false) ?_ ?_
   ·exact e
   have:¬p.args.map f=q.args.map f:=fun h=>by
    rw [h] at hh;simp at hh
   rw [decide_eq_false this]
  ·refine bnd (x:=.inl (p.args.length:Int)) ?_ ?_
   ·exact e
   have:p.args.map f=q.args.map f:=by
    refine List.ext_getElem? fun i=>?_;by_cases hi:i<p.args.length
    ·have:=of_decide_eq_false (hall i hi);exact Classical.not_not.1 this
    ·rw [List.getElem?_eq_none (by rw [List.length_map]; omega),List.getElem?_eq_none (by rw [List.length_map]; omega)]
   rw [decide_eq_true this]
 ·have hk:alk f p q=false:=by
   unfold alk;by_cases h1:p.value=true
   ·simp [h1]
   ·by_cases h2:q.value=true
    ·simp [h2]
    ·by_cases h3:p.sym=q.sym
     ·have h4:¬p.args.length=q.args.length:=fun h4=>hc ⟨by simpa using h1,by simpa using h2,h3,h4⟩;have:¬p.args.map f=q.args.map f:=fun h=>h4 (by have:=congrArg List.length h; simpa using this);simp [this]
     ·simp [h3]
  rw [if_pos ?_,hk];by_cases h1:p.value=true
  ·simp [h1]
  ·by_cases h2:q.value=true
   ·simp [h2]
   ·by_cases h3:p.sym=q.sym
    ·have h4:¬p.args.length=q.args.length:=fun h4=>hc ⟨by simpa using h1,by simpa using h2,h3,h4⟩;simp [h4]
    ·simp [h3]
end
end Go.Proofs.YtgkhbmoidenjaaaDoor
namespace Go.Proofs.YtgkhbmoidenjaaaDoor
open Go Go.Abs Go.Abs.Eg
set_option maxRecDepth 100000
structure PI (N:List Nd) (M:List (Nat×Nat)) (n:Nat) (r0 r:Nat→Nat) (more:Bool) (C:Nat→Nat→Prop):Prop where
 rq:RQ N M n r
 ms:∀i j,(i,j)∈M→r i=r j
 pr:(more=false∧(∀i,r i=r0 i)∧∀i k p q,C i k→N[i]? = some p→N[k]? = some q→alk r p q=true→r i=r k)∨(more=true∧rts n r<rts n r0)
structure RG (m0:Nat) (H0:AH) (R:RL) (N:List Nd) (sd:List Sd):Prop where
 rf:RF m0 H0 R N sd
 nok:NOK N
 args:∀(i:Nat) y,N[i]? = some y→∀a∈y.args,a<i
 len:∀y∈N,y.args.length≤64
 n:N.length≤1048576
section
variable {m m0:Nat} {H H0 Hc H':AH} {id:Nat} {R:RL} {N:List Nd} {sd:List Sd} {M:List (Nat×Nat)} {r r0:Nat→Nat} {more:Bool} {C C':Nat→Nat→Prop}
theorem ziw {n:Nat} {f g:Nat→Nat} (h:∀i,f i=g i):rts n f=rts n g:=by
 unfold rts;have:(fun i=>decide (f i=i))=fun i=>decide (g i=i):=funext fun i=>by rw [h i]
 rw [this]
theorem PI.le {n:Nat} (h:PI N M n r0 r more C):rts n r≤rts n r0:=by
 rcases h.pr with ⟨_,h,_⟩ | ⟨_,h⟩
 ·exact Nat.le_of_eq (ziw h)
 ·omega
theorem PI.join {n:Nat} (h:PI N M n r0 r more C) {i k x y:Nat} (hi:i<n) (hk:k<n) (hc:Cong N M i k) (hne:r i≠r k) (hxy:x≤y) (he:r i=x∧r k=y∨r i=y∧r k=x):PI N M n r0 (jn r x y) true C':=by
 obtain ⟨h1,h2,h3⟩:=h.rq.join hi hk hc hxy he;have hle:=h.le;have:=h3 (by rcases he with ⟨e1,e2⟩ | ⟨e1,e2⟩ <;> omega);exact ⟨h1,fun a b hab=>zfm (h.ms a b hab),.inr ⟨rfl,by omega⟩⟩
def upto (i k:Nat) (a b:Nat):Prop:=b<a∧(a<i∨a=i∧b<k)
theorem PI.skip {n i k:Nat} (h:PI N M n r0 r more (upto i k)) (hs:∀p q,N[i]? = some p→N[k]? = some q→alk r p q=true→r i=r k):PI N M n r0 r more (upto i (k+1)):=by
 refine ⟨h.rq,h.ms,h.pr.imp (fun ⟨h1,h2,h3⟩=>⟨h1,h2,fun a b p q hab hp hq hk=>?_⟩) fun h=>h⟩;obtain ⟨h4,h5⟩:=hab;by_cases e:a=i∧b=k
 ·obtain ⟨rfl,rfl⟩:=e;exact hs p q hp hq hk
 ·exact h3 a b p q ⟨h4,by omega⟩ hp hq hk
theorem zh5 (k0:Nat) (hG:RG m0 H0 R N sd) (hid:H0.next≤id) {i:Nat} (hi:i<N.length):∀(d k:Nat) (Hc:AH) (r:Nat→Nat) (more:Bool),k+d=i→Ext H0 Hc→RA m Hc id N.length r→PI N M N.length r0 r more (upto i k) →
  ∃H' r' more' e,loopO (L5 (LCo k0) m R.sN (arS id N.length) (i:Int)) (Hc,more,(k:Int))=some (.inl (H',more',e))∧Ext H0 H'∧RA m H' id N.length r'∧PI N M N.length r0 r' more' (upto i i):=by
 have hn:=hG.n;intro d;induction d with
 | zero =>
  intro k Hc r more hd hx hr hP;have:k=i:=by omega
  subst this;refine ⟨Hc,r,more,(k:Int),O1 ?_,hx,hr,hP⟩;unfold L5;simp only;rw [if_neg (by omega)]
 | succ d ih =>
  intro k Hc r more hd hx hr hP;have hk:k<N.length:=by omega
  obtain ⟨a1,a2⟩:=hr.at_ hi (v:=(i:Int)) rfl;obtain ⟨b1,b2⟩:=hr.at_ hk (v:=(k:Int)) rfl;have hw:IntKind.i64.wrap ((k:Int)+1)=((k+1:Nat):Int):=N1 (n:=N.length) hk (by rw [Q1]; omega);have hRc:=RR.ext hG.rf hx;obtain ⟨q1,s1,c1,c2,c3,c4,c5,_⟩:=hRc.node hi (v:=(i:Int)) rfl;obtain ⟨q2,s2,d1,d2,d3,d4,d5,_⟩:=hRc.node hk (v:=(k:Int)) rfl;have ei:=List.getElem?_eq_getElem hi;have ek:=List.getElem?_eq_getElem hk;have hai:∀a∈N[i].args,a<N.length:=fun a ha=>by have:=hG.args i _ ei a ha; omega
  have hak:∀a∈N[k].args,a<N.length:=fun a ha=>by have:=hG.args k _ ek a ha; omega
  have hlk:=zg2 k0 hr c5 d5 (hG.len _ (List.getElem_mem hi)) hai hak;by_cases hs:r i=r k∨alk r N[i] N[k]=false
  ·have hP2:=hP.skip (fun p q hp hq hh=>by
    rw [ei] at hp; rw [ek] at hq;cases hp; cases hq;rcases hs with h | h
    ·exact h
    ·rw [h] at hh; cases hh)
   obtain ⟨H',r',more',e,f1,f2⟩:=ih (k+1) Hc r more (by omega) hx hr hP2;refine ⟨H',r',more',e,?_,f2⟩;rw [K1 (s':=(Hc,more,((k+1:Nat):Int))) ?_]
   ·exact f1
   ·unfold L5;simp only;rw [if_pos (by omega)];refine bnd (x:=(Hc,more)) ?_ (by simp only [hw]);refine bnd (x:=false) ?_ (by simp);refine bnd a1 ?_;refine bnd a2 ?_;refine bnd b1 ?_;refine bnd b2 ?_;by_cases e1:r i=r k
    ·rw [if_pos (by rw [e1])]
    ·rw [if_neg (by omega)];have e2:=hs.resolve_left e1;rw [e2] at hlk;exact bnd c1 (bnd c2 (bnd c3 (bnd c4 (bnd d1 (bnd d2 (bnd d3 (bnd d4 (bnd hlk rfl))))))))
  ·have hs1:r i≠r k:=fun h=>hs (.inl h);have hs2:alk r N[i] N[k]=true:=by
    cases h:alk r N[i] N[k] with
    | false=>exact absurd (.inr h) hs
    | true=>rfl
   rw [hs2] at hlk;obtain ⟨H1,x,y,g1,g2,g3,g4,g5,g6⟩:=za8 k0 hn hr hi hk;have hP2:PI N M N.length r0 (jn r x y) true (upto i (k+1)):=hP.join hi hk (zk7 hP.rq ei ek hai hak hs2) hs1 g5 g6;obtain ⟨H',r',more',e,f1,f2⟩:=ih (k+1) H1 (jn r x y) true (by omega) (hx.comp g3 fun j hj _ e=>by omega) g2 hP2;refine ⟨H',r',more',e,?_,f2⟩;rw [K1 (s':=(H1,true,((k+1:Nat):Int))) ?_]
   ·exact f1
   ·unfold L5;simp only;rw [if_pos (by omega)];refine bnd (x:=(H1,true)) ?_ (by simp only [hw]);refine bnd (x:=true) ?_ ?_
    ·refine bnd a1 ?_;refine bnd a2 ?_;refine bnd b1 ?_;refine bnd b2 ?_;rw [if_neg (by omega)];exact bnd c1 (bnd c2 (bnd c3 (bnd c4 (bnd d1 (bnd d2 (bnd d3 (bnd d4 (bnd hlk rfl))))))))
    ·rw [if_pos rfl];exact bnd g1 rfl
theorem zhc (k0:Nat) (hG:RG m0 H0 R N sd) (hid:H0.next≤id):∀(d i:Nat) (Hc:AH) (r:Nat→Nat) (more:Bool),i+d=N.length→Ext H0 Hc→RA m Hc id N.length r→PI N M N.length r0 r more (upto i 0) →
  ∃H' r' more' e,loopO (E6 (LCo k0) m R.sN (arS id N.length)) (Hc,more,(i:Int))=some (.inl (H',more',e))∧Ext H0 H'∧RA m H' id N.length r'∧PI N M N.length r0 r' more' (upto N.length 0):=by
 have hn:=hG.n;have hcnt:R.sN.n=N.length:=by rw [hG.rf.hN.cnt,i7 hG.rf.nal]
 intro d;induction d with
 | zero =>
  intro i Hc r more hd hx hr hP;have:i=N.length:=by omega
  subst this;refine ⟨Hc,r,more,(N.length:Int),O1 ?_,hx,hr,hP⟩;unfold E6;simp only [hcnt];rw [if_neg (by omega)]
 | succ d ih =>
  intro i Hc r more hd hx hr hP;have hi:i<N.length:=by omega
  have hw:IntKind.i64.wrap ((i:Int)+1)=((i+1:Nat):Int):=N1 (n:=N.length) hi (by rw [Q1]; omega);obtain ⟨H1,r1,more1,e1,a1,a2,a3,a4⟩:=zh5 k0 hG hid hi i 0 Hc r more (by omega) hx hr hP;have hP2:PI N M N.length r0 r1 more1 (upto (i+1) 0):=⟨a4.rq,a4.ms,a4.pr.imp (fun ⟨h1,h2,h3⟩=>⟨h1,h2,fun a b p q hab=>h3 a b p q ⟨hab.1,by have:=hab.1; have:=hab.2; omega⟩⟩) fun h=>h⟩;obtain ⟨H',r',more',e,f1,f2⟩:=ih (i+1) H1 r1 more1 (by omega) a2 a3 hP2;refine ⟨H',r',more',e,?_,f2⟩;rw [K1 (s':=(H1,more1,((i+1:Nat):Int))) ?_]
  ·exact f1
  ·unfold E6;simp only [hcnt];rw [if_pos (by omega)];refine bnd (x:=.inl (H1,more1,e1)) ?_ (by simp only [hw]);exact a1
theorem zjv (k0:Nat) (hG:RG m0 H0 R N sd) (hid:H0.next≤id):∀(c:Nat) (Hc:AH) (r:Nat→Nat),rts N.length r<c→Ext H0 Hc→RA m Hc id N.length r→RQ N M N.length r→(∀i j,(i,j)∈M→r i=r j) →
  ∃H' r' e,loopO (M5 (LCo k0) m R.sN (arS id N.length)) (Hc,true)=some (.inl (H',e))∧Ext H0 H'∧RA m H' id N.length r'∧RQ N M N.length r'∧(∀i j,(i,j)∈M→r' i=r' j)∧∀i k p q,k<i→i<N.length→N[i]? = some p→N[k]? = some q→alk r' p q=true→r' i=r' k:=by
 intro c;induction c with
 | zero=>intro Hc r h; omega
 | succ c ih =>
  intro Hc r hc hx hr hq hM;obtain ⟨H1,r1,more,e,a1,a2,a3,a4⟩:=zhc (r0:=r) (M:=M) k0 hG hid N.length 0 Hc r false (by omega) hx hr ⟨hq,hM,.inl ⟨rfl,fun i=>rfl,fun i k p q h=>by unfold upto at h; omega⟩⟩;have hb:M5 (LCo k0) m R.sN (arS id N.length) (Hc,true)=some (.next (H1,more)):=by
   unfold M5;simp only;rw [if_pos trivial];refine bnd (x:=.inl (H1,more,e)) ?_ rfl;exact a1
  rw [K1 hb];rcases a4.pr with ⟨rfl,h2,h3⟩ | ⟨rfl,h2⟩
  ·refine ⟨H1,r1,false,O1 ?_,a2,a3,a4.rq,a4.ms,fun i k p q hki hi=>h3 i k p q ⟨hki,.inl hi⟩⟩;unfold M5;simp only;rw [if_neg (by simp)]
  ·exact ih H1 r1 (by omega) a2 a3 a4.rq a4.ms
theorem zi3 (k0:Nat) {n:Nat} (hn:n≤1048576) (a0 a1:Sl3) {id:Nat}:∀(d i:Nat) (Hc:AH),i+d=n→RA m Hc id n (fun j=>if j<i then j else 0) →
  ∃H' e,loopO (F6 (LCo k0) m a0 a1 (arS id n)) (Hc,(i:Int))=some (.inl (H',e))∧RA m H' id n (fun j=>j)∧Fm (fun j=>j=id) Hc H':=by
 intro d;induction d with
 | zero =>
  intro i Hc hd h;have:i=n:=by omega
  subst this;refine ⟨Hc,(i:Int),O1 ?_,h.congr fun j hj=>if_pos hj,Fm.refl _ _⟩;unfold F6;simp only;rw [if_neg (by omega)]
 | succ d ih =>
  intro i Hc hd h;have hi:i<n:=by omega
  have hw:IntKind.i64.wrap ((i:Int)+1)=((i+1:Nat):Int):=N1 (n:=n) hi (by rw [Q1]; omega);obtain ⟨a1',_⟩:=h.at_ hi (v:=(i:Int)) rfl;obtain ⟨H1,b1,b2,b3,b4⟩:=h.set hi i;obtain ⟨H',e,c1,c2,c3⟩:=ih (i+1) H1 (by omega) (b2.congr fun j hj=>by
   by_cases e1:j=i
   ·rw [if_pos e1,if_pos (by omega),e1]
   ·rw [if_neg e1];by_cases e2:j<i
    ·rw [if_pos e2,if_pos (by omega)]
    ·rw [if_neg e2,if_neg (by omega)])
  refine ⟨H',e,?_,c2,b3.comp c3 fun _ _ h=>h⟩;rw [K1 (s':=(H1,((i+1:Nat):Int))) ?_]
  ·exact c1
  ·unfold F6;simp only;rw [if_pos (by omega)];refine bnd a1' ?_;refine bnd b1 ?_;simp only [hw]
theorem zhm (k0:Nat) (hn:N.length≤1048576) (hid:H0.next≤id) (a0:Sl3) {e:TypeId} {m1:Nat} {s:Sl3} {sd':List Sd} (hs:SlA ES e m1 H0 sd' s) (hok:∀s∈sd',okA N s.1=true∧okA N s.2.1=true) (hsl:sd'.length≤1048576) :
  ∀(d i:Nat) (Hc:AH) (r:Nat→Nat),i+d=sd'.length→Ext H0 Hc→RA m Hc id N.length r→RQ N (Mof sd') N.length r→(∀a b,(a,b)∈Mof (sd'.take i)→r a=r b) →
  ∃H' r' e,loopO (G5 (LCo k0) m a0 s (arS id N.length)) (Hc,(i:Int))=some (.inl (H',e))∧Ext H0 H'∧RA m H' id N.length r'∧RQ N (Mof sd') N.length r'∧∀a b,(a,b)∈Mof sd'→r' a=r' b:=by
 intro d;induction d with
 | zero =>
  intro i Hc r hd hx hr hq hM;have:i=sd'.length:=by omega
  subst this;rw [List.take_length] at hM;refine ⟨Hc,r,(sd'.length:Int),O1 ?_,hx,hr,hq,hM⟩;unfold G5;simp only [hs.cnt];rw [if_neg (by omega)]
 | succ d ih =>
  intro i Hc r hd hx hr hq hM;have hi:i<sd'.length:=by omega
  have hw:IntKind.i64.wrap ((i:Int)+1)=((i+1:Nat):Int):=N1 (n:=sd'.length) hi (by rw [Q1]; omega);obtain ⟨q,r1,r2,r3,r4,r5⟩:=rd_ES (hs.ext hx) hi (v:=(i:Int)) rfl;have htake:sd'.take (i+1)=sd'.take i++[sd'[i]]:=List.take_succ_eq_append_getElem hi;have hms:=z9l (sd'.take i) sd'[i];rw [← htake] at hms;cases hsp:sd'[i].2.2.2 with
  | true =>
   rw [hsp] at r5 hms;rw [if_pos rfl,List.append_nil] at hms;obtain ⟨H',r',e',c1,c2⟩:=ih (i+1) Hc r (by omega) hx hr hq (by rw [hms]; exact hM);refine ⟨H',r',e',?_,c2⟩;rw [K1 (s':=(Hc,((i+1:Nat):Int))) ?_]
   ·exact c1
   ·unfold G5;simp only [hs.cnt];rw [if_pos (by omega)];refine bnd (x:=Hc) ?_ (by simp only [hw]);exact bnd r1 (bnd r5 (if_pos rfl))
  | false =>
   rw [hsp] at r5 hms;rw [if_neg (by simp)] at hms;obtain ⟨o1,o2⟩:=hok _ (List.getElem_mem hi);obtain ⟨na,ea,la⟩:=J3.1 o1;obtain ⟨nb,eb,lb⟩:=J3.1 o2;rw [ea] at r2 hms;rw [eb] at r3 hms;simp only [Int.toNat_natCast] at hms;have hin:(na,nb)∈Mof sd':=by
    unfold Mof;refine List.mem_filterMap.2 ⟨sd'[i],List.getElem_mem hi,?_⟩;rw [hsp,ea,eb];simp
   obtain ⟨H1,x,y,g1,g2,g3,g4,g5,g6⟩:=za8 k0 hn hr la lb;obtain ⟨j1,j2,_⟩:=hq.join la lb (.base hin) g5 g6;obtain ⟨H',r',e',c1,c2⟩:=ih (i+1) H1 (jn r x y) (by omega) (hx.comp g3 fun j hj _ e=>by omega) g2 j1 (by
    rw [hms];intro a b hab;rcases List.mem_append.1 hab with h | h
    ·exact zfm (hM a b h)
    ·rw [List.mem_singleton] at h;cases h;exact j2)
   refine ⟨H',r',e',?_,c2⟩;rw [K1 (s':=(H1,((i+1:Nat):Int))) ?_]
   ·exact c1
   ·unfold G5;simp only [hs.cnt];rw [if_pos (by omega)];refine bnd (x:=H1) ?_ (by simp only [hw]);refine bnd r1 (bnd r5 ?_);rw [if_neg (by simp)];exact bnd r1 (bnd r2 (bnd r1 (bnd r3 (bnd g1 rfl))))
theorem zaf (k0:Nat) (hG:RG m0 H0 R N sd) (hm:m≤H0.next) {e:TypeId} {m1:Nat} {s:Sl3} {sd':List Sd} (hs:SlA ES e m1 H0 sd' s) (hok:∀s∈sd',okA N s.1=true∧okA N s.2.1=true) (hsl:sd'.length≤1048576) :
  ∃H' r,T7 (LCo k0) m H0 R.sN s=some (arS H0.next N.length,H')∧Ext H0 H'∧RA m H' H0.next N.length r∧RQ N (Mof sd') N.length r∧∀i j,i<N.length→j<N.length→(r i=r j↔Cong N (Mof sd') i j):=by
 have hn:=hG.n;have hcnt:R.sN.n=N.length:=by rw [hG.rf.hN.cnt,i7 hG.rf.nal]
 obtain ⟨H1,a1,a2,a3,a4⟩:=zkz (e:=3) (bytes:=8) (m:=m) (H:=H0) (z:=.int .i64 0) (n:=N.length) (by omega) (by omega) hm;have a2':RA m H1 H0.next N.length (fun j=>if j<0 then j else 0):=by
  unfold RA;have:((List.range N.length).map fun i=>Value.int .i64 ((if i<0 then i else 0:Nat):Int))=List.replicate N.length (.int .i64 0):=by
   refine List.eq_replicate_iff.2 ⟨by simp,fun b hb=>?_⟩;obtain ⟨i,_,rfl⟩:=List.mem_map.1 hb;simp
  rw [this]; exact a2
 obtain ⟨H2,e2,b1,b2,b3⟩:=zi3 k0 hn R.sN s N.length 0 H1 (by omega) a2';have x2:Ext H0 H2:=a3.comp b3 fun j hj _ e=>by omega
 obtain ⟨H3,r3,e3,c1,c2,c3,c4,c5⟩:=zhm k0 hn (Nat.le_refl _) R.sN hs hok hsl sd'.length 0 H2 _ (by omega) x2 b2 RQ.id (by intro a b h; simp [Mof] at h);obtain ⟨H4,r4,e4,d1,d2,d3,d4,d5,d6⟩:=zjv k0 hG (Nat.le_refl _) (rts N.length r3+1) H3 r3 (by omega) c2 c3 c4 c5;refine ⟨H4,r4,?_,d2,d3,d4,fun i j hi hj=>⟨d4.snd i j hi hj,d4.full rfl hG.nok d5 d6⟩⟩;unfold T7;rw [hcnt];refine bnd (x:=(arS H0.next N.length,H1)) a1 ?_;refine bnd (x:=.inl (H2,e2)) ?_ ?_
 ·exact b1
 refine bnd (x:=.inl (H3,e3)) ?_ ?_
 ·exact c1
 refine bnd (x:=.inl (H4,e4)) ?_ rfl;exact d1
end
end Go.Proofs.YtgkhbmoidenjaaaDoor
namespace Go.Proofs.YtgkhbmoidenjaaaDoor
open Go Go.Abs Go.Abs.Eg
set_option maxRecDepth 100000
theorem rd_EZ {e:TypeId} {m:Nat} {H:AH} {s:Sl3} {l:List Int} (h:SlA EZ e m H l s) {i:Nat} (hi:i<l.length) {v:Int} (hv:v=i):∃q,idxA 1 s v=some q∧rd (deI .i64) H q=some l[i]:=by
 obtain ⟨a,h1,h2,h3,h4⟩:=h.at_ (by decide) hi hv;refine ⟨_,h2,?_⟩;have:=(h4 0 (.int .i64 l[i]) rfl).rd (deI .i64);rw [add_zero] at this;rw [this]; rfl
theorem arZ_of {e:TypeId} {m:Nat} {H:AH} {l:List Int} {s:Sl3} (h:SlA EZ e m H l s):AR H s l:=⟨h.cnt,h.rdv,fun i hi=>rd_EZ h hi rfl⟩
section
variable {m m0 m1:Nat} {H H0 Hc H':AH} {R:RL} {N:List Nd} {sd:List Sd} {zs:List Int} {s:Sl3} {e:TypeId}
theorem zhe (k0:Nat) (h:RF m0 H R N sd) (hs:SlA EZ e m1 H zs s) (mg:Bool) (hsl:sd.length≤1048576) (hzl:zs.length≤1073741824) (hup:zs.Pairwise (·<·)) (hme:∀t∈zs,∃s∈sd,s.2.2.1=t∧(mg=true→s.2.2.2=false)):N6 (LCo k0) H (RL.p R) s mg=some true:=by
 have hsn:R.sS.n=sd.length:=h.hS.cnt;have hrd:rd deSl H ((⟨R.q,0,none⟩:Addr).add 1)=some R.sS:=h.q.rd (j:=1) (v:=R.sS.v) rfl deSl;have one:∀(i:Nat) (hi:i<zs.length),∃b,loopO (N3 (LCo k0) H (RL.p R) s mg (i:Int)) (false,0)=some (.inl (true,b)):=by
  intro i hi;obtain ⟨q,r1,r2⟩:=rd_EZ hs hi (v:=(i:Int)) rfl
  let good:Sd→Bool:=fun w=>decide (w.2.2.1=zs[i])&&!(mg&&w.2.2.2)
  obtain ⟨st,g1,g2⟩:=z30 (R:=Bool) (body:=N3 (LCo k0) H (RL.p R) s mg (i:Int)) sd.length (fun j (v:Bool×Int)=>v=((sd.take j).any good,(j:Int))) (Q:=fun v=>v.1=sd.any good)
   (fun j hj v hv=>by
    subst hv;obtain ⟨q2,t1,t2,t3,t4,t5⟩:=rd_ES h.hS hj (v:=(j:Int)) rfl;have hw:IntKind.i64.wrap ((j:Int)+1)=((j+1:Nat):Int):=N1 (n:=sd.length) hj (by rw [Q1]; omega);refine ⟨((sd.take (j+1)).any good,((j+1:Nat):Int)),?_,rfl⟩;have hstep:(sd.take (j+1)).any good=((sd.take j).any good||good sd[j]):=by
     rw [List.take_succ_eq_append_getElem hj,List.any_append];simp
    unfold N3;refine bnd (x:=(⟨R.q,0,none⟩:Addr)) rfl ?_;refine bnd hrd ?_;rw [hsn,if_pos (by omega)];refine bnd (x:=(sd.take (j+1)).any good) ?_ (by rw [hw]);rw [hstep];cases hb:(sd.take j).any good with
    | true=>rw [if_pos rfl]; rfl
    | false =>
     rw [if_neg (by simp)];refine bnd r1 ?_;refine bnd hrd ?_;refine bnd t1 ?_;refine bnd t4 ?_;refine bnd r2 ?_;by_cases e1:sd[j].2.2.1=zs[i]
     ·rw [if_pos e1];cases mg with
      | true =>
       rw [if_pos rfl];refine bnd hrd ?_;refine bnd t1 ?_;refine bnd t5 ?_;simp [good,e1]
      | false =>
       rw [if_neg (by simp)];simp [good,e1]
     ·rw [if_neg e1];simp [good,e1])
   (fun v hv=>by
    subst hv;refine ⟨((sd.take sd.length).any good,(sd.length:Int)),?_,by rw [List.take_length]⟩;unfold N3;refine bnd (x:=(⟨R.q,0,none⟩:Addr)) rfl ?_;refine bnd hrd ?_;rw [hsn,if_neg (by omega)])
   (s:=(false,0)) (by simp)
  obtain ⟨w,hw,h1,h2⟩:=hme _ (List.getElem_mem hi);have:sd.any good=true:=by
   rw [List.any_eq_true];refine ⟨w,hw,?_⟩;cases mg with
   | true=>simp [good,h1,h2 rfl]
   | false=>simp [good,h1]
  rw [this] at g2;obtain ⟨b1,b2⟩:=st;simp only at g2;subst g2;exact ⟨b2,g1⟩
 obtain ⟨st,g1,_⟩:=z30 (R:=Bool) (body:=E4 (LCo k0) H (RL.p R) s mg) zs.length (fun i (v:Int)=>v=(i:Int)) (Q:=fun _=>True)
  (fun i hi v hv=>by
   subst hv;obtain ⟨q,r1,r2⟩:=rd_EZ hs hi (v:=(i:Int)) rfl;obtain ⟨b,o1⟩:=one i hi;refine ⟨((i+1:Nat):Int),?_,rfl⟩;unfold E4;rw [hs.cnt,if_pos (by omega)];refine bnd (x:=false) ?_ ?_
   ·by_cases h0:i=0
    ·subst h0; rw [if_neg (by omega)]
    ·rw [if_pos (by omega)];obtain ⟨q2,r3,r4⟩:=rd_EZ hs (i:=i - 1) (by omega) (v:=((i - 1:Nat):Int)) rfl;have hw:IntKind.i64.wrap ((i:Int) - 1)=((i - 1:Nat):Int):=k7 (by omega) (by omega);refine bnd r1 ?_;refine bnd r2 ?_;rw [hw];refine bnd r3 ?_;refine bnd r4 ?_;have:=(List.pairwise_iff_getElem.1 hup) (i - 1) i (by omega) hi (by omega)
     congr 1
     rw [decide_eq_false_iff_not];omega
   ·rw [if_neg (by simp)];refine bnd (x:=.inl (true,b)) ?_ ?_
    ·exact o1
    ·simp only;rw [if_pos trivial,N1 (n:=zs.length) hi (by rw [Q1]; omega)])
  (fun v hv=>by
   subst hv;refine ⟨(zs.length:Int),?_,trivial⟩;unfold E4;rw [hs.cnt,if_neg (by omega)])
  (s:=0) rfl
 unfold N6;refine bnd (x:=.inl st) ?_ rfl;exact g1
theorem of_one (k0:Nat) (hs:SlA EZ e m1 H0 zs s) (hzl:zs.length≤1073741824) (h0:RF m0 H0 R N sd) (hm:m≤H0.next) {i:Nat} (hi:i<sd.length) (hx:Ext H0 Hc) {w:List Sd} {v:Sl3} (hv:VecA ES 49 m Hc w v) (hwl:w.length≤1048576) (ho:∀id,owns v id→H0.next≤id):∀(d k:Nat),k+d=zs.length→(∀j (hj:j<zs.length),j<k→zs[j]≠sd[i].2.2.1) →
  ∃H' v' b,loopO (A4 (LCo k0) m s (i:Int) ⟨R.q,0,none⟩) (Hc,v,(k:Int))=some (.inl (H',v',b))∧VecA ES 49 m H' (if sd[i].2.2.1∈zs then w++[sd[i]] else w) v'∧Ext H0 H'∧∀id,owns v' id→H0.next≤id:=by
 have hsn:R.sS.n=sd.length:=h0.hS.cnt;have hc:=RR.ext h0 hx;have hrd:rd deSl Hc ((⟨R.q,0,none⟩:Addr).add 1)=some R.sS:=hc.q.rd (j:=1) (v:=R.sS.v) rfl deSl;obtain ⟨q2,t1,t2,t3,t4,t5⟩:=rd_ES hc.hS hi (v:=(i:Int)) rfl;intro d;induction d with
 | zero =>
  intro k hk hne;have:k=zs.length:=by omega
  subst this;have hn:sd[i].2.2.1 ∉ zs:=fun hm=>by
   obtain ⟨j,hj,e⟩:=List.mem_iff_getElem.1 hm;exact hne j hj hj e
  refine ⟨Hc,v,(zs.length:Int),O1 ?_,by rw [if_neg hn]; exact hv,hx,ho⟩;unfold A4;simp only [hs.cnt];rw [if_neg (by omega)]
 | succ d ih =>
  intro k hk hne;have hk':k<zs.length:=by omega
  obtain ⟨q,r1,r2⟩:=rd_EZ (hs.ext hx) hk' (v:=(k:Int)) rfl;by_cases he:zs[k]=sd[i].2.2.1
  ·have hmem:sd[i].2.2.1∈zs:=he▸List.getElem_mem hk';obtain ⟨z,H1,v',H2,d1,d2,d3,d4⟩:=hv.push (bytes:=32) sd[i] (by omega) (by omega) (Nat.le_trans hm hx.1) (fun id h=>(VecV.own hv id h).2);obtain ⟨x2,o2⟩:=d4.ext hx ho;refine ⟨H2,v',(k:Int),O1 ?_,by rw [if_pos hmem]; exact d3,x2,o2⟩;unfold A4;simp only [hs.cnt];rw [if_pos (by omega)];refine bnd r1 ?_;refine bnd r2 ?_;refine bnd hrd ?_;refine bnd t1 ?_;refine bnd t4 ?_;rw [if_pos he];refine bnd hrd ?_;refine bnd t1 ?_;refine bnd t2 ?_;refine bnd t3 ?_;refine bnd t4 ?_;refine bnd t5 ?_;refine bnd (x:=(z,H1)) d1 ?_;exact bnd (x:=(v',H2)) d2 rfl
  ·obtain ⟨H',v',b,c1,c2⟩:=ih (k+1) (by omega) (fun j hj hjk=>by
    by_cases e1:j=k
    ·subst e1; exact he
    ·exact hne j hj (by omega))
   refine ⟨H',v',b,?_,c2⟩;rw [K1 (s':=(Hc,v,((k+1:Nat):Int))) ?_]
   ·exact c1
   ·unfold A4;simp only [hs.cnt];rw [if_pos (by omega)];refine bnd r1 ?_;refine bnd r2 ?_;refine bnd hrd ?_;refine bnd t1 ?_;refine bnd t4 ?_;rw [if_neg he,N1 (n:=zs.length) hk' (by rw [Q1]; omega)]
theorem zl0 (k0:Nat) (hs:SlA EZ e m1 H0 zs s) (hzl:zs.length≤1073741824) (h0:RF m0 H0 R N sd) (hm:m≤H0.next) (hsl:sd.length≤1048576) :
  ∃v H',v7 (LCo k0) m H0 (RL.p R) s=some (v,H')∧VecA ES 49 m H' (withT sd (·∈zs)) v∧Ext H0 H':=by
 have hsn:R.sS.n=sd.length:=h0.hS.cnt;have loop:∀(d i:Nat) (Hc:AH) (v:Sl3),i+d=sd.length→Ext H0 Hc→VecA ES 49 m Hc (withT (sd.take i) (·∈zs)) v→(∀id,owns v id→H0.next≤id) →
   ∃H' v' b,loopO (Z4 (LCo k0) m (RL.p R) s) (Hc,v,(i:Int))=some (.inl (H',v',b))∧VecA ES 49 m H' (withT sd (·∈zs)) v'∧Ext H0 H':=by
  intro d;induction d with
  | zero =>
   intro i Hc v hd hx hv ho;have:i=sd.length:=by omega
   subst this;rw [List.take_length] at hv;have hrd:rd deSl Hc ((⟨R.q,0,none⟩:Addr).add 1)=some R.sS:=(RR.ext h0 hx).q.rd (j:=1) (v:=R.sS.v) rfl deSl;refine ⟨Hc,v,(sd.length:Int),O1 ?_,hv,hx⟩;unfold Z4;refine bnd (x:=(⟨R.q,0,none⟩:Addr)) rfl ?_;refine bnd hrd ?_;rw [hsn,if_neg (by omega)]
  | succ d ih =>
   intro i Hc v hd hx hv ho;have hi:i<sd.length:=by omega
   have hrd:rd deSl Hc ((⟨R.q,0,none⟩:Addr).add 1)=some R.sS:=(RR.ext h0 hx).q.rd (j:=1) (v:=R.sS.v) rfl deSl;have hwl:(withT (sd.take i) (·∈zs)).length≤1048576:=by
    have h2:(sd.take i).length≤sd.length:=by rw [List.length_take]; omega
    exact Nat.le_trans (List.length_filter_le _ _) (by omega)
   obtain ⟨H1,v1,b,a1,a2,a3,a4⟩:=of_one k0 hs hzl h0 hm hi hx hv hwl ho zs.length 0 (by omega) (fun j hj h=>absurd h (Nat.not_lt_zero _));have hnew:(if sd[i].2.2.1∈zs then withT (sd.take i) (·∈zs)++[sd[i]] else withT (sd.take i) (·∈zs))=withT (sd.take (i+1)) (·∈zs):=by
    unfold withT;rw [List.take_succ_eq_append_getElem hi,List.filter_append];by_cases hm:sd[i].2.2.1∈zs
    ·simp [hm]
    ·simp [hm]
   rw [hnew] at a2;obtain ⟨H',v',b',c1,c2⟩:=ih (i+1) H1 v1 (by omega) a3 a2 a4;refine ⟨H',v',b',?_,c2⟩;rw [K1 (s':=(H1,v1,((i+1:Nat):Int))) ?_]
   ·exact c1
   ·unfold Z4;refine bnd (x:=(⟨R.q,0,none⟩:Addr)) rfl ?_;refine bnd hrd ?_;rw [hsn,if_pos (by omega)];refine bnd (x:=.inl (H1,v1,b)) ?_ (by rw [N1 (n:=sd.length) hi (by rw [Q1]; omega)]);exact a1
 obtain ⟨H',v',b,a1,a2,a3⟩:=loop sd.length 0 H0 Sl3.nil (by omega) (Fm.refl _ _) (by rw [List.take_zero]; exact VecA.nil _ _ _ _) (fun id h=>absurd h z5r);refine ⟨v',H',?_,a2,a3⟩;unfold v7;refine bnd (x:=.inl (H',v',b)) ?_ rfl;exact a1
theorem zf9 (hok:∀s∈sd,okA N s.1=true∧okA N s.2.1=true):∀s∈withT sd (·∈zs),okA N s.1=true∧okA N s.2.1=true:=fun s hs=>hok s (List.mem_filter.1 hs).1
theorem zd0 (hsl:sd.length≤1048576):(withT sd (·∈zs)).length≤1048576:=Nat.le_trans (List.length_filter_le _ _) hsl
end
section
variable {T:Tys} {tx:Key→ByteArray} {m:Nat} {H:AH} {L:GL} {x:Gh} {Tb:AH→Prop}
theorem why_no (k:Nat) (h:GS T tx m Tb H L x) {a b:Nat} (ha:a<x.g.n) (hb:b<x.g.n) (ho:¬x.g.o a=x.g.o b):F3 (LCo k) m H (GL.p L) (a:Int) (b:Int)=some (Sl3.nil,false,H):=by
 obtain ⟨q1,r1,r2⟩:=h.gr.rep.of_ (i:=a) (by rw [h.gr.mi.len]; exact ha) (v:=(a:Int)) rfl;obtain ⟨q2,r3,r4⟩:=h.gr.rep.of_ (i:=b) (by rw [h.gr.mi.len]; exact hb) (v:=(b:Int)) rfl;unfold F3;refine bnd (x:=true) ?_ (by rw [if_pos rfl]);rw [Q6 k h.gr.rep,decide_eq_true ⟨by omega,by omega⟩,Q6 k h.gr.rep,decide_eq_true ⟨by omega,by omega⟩];simp only [Option.bind_some,if_true];rw [h.gr.rep.q (j:=4) (v:=L.sO.v) rfl deSl];simp only [show deSl (Sl3.v L.sO)=some L.sO from rfl,Option.bind_some,r1,r2,r3,r4];simp;omega
theorem zfg (k:Nat) (h:GS T tx m Tb H L x) {a b:Nat} (ha:a<x.g.n) (hb:b<x.g.n) (ho:x.g.o a=x.g.o b) :
  ∃s H' zs,F3 (LCo k) m H (GL.p L) (a:Int) (b:Int)=some (s,true,H')∧SlA EZ 3 m H' zs s∧Ext H H'∧(∀id,fpt s id→H.next≤id)∧zs.Pairwise (·<·)∧(∀t∈zs,∃s∈x.sd,s.2.2.2=false∧s.2.2.1=t)∧Cong x.g.N (Mof (withT x.sd (·∈zs))) a b:=by
 obtain ⟨q1,r1,r2⟩:=h.gr.rep.of_ (i:=a) (by rw [h.gr.mi.len]; exact ha) (v:=(a:Int)) rfl;obtain ⟨q2,r3,r4⟩:=h.gr.rep.of_ (i:=b) (by rw [h.gr.mi.len]; exact hb) (v:=(b:Int)) rfl;obtain ⟨s,H',zs,e1,e2,e3⟩:=z7v k h ha hb ho;refine ⟨s,H',zs,?_,e2.sla,e3⟩;unfold F3;refine bnd (x:=false) ?_ ?_
 ·rw [Q6 k h.gr.rep,decide_eq_true ⟨by omega,by omega⟩,Q6 k h.gr.rep,decide_eq_true ⟨by omega,by omega⟩];simp only [Option.bind_some,if_true];rw [h.gr.rep.q (j:=4) (v:=L.sO.v) rfl deSl];simp only [show deSl (Sl3.v L.sO)=some L.sO from rfl,Option.bind_some,r1,r2,r3,r4];simp;omega
 ·rw [if_neg (by simp)];exact bnd (x:=(s,H')) e1 rfl
end
theorem zf7 {sd:List Sd} {zs:List Int} (hup:zs.Pairwise (·<·)) (hme:∀t∈zs,∃s∈sd,s.2.2.2=false∧s.2.2.1=t):zs.length≤sd.length:=by
 have h1:zs.Nodup:=hup.imp fun h=>by omega
 have:=z4f h1 (l':=sd.map fun s=>s.2.2.1) fun t ht=>by
  obtain ⟨s,h1,_,h3⟩:=hme t ht;exact List.mem_map.2 ⟨s,h1,h3⟩
 rwa [List.length_map] at this
theorem PG.rg {T:Tys} {m:Nat} {H0 H:AH} {L:GL} {x:Gh} {R:RL} (h:PG T m H0 H L x R):RG m H R x.g.N x.sd :=
 ⟨h.rf,h.nok,h.gs.gr.mi.args,fun y hy=>by
  obtain ⟨i,hi,rfl⟩:=List.mem_iff_getElem.1 hy;exact h.gs.gr.sm.args i _ (List.getElem?_eq_getElem hi),h.gs.gr.sm.n⟩
end Go.Proofs.YtgkhbmoidenjaaaDoor
namespace Go.Proofs.YtgkhbmoidenjaaaDoor
open Go Go.Abs Go.Abs.Eg
set_option maxRecDepth 100000
def ints (l:List Nat):List Int:=l.map fun (i:Nat)=>(i:Int)
theorem z9w:∀{l:List Nat},l.Nodup→(ints l).Nodup
 | [],_=>by simp [ints]
 | a :: l,h=>by
  rw [List.nodup_cons] at h;refine List.nodup_cons.2 ⟨fun hm=>?_,z9w h.2⟩;obtain ⟨b,hb,e⟩:=List.mem_map.1 hm;exact h.1 (by rw [← Int.ofNat.inj e]; exact hb)
theorem zig (l:List Nat):l.flatMap EI.enc=(ints l).map fun z=>Value.int .i64 z:=by
 induction l with
 | nil=>rfl
 | cons a l ih=>rw [List.flatMap_cons,ih]; rfl
section
variable {T:Tys} {tx:Key→ByteArray} {m:Nat} {H:AH} {L:GL} {x:Gh} {Tb:AH→Prop}
theorem zee (k:Nat) {l:List Nat} {s:Sl3} {e:TypeId} {m0:Nat} (hs:SlA EI e m0 H l s) (h0:0<l.length) (hl:l.length≤1048576) (hm:m≤H.next) :
  ∃v H1 t H',E9 (LCo k) m H s=some (v,H1)∧O7 (LCo k) m H1 v=some (t,H')∧SlA EZ 3 m H' (sortI (ints l)) t∧Ext H H'∧∀id,fpt t id→H.next≤id:=by
 obtain ⟨a,ha,_,hsp,_⟩:=hs.at_ (by decide) h0 (v:=((0:Nat):Int)) rfl
 let H1:=H.push (pubB 27 [Sl3.v s])
 have x1:Ext H H1:=Fm.push _ _ _;have n1:H1.next=H.next+1:=rfl
 let zs:=ints l
 have hzl:zs.length=l.length:=by show (l.map _).length=_; rw [List.length_map]
 have hcnt:=hs.cnt;have hrd:rdCells H1 a 0 s.n=some (zs.map fun z=>Value.int .i64 z):=by
  have:=(hs.ext x1).rdv.rd a ha;rw [show EI.sz=1 from rfl,Nat.mul_one,← hcnt,zig] at this;exact this
 let t:Sl3:=⟨some ⟨H1.next,0,none⟩,s.n,OPEN⟩
 let H2:=H1.push (rowB 3 zs)
 have hap:P6 (LCo k) m H1 Sl3.nil (.func (.func 62) #[] #[.pointer (some ⟨H.next,0,none⟩)])=some (t,H2):=by
  have hso:seqOf (.func (.func 62) #[] #[.pointer (some ⟨H.next,0,none⟩)])=some H.next:=rfl;have hg:H1.get H.next=some (pubB 27 [Sl3.v s]):=AH.get_push_same _ _;have hv:(#[Sl3.v s]:Array Value)[0]? = some (.slice (some a) s.n s.c):=by
   rw [← ha]; rfl
  unfold P6;simp only [hso,Sl3.nil,and_self,if_true];rw [hg];show (match ([Sl3.v s].toArray)[0]? with
   | some (Value.slice (some a) n _)=>_
   | _=>none)=_
  rw [show ([Sl3.v s].toArray)[0]? = some (Value.slice (some a) s.n s.c) from hv];simp only [hrd,z3g];rw [if_pos ⟨hsp,by rw [hzl,hcnt],by omega,by omega⟩]
 let H3:=H2.put H1.next { obj:=.cells (zcells (sortI zs)) 3 (0,0),opn:=true,esz:=1,ro:=false }
 have hso:O5 (LCo k) m H2 t=some H3:=by
  unfold O5;have hg:H2.get H1.next=some (rowB 3 zs):=AH.get_push_same _ _;simp only [t,hg,rowB];have:(zcells zs).toList=zs.map fun z=>Value.int .i64 z:=by unfold zcells; simp
  rw [this,z3g];simp only;rw [if_pos ⟨trivial,by rw [hzl,hcnt],by omega,by omega,by omega⟩]
 have x2:Ext H1 H2:=Fm.push _ _ _;have x3:Ext H H3:=(x1.trans x2).comp (Fm.put (i:=H1.next)) fun id hid _ e=>by omega
 refine ⟨_,H1,t,H3,rfl,?_,?_,x3,fun id hid=>?_⟩
 ·unfold O7 O8;refine bnd (x:=(t,H2)) (bnd (x:=(t,H2)) hap rfl) ?_;exact bnd hso rfl
 ·have hsl:(sortI zs).length=s.n:=by rw [z1c,hzl,hcnt]
  show SlA EZ 3 m H3 (sortI zs) ⟨some ⟨H1.next,0,none⟩,s.n,OPEN⟩;rw [← hsl];refine .own ?_;refine VecV.opn H1.next 0 (zcells (sortI zs)) (by omega) (show H1.next<H1.next+1 by omega) (AH.get_put_same _ _ _) (EZ.flat_len _) (EZ.flat_one _) fun i v hv=>?_;have hfm:∀l:List Int,l.flatMap EZ.enc=l.map fun z=>Value.int .i64 z:=fun l=>by induction l with
   | nil=>rfl
   | cons a l ih=>rw [List.flatMap_cons,ih]; rfl
  rw [hfm] at hv;unfold zcells;rw [Nat.zero_add]
  simpa using hv
 ·obtain ⟨_,b,hb,rfl⟩:=hid;cases hb;show H.next≤H.next+1;omega
theorem zgz (k:Nat) (h:GS T tx m Tb H L x) {a:Nat} (ha:a<x.g.n) :
  ∃s H' zs,S5 (LCo k) m H (GL.p L) (a:Int)=some (s,H')∧SlA EZ 3 m H' zs s∧Ext H H'∧(∀id,fpt s id→H.next≤id)∧zs.Pairwise (·<·)∧∀z,z∈zs↔∃j:Nat,z=j∧j<x.g.n∧x.g.o j=x.g.o a:=by
 obtain ⟨q1,r1,r2⟩:=h.gr.rep.of_ (i:=a) (by rw [h.gr.mi.len]; exact ha) (v:=(a:Int)) rfl;obtain ⟨q2,p,hp,r3,r4⟩:=h.gr.rep.cls_ (h.gr.mi.cl a ha) (v:=((x.g.o a:Nat):Int)) rfl;have hblk:ArrV T.C m H p.1 (cCells p (x.g.c (x.g.o a)).low):=h.gr.rep.hold (.blk _) p hp;have hme:SlA EI T.I m H (x.g.c (x.g.o a)).mem p.2.2.1:=h.gr.rep.hold (.me _) p hp;have hmem:=h.gr.mi.mem a ha;have hnd:=h.gr.mx.mnd a ha;have hpos:0<(x.g.c (x.g.o a)).mem.length:=List.length_pos_of_mem ((hmem a).2 ⟨ha,rfl⟩);have hlen:(x.g.c (x.g.o a)).mem.length≤1048576:=Nat.le_trans (B8 x.g.n _ hnd fun y hy=>((hmem y).1 hy).1) h.gr.sm.n;obtain ⟨v,H1,t,H',b1,b2,b3,b4,b5⟩:=zee k hme hpos hlen h.gr.nm;have hznd:(ints (x.g.c (x.g.o a)).mem).Nodup:=z9w hnd;refine ⟨t,H',_,?_,b3,b4,b5,z2t hznd,fun z=>?_⟩
 ·unfold S5;refine bnd (Q6 k h.gr.rep _) ?_;rw [decide_eq_true ⟨by omega,by omega⟩,if_pos rfl];refine bnd (x:=(⟨L.q,0,none⟩:Addr)) rfl ?_;refine bnd (x:=L.sC) (h.gr.rep.q (j:=5) (v:=L.sC.v) rfl deSl) ?_;refine bnd (x:=L.sO) (h.gr.rep.q (j:=4) (v:=L.sO.v) rfl deSl) ?_;refine bnd r1 ?_;refine bnd r2 ?_;refine bnd r3 ?_;refine bnd r4 ?_;refine bnd (x:=(⟨p.1,0,none⟩:Addr)) rfl ?_;refine bnd (x:=p.2.2.1) (hblk.rd (j:=1) (v:=p.2.2.1.v) rfl deSl) ?_;refine bnd (x:=(v,H1)) b1 ?_;exact bnd (x:=(t,H')) b2 rfl
 ·rw [z7j];unfold ints;rw [List.mem_map];constructor
  ·rintro ⟨j,hj,rfl⟩
   exact ⟨j,rfl,(hmem j).1 hj⟩
  ·rintro ⟨j,rfl,hj⟩
   exact ⟨j,(hmem j).2 hj,rfl⟩
def lowOf (x:Gh) (i:Nat):Nat:=(x.g.c (x.g.o i)).low
end
section
variable {m:Nat} {H0 H:AH} {L:GL} {x:Gh} {R:RL} {T:Tys}
theorem zkl (k:Nat) (h:PG T m H0 H L x R) {i:Nat} (hi:i<x.g.n):K3 (LCo k) H (GL.p L) (i:Int)=some ((lowOf x i:Int),true):=zc5 k h.gs hi
end
end Go.Proofs.YtgkhbmoidenjaaaDoor
namespace Go.Proofs.YtgkhbmoidenjaaaDoor
open Go Go.Abs Go.Abs.Eg
set_option maxRecDepth 100000
def CP (x:Gh) (r:Int×Int×Int×Bool×Bool):Prop:=r.2.2.2.2=true∧∃a b:Nat,r.1=a∧r.2.1=b∧a<x.g.n∧b<x.g.n∧x.g.o a=x.g.o b ∧
 ((r.2.2.2.1=true∧∃s∈x.sd,s.2.2.2=true∧s.1=a∧s.2.1=b∧s.2.2.1=r.2.2.1)∨(r.2.2.2.1=false∧a≠b∧isVal x.g.N a∧isVal x.g.N b))
section
variable {T:Tys} {tx:Key→ByteArray} {m:Nat} {H:AH} {L:GL} {x:Gh} {Tb:AH→Prop}
theorem zen (k:Nat) (h:GS T tx m Tb H L x) (hl:x.sd.length≤1048576):∃r,X1 (LCo k) H (GL.p L)=some r∧(CP x r∨(r.2.2.2.2=false∧¬ClashP x.g.N x.sd (Cong x.g.N (Mof x.sd)))):=by
 have hS:SlA ES T.S m H x.sd L.sS:=h.gr.rep.hold .S;have hcn:=hS.cnt;have hC:SlA EP T.P m H (L.cl.map (·.1)) L.sC:=h.gr.rep.hold .C;have hcc:L.sC.n=x.g.cls.length:=by rw [hC.cnt,List.length_map]; exact h.gr.rep.cll
 have hcl:=h.gr.sm.cls;rw [← zc4 h.gr.mi h.sdr];have A:=scanO (f:=I1 (LCo k) H ⟨L.q,0,none⟩ L.sS) x.sd.length (fun i=>match x.sd[i]? with
   | some s=>s.2.2.2&&decide (x.g.o s.1.toNat=x.g.o s.2.1.toNat)
   | none=>false) (fun i=>((i:Int),0,0,0,false)) (CP x) (fun i hi hp=>?_) (fun i hi hp=>?_) ?_
 rotate_left
 ·rw [List.getElem?_eq_getElem hi] at hp;obtain ⟨q,r1,r2,r3,r4,r5⟩:=rd_ES hS hi (v:=(i:Int)) rfl;obtain ⟨o1,o2⟩:=h.sdr _ (List.getElem_mem hi);obtain ⟨q1,r6,r7⟩:=readO h o1;obtain ⟨q2,r8,r9⟩:=readO h o2;unfold I1;simp only [hcn,if_pos (show (i:Int)<(x.sd.length:Int) by omega),r1,r2,r3,r4,r5,Option.bind_some];rw [h.gr.rep.q (j:=4) (v:=L.sO.v) rfl deSl];simp only [show deSl (Sl3.v L.sO)=some L.sO from rfl,Option.bind_some,r6,r7,r8,r9];cases hsp:x.sd[i].2.2.2 with
  | false =>
   simp only [Bool.false_eq_true,if_false,Option.bind_some];rw [N1 (n:=x.sd.length) hi (by rw [Q1]; omega)]
  | true =>
   simp only [hsp,Bool.true_and] at hp;have hne:¬x.g.o x.sd[i].1.toNat=x.g.o x.sd[i].2.1.toNat:=of_decide_eq_false hp;simp only [if_true,Option.bind_some,decide_eq_false (show ¬((x.g.o x.sd[i].1.toNat:Nat):Int)=((x.g.o x.sd[i].2.1.toNat:Nat):Int) by omega),Bool.false_eq_true,if_false];rw [N1 (n:=x.sd.length) hi (by rw [Q1]; omega)]
 ·rw [List.getElem?_eq_getElem hi] at hp;obtain ⟨q,r1,r2,r3,r4,r5⟩:=rd_ES hS hi (v:=(i:Int)) rfl;obtain ⟨o1,o2⟩:=h.sdr _ (List.getElem_mem hi);obtain ⟨q1,r6,r7⟩:=readO h o1;obtain ⟨q2,r8,r9⟩:=readO h o2;simp only [Bool.and_eq_true,decide_eq_true_eq] at hp;obtain ⟨na,ea,la⟩:=J3.1 o1;obtain ⟨nb,eb,lb⟩:=J3.1 o2;refine ⟨(x.sd[i].1,x.sd[i].2.1,x.sd[i].2.2.1,x.sd[i].2.2.2,true),?_,rfl,na,nb,ea,eb,la,lb,?_,.inl ⟨hp.1,x.sd[i],List.getElem_mem hi,hp.1,ea,eb,rfl⟩⟩
  ·unfold I1;simp only [hcn,if_pos (show (i:Int)<(x.sd.length:Int) by omega),r1,r2,r3,r4,r5,Option.bind_some];rw [h.gr.rep.q (j:=4) (v:=L.sO.v) rfl deSl];simp only [show deSl (Sl3.v L.sO)=some L.sO from rfl,Option.bind_some,r6,r7,r8,r9,hp.1,if_true,hp.2,decide_true]
  ·have:=hp.2;rw [ea,eb] at this
   simpa using this
 ·unfold I1;simp only [hcn,if_neg (show ¬((x.sd.length:Int)<(x.sd.length:Int)) by omega)]
 have B:=scanO (f:=F1 (LCo k) H ⟨L.q,0,none⟩ L.sC) x.g.cls.length (fun i=>if hh:1<(x.g.c i).vals.length then decide (x.g.o ((x.g.c i).vals[0]'(by omega))=i) else false) (fun i=>((i:Int),0,0,0,false)) (CP x) (fun i hi hp=>?_) (fun i hi hp=>?_) ?_;rotate_left
 ·obtain ⟨q,p,hp1,r1,r2⟩:=h.gr.rep.cls_ hi (v:=(i:Int)) rfl;have hv:SlA EI T.I m H (x.g.c i).vals p.2.2.2:=h.gr.rep.hold (.va i) p hp1;unfold F1;simp only [hcc,if_pos (show (i:Int)<(x.g.cls.length:Int) by omega),r1,r2,Option.bind_some];rw [readC h.gr.rep hp1 (j:=2) (v:=p.2.2.2.v) rfl deSl];simp only [show deSl (Sl3.v p.2.2.2)=some p.2.2.2 from rfl,Option.bind_some,hv.cnt];by_cases hh:1<(x.g.c i).vals.length
  ·rw [dif_pos hh] at hp;have hne:=of_decide_eq_false hp;obtain ⟨q1,r3,r4⟩:=rd_EI hv (i:=0) (by omega) (v:=0) rfl;obtain ⟨q2,r5,r6⟩:=h.gr.rep.of_ (i:=(x.g.c i).vals[0]) (by rw [h.gr.mi.len]; exact h.gr.mi.vlt i _ (List.getElem_mem _)) (v:=(((x.g.c i).vals[0]:Nat):Int)) rfl;rw [h.gr.rep.q (j:=4) (v:=L.sO.v) rfl deSl];simp only [show deSl (Sl3.v L.sO)=some L.sO from rfl,Option.bind_some,r3,r4,r5,r6,if_pos (show (((x.g.c i).vals.length:Nat):Int) > 1 by omega),decide_eq_false (show ¬((x.g.o (x.g.c i).vals[0]:Nat):Int)=(i:Int) by omega),Bool.false_eq_true,if_false];rw [N1 (n:=x.g.cls.length) hi (by rw [Q1]; omega)]
  ·simp only [if_neg (show ¬(((x.g.c i).vals.length:Nat):Int) > 1 by omega),Option.bind_some,Bool.false_eq_true,if_false];rw [N1 (n:=x.g.cls.length) hi (by rw [Q1]; omega)]
 ·obtain ⟨q,p,hp1,r1,r2⟩:=h.gr.rep.cls_ hi (v:=(i:Int)) rfl;have hv:SlA EI T.I m H (x.g.c i).vals p.2.2.2:=h.gr.rep.hold (.va i) p hp1;by_cases hh:1<(x.g.c i).vals.length
  ·rw [dif_pos hh] at hp;have heq:=of_decide_eq_true hp;obtain ⟨q1,r3,r4⟩:=rd_EI hv (i:=0) (by omega) (v:=0) rfl;obtain ⟨q3,r7,r8⟩:=rd_EI hv (i:=1) (by omega) (v:=1) rfl;have l0:=h.gr.mi.vlt i _ (List.getElem_mem (show 0<(x.g.c i).vals.length by omega));obtain ⟨q2,r5,r6⟩:=h.gr.rep.of_ (i:=(x.g.c i).vals[0]) (by rw [h.gr.mi.len]; exact l0) (v:=(((x.g.c i).vals[0]:Nat):Int)) rfl;have hvs:=h.gr.mi.vals _ l0;have hnd:=h.gr.mi.vnd _ l0;rw [heq] at hvs hnd;obtain ⟨_,_,y0,y1,y2⟩:=(hvs _).1 (List.getElem_mem (show 0<(x.g.c i).vals.length by omega));obtain ⟨w0,w1,z0,z1,z2⟩:=(hvs _).1 (List.getElem_mem (show 1<(x.g.c i).vals.length by omega));refine ⟨((((x.g.c i).vals[0]:Nat):Int),(((x.g.c i).vals[1]:Nat):Int),0,false,true),?_,rfl,(x.g.c i).vals[0],(x.g.c i).vals[1],rfl,rfl,l0,w0,by rw [heq,w1],.inr ⟨rfl,fun e=>?_,⟨y0,y1,y2⟩,⟨z0,z1,z2⟩⟩⟩
   ·unfold F1;simp only [hcc,if_pos (show (i:Int)<(x.g.cls.length:Int) by omega),r1,r2,Option.bind_some];rw [readC h.gr.rep hp1 (j:=2) (v:=p.2.2.2.v) rfl deSl];simp only [show deSl (Sl3.v p.2.2.2)=some p.2.2.2 from rfl,Option.bind_some,hv.cnt];rw [h.gr.rep.q (j:=4) (v:=L.sO.v) rfl deSl];simp only [show deSl (Sl3.v L.sO)=some L.sO from rfl,Option.bind_some,r3,r4,r5,r6,r7,r8,if_pos (show (((x.g.c i).vals.length:Nat):Int) > 1 by omega),heq,decide_true,if_true]
   ·have:=(List.nodup_iff_pairwise_ne.1 hnd);exact (List.pairwise_iff_getElem.1 this) 0 1 (by omega) hh (by omega) e
  ·rw [dif_neg hh] at hp; cases hp
 ·unfold F1;simp only [hcc,if_neg (show ¬((x.g.cls.length:Int)<(x.g.cls.length:Int)) by omega)]
 unfold X1;simp only [GL.p,Option.bind_some];rw [h.gr.rep.q (j:=2) (v:=L.sS.v) rfl deSl];simp only [show deSl (Sl3.v L.sS)=some L.sS from rfl,Option.bind_some];rcases A with ⟨_,r,e1,e2⟩ | ⟨hall,e1⟩
 ·rw [show (LCo k).run (I1 (LCo k) H ⟨L.q,0,none⟩ L.sS) (0,0,0,0,false)=some (.inr r) from e1];exact ⟨r,rfl,.inl e2⟩
 ·rw [show (LCo k).run (I1 (LCo k) H ⟨L.q,0,none⟩ L.sS) (0,0,0,0,false)=some (.inl ((x.sd.length:Int),0,0,0,false)) from e1];simp only [Option.bind_some];rw [h.gr.rep.q (j:=5) (v:=L.sC.v) rfl deSl];simp only [show deSl (Sl3.v L.sC)=some L.sC from rfl,Option.bind_some];have nosplit:¬∃s∈x.sd,s.2.2.2=true∧x.g.o s.1.toNat=x.g.o s.2.1.toNat:=by
   rintro ⟨s,hs,h1,h2⟩
   obtain ⟨i,hi,rfl⟩:=List.mem_iff_getElem.1 hs;have:=hall i hi;rw [List.getElem?_eq_getElem hi] at this;simp only [h1,h2,decide_true,Bool.and_self] at this;cases this
  rcases B with ⟨_,r,e3,e4⟩ | ⟨hall2,e3⟩
  ·rw [show (LCo k).run (F1 (LCo k) H ⟨L.q,0,none⟩ L.sC) (0,0,0,0,false)=some (.inr r) from e3];exact ⟨r,rfl,.inl e4⟩
  ·rw [show (LCo k).run (F1 (LCo k) H ⟨L.q,0,none⟩ L.sC) (0,0,0,0,false)=some (.inl ((x.g.cls.length:Int),0,0,0,false)) from e3];refine ⟨_,rfl,.inr ⟨rfl,fun hc=>?_⟩⟩;rcases hc with hc | ⟨i,hi,hc⟩
   ·exact nosplit hc
   ·obtain ⟨hh,heq⟩:=m7.1 hc;have:=hall2 i hi;rw [dif_pos hh,decide_eq_true heq] at this;cases this
theorem z59 (k:Nat) {e:TypeId} {zs:List Int} {s:Sl3} {m1:Nat} (hs:SlA EZ e m1 H zs s) (hl:zs.length≤1073741824) (t:Int):U5 (LCo k) H s t=some (decide (t∈zs)):=by
 have A:=scanI (f:=Y4 (LCo k) H s t) zs.length (fun i=>decide (zs[i]? = some t)) (fun i=>(i:Int)) (fun i=>(i:Int)) (fun i hi hp=>?_) (fun i hi hp=>?_) ?_;rotate_left
 ·obtain ⟨q,r1,r2⟩:=rd_EZ hs hi (v:=(i:Int)) rfl;have hne:¬t=zs[i]:=fun e=>by
   have:=of_decide_eq_false hp;rw [List.getElem?_eq_getElem hi] at this;exact this (by rw [e])
  unfold Y4;rw [hs.cnt,if_pos (by omega)];refine bnd r1 (bnd r2 ?_);rw [if_neg hne,N1 (n:=zs.length) hi (by rw [Q1]; omega)]
 ·obtain ⟨q,r1,r2⟩:=rd_EZ hs hi (v:=(i:Int)) rfl;have he:t=zs[i]:=by
   have:=of_decide_eq_true hp;rw [List.getElem?_eq_getElem hi] at this;exact (Option.some.inj this).symm
  unfold Y4;rw [hs.cnt,if_pos (by omega)];refine bnd r1 (bnd r2 ?_);rw [if_pos he]
 ·unfold Y4;rw [hs.cnt,if_neg (by omega)]
 unfold U5 zq;rcases A with ⟨i,hi,hp,_,e⟩ | ⟨hall,e⟩
 ·refine bnd (x:=(i:Int)) (bnd (x:=.inr (i:Int)) ?_ rfl) ?_
  ·exact e
  have:t∈zs:=List.mem_of_getElem? (of_decide_eq_true hp);rw [decide_eq_true this,decide_eq_true (by omega)]
 ·refine bnd (x:=(-1:Int)) (bnd (x:=.inl (zs.length:Int)) ?_ rfl) ?_
  ·exact e
  have:t ∉ zs:=fun hm=>by
   obtain ⟨i,hi,he⟩:=List.mem_iff_getElem.1 hm;have:=of_decide_eq_false (hall i hi);rw [List.getElem?_eq_getElem hi] at this;exact this (by rw [he])
  rw [decide_eq_false this,decide_eq_false (by omega)]
theorem rowSort (k:Nat) {zs:List Int} {s:Sl3} {H0:AH} (h:RowI 3 m H zs s) (hl:zs.length≤1099511627776) (hx:Ext H0 H) (hf:∀id,fpt s id→H0.next≤id):∃H',O5 (LCo k) m H s=some H'∧RowI 3 m H' (sortI zs) s∧Ext H0 H':=by
 rcases h with ⟨rfl,rfl⟩ | ⟨id,h1,h2,rfl,h4,h5⟩
 ·refine ⟨H,rfl,.inl ⟨rfl,?_⟩,hx⟩;unfold sortI;simp
 ·have h0:H0.next≤id:=hf id ⟨by show OPEN≠0; unfold OPEN; omega,_,rfl,rfl⟩;refine ⟨H.put id { obj:=.cells (zcells (sortI zs)) 3 (0,0),opn:=true,esz:=1,ro:=false },?_,.inr ⟨id,h1,h2,by rw [z1c],AH.get_put_same _ _ _,fun e=>?_⟩,hx.comp (Fm.put (i:=id)) fun j hj _ e=>by omega⟩
  ·unfold O5;simp only [h4,rowB];have:(zcells zs).toList=zs.map fun z=>Value.int .i64 z:=by unfold zcells; simp
   rw [this,z3g];simp only;rw [if_pos ⟨trivial,trivial,List.length_pos_iff.2 h5,hl,h1⟩]
  ·have:=z1c zs;rw [e] at this;exact h5 (List.length_eq_zero_iff.1 this.symm)
def ClashT (x:Gh) (zs:List Int):Prop:=zs.Pairwise (·<·)∧(∀t∈zs,∃s∈x.sd,s.2.2.1=t)∧ClashP x.g.N (withT x.sd (·∈zs)) (Cong x.g.N (Mof (withT x.sd (·∈zs))))
theorem zld {sd:List Sd} {zs ws:List Int} (h:∀t∈zs,t∈ws):∀p∈Mof (withT sd (·∈zs)),p∈Mof (withT sd (·∈ws)):=by
 intro p hp;unfold Mof at *;obtain ⟨s,h1,h2⟩:=List.mem_filterMap.1 hp;refine List.mem_filterMap.2 ⟨s,?_,h2⟩;obtain ⟨h3,h4⟩:=List.mem_filter.1 h1;exact List.mem_filter.2 ⟨h3,by simpa using h _ (by simpa using h4)⟩
theorem zk2 {sd:List Sd} {zs:List Int} (hup:zs.Pairwise (·<·)) (hme:∀t∈zs,∃s∈sd,s.2.2.1=t):zs.length≤sd.length:=by
 have h1:zs.Nodup:=hup.imp fun h=>by omega
 have:=z4f h1 (l':=sd.map fun s=>s.2.2.1) fun t ht=>by
  obtain ⟨s,h1,h3⟩:=hme t ht;exact List.mem_map.2 ⟨s,h1,h3⟩
 rwa [List.length_map] at this
theorem zgf (k:Nat) (h:GS T tx m Tb H L x) (hl:x.sd.length≤1048576) :
  ∃s ok H',Q3 (LCo k) m H (GL.p L)=some (s,ok,H')∧Ext H H'∧((ok=true∧∃zs,SlA EZ 3 m H' zs s∧ClashT x zs)∨(ok=false∧s.n=0∧¬ClashP x.g.N x.sd (Cong x.g.N (Mof x.sd)))):=by
 obtain ⟨r,r1,r2⟩:=zen k h hl;obtain ⟨x0,x1,x2,x3,x4⟩:=r;rcases r2 with ⟨c0,a,b,ea,eb,la,lb,ho,hc⟩ | ⟨c0,hc⟩
 ·simp only at c0 ea eb hc;subst c0 ea eb;obtain ⟨s,H1,zs,d1,d2,d3,d4,d5,d6,d7⟩:=z7v k h la lb ho;have hzl:=Nat.le_trans (zf7 d5 d6) hl;have hme:∀t∈zs,∃s∈x.sd,s.2.2.1=t:=fun t ht=>let ⟨s,h1,_,h3⟩:=d6 t ht; ⟨s,h1,h3⟩
  have pre:∀(q:AH×Sl3),(Option.bind (α:=Bool) (
     if x3=true then
      (U5 (LCo k) H1 s x2).bind fun x9 => some (!x9)
     else
      some false) fun v31_8 =>
    if v31_8=true then
     (newR 3 1 #[(Value.int .i64 x2)] H1).bind fun (s10,H11) => (appS m 3 1 8 H11 s s10).bind fun (s12,H13) => (O5 (LCo k) m H13 s12).bind fun H14 => some (H14,s12)
    else
     some (H1,s))=some q→Q3 (LCo k) m H (GL.p L)=some (q.2,true,q.1):=by
   intro q hq;unfold Q3;refine bnd (X6 k h.gr.rep) ?_;rw [if_pos rfl];refine bnd r1 ?_;simp only [if_true];refine bnd (x:=(s,H1)) d1 ?_;exact bnd (x:=q) hq rfl
  rcases hc with ⟨e3,w,w1,w2,w3,w4,w5⟩ | ⟨e3,hne,v1,v2⟩
  ·subst e3;by_cases hin:x2∈zs
   ·refine ⟨s,true,H1,pre (H1,s) ?_,d3,.inl ⟨rfl,zs,d2.sla,d5,hme,.inl ⟨w,?_,w2,?_⟩⟩⟩
    ·refine bnd (x:=false) ?_ (by simp);rw [if_pos rfl];refine bnd (z59 k d2.sla (by omega) x2) ?_;rw [decide_eq_true hin]; rfl
    ·exact List.mem_filter.2 ⟨w1,by rw [w5]; simpa using hin⟩
    ·rw [w3,w4]; exact d7
   ·obtain ⟨z,Ha,s',Hb,f1,f2,f3,f4,f5⟩:=d2.push x2 (by omega) (Nat.le_trans h.gr.nm d3.1) d3 d4;obtain ⟨Hc,g1,g2,g3⟩:=rowSort k f3 (by rw [List.length_append,List.length_singleton]; omega) f4 f5;have hnd:(zs++[x2]).Nodup:=by
     have h1:zs.Nodup:=d5.imp fun h=>by omega
     refine List.nodup_append.2 ⟨h1,by simp,fun a ha b hb e=>?_⟩;rw [List.mem_singleton] at hb;exact hin (by rw [← hb,← e]; exact ha)
    have hmem:∀t,t∈sortI (zs++[x2])↔t∈zs∨t=x2:=fun t=>by rw [z7j]; simp
    refine ⟨s',true,Hc,pre (Hc,s') ?_,g3,.inl ⟨rfl,_,g2.sla,z2t hnd,fun t ht=>?_,.inl ⟨w,?_,w2,?_⟩⟩⟩
    ·refine bnd (x:=true) ?_ ?_
     ·rw [if_pos rfl];refine bnd (z59 k d2.sla (by omega) x2) ?_;rw [decide_eq_false hin]; rfl
     ·rw [if_pos rfl];exact bnd (x:=(z,Ha)) f1 (bnd (x:=(s',Hb)) f2 (bnd g1 rfl))
    ·rcases (hmem t).1 ht with h1 | rfl
     ·exact hme t h1
     ·exact ⟨w,w1,w5⟩
    ·exact List.mem_filter.2 ⟨w1,by rw [w5]; simpa using (hmem x2).2 (.inr rfl)⟩
    ·rw [w3,w4];exact d7.mono (fun _ _ h=>h) (zld fun t ht=>(hmem t).2 (.inl ht))
  ·subst e3;refine ⟨s,true,H1,pre (H1,s) (bnd (x:=false) (by rw [if_neg (by simp)]) (by simp)),d3,.inl ⟨rfl,zs,d2.sla,d5,hme,.inr ⟨a,b,hne,v1,v2,d7⟩⟩⟩
 ·simp only at c0;subst c0;refine ⟨Sl3.nil,false,H,?_,Fm.refl _ _,.inr ⟨rfl,rfl,hc⟩⟩;unfold Q3;refine bnd (X6 k h.gr.rep) ?_;rw [if_pos rfl];exact bnd r1 rfl
end
section
variable {m m0 m1:Nat} {H H0:AH} {R:RL} {N:List Nd} {sd sd':List Sd} {e:TypeId} {s:Sl3} {id:Nat} {r:Nat→Nat}
def vlAt (N:List Nd) (i:Nat):Bool:=match N[i]? with
 | some y=>y.value
 | none=>false
theorem z19 {N:List Nd} {i:Nat} (hi:i<N.length):vlAt N i=N[i].value:=by
 unfold vlAt;rw [List.getElem?_eq_getElem hi]
theorem z6r (k:Nat) (hG:RG m0 H R N sd) (hs:SlA ES e m1 H sd' s) (hok:∀s∈sd',okA N s.1=true∧okA N s.2.1=true) (hsl:sd'.length≤1048576) (hr:RA m H id N.length r) (hc:∀i j,i<N.length→j<N.length→(r i=r j↔Cong N (Mof sd') i j)) :
  ∃b:Bool,R7 (LCo k) H R.sN s (arS id N.length)=some b∧(b=false↔ClashP N sd' (Cong N (Mof sd'))):=by
 have hcnt:R.sN.n=N.length:=by rw [hG.rf.hN.cnt,i7 hG.rf.nal]
 have hn:=hG.n;have A:=scanI (f:=K5 (LCo k) H R.sN s (arS id N.length)) sd'.length (fun i=>match sd'[i]? with
   | some w=>w.2.2.2&&decide (r w.1.toNat=r w.2.1.toNat)
   | none=>false) (fun i=>(i:Int)) (fun _=>false) (fun i hi hp=>?_) (fun i hi hp=>?_) ?_
 rotate_left
 ·rw [List.getElem?_eq_getElem hi] at hp;obtain ⟨q,r1,r2,r3,r4,r5⟩:=rd_ES hs hi (v:=(i:Int)) rfl;obtain ⟨o1,o2⟩:=hok _ (List.getElem_mem hi);obtain ⟨na,ea,la⟩:=J3.1 o1;obtain ⟨nb,eb,lb⟩:=J3.1 o2;obtain ⟨t1,t2⟩:=hr.at_ la (v:=(na:Int)) rfl;obtain ⟨t3,t4⟩:=hr.at_ lb (v:=(nb:Int)) rfl;unfold K5;rw [hs.cnt,if_pos (by omega)];refine bnd (x:=false) ?_ (by rw [if_neg (by simp),N1 (n:=sd'.length) hi (by rw [Q1]; omega)]);refine bnd r1 (bnd r5 ?_);cases hsp:sd'[i].2.2.2 with
  | false=>rw [if_neg (by simp)]
  | true =>
   rw [if_pos rfl];rw [ea] at r2;rw [eb] at r3;refine bnd r1 (bnd r2 (bnd t1 (bnd t2 (bnd r1 (bnd r3 (bnd t3 (bnd t4 ?_)))))));simp only [hsp,Bool.true_and,ea,eb,Int.toNat_natCast] at hp;have:=of_decide_eq_false hp
   congr 1
   rw [decide_eq_false_iff_not];omega
 ·rw [List.getElem?_eq_getElem hi] at hp;obtain ⟨q,r1,r2,r3,r4,r5⟩:=rd_ES hs hi (v:=(i:Int)) rfl;obtain ⟨o1,o2⟩:=hok _ (List.getElem_mem hi);obtain ⟨na,ea,la⟩:=J3.1 o1;obtain ⟨nb,eb,lb⟩:=J3.1 o2;obtain ⟨t1,t2⟩:=hr.at_ la (v:=(na:Int)) rfl;obtain ⟨t3,t4⟩:=hr.at_ lb (v:=(nb:Int)) rfl;simp only [Bool.and_eq_true,decide_eq_true_eq,ea,eb,Int.toNat_natCast] at hp;rw [ea] at r2;rw [eb] at r3;rw [hp.1] at r5;unfold K5;rw [hs.cnt,if_pos (by omega)];refine bnd (x:=true) ?_ (by rw [if_pos rfl]);refine bnd r1 (bnd r5 ?_);rw [if_pos rfl];refine bnd r1 (bnd r2 (bnd t1 (bnd t2 (bnd r1 (bnd r3 (bnd t3 (bnd t4 ?_)))))));rw [hp.2];simp
 ·unfold K5;rw [hs.cnt,if_neg (by omega)]
 have two:∀i,i<N.length→((∃j,j<i∧vlAt N i=true∧vlAt N j=true∧r i=r j)∧loopO (U3 (LCo k) H R.sN (arS id N.length) (i:Int)) 0=some (.inr false))∨((∀j,j<i→¬(vlAt N i=true∧vlAt N j=true∧r i=r j))∧loopO (U3 (LCo k) H R.sN (arS id N.length) (i:Int)) 0=some (.inl (i:Int))):=by
  intro i hi;obtain ⟨q1,s1,c1,c2,c3,c4,c5,_⟩:=hG.rf.node hi (v:=(i:Int)) rfl;obtain ⟨t1,t2⟩:=hr.at_ hi (v:=(i:Int)) rfl;have ei:vlAt N i=N[i].value:=z19 hi;have B:=scanI (f:=U3 (LCo k) H R.sN (arS id N.length) (i:Int)) i (fun j=>vlAt N i&&(vlAt N j&&decide (r i=r j))) (fun j=>(j:Int)) (fun _=>false) (fun j hj hp=>?_) (fun j hj hp=>?_) ?_;rotate_left
  ·have hjn:j<N.length:=by omega
   obtain ⟨q2,s2,d1,d2,d3,d4,d5,_⟩:=hG.rf.node hjn (v:=(j:Int)) rfl;obtain ⟨t3,t4⟩:=hr.at_ hjn (v:=(j:Int)) rfl;have ej:vlAt N j=N[j].value:=z19 hjn;rw [ei,ej] at hp;unfold U3;rw [if_pos (by omega)];refine bnd (x:=false) ?_ (by rw [if_neg (by simp),N1 (n:=i) hj (by rw [Q1]; omega)]);refine bnd c1 (bnd c3 ?_);cases hv:N[i].value with
   | false=>rw [if_neg (by simp)]
   | true =>
    rw [if_pos rfl];refine bnd d1 (bnd d3 ?_);cases hw:N[j].value with
    | false=>rw [if_neg (by simp)]
    | true =>
     rw [if_pos rfl];refine bnd t1 (bnd t2 (bnd t3 (bnd t4 ?_)));simp only [hv,hw,Bool.true_and] at hp;have:=of_decide_eq_false hp
     congr 1
     rw [decide_eq_false_iff_not];omega
  ·have hjn:j<N.length:=by omega
   obtain ⟨q2,s2,d1,d2,d3,d4,d5,_⟩:=hG.rf.node hjn (v:=(j:Int)) rfl;obtain ⟨t3,t4⟩:=hr.at_ hjn (v:=(j:Int)) rfl;have ej:vlAt N j=N[j].value:=z19 hjn;rw [ei,ej] at hp;simp only [Bool.and_eq_true,decide_eq_true_eq] at hp;rw [hp.1] at c3;rw [hp.2.1] at d3;unfold U3;rw [if_pos (by omega)];refine bnd (x:=true) ?_ (by rw [if_pos rfl]);refine bnd c1 (bnd c3 ?_);rw [if_pos rfl];refine bnd d1 (bnd d3 ?_);rw [if_pos rfl];refine bnd t1 (bnd t2 (bnd t3 (bnd t4 ?_)));rw [hp.2.2];simp
  ·unfold U3;rw [if_neg (by omega)]
  rcases B with ⟨j,hj,hp,_,e⟩ | ⟨hall,e⟩
  ·simp only [Bool.and_eq_true,decide_eq_true_eq] at hp;exact .inl ⟨⟨j,hj,hp⟩,e⟩
  ·refine .inr ⟨fun j hj hh=>?_,e⟩;have:=hall j hj;simp [hh.1,hh.2.1,hh.2.2] at this
 unfold R7;rcases A with ⟨i,hi,hp,_,e1⟩ | ⟨hall,e1⟩
 ·refine ⟨false,bnd (x:=.inr false) ?_ rfl,fun _=>?_,fun _=>rfl⟩
  ·exact e1
  ·rw [List.getElem?_eq_getElem hi] at hp;simp only [Bool.and_eq_true,decide_eq_true_eq] at hp;obtain ⟨o1,o2⟩:=hok _ (List.getElem_mem hi);obtain ⟨na,ea,la⟩:=J3.1 o1;obtain ⟨nb,eb,lb⟩:=J3.1 o2;refine .inl ⟨sd'[i],List.getElem_mem hi,hp.1,?_⟩;have h2:=hp.2;rw [ea,eb] at h2 ⊢;simp only [Int.toNat_natCast] at h2 ⊢;exact (hc na nb la lb).1 h2
 ·have C:=scanI (f:=N5 (LCo k) H R.sN (arS id N.length)) N.length (fun i=>decide (∃j,j<i∧vlAt N i=true∧vlAt N j=true∧r i=r j)) (fun i=>(i:Int)) (fun _=>false) (fun i hi hp=>?_) (fun i hi hp=>?_) ?_;rotate_left
  ·have hno:=of_decide_eq_false hp;rcases two i hi with ⟨hy,_⟩ | ⟨_,e2⟩
   ·exact absurd hy hno
   ·unfold N5;rw [hcnt,if_pos (by omega)];refine bnd (x:=.inl (i:Int)) ?_ (by rw [N1 (n:=N.length) hi (by rw [Q1]; omega)]);exact e2
  ·have hy:=of_decide_eq_true hp;rcases two i hi with ⟨_,e2⟩ | ⟨hno,_⟩
   ·unfold N5;rw [hcnt,if_pos (by omega)];refine bnd (x:=.inr false) ?_ rfl;exact e2
   ·obtain ⟨j,hj,h1⟩:=hy;exact absurd h1 (hno j hj)
  ·unfold N5;rw [hcnt,if_neg (by omega)]
  have nosplit:¬∃w∈sd',w.2.2.2=true∧Cong N (Mof sd') w.1.toNat w.2.1.toNat:=by
   rintro ⟨w,hw,h1,h2⟩
   obtain ⟨i,hi,rfl⟩:=List.mem_iff_getElem.1 hw;obtain ⟨o1,o2⟩:=hok _ hw;obtain ⟨na,ea,la⟩:=J3.1 o1;obtain ⟨nb,eb,lb⟩:=J3.1 o2;have:=hall i hi;rw [List.getElem?_eq_getElem hi] at this;rw [ea,eb] at h2;simp only [Int.toNat_natCast] at h2;have h3:=(hc na nb la lb).2 h2;simp [h1,ea,eb,h3] at this
  rcases C with ⟨i,hi,hp,_,e2⟩ | ⟨hall2,e2⟩
  ·refine ⟨false,?_,fun _=>?_,fun _=>rfl⟩
   ·refine bnd (x:=.inl (sd'.length:Int)) ?_ ?_
    ·exact e1
    ·refine bnd (x:=.inr false) ?_ rfl;exact e2
   ·obtain ⟨j,hj,h1,h2,h3⟩:=of_decide_eq_true hp;have hjn:j<N.length:=by omega
    rw [z19 hi] at h1;rw [z19 hjn] at h2;exact .inr ⟨i,j,by omega,⟨_,List.getElem?_eq_getElem hi,h1⟩,⟨_,List.getElem?_eq_getElem hjn,h2⟩,(hc i j hi hjn).1 h3⟩
  ·refine ⟨true,?_,fun h=>(by cases h),fun hcl=>?_⟩
   ·refine bnd (x:=.inl (sd'.length:Int)) ?_ ?_
    ·exact e1
    ·refine bnd (x:=.inl (N.length:Int)) ?_ rfl;exact e2
   ·exfalso;have key:∀i j,j<i→isVal N i→isVal N j→Cong N (Mof sd') i j→False:=by
     rintro i j hij ⟨y,hy,hyv⟩ ⟨z,hz,hzv⟩ hcg
     obtain ⟨hi,e3⟩:=List.getElem?_eq_some_iff.1 hy;obtain ⟨hj,e4⟩:=List.getElem?_eq_some_iff.1 hz;have:=of_decide_eq_false (hall2 i hi);exact this ⟨j,hij,by rw [z19 hi,e3]; exact hyv,by rw [z19 hj,e4]; exact hzv,(hc i j hi hj).2 hcg⟩
    rcases hcl with hcl | ⟨v,w,hne,h1,h2,h3⟩
    ·exact nosplit hcl
    ·rcases Nat.lt_or_ge v w with hvw | hvw
     ·exact key w v hvw h2 h1 h3.symm
     ·exact key v w (by omega) h1 h2 h3
end
end Go.Proofs.YtgkhbmoidenjaaaDoor
namespace Go.Proofs.YtgkhbmoidenjaaaDoor
open Go Go.Abs Go.Abs.Eg
set_option maxRecDepth 100000
section
variable {m m0 m1:Nat} {H H0:AH} {R:RL} {N:List Nd} {sd:List Sd} {e:TypeId} {s:Sl3} {zs:List Int}
theorem zga (k:Nat) (hG:RG m0 H R N sd) (hm:m≤H.next) (hs:SlA EZ e m1 H zs s) (hsl:sd.length≤1048576) (hok:∀s∈sd,okA N s.1=true∧okA N s.2.1=true) (hup:zs.Pairwise (·<·)) (hme:∀t∈zs,∃s∈sd,s.2.2.1=t) (hc:ClashP N (withT sd (·∈zs)) (Cong N (Mof (withT sd (·∈zs))))) :
  ∃H',D6 (LCo k) m H (RL.p R) s=some (true,H')∧Ext H H':=by
 have hzl:=Nat.le_trans (zk2 hup hme) hsl;obtain ⟨v,H1,a1,a2,a3⟩:=zl0 (m:=m) k hs (by omega) hG.rf hm hsl;have hG1:RG m0 H1 R N sd:=⟨RR.ext hG.rf a3,hG.nok,hG.args,hG.len,hG.n⟩;obtain ⟨H2,r,b1,b2,b3,b4,b5⟩:=zaf (m:=Nat.max m H1.next) k hG1 (Nat.max_le.2 ⟨Nat.le_trans hm a3.1,Nat.le_refl _⟩) a2.toS (zf9 hok) (zd0 hsl);have hG2:RG m0 H2 R N sd:=⟨RR.ext hG1.rf b2,hG.nok,hG.args,hG.len,hG.n⟩;obtain ⟨b,c1,c2⟩:=z6r k hG2 (a2.toS.ext b2) (zf9 hok) (zd0 hsl) b3 b5;have hb:b=false:=c2.2 hc;subst hb;refine ⟨H2,?_,a3.trans b2⟩;unfold D6;refine bnd (x:=(v,H1)) a1 ?_;refine bnd (zhe k hG1.rf (hs.ext a3) false hsl (by omega) hup fun t ht=>by
  obtain ⟨w,h1,h2⟩:=hme t ht;exact ⟨w,h1,h2,fun h=>(by cases h)⟩) ?_
 rw [if_pos rfl];refine bnd (x:=(⟨R.q,0,none⟩:Addr)) rfl ?_;refine bnd (x:=R.sN) (hG1.rf.q.rd (j:=0) (v:=R.sN.v) rfl deSl) ?_;refine bnd (x:=R.sN) (hG1.rf.q.rd (j:=0) (v:=R.sN.v) rfl deSl) ?_;refine bnd (x:=(arS H1.next N.length,H2)) b1 ?_;refine bnd c1 ?_;rfl
end
section
variable {T:Tys} {m:Nat} {H0 H:AH} {L:GL} {x:Gh} {R:RL}
theorem zj3 (h:PG T m H0 H L x R) {r:Nat→Nat} (hq:RQ x.g.N (Mof x.sd) x.g.N.length r) (hc:∀i j,i<x.g.N.length→j<x.g.N.length→(r i=r j↔Cong x.g.N (Mof x.sd) i j)) {i:Nat} (hi:i<x.g.n):r i=lowOf x i:=by
 obtain ⟨l1,l2,l3⟩:=h.gs.gr.mi.low i hi;have hri:r i<x.g.n:=hq.rlt hi;have h1:r (lowOf x i)=r i:=(hc _ _ l1 hi).2 ((h.gs.gr.mi.iff l1 hi).1 l2);have h2:r i≤lowOf x i:=by rw [← h1]; exact hq.low _ l1
 have h3:lowOf x i≤r i:=l3 (r i) hri ((h.gs.gr.mi.iff hri hi).2 ((hc _ _ hri hi).1 (hq.idem i hi)));omega
theorem zgu {N:List Nd} {sd:List Sd} {zs:List Int} (h:ClashP N (withT sd (·∈zs)) (Cong N (Mof (withT sd (·∈zs))))):ClashP N sd (Cong N (Mof sd)):=by
 have hm:∀p∈Mof (withT sd (·∈zs)),p∈Mof sd:=fun p hp=>by
  unfold Mof at *;obtain ⟨s,h1,h2⟩:=List.mem_filterMap.1 hp;exact List.mem_filterMap.2 ⟨s,(List.mem_filter.1 h1).1,h2⟩
 rcases h with ⟨s,h1,h2,h3⟩ | ⟨v,w,h1,h2,h3,h4⟩
 ·exact .inl ⟨s,(List.mem_filter.1 h1).1,h2,h3.mono (fun _ _ h=>h) hm⟩
 ·exact .inr ⟨v,w,h1,h2,h3,h4.mono (fun _ _ h=>h) hm⟩
theorem zgq (hE:Env T txK m (Tb0 H0)) (k:Nat) (h:PG T m H0 H L x R) (hsl:x.sd.length≤1048576):∃H',l7 (LCo k) m H (GL.p L) (RL.p R)=some (true,H')∧Ext H H':=by
 have hn:x.g.N.length≤1048576:=h.gs.gr.sm.n;obtain ⟨H5,r,b1,b2,b3,b4,b5⟩:=zaf (m:=m) k h.rg h.gs.gr.nm (s:=R.sS) h.rf.hS h.gs.sdr hsl;have h5:=h.ext hE b2;have hcnt:R.sN.n=x.g.N.length:=by rw [h.rf.hN.cnt,i7 h.rf.nal]
 have hr0:rd deSl H ((⟨R.q,0,none⟩:Addr).add 0)=some R.sN:=h.rf.q.rd (j:=0) (v:=R.sN.v) rfl deSl;have hr1:rd deSl H ((⟨R.q,0,none⟩:Addr).add 1)=some R.sS:=h.rf.q.rd (j:=1) (v:=R.sS.v) rfl deSl;have hr2:rd deSl H5 ((⟨R.q,0,none⟩:Addr).add 0)=some R.sN:=h5.rf.q.rd (j:=0) (v:=R.sN.v) rfl deSl;have hr3:rd deSl H5 ((⟨R.q,0,none⟩:Addr).add 1)=some R.sS:=h5.rf.q.rd (j:=1) (v:=R.sS.v) rfl deSl;obtain ⟨v,g1,_⟩:=z30 (R:=Bool×AH) (body:=K6 (LCo k) (GL.p L) ⟨R.q,0,none⟩ (arS H.next x.g.N.length) H5) x.g.N.length (fun i (v:Int)=>v=(i:Int)) (Q:=fun _=>True)
  (fun i hi v hv=>by
   subst hv;obtain ⟨t1,t2⟩:=b3.at_ hi (v:=(i:Int)) rfl;rw [zj3 h b4 b5 hi] at t2;refine ⟨((i+1:Nat):Int),?_,rfl⟩;unfold K6;rw [if_pos (by show (i:Int)<((x.g.N.length:Nat):Int); omega)];refine bnd (x:=((lowOf x i:Int),true)) (zkl k h5 hi) ?_;refine bnd (x:=false) ?_ (by rw [if_neg (by simp),N1 (n:=x.g.N.length) hi (by rw [Q1]; omega)]);rw [if_pos rfl];refine bnd t1 (bnd t2 ?_);simp)
  (fun v hv=>by
   subst hv;refine ⟨(x.g.N.length:Int),?_,trivial⟩;unfold K6;rw [if_neg (by show ¬((x.g.N.length:Nat):Int)<((x.g.N.length:Nat):Int); omega)])
  (s:=0) rfl
 obtain ⟨b,c1,c2⟩:=z6r k h5.rg h5.rf.hS h.gs.sdr hsl b3 b5;obtain ⟨s18,ok,H20,d1,d2,d3⟩:=zgf k h5.gs hsl;have h20:=h5.ext hE d2;obtain ⟨s21,e1,e2⟩:=zat k h20.gs hsl;have hsb:s21=b:=by
  cases s21 <;> cases b <;> simp_all
 subst hsb;have pre:∀q,(if (s21 == s21)=true then
    if (ok == (!s21))=true then
     if s21=true then
      if (s18.n:Int)=0 then
       some (true,H20)
      else
       if s21=true then
        some (false,H20)
       else
        (D6 (LCo k) m H20 (some ⟨R.q,0,none⟩) s18).bind fun (x22,H23) => some (x22,H23)
     else
      if s21=true then
       some (false,H20)
      else
       (D6 (LCo k) m H20 (some ⟨R.q,0,none⟩) s18).bind fun (x24,H25) => some (x24,H25)
    else
     some (false,H20)
   else
    some (false,H20))=some q→l7 (LCo k) m H (GL.p L) (RL.p R)=some q:=by
  intro q hq;unfold l7;refine bnd (x:=(⟨R.q,0,none⟩:Addr)) rfl ?_;refine bnd hr0 (bnd hr1 ?_);refine bnd (x:=(arS H.next x.g.N.length,H5)) b1 ?_;refine bnd hr2 ?_;refine bnd (z9j k h5.gs) ?_;rw [if_pos (by rw [hcnt])];refine bnd (x:=.inl v) ?_ ?_
  ·exact g1
  refine bnd hr2 (bnd hr3 (bnd c1 ?_));refine bnd (x:=(s18,ok,H20)) d1 ?_;refine bnd e1 ?_;exact hq
 rcases d3 with ⟨rfl,zs,f1,f2,f3,f4⟩ | ⟨rfl,f1,f2⟩
 ·have hcl:=zgu f4;have hs:s21=false:=e2.2 hcl;subst hs;obtain ⟨H',k1,k2⟩:=zga k h20.rg h20.gs.gr.nm f1 hsl h.gs.sdr f2 f3 f4;refine ⟨H',pre (true,H') ?_,(b2.trans d2).trans k2⟩;rw [if_pos (show (false == false)=true from rfl),if_pos (show (true == !false)=true from rfl),if_neg (by simp),if_neg (by simp)];exact bnd (x:=(true,H')) k1 rfl
 ·have hs:s21=true:=by
   cases s21 with
   | true=>rfl
   | false=>exact absurd (e2.1 rfl) f2
  subst hs;refine ⟨H20,pre (true,H20) ?_,b2.trans d2⟩;rw [if_pos (show (true == true)=true from rfl),if_pos (show (false == !true)=true from rfl),if_pos rfl,if_pos (by rw [f1]; rfl)]
end
end Go.Proofs.YtgkhbmoidenjaaaDoor
namespace Go.Proofs.YtgkhbmoidenjaaaDoor
open Go Go.Abs Go.Abs.Eg
set_option maxRecDepth 100000
theorem zdi {N:List Nd} {M:List (Nat×Nat)} {r:Nat→Nat} (hM:∀i j,(i,j)∈M→r i=r j) (hN:∀(i k:Nat) (p q:Nd),N[i]? = some p→N[k]? = some q→p.value=q.value→p.sym=q.sym→p.args.map r=q.args.map r→r i=r k) {i j:Nat} (h:Cong N M i j):r i=r j:=by
 induction h with
 | base h=>exact hM _ _ h
 | refl i=>rfl
 | symm _ ih=>exact ih.symm
 | trans _ _ h1 h2=>exact h1.trans h2
 | congr hp hq h1 h2 h3 _ ih =>
  rename_i i k p q _;refine hN i k p q hp hq h1 h2 (List.ext_getElem? fun j=>?_);rw [List.getElem?_map,List.getElem?_map];by_cases hj:j<p.args.length
  ·rw [List.getElem?_eq_getElem hj,List.getElem?_eq_getElem (show j<q.args.length by omega)];simp only [Option.map_some];rw [ih j _ _ (List.getElem?_eq_getElem hj) (List.getElem?_eq_getElem (show j<q.args.length by omega))]
  ·rw [List.getElem?_eq_none (by omega),List.getElem?_eq_none (by omega)]
def aN:List Nd:=[⟨false,1,[]⟩,⟨false,2,[]⟩,⟨false,3,[0]⟩,⟨false,3,[1]⟩]
def aR' (i:Nat):Nat:=if i<2 then 0 else if i<4 then 2 else i
theorem z6d {i:Nat} {p:Nd} (h:aN[i]? = some p):(i=0∧p=⟨false,1,[]⟩)∨(i=1∧p=⟨false,2,[]⟩)∨(i=2∧p=⟨false,3,[0]⟩)∨(i=3∧p=⟨false,3,[1]⟩):=by
 match i,h with
 | 0,h=>exact .inl ⟨rfl,(Option.some.inj h).symm⟩
 | 1,h=>exact .inr (.inl ⟨rfl,(Option.some.inj h).symm⟩)
 | 2,h=>exact .inr (.inr (.inl ⟨rfl,(Option.some.inj h).symm⟩))
 | 3,h=>exact .inr (.inr (.inr ⟨rfl,(Option.some.inj h).symm⟩))
 | i+4,h=>cases h
theorem aN_r {i j:Nat} (h:Cong aN [(0,1)] i j) (hi:i<4) (hj:j<4):(i<2↔j<2):=by
 have:aR' i=aR' j:=zdi (r:=aR') (fun i j h=>by
  rw [List.mem_singleton] at h; cases h; rfl) (fun i k p q hp hq _ h2 h3=>by
  rcases z6d hp with ⟨rfl,rfl⟩ | ⟨rfl,rfl⟩ | ⟨rfl,rfl⟩ | ⟨rfl,rfl⟩ <;> rcases z6d hq with ⟨rfl,rfl⟩ | ⟨rfl,rfl⟩ | ⟨rfl,rfl⟩ | ⟨rfl,rfl⟩ <;> first | rfl | (exfalso; revert h2; decide)) h
 unfold aR' at this;split at this <;> split at this <;> omega
theorem zks {i j:Nat} (h:Cong aN [] i j):i=j:=zdi (r:=fun i=>i) (fun i j h=>by cases h) (fun i k p q hp hq _ h2 h3=>by
 rcases z6d hp with ⟨rfl,rfl⟩ | ⟨rfl,rfl⟩ | ⟨rfl,rfl⟩ | ⟨rfl,rfl⟩ <;> rcases z6d hq with ⟨rfl,rfl⟩ | ⟨rfl,rfl⟩ | ⟨rfl,rfl⟩ | ⟨rfl,rfl⟩ <;> first | rfl | (exfalso; revert h2; decide) | (exfalso; revert h3; decide)) h
theorem aN_23:Cong aN [(0,1)] 2 3:=.congr (x:=⟨false,3,[0]⟩) (y:=⟨false,3,[1]⟩) rfl rfl rfl rfl rfl fun k u v hu hv=>by
 match k,hu,hv with
 | 0,hu,hv =>
  cases hu; cases hv;exact .base (by simp)
 | k+1,hu,_=>cases hu
section
variable {T:Tys} {tx:Key→ByteArray} {m:Nat} {Hs H H' H0:AH} {L L':GL} {x x':Gh} {Tb:AH→Prop} {kt e:TypeId}
theorem z2m (hx:Ext Hs H) (hf:∀c id,L.fp c id→Hs.next≤id) (g:GO T tx m Tb H.next H L H' L' x'):Ext Hs H'∧∀c id,L'.fp c id→Hs.next≤id :=
 ⟨hx.comp g.fm fun id hid _ hw=>by
  obtain ⟨c,hc⟩:=hw (Nat.lt_of_lt_of_le hid hx.1);have:=hf c id hc;omega,fun c id hc=>(g.fp c id hc).elim (hf c id) fun h=>Nat.le_trans hx.1 h⟩
theorem zh9 (k:Nat) {s1 s2:Sl3} {z:Int} {m1 m2:Nat} {e1 e2:TypeId} (h1:SlA EZ e1 m1 H [z] s1) (h2:SlA EZ e2 m2 H [z] s2):ze (LCo k) H s1 s2=some true:=by
 obtain ⟨q1,r1,r2⟩:=rd_EZ h1 (i:=0) (by simp) (v:=0) rfl;obtain ⟨q2,r3,r4⟩:=rd_EZ h2 (i:=0) (by simp) (v:=0) rfl;have n1:s1.n=1:=h1.cnt;have n2:s2.n=1:=h2.cnt;unfold ze;rw [n1,n2,if_pos rfl];refine bnd (x:=.inl 1) ?_ rfl;show loopO (T6 (LCo k) H s1 s2) 0=_;rw [K1 (s':=(1:Int)),O1 (s':=(1:Int))]
 ·unfold T6;rw [n1]; rfl
 ·unfold T6;rw [n1,if_pos (by decide)];refine bnd r1 (bnd r2 (bnd r3 (bnd r4 ?_)));rw [if_pos rfl];rfl
theorem zh7 (hE:Env T txK m (Tb0 H0)) (hP:PE T 58 kt e) (hT:TyOK T) (k:Nat) (hx:Ext H0 H) (hm:m≤H.next):∃H',C9 (LCo k) m H=some (true,H')∧Ext H H':=by
 obtain ⟨H2,L,a1,a2,a3,a4⟩:=ze5 hE hT k hx hm;have noarg:∀H':AH,AR H' Sl3.nil []:=fun H'=>arZ_of (SlA.nil (E:=EZ) (e:=3) (m:=m) (H:=H'));obtain ⟨H6,L6,x6,b1,b2,b3,b4⟩:=z2u hE hP hT k a2 (v:=1) (by omega) (s:=Sl3.nil) (aa:=[]) (fun H' _=>noarg H') (by decide);obtain ⟨k6,f6⟩:=z2m a3 a4 b2;obtain ⟨H9,L9,x9,c1,c2,c3,c4⟩:=z2u hE hP hT k b2.gs (v:=2) (by omega) (s:=Sl3.nil) (aa:=[]) (fun H' _=>noarg H') (by rw [b3]; decide);obtain ⟨k9,f9⟩:=z2m k6 f6 c2;have hN9:x9.g.N=[⟨false,1,[]⟩,⟨false,2,[]⟩]:=by rw [c3,b3]; rfl
 have hS9:x9.sd=[]:=by rw [c4,b4]
 let H11:=H9.push { obj:=.cells (EZ.enc 0).toArray 3 (0,0),opn:=false,esz:=0,ro:=false }
 have x11:Ext H9 H11:=Fm.push _ _ _;have r11:=SlA.row (E:=EZ) (e:=3) (H:=H9) (m:=m) 0 c2.gs.gr.nm;have g11:=c2.gs.ext hE x11;have k11:=k9.trans x11;obtain ⟨H14,L14,x14,d1,d2,d3,d4⟩:=z2u hE hP hT k g11 (v:=3) (by omega) (s:=⟨some ⟨H9.next,0,none⟩,1,1⟩) (aa:=[0]) (fun H' hx=>arZ_of (r11.ext hx)) (by rw [hN9]; decide);obtain ⟨k14,f14⟩:=z2m k11 f9 d2;have hN14:x14.g.N=[⟨false,1,[]⟩,⟨false,2,[]⟩,⟨false,3,[0]⟩]:=by rw [d3,hN9]; rfl
 let H16:=H14.push { obj:=.cells (EZ.enc 1).toArray 3 (0,0),opn:=false,esz:=0,ro:=false }
 have x16:Ext H14 H16:=Fm.push _ _ _;have r16:=SlA.row (E:=EZ) (e:=3) (H:=H14) (m:=m) 1 d2.gs.gr.nm;have g16:=d2.gs.ext hE x16;have k16:=k14.trans x16;obtain ⟨H19,L19,x19,e1,e2,e3,e4⟩:=z2u hE hP hT k g16 (v:=3) (by omega) (s:=⟨some ⟨H14.next,0,none⟩,1,1⟩) (aa:=[1]) (fun H' hx=>arZ_of (r16.ext hx)) (by rw [hN14]; decide);obtain ⟨k19,f19⟩:=z2m k16 f14 e2;have hN19:x19.g.N=aN:=by rw [e3,hN14]; rfl
 have hS19:x19.sd=[]:=by rw [e4,d4,hS9]
 have e1':S2 (LCo k) m H16 (GL.p L14) 3 ⟨some ⟨H14.next,0,none⟩,1,1⟩=some (3,0,H19):=by rw [e1,hN14]; rfl
 obtain ⟨H21,L21,x21,p1,p2,p3,p4⟩:=z67 hE hP hT k e2.gs 0 1 7 false (by rw [hS19]; decide);obtain ⟨k21,f21⟩:=z2m k19 f19 p2;have hN21:x21.g.N=aN:=by rw [p3,hN19]
 have hS21:x21.sd=[(0,1,7,false)]:=by rw [p4,hN19,hS19]; rfl
 have p1':C3 (LCo k) m H19 (GL.p L19) 0 1 7 false=some (0,H21):=by rw [p1,hN19,hS19]; rfl
 have hn21:x21.g.n=4:=by show x21.g.N.length=4; rw [hN21]; rfl
 have hM:Mof x21.sd=[(0,1)]:=by rw [hS21]; rfl
 have hcg:∀i j,i<4→j<4→(x21.g.o i=x21.g.o j↔Cong aN [(0,1)] i j):=fun i j hi hj=>by
  have:=p2.gs.gr.mi.iff (i:=i) (j:=j) (by omega) (by omega);rw [hN21,hM] at this;exact this
 have hlow:lowOf x21 3=2:=by
  obtain ⟨l1,l2,l3⟩:=p2.gs.gr.mi.low 3 (by omega);have l1:lowOf x21 3<x21.g.n:=l1;have l2:x21.g.o (lowOf x21 3)=x21.g.o 3:=l2;have h1:lowOf x21 3≤2:=l3 2 (by omega) ((hcg 2 3 (by omega) (by omega)).2 aN_23);have h2:=aN_r ((hcg (lowOf x21 3) 3 (by omega) (by omega)).1 l2) (by omega) (by omega);omega
 have hroot:K3 (LCo k) H21 (GL.p L21) 3=some (2,true):=by
  have:=zc5 k p2.gs (a:=3) (by omega);have h3:(x21.g.c (x21.g.o 3)).low=2:=hlow;rw [h3] at this;exact this
 obtain ⟨s24,H26,zs,q1,q2,q3,q4,q5,q6,q7⟩:=zfg k p2.gs (a:=2) (b:=3) (by omega) (by omega) ((hcg 2 3 (by omega) (by omega)).2 aN_23);have hzs:zs=[7]:=by
  have hall:∀t∈zs,t=7:=fun t ht=>by
   obtain ⟨w,h1,_,h3⟩:=q6 t ht;rw [hS21,List.mem_singleton] at h1;subst h1;exact h3.symm
  match zs,q5,hall,q7 with
  | [],_,_,q7 =>
   exfalso;have hw:withT x21.sd (·∈([]:List Int))=[]:=by rw [hS21]; rfl
   rw [hw,hN21] at q7;have:=zks q7;omega
  | [a],_,hall,_=>rw [hall a (by simp)]
  | a :: b :: r,q5,hall,_ =>
   exfalso;have h1:=hall a (by simp);have h2:=hall b (by simp);have:=(List.pairwise_cons.1 q5).1 b (by simp);omega
 subst hzs;have g26:=p2.gs.ext hE q3;have k26:=k21.trans q3;obtain ⟨H28,L28,x28,u1,u2,u3,u4⟩:=z67 hE hP hT k g26 3 2 9 true (by rw [hS21]; decide);obtain ⟨k28,f28⟩:=z2m k26 f21 u2;have hS28:x28.sd=[(0,1,7,false),(3,2,9,true)]:=by rw [u4,hN21,hS21]; rfl
 have hN28:x28.g.N=aN:=by rw [u3,hN21]
 have u1':C3 (LCo k) m H26 (GL.p L21) 3 2 9 true=some (0,H28):=by rw [u1,hN21,hS21]; rfl
 have q28:SlA EZ 3 m H28 [7] s24:=q2.fr u2.fm fun id hid hw=>by
  have h1:=q4 id hid;obtain ⟨c,hc⟩:=hw (SlG.fp q2 hid).2;have:=(p2.gs.gr.rep.low hc).2;omega
 let H30:=H28.push { obj:=.cells (EZ.enc 7).toArray 3 (0,0),opn:=false,esz:=0,ro:=false }
 have x30:Ext H28 H30:=Fm.push _ _ _;have r30:=SlA.row (E:=EZ) (e:=3) (H:=H28) (m:=m) 7 u2.gs.gr.nm;have g30:=u2.gs.ext hE x30;obtain ⟨b,v1,v2⟩:=zat k g30 (by rw [hS28]; decide);have hb:b=false:=v2.2 (.inl ⟨(3,2,9,true),by rw [hS28]; simp,rfl,by
  rw [hN28,hS28];exact aN_23.symm⟩)
 subst hb;have eq6:GL.p L6=GL.p L:=by rw [GL.p,GL.p,b2.q]
 have eq9:GL.p L9=GL.p L6:=by rw [GL.p,GL.p,c2.q]
 have eq14:GL.p L14=GL.p L9:=by rw [GL.p,GL.p,d2.q]
 have eq19:GL.p L19=GL.p L14:=by rw [GL.p,GL.p,e2.q]
 have eq21:GL.p L21=GL.p L19:=by rw [GL.p,GL.p,p2.q]
 have eq28:GL.p L28=GL.p L21:=by rw [GL.p,GL.p,u2.q]
 have y6:GL.p L6=some ⟨L.q,0,none⟩:=eq6;have y9:GL.p L9=some ⟨L.q,0,none⟩:=eq9.trans y6;have y14:GL.p L14=some ⟨L.q,0,none⟩:=eq14.trans y9;have y19:GL.p L19=some ⟨L.q,0,none⟩:=eq19.trans y14;have y21:GL.p L21=some ⟨L.q,0,none⟩:=eq21.trans y19;have y28:GL.p L28=some ⟨L.q,0,none⟩:=eq28.trans y21;rw [y6] at c1;rw [y9] at d1;rw [y14] at e1';rw [y19] at p1';rw [y21] at hroot q1 u1';rw [y28] at v1;refine ⟨H30,?_,k28.trans x30⟩;unfold C9;refine bnd (x:=(GL.p L,H2)) a1 ?_;simp only [GL.p];refine bnd (x:=(_,_,H6)) b1 ?_;refine bnd (x:=(_,_,H9)) c1 ?_;refine bnd (x:=((⟨some ⟨H9.next,0,none⟩,1,1⟩:Sl3),H11)) rfl ?_;refine bnd (x:=(_,_,H14)) d1 ?_;refine bnd (x:=((⟨some ⟨H14.next,0,none⟩,1,1⟩:Sl3),H16)) rfl ?_;refine bnd (x:=(3,0,H19)) e1' ?_;refine bnd (x:=(0,H21)) (by unfold P4; exact bnd (x:=(0,H21)) p1' rfl) ?_;refine bnd (x:=(2,true)) hroot ?_;refine bnd (x:=(s24,true,H26)) q1 ?_;refine bnd (x:=(0,H28)) (by unfold M4; exact bnd (x:=(0,H28)) u1' rfl) ?_;simp only [if_true];refine bnd (x:=((⟨some ⟨H28.next,0,none⟩,1,1⟩:Sl3),H30)) rfl ?_;refine bnd (zh9 k (q28.ext x30) r30) ?_;simp only [if_true];exact bnd v1 rfl
end
end Go.Proofs.YtgkhbmoidenjaaaDoor
namespace Go.Proofs.YtgkhbmoidenjaaaDoor
open Go Go.Abs Go.Abs.Eg
set_option maxRecDepth 100000
theorem zbz {S:Type} {m:Nat} {s:Sl3} {z:Int} (f:(AH×Int)→Option (Lp (AH×Int) S)) (hf:∀H v,f (H,v)=if v<(s.n:Int) then (idxA 1 s v).bind fun p=>(H.setCell m p (Value.int .i64 z)).bind fun H'=>some (.next (H',(IntKind.i64.wrap (v+1)))) else some (.brk (H,v))) :
  ∀(d i:Nat) (H:AH) (l:List Int),i+d=l.length→l.length≤1073741824→SlA EZ 3 m H l s→∃H' e,loopO f (H,(i:Int))=some (.inl (H',e))∧Fm (fpt s) H H':=by
 intro d;induction d with
 | zero =>
  intro i H l hd hl h;refine ⟨H,(i:Int),O1 ?_,Fm.refl _ _⟩;rw [hf,h.cnt,if_neg (by omega)]
 | succ d ih =>
  intro i H l hd hl h;have hi:i<l.length:=by omega
  obtain ⟨a,h1,h2,h3,_⟩:=h.at_ (by decide) hi (v:=(i:Int)) rfl;obtain ⟨H1,a1,a2,a3,a4⟩:=h.put1 (fun x=>⟨_,rfl⟩) hi z (v:=.int .i64 z) rfl h1 h3;obtain ⟨H',e,b1,b2⟩:=ih (i+1) H1 _ (by rw [List.length_set]; omega) (by rw [List.length_set]; exact hl) a2;refine ⟨H',e,?_,a3.comp b2 fun _ _ h=>h⟩;rw [K1 (s':=(H1,((i+1:Nat):Int))) ?_]
  ·exact b1
  ·rw [hf,h.cnt,if_pos (by omega)];refine bnd h2 ?_;refine bnd a1 ?_;rw [N1 (n:=l.length) hi (by rw [Q1]; omega)]
section
variable {m:Nat} {H0 H:AH} {L:GL} {x:Gh} {R:RL} {T:Tys} {kt e:TypeId}
theorem PG.new (hE:Env T txK m (Tb0 H0)) (h:PG T m H0 H L x R) {H1 H2:AH} (hx:Ext H H1) {s:Sl3} {l:List Int} (hs:SlA EZ 3 m H1 l s) (hf:∀id,fpt s id→H.next≤id) (hw:Fm (fpt s) H1 H2):PG T m H0 H2 L x R∧Ext H H2 :=
 ⟨(h.ext hE hx).fr hE hw (fun c id hc hq=>by have:=(h.gs.gr.rep.low hc).2; have:=hf id hq; omega) (fun id hc hq=>by have:=(RR.low h.rf hc).2; have:=hf id hq; omega) (fun id hq=>(SlG.fp hs hq).1),
  hx.comp hw fun id hid _ hq=>by have:=hf id hq; omega⟩
theorem own_b1 (k:Nat) {a0:Sl3} {p3 q5:Addr} {y0 y1 y2 y3 y4 y5:Int} {s12 s10:Sl3} {ays:List Int} (hl:ays.length≤1073741824) {Hs:AH} (ho:∀H',Ext Hs H'→AR H' s10 ays) :
  ∀(d i:Nat) (H:AH) (l:List Int),i+d=ays.length→l.length=ays.length→(∀j,i≤j→l[j]? = ays[j]?)→SlA EZ 3 m H l s12→Ext Hs H→(∀id,fpt s12 id→Hs.next≤id) →
   ∃H' e,loopO (O4 (LCo k) m a0 p3 q5 y0 y1 y2 s10 y3 y4 y5 s12) (H,(i:Int))=some (.inl (H',e))∧Fm (fpt s12) H H':=by
 intro d;induction d with
 | zero =>
  intro i H l hd hll hlj hs hx hf;refine ⟨H,(i:Int),O1 ?_,Fm.refl _ _⟩;unfold O4;simp only;rw [hs.cnt,if_neg (by omega)]
 | succ d ih =>
  intro i H l hd hll hlj hs hx hf;have hi:i<ays.length:=by omega
  have hil:i<l.length:=by omega
  obtain ⟨a,h1,h2,h3,_⟩:=hs.at_ (by decide) hil (v:=(i:Int)) rfl;obtain ⟨q1,r1,r2⟩:=rd_EZ hs hil (v:=(i:Int)) rfl;obtain ⟨q2,r3,r4⟩:=(ho H hx).at_ i hi;have he:l[i]=ays[i]:=by
   have:=hlj i (Nat.le_refl _);rw [List.getElem?_eq_getElem hil,List.getElem?_eq_getElem hi] at this;exact Option.some.inj this
  obtain ⟨H1,a1,a2,a3,a4⟩:=hs.put1 (fun x=>⟨_,rfl⟩) hil (-5) (v:=.int .i64 (-5)) rfl h1 h3;obtain ⟨H',e,b1,b2⟩:=ih (i+1) H1 _ (by omega) (by rw [List.length_set]; exact hll) (fun j hj=>by rw [List.getElem?_set_ne (by omega)]; exact hlj j (by omega)) a2 (hx.comp a3 fun id hid _ hq=>by have:=hf id hq; omega) hf;refine ⟨H',e,?_,a3.comp b2 fun _ _ h=>h⟩;rw [K1 (s':=(H1,((i+1:Nat):Int))) ?_]
  ·exact b1
  ·unfold O4;simp only;rw [hs.cnt,if_pos (by omega)];refine bnd r1 (bnd r2 (bnd r3 (bnd r4 ?_)));rw [if_pos he];refine bnd h2 ?_;refine bnd a1 ?_;rw [N1 (n:=l.length) hil (by rw [Q1]; omega)]
end
theorem zjo (k:Nat) {H:AH} (hH:HasT H) {s:Sl3} {ops:List OpD} (hs:OpsR H s ops) (hb:bulkO ops≤1048576):∃H',Z7 (LCo k) H.next H s=some (true,H'):=by
 have hlo:H.next≤H.next:=Nat.le_refl _;have hE:=env0 (T:=ty0) (m:=H.next) ty0_ok hH hlo;have hP:=pe (T:=ty0);have hT:=ty0_ok;obtain ⟨H1,L,a1,a2,a3,a4⟩:=ze5 hE hT k (H:=H) (Fm.refl _ _) hlo
 let R:RL:=⟨H1.next,Sl3.nil,Sl3.nil,[]⟩
 let H2:=H1.push (pubB 32 [Sl3.v Sl3.nil,Sl3.v Sl3.nil,Sl3.v Sl3.nil])
 have x2:Ext H1 H2:=Fm.push _ _ _;have hpg:PG ty0 H.next H H2 L ⟨⟨[],[],[],fun _=>none,[]⟩,fun _=>none,[],[]⟩ R:=by
  refine ⟨a2.ext hE x2,new_RF a2.gr.nm,fun c id hc hr=>?_,NOK.nil⟩;have h1:=(a2.gr.rep.low hc).2;rcases hr with e | e | e | ⟨s,hs,e⟩
  ·have e:id=H1.next:=e;omega
  ·exact U1 e
  ·exact U1 e
  ·cases hs
 have hsum:∀i,i≤ops.length→((ops.take i).map fun o=>o.aa.length).sum≤(ops.map fun o=>o.aa.length).sum:=fun i hi=>by
  rw [List.map_take];generalize ops.map (fun o=>o.aa.length)=l;have:l.sum=(l.take i).sum+(l.drop i).sum:=by rw [← List.sum_append,List.take_append_drop]
  omega
 have hb0:=hb;unfold bulkO at hb;obtain ⟨⟨H3,v⟩,b1,b2⟩:=z30 (R:=Bool×AH) (body:=R3 (LCo k) H.next s ⟨H1.next,0,none⟩ ⟨L.q,0,none⟩) ops.length
  (fun i (st:AH×Int)=>st.2=(i:Int)∧∃L' x R',PG ty0 H.next H st.1 L' x R'∧L'.q=L.q∧R'.q=H1.next∧totN x.g.N≤((ops.take i).map fun o=>o.aa.length).sum∧x.sd.length≤i)
  (Q:=fun st=>∃L' x R',PG ty0 H.next H st.1 L' x R'∧L'.q=L.q∧R'.q=H1.next∧totN x.g.N≤1048576∧x.sd.length≤ops.length)
  (fun i hi st hst=>by
   obtain ⟨H3,v⟩:=st;obtain ⟨rfl,L',x,R',c1,c2,c3,c4,c5⟩:=hst;have c1:PG ty0 H.next H H3 L' x R':=c1;obtain ⟨p,r1,ro0⟩:=hs.at_ i hi;have ro:=ro0.ext c1.old;have hbt:=zhn ops hi;obtain ⟨sl,ra,rb⟩:=ro0.aa;have hw:IntKind.i64.wrap ((i:Int)+1)=((i+1:Nat):Int):=N1 (n:=ops.length) hi (by rw [Q1]; omega);have hd:∀z,deI .i64 (Value.int .i64 z)=some z:=fun _=>rfl;by_cases hk:1≤ops[i].kd∧ops[i].kd≤4
   ·have hnm:=c1.gs.gr.nm;have har:=rb H3 c1.old;obtain ⟨s12,H13,d1,d2,d3⟩:=(VecA.nil EZ 3 H.next H3).app (bytes:=8) har.rdv (by simp only [List.length_nil]; omega) (by simp only [List.length_nil]; omega) hnm;obtain ⟨x13,o13⟩:=d3.ext (H0:=H3) (Fm.refl _ _) (fun id ho=>absurd ho z5r);rw [List.nil_append] at d2;have c13:=c1.ext hE x13;have f13:∀id,fpt s12 id→H3.next≤id:=fun id hid=>by
     refine o13 id ⟨?_,hid.2⟩;cases d2 with
     | nil hn hv=>exact absurd hid U1
     | zero a ha hn hv=>exact absurd rfl hid.1
     | opn=>rfl
    have nw13:∀id,fpt s12 id→¬Wp L' R' H13.next id:=fun id hid hq=>by
     have h1:=f13 id hid;rcases hq (SlG.fp d2.toS hid).2 with ⟨c,hc⟩ | hc
     ·have:=(c1.gs.gr.rep.low hc).2; omega
     ·have:=(RR.low c1.rf hc).2; omega
    obtain ⟨H4,L4,x4,R4,e1,e2,e3,e4⟩:=zi7 hE hP hT k c13 (kd:=ops[i].kd) (s:=s12) (a:=ops[i].a) (b:=ops[i].b) (tg:=ops[i].tg) hk ro.ok (aa:=ops[i].aa) (fun H' hf=>arZ_of (d2.toS.fr hf fun id hid=>nw13 id hid)) (by omega) (by omega);have s4:SlA EZ 3 H.next H4 ops[i].aa s12:=d2.toS.fr e2.fm fun id hid=>nw13 id hid;have hle:H13.next≤H4.next:=e2.fm.1;obtain ⟨H5,e5,g1,g2⟩:=own_b1 (m:=H.next) k (a0:=s) (p3:=⟨H1.next,0,none⟩) (q5:=⟨L.q,0,none⟩) (y0:=(i:Int)) (y1:=ops[i].kd) (y2:=ops[i].sy) (y3:=ops[i].a) (y4:=ops[i].b) (y5:=ops[i].tg) (s12:=s12) (s10:=sl) (ays:=ops[i].aa) (by omega) (Hs:=H) (fun H' hx=>rb H' hx) ops[i].aa.length 0 H4 ops[i].aa (by omega) rfl (fun _ _=>rfl) s4 e2.pg.old (fun id hid=>(SlG.fp s4 hid).1);have c5':PG ty0 H.next H H5 L4 x4 R4:=e2.pg.fr hE g2 (fun c id hc hq=>by
      have h1:=f13 id hq;have h2:=(SlG.fp d2.toS hq).2;rcases e2.fp c id hc with h3 | h3
      ·have:=(c1.gs.gr.rep.low h3).2; omega
      ·omega) (fun id hc hq=>by
      have h1:=f13 id hq;have h2:=(SlG.fp d2.toS hq).2;rcases e2.rfp id hc with h3 | h3
      ·have:=(RR.low c1.rf h3).2; omega
      ·omega) (fun id hq=>(SlG.fp s4 hq).1)
    refine ⟨(H5,((i+1:Nat):Int)),?_,rfl,L4,x4,R4,c5',e2.q.trans c2,e2.rq.trans c3,by omega,by omega⟩;have e1':G8 (LCo k) H.next H13 (some ⟨L.q,0,none⟩) (some ⟨H1.next,0,none⟩) ops[i].kd ops[i].sy s12 ops[i].a ops[i].b ops[i].tg=some (true,H4):=by
     rw [← e1,GL.p,RL.p,c2,c3]
    unfold R3;simp only;rw [hs.n,if_pos (by omega)];refine bnd (x:=.inl H5) ?_ (by simp only [hw]);refine bnd r1 ?_;refine bnd (x:=ops[i].kd) (ro.kd.rd _) ?_;refine bnd (x:=ops[i].sy) (ro.sy.rd _) ?_;refine bnd (x:=sl) ((ra.ext c1.old).rd _) ?_;refine bnd (x:=ops[i].a) (ro.a.rd _) ?_;refine bnd (x:=ops[i].b) (ro.b.rd _) ?_;refine bnd (x:=ops[i].tg) (ro.tg.rd _) ?_;refine bnd (x:=false) ?_ ?_
    ·rw [if_neg (by omega),decide_eq_false (by omega)]
    rw [if_neg (by simp)];refine bnd (x:=(s12,H13)) d1 ?_;refine bnd (x:=(true,H4)) e1' ?_;simp only [if_true];refine bnd (x:=.inl (H5,e5)) ?_ rfl;exact g1
   ·refine ⟨(H3,((i+1:Nat):Int)),?_,rfl,L',x,R',c1,c2,c3,by omega,by omega⟩;unfold R3;simp only;rw [hs.n,if_pos (by omega)];refine bnd (x:=.inl H3) ?_ (by simp only [hw]);refine bnd r1 ?_;refine bnd (x:=ops[i].kd) (ro.kd.rd _) ?_;refine bnd (x:=ops[i].sy) (ro.sy.rd _) ?_;refine bnd (x:=sl) ((ra.ext c1.old).rd _) ?_;refine bnd (x:=ops[i].a) (ro.a.rd _) ?_;refine bnd (x:=ops[i].b) (ro.b.rd _) ?_;refine bnd (x:=ops[i].tg) (ro.tg.rd _) ?_;refine bnd (x:=true) ?_ (by rw [if_pos rfl]);by_cases h1:ops[i].kd<1
    ·rw [if_pos h1]
    ·rw [if_neg h1,decide_eq_true (by omega)])
  (fun st hst=>by
   obtain ⟨H3,v⟩:=st;obtain ⟨rfl,L',x,R',c1,c2,c3,c4,c5⟩:=hst;refine ⟨(H3,(ops.length:Int)),?_,L',x,R',c1,c2,c3,?_,c5⟩
   ·unfold R3;simp only [hs.n,if_neg (show ¬((ops.length:Int)<(ops.length:Int)) by omega)]
   ·rw [List.take_length] at c4;omega)
  (s:=(H2,0)) ⟨rfl,L,_,R,hpg,rfl,rfl,Nat.zero_le _,Nat.zero_le _⟩
 obtain ⟨L',x,R',c1,c2,c3,c4,c5⟩:=b2;have c1:PG ty0 H.next H H3 L' x R':=c1;have hsl:x.sd.length≤1048576:=by omega
 have hn:x.g.N.length≤1048576:=c1.gs.gr.sm.n;have hp':GL.p L'=some ⟨L.q,0,none⟩:=by rw [GL.p,c2]
 obtain ⟨⟨H6,v6⟩,g1,g2⟩:=z30 (R:=Bool×AH) (body:=Q4 (LCo k) H.next ⟨H1.next,0,none⟩ ⟨L.q,0,none⟩) x.g.N.length (fun i (st:AH×Int)=>st.2=(i:Int)∧PG ty0 H.next H st.1 L' x R') (Q:=fun st=>PG ty0 H.next H st.1 L' x R')
  (fun a ha st hst=>by
   obtain ⟨Ha,va⟩:=st;obtain ⟨hv,hpa⟩:=hst;simp only at hv hpa;subst hv;have han:a<x.g.n:=ha;have h0n:0<x.g.n:=by omega
   obtain ⟨s31,H32,zs,e1,e2,e3,e4,e5,e6⟩:=zgz k hpa.gs han;have hzl:zs.length≤1073741824:=by
    have h1:zs.Nodup:=e5.imp fun h=>by omega
    have:=z4f h1 (l':=(List.range x.g.n).map fun (i:Nat)=>(i:Int)) fun z hz=>by
     obtain ⟨j,q1,q2,_⟩:=(e6 z).1 hz;exact List.mem_map.2 ⟨j,List.mem_range.2 q2,q1.symm⟩
    rw [List.length_map,List.length_range] at this;have hnn:x.g.n=x.g.N.length:=rfl;omega
   obtain ⟨H37,w1,k1,k2⟩:=zbz (m:=H.next) (s:=s31) (z:=-1) (W6 (LCo k) H.next ⟨H1.next,0,none⟩ ⟨L.q,0,none⟩ (a:Int) s31) (fun _ _=>rfl) zs.length 0 H32 zs (by omega) hzl e2;obtain ⟨p37,x37⟩:=hpa.new hE e3 e2 e4 k2;have why:∃s39 is H41 H46 w2,F3 (LCo k) H.next H37 (GL.p L') (a:Int) 0=some (s39,is,H41)∧loopO (N4 (LCo k) H.next ⟨H1.next,0,none⟩ ⟨L.q,0,none⟩ (a:Int) s39) (H41,0)=some (.inl (H46,w2))∧PG ty0 H.next H H46 L' x R':=by
    by_cases ho:x.g.o a=x.g.o 0
    ·obtain ⟨s39,H41,ts,m1,m2,m3,m4,m5,m6,_⟩:=zfg k p37.gs (a:=a) (b:=0) han h0n ho;have htl:=Nat.le_trans (zf7 m5 m6) hsl;obtain ⟨H46,w2,n1,n2⟩:=zbz (m:=H.next) (s:=s39) (z:=-1) (N4 (LCo k) H.next ⟨H1.next,0,none⟩ ⟨L.q,0,none⟩ (a:Int) s39) (fun _ _=>rfl) ts.length 0 H41 ts (by omega) (by omega) m2;exact ⟨s39,true,H41,H46,w2,m1,n1,(p37.new hE m3 m2 m4 n2).1⟩
    ·refine ⟨Sl3.nil,false,H37,H37,0,why_no k p37.gs (a:=a) (b:=0) han h0n ho,O1 ?_,p37⟩;unfold N4;rfl
   obtain ⟨s39,is,H41,H46,w2,m1,n1,p46⟩:=why;rw [hp'] at e1 m1;refine ⟨(H46,((a+1:Nat):Int)),?_,rfl,p46⟩;unfold Q4;simp only;refine bnd (x:=((x.g.N.length:Nat):Int)) (by rw [← hp']; exact z9j k hpa.gs) ?_;rw [if_pos (by omega)];refine bnd (x:=(s31,H32)) e1 ?_;refine bnd (x:=.inl (H37,w1)) ?_ ?_
   ·exact k1
   refine bnd (x:=(s39,is,H41)) m1 ?_;refine bnd (x:=.inl (H46,w2)) ?_ ?_
   ·exact n1
   simp only [N1 (n:=x.g.N.length) ha (by rw [Q1]; omega)])
  (fun st hst=>by
   obtain ⟨Ha,va⟩:=st;obtain ⟨hv,hpa⟩:=hst;simp only at hv hpa;subst hv;refine ⟨(Ha,(x.g.N.length:Int)),?_,hpa⟩;unfold Q4;simp only;refine bnd (x:=((x.g.N.length:Nat):Int)) (by rw [← hp']; exact z9j k hpa.gs) ?_;rw [if_neg (by omega)])
  (s:=(H3,0)) ⟨rfl,c1⟩
 have g2:PG ty0 H.next H H6 L' x R':=g2;obtain ⟨H7,k1,k2⟩:=zgq hE k g2 hsl;have k1':l7 (LCo k) H.next H6 (some ⟨L.q,0,none⟩) (some ⟨H1.next,0,none⟩)=some (true,H7):=by
  rw [← k1,GL.p,RL.p,c2,c3]
 have p2:=g2.ext hE k2;obtain ⟨Hq,al1,al2⟩:=zh7 (H0:=H) (m:=H.next) hE (pe (T:=ty0)) ty0_ok k p2.old p2.gs.gr.nm;refine ⟨Hq,?_⟩;unfold Z7;refine bnd (x:=(GL.p L,H1)) a1 ?_;refine bnd (x:=((⟨H1.next,0,none⟩:Addr),H2)) rfl ?_;simp only [GL.p];refine bnd (x:=.inl (H3,v)) ?_ ?_
 ·exact b1
 refine bnd (x:=.inl (H6,v6)) ?_ ?_
 ·exact g1
 refine bnd (x:=(true,H7)) k1' ?_;simp only [if_true];exact bnd (x:=(true,Hq)) al1 rfl
end Go.Proofs.YtgkhbmoidenjaaaDoor
namespace Go.Proofs.YtgkhbmoidenjaaaDoor
open Go Go.Abs Go.Abs.Eg Go.ChangeShapes Go.WideShapes
set_option maxRecDepth 100000
theorem zam {H:Type} {enc:TypeId×Value→H} {W:World} {base:Nat} {args:Array Value} {ds:List (DataW H)} {ps:List MemPlace} (hg:Tryd.prog.globals.size≤W.heap.size)
  (hval:∀(j:Nat) t v,Tryd.f7.params[j]? = some t→args[j]? = some v→Value.okWide Tryd.prog W .any base t v)
  (hA:DataW.TrodAll enc Tryd.prog W 0 (fun _=>true) true Tryd.f7.params.toList args.toList ds ps) (hL:laidMet Tryd.prog Rows.egraphOwnUptoRow.laid W) (hsh:W.ShapedOpen Tryd.prog)
  (hk:Rows.uptoSmall H ds=true) (hwt:(DataW.weightsEach Tryd.prog (Tryd.f7.params.toList++[]) ds).all (·≤reachBytes)=true) :
  Calls Tryd.prog 7 args W fun e W'=>e=.returned (.bool true)∧RowKit.Below W.heap.size W W':=by
 rw [Tryd.params7] at hA hval hwt;obtain ⟨v0,vs0,d0,ds0,p0,q0,hargs,rfl,rfl,h0,r0⟩:=trodAll_cons hA;obtain ⟨rfl,rfl,rfl⟩:=trodAll_nil r0;obtain rfl:args=#[v0]:=by cases args; simp_all
 simp only [List.append_nil,DataW.weightsEach] at hwt;have hk:=bulks.bound hk;simp only [Rows.uptoBulkAll] at hk;obtain ⟨φ0,H0x,s0,o0,i0,le0,e0,vr0,va0,bk0⟩:=zfz (zk0 hg hL hsh) h0 (hval 0 22 v0 rfl rfl) hwt;obtain ⟨H',hr⟩:=zjo 1 (zgk.ext e0) va0 (by omega);exact zcg (ne:=NE.plain 1000) sane (z7k hr) i0 (ar1 vr0)
theorem zak (os:Os) {H:Type} (enc:TypeId×Value→H):∃x,DataW.whole enc Tryd.prog ((laidW2 Tryd.prog Rows.egraphOwnUptoRow.laid os).forCall (fun _ _=>0) ⟨#[],#[.slice none 0 0],[]⟩).memory Tryd.f7.params.toList Rows.egraphOwnSpec.vars false (#[.slice none 0 0]:Array Value).toList 8=some ([.nil],[],x) :=
 ⟨[],by kernel_rfl⟩
theorem z9o (os:Os) (started:os.Started) (H:Type) (enc:TypeId×Value→H) (F:Stop.Interp) :
  ReturnsInHanded {} Tryd.checked os 7 .any ((Rows.OpenSpec.upto Rows.egraphOwnSpec).preRow enc Tryd.prog Tryd.f7 Rows.egraphOwnUptoRow.domain false Rows.egraphOwnUptoRow.laid) (((Rows.OpenSpec.upto Rows.egraphOwnSpec).at F).post enc Tryd.prog Tryd.f7 false true false false):=by
 obtain ⟨x,hx⟩:=zak os enc;exact zaa (C:=Tryd.checked) (s:=Rows.OpenSpec.upto Rows.egraphOwnSpec) (k:=Rows.uptoSmall) rfl own started (by kernel_rfl) Tryd.func7 zh2 laidOut (by kernel_rfl) rfl (by kernel_rfl)
  (fun ds hds=>by
   have h1:ds.length=1:=hds
   match ds,h1 with
   | [d0],_=>exact ⟨rfl,rfl,rfl⟩)
  rfl (by kernel_rfl)
  (witness_row_atRef (enc:=enc) (C:=Tryd.checked) false (laidW2 Tryd.prog Rows.egraphOwnUptoRow.laid os) #[.slice none 0 0] rfl (by kernel_rfl) (by kernel_rfl) (by kernel_rfl)
   (OpenSpec.preRow_of_cond 8 hx (by kernel_rfl) (fun k hk=>by cases hk; kernel_rfl) (by kernel_rfl) (zjc os _)))
  (fun W base args ds ps hg hval hA hk hL hsh hwt=>zam hg hval hA hL hsh hk hwt)
theorem zb8:Rows.EgraphOwnUptoSaid :=
 OpenClaim.holds_of_cond 7 Tryd.f7 rfl rfl rfl rfl rfl rfl rfl ⟨rfl,rfl,rfl,rfl,rfl⟩ rfl rfl rfl rfl rfl (by kernel_rfl) Tryd.func7 (by kernel_rfl)
  (of_decide_eq_true (by kernel_rfl)) (by unfold Func.isWrapper; first | (rw [if_pos (by decide +kernel)]; kernel_rfl) | (rw [if_neg (by decide +kernel)]; exact ⟨rfl,rfl⟩))
  (fun os started H enc _ F=>by rw [OpenClaim.pre_eq_preRow]; exact z9o os started H enc F)
theorem zaq (f:FuncId) (fn:Func) (hf:Tryd.pinned.checked.prog.funcNamed "tribunal/tribunallaw15.EgraphOwn"=some f) (hfn:Tryd.pinned.checked.prog.funcs[f]? = some fn) :
  false=Tryd.pinned.checked.prog.looks []∧∀(j:Nat) t,fn.params[j]? = some t→Tryd.pinned.checked.prog.wantsStandIn t=false:=by
 obtain rfl:f=7:=Option.some.inj ((show Tryd.prog.funcNamed "tribunal/tribunallaw15.EgraphOwn"=some 7 by kernel_rfl).symm.trans hf) |>.symm;obtain rfl:fn=Tryd.f7:=(Option.some.inj (Tryd.func7.symm.trans hfn)).symm;exact ⟨by kernel_rfl,fun j t ht=>by
  have hall:(Tryd.f7.params.toList.all fun u=>!Tryd.prog.wantsStandIn u)=true:=by kernel_rfl
  have hm:t∈Tryd.f7.params.toList:=by simpa using Array.mem_of_getElem? ht
  exact (show Tryd.prog.wantsStandIn t=false by simpa using List.all_eq_true.1 hall t hm)⟩
theorem egraphOwn_holds:Rows.EgraphOwnUptoCardSaid :=
 Claim7.holds_tied_plain_at .later [] _ _ _ _ zb8 (fun _ h=>by cases h) (by kernel_rfl) (fun _ h=>by cases h) egraphOwnUpto_row_tie rfl ⟨rfl,rfl⟩ (by kernel_rfl) rfl zaq (by kernel_rfl)
#print axioms egraphOwn_holds
end Go.Proofs.YtgkhbmoidenjaaaDoor
