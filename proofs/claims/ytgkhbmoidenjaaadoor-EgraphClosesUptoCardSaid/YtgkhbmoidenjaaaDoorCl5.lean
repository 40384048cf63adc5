/- EgraphCloses is proved where what it reads is of bulk at most 1048576: it returns true and its argument reads as before. No condition beyond the row's own (listed tables of Go's library as the text lays them). -/
import Derived.Test.YtgkhbmoidenjaaaDoorCl4
namespace Go.Proofs.YtgkhbmoidenjaaaDoor
open Go Go.Abs Go.Abs.Eg
set_option maxRecDepth 100000
theorem K3:maxN=9223372036854775807:=rfl
structure Env (T:Tys) (tx:Key→ByteArray) (m:Nat) (Tb:AH→Prop):Prop where
 inj:∀k k',tx k=tx k'→k=k'
 tb:∀{H H':AH} {W:Nat→Prop},Tb H→Fm W H H'→(∀id,W id→m≤id)→Tb H'
 text:∀(k m1 m2:Nat) (H:AH) (v:Bool) (s:Int) (sl:Sl3) (l:List Nat),Tb H→m1≤H.next→SlA EI T.I m2 H l sl→(∀a∈l,a≤1048576)→l.length≤64→-9223372036854775808≤s→s<9223372036854775808 →
  ∃H',N5 (LCo k) m1 H v s sl=some (tx (v,s,l),H')∧Ext H H'
theorem Env.tbx {T:Tys} {tx:Key→ByteArray} {m:Nat} {Tb:AH→Prop} (h:Env T tx m Tb) {H H':AH} (hb:Tb H) (hf:Ext H H'):Tb H':=h.tb hb hf fun _ h=>h.elim
structure Small (g:St):Prop where
 n:g.n≤1048576
 tot:tot g≤1048576
 args:∀(i:Nat) y,g.N[i]? = some y→y.args.length≤64
 sym:∀(i:Nat) y,g.N[i]? = some y→-9223372036854775808≤y.sym∧y.sym<9223372036854775808
 cls:g.cls.length≤1048576
def Wc (L:GL) (n0:Nat) (id:Nat):Prop:=id<n0→∃c,L.fp c id
theorem fmE {L:GL} {n0:Nat} {H H':AH} (h:Ext H H'):Fm (Wc L n0) H H':=h.weak fun _ _ h=>h.elim
theorem fmC {L:GL} {n0:Nat} {H H':AH} {W:Nat→Prop} (c:Comp) (h:Fm W H H') (hw:∀id,W id→L.fp c id):Fm (Wc L n0) H H':=h.weak fun id _ hid _=>⟨c,hw id hid⟩
theorem fmN {L:GL} {n0:Nat} {H H':AH} {W:Nat→Prop} (h:Fm W H H') (hw:∀id,W id→n0≤id):Fm (Wc L n0) H H':=h.weak fun id _ hid hlt=>by have:=hw id hid; omega
theorem fmT {L:GL} {n0:Nat} {H H1 H2:AH} (h1:Fm (Wc L n0) H H1) (h2:Fm (Wc L n0) H1 H2):Fm (Wc L n0) H H2:=h1.comp h2 fun _ _ h=>h
section
variable {T:Tys} {tx:Key→ByteArray} {m:Nat} {H:AH} {L:GL} {x:Gh}
abbrev GL.p (L:GL):Option Addr:=some ⟨L.q,0,none⟩
theorem E8 (k:Nat) (h:Rep T tx m H L x):U2 (LCo k) H (GL.p L)=some true:=by
 unfold U2;simp only [GL.p];rw [h.q (j:=1) (v:=.map (some L.mi)) rfl];rfl
theorem z6o (h:Rep T tx m H L x):L.sN.n=x.g.n:=by
 have:=SlA.cnt (show SlA EN T.N m H (nodeL x.g.N L.na) L.sN from h.hold .N);rw [this];unfold nodeL;rw [List.length_zipWith,h.nal];exact Nat.min_self _
theorem i7 (k:Nat) (h:Rep T tx m H L x) (a:Int):T2 (LCo k) H (GL.p L) a=some (decide (0≤a∧a<x.g.n)):=by
 unfold T2;rw [E8 k h];simp only [Option.bind_some,if_true,GL.p];by_cases h0:a≥0
 ·rw [if_pos h0,h.q (j:=0) (v:=L.sN.v) rfl];show some (decide (a<(L.sN.n:Int)))=_;rw [z6o h]
  congr 1
  exact decide_eq_decide.2 ⟨fun h1=>⟨h0,h1⟩,fun h1=>h1.2⟩
 ·rw [if_neg h0]
  congr 1
  exact (decide_eq_false fun h1=>h0 h1.1).symm
theorem zed (k m1:Nat) (h:Rep T tx m H L x) (hl:x.g.of.length=x.g.n) {args:List Nat} {sl:Sl3} (ha:SlA EI T.I m H args sl) (hlt:∀a∈args,a<x.g.n) (hn:args.length≤64) (hm:m1≤H.next) (hI:T.I=3) (y0:Int) (y2:Bool) :
  ∀(d i:Nat) (H1:AH) (s:Sl3),i+d=args.length→Ext H H1→SlA EI 3 m1 H1 ((args.take i).map x.g.o) s→(∀id,fpt s id→H.next≤id) →
   ∃H2 s2,loopO (T1 (LCo k) m1 ⟨L.q,0,none⟩ y0 sl y2) (H1,s,(i:Int))=some (.inl (H2,s2,(args.length:Int)))∧Ext H H2∧SlA EI 3 m1 H2 (args.map x.g.o) s2∧∀id,fpt s2 id→H.next≤id:=by
 have hcn:=ha.cnt;intro d;induction d with
 | zero =>
  intro i H1 s hi hx hs hf;have:i=args.length:=by omega
  subst this;rw [List.take_length] at hs;refine ⟨H1,s,D4 ?_,hx,hs,hf⟩;unfold T1;simp only [hcn,if_neg (show ¬((args.length:Int)<(args.length:Int)) by omega)]
 | succ d ih =>
  intro i H1 s hi hx hs hf;have hil:i<args.length:=by omega
  have h1:=h.ext hx;obtain ⟨q,r1,r2⟩:=rd_EI (ha.ext hx) hil (v:=(i:Int)) rfl;obtain ⟨q',r3,r4⟩:=h1.of_ (i:=args[i]) (by rw [hl]; exact hlt _ (List.getElem_mem _)) (v:=(args[i]:Int)) rfl;obtain ⟨z,H0,s',H',p1,p2,p3,p4,p5,p6⟩:=hs.push (bytes:=8) (x.g.o args[i]) (by rw [List.length_map,List.length_take]; omega) (by rw [List.length_map,List.length_take]; omega) (by have:=hx.1; omega);have hb:T1 (LCo k) m1 ⟨L.q,0,none⟩ y0 sl y2 (H1,s,(i:Int))=some (.next (H',s',((i+1:Nat):Int))):=by
   unfold T1;simp only [hcn,if_pos (show (i:Int)<(args.length:Int) by omega),r1,r2,Option.bind_some];rw [h1.q (j:=4) (v:=L.sO.v) rfl];simp only [show deSl (Sl3.v L.sO)=some L.sO from rfl,Option.bind_some,r3,r4];have p1':newR 3 1 #[Value.int .i64 ((x.g.o args[i]:Nat):Int)] H1=some (z,H0):=p1;have p3':appS m1 3 1 8 H0 s z=some (s',H'):=p3;rw [p1'];simp only [Option.bind_some];rw [p3'];simp only [Option.bind_some];rw [J2 (n:=args.length) hil (by rw [K3]; omega)]
  obtain ⟨H2,s2,a1,a2,a3,a4⟩:=ih (i+1) H' s' (by omega) (hx.comp p5 fun id hlt' _ hw=>by have:=hf id hw; omega) (by
   rw [List.take_succ_eq_append_getElem hil,List.map_append];exact p4) (fun id hid=>by
    rcases p6 id hid with h | h
    ·exact hf id h
    ·exact Nat.le_trans hx.1 h)
  exact ⟨H2,s2,by rw [V2 hb]; exact a1,a2,a3,a4⟩
theorem z2a {Tb:AH→Prop} (hE:Env T tx m Tb) (k m1:Nat) (h:Rep T tx m H L x) (hb:Tb H) (hl:x.g.of.length=x.g.n) (hS:Small x.g) (hcl:∀i,i<x.g.n→x.g.o i<x.g.cls.length) (hargs:∀(i:Nat) y,x.g.N[i]? = some y→∀a∈y.args,a<i) (hm:m1≤H.next) (hI:T.I=3) {i:Nat} (hi:i<x.g.n) {v:Int} (hv:v=i) :
  ∃H',F1 (LCo k) m1 H (GL.p L) v=some (tx (x.g.sig i),H')∧Ext H H':=by
 obtain ⟨y,hy⟩:=T4 hi;obtain ⟨q,s,r1,r2,r3,r4,ha,_⟩:=h.node hy hv;have hlt:∀a∈y.args,a<x.g.n:=fun a haa=>by have:=hargs i y hy a haa; omega
 obtain ⟨H2,s2,a1,a2,a3,a4⟩:=zed k m1 h hl ha hlt (hS.args i y hy) hm hI y.sym y.value y.args.length 0 H Sl3.nil (by omega) (Fm.refl _ _) SlA.nil (fun id hid=>absurd hid O1);obtain ⟨H3,b1,b2⟩:=hE.text k m1 m1 H2 y.value y.sym s2 (y.args.map x.g.o) (hE.tbx hb a2) (by have:=a2.1; omega) (by rw [hI]; exact a3) (fun a haa=>by
   obtain ⟨b,hb',rfl⟩:=List.mem_map.1 haa;have:=hcl b (hlt b hb');have:=hS.cls;omega) (by rw [List.length_map]; exact hS.args i y hy) (hS.sym i y hy).1 (hS.sym i y hy).2
 refine ⟨H3,?_,a2.trans b2⟩;unfold F1;simp only [GL.p,Option.bind_some];rw [h.q (j:=0) (v:=L.sN.v) rfl];simp only [show deSl (Sl3.v L.sN)=some L.sN from rfl,Option.bind_some,r1,r2,r3,r4];show Option.bind (loopO (T1 (LCo k) m1 ⟨L.q,0,none⟩ y.sym s y.value) (H,Sl3.nil,((0:Nat):Int))) _=_;rw [a1];simp only [Option.bind_some,b1];rw [sig_of hy];rfl
end
end Go.Proofs.YtgkhbmoidenjaaaDoor
namespace Go.Proofs.YtgkhbmoidenjaaaDoor
open Go Go.Abs Go.Abs.Eg
set_option maxRecDepth 100000
section
variable {T:Tys} {tx:Key→ByteArray} {m:Nat} {H:AH} {L:GL} {x:Gh} {Tb:AH→Prop}
def withF (x:Gh) (fe:List Ed):Gh:=⟨{ x.g with fo:=fe.map (·.1) },x.ids,x.sd,fe⟩
theorem setF (hE:Env T tx m Tb) (h:Rep T tx m H L x) (hb:Tb H) {i:Nat} (hi:i<x.fe.length) (e:Ed) {v:Int} (hv:v=i) :
  ∃p H',idxA 5 L.sF v=some p∧wrCells m p 0 [.int .i64 e.1,.int .i64 e.2.1,.int .i64 e.2.2.1,.int .i64 e.2.2.2.1,.bool e.2.2.2.2] H=some H'∧Rep T tx m H' L (withF x (x.fe.set i e))∧Tb H'∧H'.next=H.next∧Fm (fpt L.sF) H H':=by
 have hF:SlA EE T.E m H x.fe L.sF:=h.hold .F;obtain ⟨q,r1,⟨a,r2,r3,rfl⟩,_⟩:=rd_EE hF hi hv;obtain ⟨H',a1,a2,a3,a4⟩:=hF.put hi e r2 r3;refine ⟨_,H',r1,a1,?_,hE.tb hb a3 fun id hid=>(h.low (c:=.F) hid).1,a4,a3⟩;refine h.step (fun c=>c=.F) (W:=fpt L.sF) a3 (fun id hid=>⟨.F,rfl,hid⟩) (fun c hc=>⟨fun hh=>?_,fun id hid=>hid⟩) (fun c hc=>?_) (fun c hc id hid=>.inl hid) (fun c c' hc hc' _ _ _=>hc.trans hc'.symm) h.nal h.cll rfl
 ·cases c <;> first | exact hh | exact absurd rfl hc
 ·subst hc; exact a2
theorem readF (h:Rep T tx m H L x) {i:Nat} (hi:i<x.fe.length) {v:Int} (hv:v=i):∃p,idxA 5 L.sF v=some p∧rd (deI .i64) H (p.add 0)=some x.fe[i].1∧rd (deI .i64) H (p.add 1)=some x.fe[i].2.1∧rd (deI .i64) H (p.add 2)=some x.fe[i].2.2.1∧rd (deI .i64) H (p.add 3)=some x.fe[i].2.2.2.1∧rd deB H (p.add 4)=some x.fe[i].2.2.2.2:=by
 obtain ⟨q,r1,_,r2⟩:=rd_EE (show SlA EE T.E m H x.fe L.sF from h.hold .F) hi hv;exact ⟨q,r1,r2⟩
theorem z9j (hE:Env T tx m Tb) (k:Nat) {fo:List Int} {o:Nat→Nat} {n:Nat} (hn:n≤1048576):∀(kk:Nat) (H:AH) (x:Gh) (prev:Int) (c:Nat) (e:Ed),Rep T tx m H L x→Tb H→x.g.fo.length=n→RI fo o n x.g.fo prev c kk→(prev<0→prev=-1) →
  ∃H' st fe',loopO (I1 (LCo k) m (GL.p L)) (H,(c:Int),prev,e.1,e.2.1,e.2.2.1,e.2.2.2.1,e.2.2.2.2)=some (.inl (H',st))∧Rep T tx m H' L (withF x fe')∧RD o n (fe'.map (·.1))∧Tb H'∧H'.next=H.next∧fe'.length=x.fe.length∧Fm (fpt L.sF) H H'∧(∀i j l,US fe' i j l↔US x.fe i j l∨Fl prev c e.2 i j l)∧(∀z kz,WayN fo kz z→kk<kz→fe'[z]? = x.fe[z]?)∧(prev<0→∃l0,fe'[c]? = some (-1,l0)):=by
 intro kk;induction kk with
 | zero =>
  intro H x prev c e h hb hl hr hp;have hfl:x.fe.length=n:=by rw [← hl,← h.fel,List.length_map]
  have hc:=hr.cn;obtain ⟨v,hv,hcase⟩:=hr.next;obtain ⟨p,q1,q2,q3,q4,q5,q6⟩:=readF h (i:=c) (by omega) (v:=(c:Int)) rfl;have hv0:x.fe[c].1=v:=by
   have:x.g.fo[c]? = some (x.fe[c]'(by omega)).1:=by rw [← h.fel,List.getElem?_map,List.getElem?_eq_getElem (by omega)]; rfl
   rw [hv] at this;exact (Option.some.inj this).symm
  rcases hcase with ⟨rfl,hd⟩ | ⟨j,k',_,hk,_⟩
  ·obtain ⟨p',H',w1,w2,w3,w4,w5,w6⟩:=setF hE h hb (i:=c) (by omega) (if prev<0 then (-1,0,0,0,false) else (prev,e.2.1,e.2.2.1,e.2.2.2.1,e.2.2.2.2)) (v:=(c:Int)) rfl;rw [q1] at w1;cases w1;have hb0:∃st:Int×Int×Int×Int×Int×Int×Bool,I1 (LCo k) m (GL.p L) (H,(c:Int),prev,e.1,e.2.1,e.2.2.1,e.2.2.2.1,e.2.2.2.2)=some (.next (H',-1,st.2)):=by
    unfold I1;simp only [if_pos (show (c:Int)≥0 by omega),GL.p,Option.bind_some];rw [h.q (j:=6) (v:=L.sF.v) rfl];simp only [show deSl (Sl3.v L.sF)=some L.sF from rfl,Option.bind_some,q1,q2,q3,q4,q5,q6,hv0];by_cases hp0:prev<0
    ·simp only [if_pos hp0] at w2 ⊢;simp only [w2,Option.bind_some];exact ⟨(0,_),rfl⟩
    ·simp only [if_neg hp0] at w2 ⊢;simp only [w2,Option.bind_some];exact ⟨(0,_),rfl⟩
   obtain ⟨st,hb0⟩:=hb0;have hb1:I1 (LCo k) m (GL.p L) (H',-1,st.2)=some (.brk (H',-1,st.2)):=by
    unfold I1;obtain ⟨s0,s1,s2,s3,s4,s5,s6⟩:=st;simp only [if_neg (show ¬((-1:Int)≥0) by omega)]
   refine ⟨H',(-1,st.2),_,by rw [V2 hb0]; exact D4 hb1,w3,?_,w4,w5,List.length_set,w6,fun i j l=>?_,fun z kz hz hlt=>?_,fun hp0=>?_⟩;rotate_left
   ·have hc':c<x.fe.length:=by omega
    have h1:=us_set hc' (if prev<0 then (-1,0,0,0,false) else (prev,e.2)) i j l;have h2:=us_at hc' i j l;have h3:¬Ed1 c x.fe[c] i j l:=by
     have:x.fe[c]=(-1,x.fe[c].2):=by rw [← hv0]
     rw [this]; exact zfg c _ i j l
    rw [ed1_fl] at h1;refine h1.trans (or_congr ?_ Iff.rfl);rw [h2];exact ⟨fun h=>.inl h,fun h=>h.resolve_right h3⟩
   ·have hne:c≠z:=fun e=>by rw [← e] at hz; have:=hz.uniq hr.wn; omega
    rw [List.getElem?_set_ne hne]
   ·rw [List.getElem?_set_self (by omega),if_pos hp0]; exact ⟨_,rfl⟩
   have:(x.fe.set c (if prev<0 then (-1,0,0,0,false) else (prev,e.2.1,e.2.2.1,e.2.2.2.1,e.2.2.2.2))).map (·.1)=x.g.fo.set c prev:=by
    rw [List.map_set,h.fel]
    congr 1
    split
    ·rename_i hp0; exact (hp hp0).symm
    ·rfl
   rw [this];exact hd
  ·omega
 | succ kk ih =>
  intro H x prev c e h hb hl hr hp;have hfl:x.fe.length=n:=by rw [← hl,← h.fel,List.length_map]
  have hc:=hr.cn;obtain ⟨v,hv,hcase⟩:=hr.next;obtain ⟨p,q1,q2,q3,q4,q5,q6⟩:=readF h (i:=c) (by omega) (v:=(c:Int)) rfl;have hv0:x.fe[c].1=v:=by
   have:x.g.fo[c]? = some (x.fe[c]'(by omega)).1:=by rw [← h.fel,List.getElem?_map,List.getElem?_eq_getElem (by omega)]; rfl
   rw [hv] at this;exact (Option.some.inj this).symm
  rcases hcase with ⟨rfl,_⟩ | ⟨j,k',rfl,hk,hri⟩
  ·have hw:=hr.wn;cases hw with
   | step hst _ =>
    have hs:=hr.same c _ hr.wn (Nat.le_refl _);rw [hv,hst] at hs;simp only [Option.some.injEq] at hs;omega
  ·obtain rfl:kk=k':=by omega
   obtain ⟨p',H',w1,w2,w3,w4,w5,w6⟩:=setF hE h hb (i:=c) (by omega) (if prev<0 then (-1,0,0,0,false) else (prev,e.2.1,e.2.2.1,e.2.2.2.1,e.2.2.2.2)) (v:=(c:Int)) rfl;rw [q1] at w1;cases w1;have hb0:I1 (LCo k) m (GL.p L) (H,(c:Int),prev,e.1,e.2.1,e.2.2.1,e.2.2.2.1,e.2.2.2.2)=some (.next (H',(j:Int),(c:Int),x.fe[c].1,x.fe[c].2.1,x.fe[c].2.2.1,x.fe[c].2.2.2.1,x.fe[c].2.2.2.2)):=by
    unfold I1;simp only [if_pos (show (c:Int)≥0 by omega),GL.p,Option.bind_some];rw [h.q (j:=6) (v:=L.sF.v) rfl];simp only [show deSl (Sl3.v L.sF)=some L.sF from rfl,Option.bind_some,q1,q2,q3,q4,q5,q6,hv0];by_cases hp0:prev<0
    ·simp only [if_pos hp0] at w2 ⊢;simp only [w2,Option.bind_some]
    ·simp only [if_neg hp0] at w2 ⊢;simp only [w2,Option.bind_some]
   have hfo:(withF x (x.fe.set c (if prev<0 then (-1,0,0,0,false) else (prev,e.2.1,e.2.2.1,e.2.2.2.1,e.2.2.2.2)))).g.fo=x.g.fo.set c prev:=by
    show (x.fe.set c _).map (·.1)=_;rw [List.map_set,h.fel]
    congr 1
    split
    ·rename_i hp0; exact (hp hp0).symm
    ·rfl
   obtain ⟨H2,st,fe',z1,z2,z3,z4,z5,z6,z7,z8,z9,z10⟩:=ih H' _ (c:Int) j x.fe[c] w3 w4 (by rw [hfo,List.length_set]; exact hl) (by rw [hfo]; exact hri) (fun hh=>by omega);refine ⟨H2,st,fe',by rw [V2 hb0]; exact z1,z2,z3,z4,z5.trans w5,by rw [z6]; exact List.length_set,w6.comp z7 fun _ _ h=>h,fun i j' l=>?_,fun z kz hz hlt=>?_,fun hp0=>?_⟩
   ·have hc':c<x.fe.length:=by omega
    have h1:=us_set hc' (if prev<0 then (-1,0,0,0,false) else (prev,e.2)) i j' l;have h2:=us_at hc' i j' l;have h3:=zep c x.fe[c] i j' l ⟨j,hv0⟩;rw [ed1_fl] at h1;have h4:x.fe[c].1.toNat=j:=by rw [hv0]; rfl
    rw [h4] at h3;have h5:=z8 i j' l;refine h5.trans ((or_congr h1 h3.symm).trans ?_);rw [h2];exact ⟨fun h=>h.elim (fun h=>h.elim (fun h=>.inl (.inl h)) .inr) fun h=>.inl (.inr h),fun h=>h.elim (fun h=>h.elim (fun h=>.inl (.inl h)) .inr) fun h=>.inl (.inr h)⟩
   ·have hne:c≠z:=fun e=>by rw [← e] at hz; have:=hz.uniq hr.wn; omega
    rw [z9 z kz hz (by omega)];show (x.fe.set c _)[z]? = _;rw [List.getElem?_set_ne hne]
   ·refine ⟨(0,0,0,false),?_⟩;rw [z9 c _ hr.wn (by omega)];show (x.fe.set c _)[c]? = _;rw [List.getElem?_set_self (by omega),if_pos hp0]
theorem z9i (hE:Env T tx m Tb) (k:Nat) (h:Rep T tx m H L x) (hb:Tb H) {M q:List (Nat×Nat)} (hI:MI x.g M q) (hS:Small x.g) {c:Nat} (hc:c<x.g.n) {v:Int} (hv:v=c) :
  ∃H' fe',J3 (LCo k) m H (GL.p L) v=some H'∧Rep T tx m H' L (withF x fe')∧RD x.g.o x.g.n (fe'.map (·.1))∧Tb H'∧H'.next=H.next∧fe'.length=x.fe.length∧Fm (fpt L.sF) H H'∧(∀i j l,US fe' i j l↔US x.fe i j l)∧∃l0,fe'[c]? = some (-1,l0):=by
 obtain ⟨kk,hr⟩:=RI.start hI.flen hc hI.way hI.edge;obtain ⟨H',st,fe',a1,b1,b2,b3,b4,b5,b6,b7,_,b8⟩:=z9j hE k hS.n kk H x (-1) c (0,0,0,0,false) h hb hI.flen hr (fun _=>rfl);refine ⟨H',fe',?_,b1,b2,b3,b4,b5,b6,fun i j l=>(b7 i j l).trans ⟨fun h=>h.resolve_right fun ⟨p,hp,_⟩=>(by omega),.inl⟩,b8 (by omega)⟩;subst hv;unfold J3;show Option.bind (loopO (I1 (LCo k) m (GL.p L)) (H,(c:Int),(-1),0,0,0,0,false)) _=_;rw [a1];rfl
end
end Go.Proofs.YtgkhbmoidenjaaaDoor
namespace Go.Proofs.YtgkhbmoidenjaaaDoor
open Go Go.Abs Go.Abs.Eg
set_option maxRecDepth 100000
structure PE (T:Tys) (mt kt e:TypeId):Prop where
 mp:MP Tryd.prog mt kt e
 del:∀(m:Nat) (H H':AH) (r:Option Nat) (s:ByteArray),aDelete Tryd.prog m #[mt] [.map r,.string s] H=some (.tuple #[],H')→gOp Tryd.prog m (opsOf (cfst (csnd (csnd (csnd (cfst (cfst (csnd (csnd (cfst (cfst (csnd (cfst (csnd (csnd B73))))))))))))))) 7 [(65,.val (Value.map r)),(68,.val (Value.string s))] deV H=some (.tuple #[],H')
 min:∀(a b:Int) (H:AH),gOp1 Tryd.prog (opsOf (cfst (csnd (csnd (csnd (csnd (csnd (csnd (csnd (csnd (csnd B73))))))))))) 9 [(166,.val (Value.int .i64 a)),(170,.val (Value.int .i64 b))] (deI .i64) H=some (min a b)
structure GI (g:St):Prop where
 ofl:g.of.length=g.n
 sm:Small g
 cl:∀i,i<g.n→g.o i<g.cls.length
 args:∀(i:Nat) y,g.N[i]? = some y→∀a∈y.args,a<i
 s1:∀s k,g.sigs s=some k→k<g.n∧g.sig k=s
section
variable {T:Tys} {tx:Key→ByteArray} {m:Nat} {H:AH} {L:GL} {x:Gh} {Tb:AH→Prop} {kt e:TypeId}
theorem Small.s {g:St} (h:Small g) (f:Key→Option Nat):Small { g with sigs:=f }:=⟨h.n,h.tot,h.args,h.sym,h.cls⟩
theorem zb9 (hE:Env T tx m Tb) (hP:PE T 58 kt e) (hTI:T.I=3) (k:Nat) {x0:Gh} (hg:GI x0.g) {us:List Nat} {s9:Sl3} (hul:us.length≤1048576) (hus:∀u∈us,u<x0.g.n) (a2:Int) (x7:Option Addr) (q8:Addr) (n0:Nat) :
  ∀(d i:Nat) (H:AH),i+d=us.length→Rep T tx m H L (withS x0 (delS x0.g (us.take i)))→SlA EI 3 m H us s9→(∀id,fpt s9 id→id≠L.ms)→Tb H→m≤H.next →
   ∃H',loopO (V1 (LCo k) m a2 ⟨L.q,0,none⟩ x7 q8 s9) (H,(i:Int))=some (.inl (H',(us.length:Int)))∧Rep T tx m H' L (withS x0 (delS x0.g us))∧Tb H'∧m≤H'.next∧Fm (Wc L n0) H H':=by
 intro d;induction d with
 | zero =>
  intro i H hi h hs hd hb hm;have:i=us.length:=by omega
  subst this;rw [List.take_length] at h;refine ⟨H,D4 ?_,h,hb,hm,Fm.refl _ _⟩;unfold V1;simp only [hs.cnt,if_neg (show ¬((us.length:Int)<(us.length:Int)) by omega)]
 | succ d ih =>
  intro i H hi h hs hd hb hm;have hil:i<us.length:=by omega
  obtain ⟨q,r1,r2⟩:=rd_EI hs hil (v:=(i:Int)) rfl;have hun:=hus us[i] (List.getElem_mem _);obtain ⟨H1,s1,s2⟩:=z2a hE k (Nat.max m H.next) h hb hg.ofl (hg.sm.s _) hg.cl hg.args (Nat.max_le.2 ⟨hm,Nat.le_refl _⟩) hTI (i:=us[i]) hun (v:=(us[i]:Int)) rfl;have h1:=h.ext s2;have hb1:=hE.tbx hb s2;have hs1:=hs.ext s2;have hm1:m≤H1.next:=Nat.le_trans hm s2.1;have hsig:(withS x0 (delS x0.g (us.take i))).g.sig us[i]=x0.g.sig us[i]:=rfl;rw [hsig] at s1;have hlk:=h1.lkS hP.mp (x0.g.sig us[i]);have hsg:(withS x0 (delS x0.g (us.take i))).g.sigs=delS x0.g (us.take i):=rfl;rw [hsg] at hlk;have hnext:=zde hg.s1 hil;by_cases hc:delS x0.g (us.take i) (x0.g.sig us[i])=some us[i]
  ·rw [if_pos hc] at hnext;obtain ⟨H2,t1,t2⟩:=z2a hE k (Nat.max m H1.next) h1 hb1 hg.ofl (hg.sm.s _) hg.cl hg.args (Nat.max_le.2 ⟨hm1,Nat.le_refl _⟩) hTI (i:=us[i]) hun (v:=(us[i]:Int)) rfl;rw [hsig] at t1;have h2:=h1.ext t2;obtain ⟨H3,d1,d2,d3,d4⟩:=h2.delS_ hE.inj hP.mp (x0.g.sig us[i]) (ts:=#[58]) rfl;have hd1:=hP.del m H2 H3 (some L.ms) _ d1;have hb0:V1 (LCo k) m a2 ⟨L.q,0,none⟩ x7 q8 s9 (H,(i:Int))=some (.next (H3,((i+1:Nat):Int))):=by
    unfold V1;simp only [hs.cnt,if_pos (show (i:Int)<(us.length:Int) by omega),r1,r2,Option.bind_some];rw [h.q (j:=7) (v:=.map (some L.ms)) rfl];simp only [show deM (Value.map (some L.ms))=some (some L.ms) from rfl,Option.bind_some];have s1':F1 (LCo k) (m.max H.next) H (some ⟨L.q,0,none⟩) (us[i]:Int)=some (tx (x0.g.sig us[i]),H1):=s1;rw [s1'];simp only [Option.bind_some,hlk,hc,Option.isSome_some,Option.getD_some,if_true,decide_true];rw [h1.q (j:=7) (v:=.map (some L.ms)) rfl];simp only [show deM (Value.map (some L.ms))=some (some L.ms) from rfl,Option.bind_some];have t1':F1 (LCo k) (m.max H1.next) H1 (some ⟨L.q,0,none⟩) (us[i]:Int)=some (tx (x0.g.sig us[i]),H2):=t1;rw [t1'];simp only [Option.bind_some,hd1];rw [J2 (n:=us.length) hil (by rw [K3]; omega)]
   have h3:Rep T tx m H3 L (withS x0 (delS x0.g (us.take (i+1)))):=by
    rw [hnext];exact d2
   obtain ⟨H',z1,z2,z3,z4,z5⟩:=ih (i+1) H3 (by omega) h3 ((hs1.ext t2).fr d3 hd) hd (hE.tb (hE.tbx hb1 t2) d3 fun id hid=>by rw [hid]; exact (h2.low (c:=.ms) rfl).1) (by rw [d4]; exact Nat.le_trans hm1 t2.1);exact ⟨H',by rw [V2 hb0]; exact z1,z2,z3,z4,fmT (fmE s2) (fmT (fmE t2) (fmT (fmC .ms d3 fun id hid=>hid) z5))⟩
  ·rw [if_neg hc] at hnext;have hcond:∀o:Option Nat,o=delS x0.g (us.take i) (x0.g.sig us[i])→(if o.isSome=true then some (decide (((o.getD 0:Nat):Int)=(us[i]:Int))) else some false:Option Bool)=some false:=by
    intro o ho;cases o with
    | none=>rfl
    | some w =>
     have:¬((w:Int)=(us[i]:Int)):=fun hw=>hc (by rw [← ho]; have:=Int.ofNat.inj hw; rw [this]);simp only [Option.isSome_some,if_true,Option.getD_some,decide_eq_false this]
   have hb0:V1 (LCo k) m a2 ⟨L.q,0,none⟩ x7 q8 s9 (H,(i:Int))=some (.next (H1,((i+1:Nat):Int))):=by
    unfold V1;simp only [hs.cnt,if_pos (show (i:Int)<(us.length:Int) by omega),r1,r2,Option.bind_some];rw [h.q (j:=7) (v:=.map (some L.ms)) rfl];simp only [show deM (Value.map (some L.ms))=some (some L.ms) from rfl,Option.bind_some];have s1':F1 (LCo k) (m.max H.next) H (some ⟨L.q,0,none⟩) (us[i]:Int)=some (tx (x0.g.sig us[i]),H1):=s1;rw [s1'];simp only [Option.bind_some,hlk];rw [hcond _ rfl];simp only [Option.bind_some,Bool.false_eq_true,if_false];rw [J2 (n:=us.length) hil (by rw [K3]; omega)]
   have h3:Rep T tx m H1 L (withS x0 (delS x0.g (us.take (i+1)))):=by
    rw [hnext];exact h1
   obtain ⟨H',z1,z2,z3,z4,z5⟩:=ih (i+1) H1 (by omega) h3 hs1 hd hb1 hm1;exact ⟨H',by rw [V2 hb0]; exact z1,z2,z3,z4,fmT (fmE s2) z5⟩
def setAll (of:List Nat) (ms:List Nat) (b:Nat):List Nat:=ms.foldl (fun of j=>of.set j b) of
theorem zc4 (b:Nat):∀(ms of:List Nat) (i:Nat),i<of.length→(setAll of ms b).getD i 0=if i∈ms then b else of.getD i 0:=by
 intro ms;induction ms with
 | nil=>intro of i _; simp [setAll]
 | cons j ms ih =>
  intro of i hi;show (setAll (of.set j b) ms b).getD i 0=_;rw [ih (of.set j b) i (by rw [List.length_set]; exact hi)];by_cases hm:i∈ms
  ·simp [hm]
  ·by_cases hj:i=j
   ·subst hj;simp [hm,List.getD,hi]
   ·simp only [hm,if_false,List.mem_cons,hj,or_self];rw [List.getD_eq_getElem?_getD,List.getD_eq_getElem?_getD,List.getElem?_set_ne (fun e=>hj e.symm)]
theorem Y8 (b:Nat):∀(ms of:List Nat),(setAll of ms b).length=of.length:=by
 intro ms;induction ms with
 | nil=>intro of; rfl
 | cons j ms ih=>intro of; show (setAll (of.set j b) ms b).length=_; rw [ih,List.length_set]
theorem zdo {g:St} (hl:g.of.length=g.n) {ms:List Nat} {s t:Nat} (hm:∀j,j∈ms↔j<g.n∧g.o j=s):setAll g.of ms t=g.of.map (re s t):=by
 refine List.ext_getElem? fun i=>?_;by_cases hi:i<g.of.length
 ·have h1:=zc4 t ms g.of i hi;rw [List.getD_eq_getElem?_getD,List.getElem?_eq_getElem (by rw [Y8]; exact hi)] at h1;rw [List.getElem?_eq_getElem (by rw [Y8]; exact hi),List.getElem?_map,List.getElem?_eq_getElem hi];simp only [Option.getD_some] at h1;rw [h1];have ho:g.of.getD i 0=g.of[i]:=by rw [List.getD_eq_getElem?_getD,List.getElem?_eq_getElem hi]; rfl
  have ho':g.o i=g.of[i]:=ho;simp only [Option.map_some,Option.some.injEq];unfold re;by_cases hmi:i∈ms
  ·rw [if_pos hmi,if_pos (by rw [← ho']; exact ((hm i).1 hmi).2)]
  ·rw [if_neg hmi,if_neg (fun e=>hmi ((hm i).2 ⟨by omega,by rw [ho',e]⟩)),ho]
 ·rw [List.getElem?_eq_none (by rw [Y8]; omega),List.getElem?_eq_none (by rw [List.length_map]; omega)]
def withO (x:Gh) (of:List Nat):Gh:=⟨{ x.g with of:=of },x.ids,x.sd,x.fe⟩
theorem setO (hE:Env T tx m Tb) (h:Rep T tx m H L x) (hb:Tb H) {j:Nat} (hj:j<x.g.of.length) (b:Nat) {v w:Int} (hv:v=j) (hw:w=b) :
  ∃p H',idxA 1 L.sO v=some p∧H.setCell m p (.int .i64 w)=some H'∧Rep T tx m H' L (withO x (x.g.of.set j b))∧Tb H'∧H'.next=H.next∧Fm (fpt L.sO) H H':=by
 have hO:SlA EI T.I m H x.g.of L.sO:=h.hold .O;obtain ⟨a,r1,r2,r3,_⟩:=hO.at_ (by show 0<1; omega) hj hv;obtain ⟨H',a1,a2,a3,a4⟩:=hO.put1 (fun y=>⟨_,rfl⟩) hj b (v:=.int .i64 w) (by rw [hw]; rfl) r1 r3;refine ⟨_,H',r2,a1,?_,hE.tb hb a3 fun id hid=>(h.low (c:=.O) hid).1,a4,a3⟩;refine h.step (fun c=>c=.O) (W:=fpt L.sO) a3 (fun id hid=>⟨.O,rfl,hid⟩) (fun c hc=>⟨fun hh=>?_,fun id hid=>hid⟩) (fun c hc=>?_) (fun c hc id hid=>.inl hid) (fun c c' hc hc' _ _ _=>hc.trans hc'.symm) h.nal h.cll h.fel
 ·cases c <;> first | exact hh | exact absurd rfl hc
 ·subst hc; exact a2
theorem zcd (hE:Env T tx m Tb) (k:Nat) {x0:Gh} {ms:List Nat} {s9:Sl3} (hml:ms.length≤1048576) (hms:∀u∈ms,u<x0.g.of.length) (b:Nat) (x7:Option Addr) (q8:Addr) :
  ∀(d i:Nat) (H:AH),i+d=ms.length→Rep T tx m H L (withO x0 (setAll x0.g.of (ms.take i) b))→SlA EI 3 m H ms s9→(∀id,fpt s9 id→¬fpt L.sO id)→Tb H →
   ∃H',loopO (E2 (LCo k) m (b:Int) ⟨L.q,0,none⟩ x7 q8 s9) (H,(i:Int))=some (.inl (H',(ms.length:Int)))∧Rep T tx m H' L (withO x0 (setAll x0.g.of ms b))∧Tb H'∧H'.next=H.next∧Fm (fpt L.sO) H H':=by
 intro d;induction d with
 | zero =>
  intro i H hi h hs hd hb;have:i=ms.length:=by omega
  subst this;rw [List.take_length] at h;refine ⟨H,D4 ?_,h,hb,rfl,Fm.refl _ _⟩;unfold E2;simp only [hs.cnt,if_neg (show ¬((ms.length:Int)<(ms.length:Int)) by omega)]
 | succ d ih =>
  intro i H hi h hs hd hb;have hil:i<ms.length:=by omega
  obtain ⟨q,r1,r2⟩:=rd_EI hs hil (v:=(i:Int)) rfl;have hlen:(withO x0 (setAll x0.g.of (ms.take i) b)).g.of.length=x0.g.of.length:=Y8 _ _ _;obtain ⟨p,H1,s1,s2,s3,s4,s5,s6⟩:=setO hE h hb (j:=ms[i]) (by rw [hlen]; exact hms _ (List.getElem_mem _)) b (v:=(ms[i]:Int)) (w:=(b:Int)) rfl rfl;have hb0:E2 (LCo k) m (b:Int) ⟨L.q,0,none⟩ x7 q8 s9 (H,(i:Int))=some (.next (H1,((i+1:Nat):Int))):=by
   unfold E2;simp only [hs.cnt,if_pos (show (i:Int)<(ms.length:Int) by omega),r1,r2,Option.bind_some];rw [h.q (j:=4) (v:=L.sO.v) rfl];simp only [show deSl (Sl3.v L.sO)=some L.sO from rfl,Option.bind_some,s1,s2];rw [J2 (n:=ms.length) hil (by rw [K3]; omega)]
  have h3:Rep T tx m H1 L (withO x0 (setAll x0.g.of (ms.take (i+1)) b)):=by
   have:setAll x0.g.of (ms.take (i+1)) b=(setAll x0.g.of (ms.take i) b).set ms[i] b:=by
    unfold setAll;rw [List.take_succ_eq_append_getElem hil,List.foldl_append];rfl
   rw [this];exact s3
  obtain ⟨H',z1,z2,z3,z4,z5⟩:=ih (i+1) H1 (by omega) h3 (hs.fr s6 hd) hd s4;exact ⟨H',by rw [V2 hb0]; exact z1,z2,z3,z4.trans s5,s6.comp z5 fun _ _ h=>h⟩
end
end Go.Proofs.YtgkhbmoidenjaaaDoor
namespace Go.Proofs.YtgkhbmoidenjaaaDoor
open Go Go.Abs Go.Abs.Eg
set_option maxRecDepth 100000
abbrev Q7:=Int×Int×Int×Int×Int×Int×Bool
def qe (p:Nat×Nat):Q7:=((p.1:Int),(p.2:Int),0,0,(p.1:Int),(p.2:Int),true)
def stepS (sg:Nat→Key) (u:Nat) (r:(Key→Option Nat)×List (Nat×Nat)):(Key→Option Nat)×List (Nat×Nat):=match r.1 (sg u) with
 | some k=>(r.1,if k=u then r.2 else r.2++[(u,k)])
 | none=>(fun s=>if s=sg u then some u else r.1 s,r.2)
theorem z4j (sg:Nat→Key):∀(l:List Nat) (u:Nat) (r:(Key→Option Nat)×List (Nat×Nat)),insS sg (l++[u]) r=stepS sg u (insS sg l r)
 | [],u,r=>rfl
 | x :: l,u,r=>z4j sg l u _
theorem z5d (sg:Nat→Key):∀(l:List Nat) (r:(Key→Option Nat)×List (Nat×Nat)),(insS sg l r).2.length≤r.2.length+l.length
 | [],r=>Nat.le_refl _
 | u :: l,r=>by
  have h:=z5d sg l (stepS sg u r);have:(stepS sg u r).2.length≤r.2.length+1:=by
   unfold stepS;split
   ·simp only;split
    ·omega
    ·simp
   ·simp
  show (insS sg l (stepS sg u r)).2.length≤_;simp only [List.length_cons];omega
section
variable {T:Tys} {tx:Key→ByteArray} {m:Nat} {H:AH} {L:GL} {x:Gh} {Tb:AH→Prop} {kt e:TypeId}
theorem zb4 (hE:Env T tx m Tb) (hP:PE T 58 kt e) (hTI:T.I=3) (k:Nat) {x0:Gh} {H0:AH} (hl:x0.g.of.length=x0.g.n) (hS:Small x0.g) (hcl:∀i,i<x0.g.n→x0.g.o i<x0.g.cls.length) (hargs:∀(i:Nat) y,x0.g.N[i]? = some y→∀a∈y.args,a<i)
  {us:List Nat} {s9:Sl3} (hul:us.length≤1048576) (hus:∀u∈us,u<x0.g.n) (x7:Option Addr) (q8:Addr) (f0:Key→Option Nat) (hlow:∀c id,L.fp c id→id<H0.next) (h9:∀id,fpt s9 id→id<H0.next) (h9m:∀id,fpt s9 id→id≠L.ms) :
  ∀(d i:Nat) (H:AH) (z:Sl3),i+d=us.length→Rep T tx m H L (withS x0 (insS x0.g.sig (us.take i) (f0,[])).1)→SlA EI 3 m H us s9→SlA EQ 122 m H ((insS x0.g.sig (us.take i) (f0,[])).2.map qe) z→(∀id,fpt z id→H0.next≤id)→Tb H→m≤H.next→H0.next≤H.next →
   ∃H' z',loopO (U1 (LCo k) m ⟨L.q,0,none⟩ x7 q8 s9) (H,z,(i:Int))=some (.inl (H',z',(us.length:Int)))∧Rep T tx m H' L (withS x0 (insS x0.g.sig us (f0,[])).1)∧SlA EQ 122 m H' ((insS x0.g.sig us (f0,[])).2.map qe) z'∧(∀id,fpt z' id→H0.next≤id)∧Tb H'∧m≤H'.next∧H0.next≤H'.next∧SlA EI 3 m H' us s9∧Fm (Wc L H0.next) H H':=by
 intro d;induction d with
 | zero =>
  intro i H z hi h hs hz hzf hb hm hn;have:i=us.length:=by omega
  subst this;rw [List.take_length] at h hz;refine ⟨H,z,D4 ?_,h,hz,hzf,hb,hm,hn,hs,Fm.refl _ _⟩;unfold U1;simp only [hs.cnt,if_neg (show ¬((us.length:Int)<(us.length:Int)) by omega)]
 | succ d ih =>
  intro i H z hi h hs hz hzf hb hm hn;have hil:i<us.length:=by omega
  obtain ⟨q,r1,r2⟩:=rd_EI hs hil (v:=(i:Int)) rfl;have hun:=hus us[i] (List.getElem_mem _);obtain ⟨H1,s1,s2⟩:=z2a hE k m h hb hl (hS.s _) hcl hargs hm hTI (i:=us[i]) hun (v:=(us[i]:Int)) rfl;have h1:=h.ext s2;have hb1:=hE.tbx hb s2;have hs1:=hs.ext s2;have hz1:=hz.ext s2;have hm1:m≤H1.next:=Nat.le_trans hm s2.1;have hn1:H0.next≤H1.next:=Nat.le_trans hn s2.1;have hsig:(withS x0 (insS x0.g.sig (us.take i) (f0,[])).1).g.sig us[i]=x0.g.sig us[i]:=rfl;rw [hsig] at s1;have hlk:=h1.lkS hP.mp (x0.g.sig us[i]);have hsg:(withS x0 (insS x0.g.sig (us.take i) (f0,[])).1).g.sigs=(insS x0.g.sig (us.take i) (f0,[])).1:=rfl;rw [hsg] at hlk;have hstep:insS x0.g.sig (us.take (i+1)) (f0,[])=stepS x0.g.sig us[i] (insS x0.g.sig (us.take i) (f0,[])):=by
   rw [List.take_succ_eq_append_getElem hil,z4j]
  have hlen:=z5d x0.g.sig (us.take i) (f0,[]);simp only [List.length_nil,List.length_take] at hlen;generalize hr:insS x0.g.sig (us.take i) (f0,[])=r at h h1 hz hz1 hlk hstep hlen;have pre:∀R,Option.bind (α:=(AH×Sl3)) (
    (lkM Tryd.prog 58 (deI .i64) H1 (some L.ms) (Value.string (tx (x0.g.sig us[i])))).bind fun (x49,b50) => if b50=true then
     if x49=(us[i]:Int) then
      some (H1,z)
     else
      (newR 122 1 #[(Value.int .i64 (us[i]:Int)),(Value.int .i64 x49),(Value.int .i64 0),(Value.int .i64 0),(Value.int .i64 (us[i]:Int)),(Value.int .i64 x49),(Value.bool true)] H1).bind fun (s51,H52) => (appS m 122 7 56 H52 z s51).bind fun (s53,H54) => some (H54,s53)
    else
     (rd deM H1 (Addr.add ⟨L.q,0,none⟩ 7)).bind fun x55 => (upM Tryd.prog m 58 H1 x55 (Value.string (tx (x0.g.sig us[i]))) (Value.int .i64 (us[i]:Int))).bind fun H56 => some (H56,z)) (fun (H42,v15_43)=>some (Lp.next (H42,v15_43,((i+1:Nat):Int)):Lp (AH×Sl3×Int) (Sl3×AH)))=R→U1 (LCo k) m ⟨L.q,0,none⟩ x7 q8 s9 (H,z,(i:Int))=R:=by
   intro R hR;rw [← hR];unfold U1;simp only [hs.cnt,if_pos (show (i:Int)<(us.length:Int) by omega),r1,r2,Option.bind_some];have s1':F1 (LCo k) m H (some ⟨L.q,0,none⟩) (us[i]:Int)=some (tx (x0.g.sig us[i]),H1):=s1;rw [s1'];simp only [Option.bind_some];rw [h1.q (j:=7) (v:=.map (some L.ms)) rfl];simp only [show deM (Value.map (some L.ms))=some (some L.ms) from rfl,Option.bind_some];rw [J2 (n:=us.length) hil (by rw [K3]; omega)]
  rw [hlk] at pre;simp only [Option.bind_some] at pre;have go:∀(H3:AH) (z3:Sl3),U1 (LCo k) m ⟨L.q,0,none⟩ x7 q8 s9 (H,z,(i:Int))=some (.next (H3,z3,((i+1:Nat):Int)))→Rep T tx m H3 L (withS x0 (stepS x0.g.sig us[i] r).1)→SlA EI 3 m H3 us s9→SlA EQ 122 m H3 ((stepS x0.g.sig us[i] r).2.map qe) z3→(∀id,fpt z3 id→H0.next≤id)→Tb H3→m≤H3.next→H0.next≤H3.next→Fm (Wc L H0.next) H1 H3 →
    ∃H' z',loopO (U1 (LCo k) m ⟨L.q,0,none⟩ x7 q8 s9) (H,z,(i:Int))=some (.inl (H',z',(us.length:Int)))∧Rep T tx m H' L (withS x0 (insS x0.g.sig us (f0,[])).1)∧SlA EQ 122 m H' ((insS x0.g.sig us (f0,[])).2.map qe) z'∧(∀id,fpt z' id→H0.next≤id)∧Tb H'∧m≤H'.next∧H0.next≤H'.next∧SlA EI 3 m H' us s9∧Fm (Wc L H0.next) H H':=by
   intro H3 z3 hb0 g1 g2 g3 g4 g5 g6 g7 g8;obtain ⟨H',z',y1,y2,y3,y4,y5,y6,y7,y8,y9⟩:=ih (i+1) H3 z3 (by omega) (by rw [hstep]; exact g1) g2 (by rw [hstep]; exact g3) g4 g5 g6 g7;exact ⟨H',z',by rw [V2 hb0]; exact y1,y2,y3,y4,y5,y6,y7,y8,fmT (fmE s2) (fmT g8 y9)⟩
  have frL:∀c id,L.fp c id→¬fpt z id:=fun c id hid hz=>by have:=hlow c id hid; have:=hzf id hz; omega
  cases hc:r.1 (x0.g.sig us[i]) with
  | some w =>
   rw [hc] at pre;simp only [Option.isSome_some,Option.getD_some,if_true] at pre;have hst:stepS x0.g.sig us[i] r=(r.1,if w=us[i] then r.2 else r.2++[(us[i],w)]):=by unfold stepS; rw [hc]
   by_cases hw:w=us[i]
   ·refine go H1 z (pre _ ?_) (by rw [hst]; exact h1) hs1 (by rw [hst,if_pos hw]; exact hz1) hzf hb1 hm1 hn1 (Fm.refl _ _);rw [if_pos (by rw [hw])];rfl
   ·have hw':¬((w:Int)=(us[i]:Int)):=fun e=>hw (Int.ofNat.inj e);obtain ⟨z1,Ha,s',Hb,p1,p2,p3,p4,p5,p6⟩:=hz1.push (bytes:=56) (qe (us[i],w)) (by rw [List.length_map]; omega) (by rw [List.length_map]; omega) hm1;refine go Hb s' (pre _ ?_) (by rw [hst]; exact h1.other p5 fun c id hid hw=>frL c id hid hw) (hs1.fr p5 fun id hid hw=>by have:=h9 id hid; have:=hzf id hw; omega) (by
     rw [hst,if_neg hw,List.map_append];exact p4) (fun id hid=>?_) (hE.tb hb1 p5 fun id hid=>by
      have h1':=hzf id hid;have:=SlG.fp hz1 hid;exact this.1) (Nat.le_trans hm1 p5.1) (Nat.le_trans hn1 p5.1) (fmN p5 hzf)
    ·rw [if_neg hw'];have p1':newR 122 1 #[Value.int .i64 (us[i]:Int),Value.int .i64 (w:Int),Value.int .i64 0,Value.int .i64 0,Value.int .i64 (us[i]:Int),Value.int .i64 (w:Int),Value.bool true] H1=some (z1,Ha):=p1;have p3':appS m 122 7 56 Ha z z1=some (s',Hb):=p3;rw [p1'];simp only [Option.bind_some];rw [p3'];rfl
    ·rcases p6 id hid with h | h
     ·exact hzf id h
     ·omega
  | none =>
   rw [hc] at pre;simp only [Option.isSome_none,Bool.false_eq_true,if_false] at pre;have hst:stepS x0.g.sig us[i] r=(fun s=>if s=x0.g.sig us[i] then some us[i] else r.1 s,r.2):=by unfold stepS; rw [hc]
   obtain ⟨H2,u1,u2,u3,u4⟩:=h1.upS hE.inj hP.mp (x0.g.sig us[i]) us[i];have hmlow:L.ms<H0.next:=hlow .ms L.ms rfl;refine go H2 z (pre _ ?_) (by rw [hst]; exact u2) (hs1.fr u3 fun id hid hw=>h9m id hid hw) (by
     rw [hst];exact hz1.fr u3 fun id hid hw=>by have:=hzf id hid; omega) hzf (hE.tb hb1 u3 fun id hid=>by rw [hid]; exact (h1.low (c:=.ms) rfl).1) (by rw [u4]; exact hm1) (by rw [u4]; exact hn1) (fmC .ms u3 fun id hid=>hid)
   rw [h1.q (j:=7) (v:=.map (some L.ms)) rfl];simp only [show deM (Value.map (some L.ms))=some (some L.ms) from rfl,Option.bind_some,u1]
end
end Go.Proofs.YtgkhbmoidenjaaaDoor
namespace Go.Proofs.YtgkhbmoidenjaaaDoor
open Go Go.Abs Go.Abs.Eg
set_option maxRecDepth 100000
section
variable {T:Tys} {tx:Key→ByteArray} {m:Nat} {H:AH} {L:GL} {x:Gh} {Tb:AH→Prop} {kt e:TypeId}
theorem GI.of {g:St} (h:MJ g) (hS:Small g):GI g:=⟨h.len,hS,h.cl,h.args,h.s1⟩
theorem Small.o {g:St} (h:Small g) (of:List Nat):Small { g with of:=of }:=⟨h.n,h.tot,h.args,h.sym,h.cls⟩
theorem readC (h:Rep T tx m H L x) {t:Nat} {p:Nat×Sl3×Sl3×Sl3} (hp:L.cl[t]? = some p) {j:Nat} {v:Value} (hv:(cCells p (x.g.c t).low)[j]? = some v) {β:Type} (de:Value→Option β):rd de H ((⟨p.1,0,none⟩:Addr).add j)=de v :=
 (h.cla hp).blk.rd hv de
theorem z2k (k:Nat) (h:Rep T tx m H L x) (hTI:T.I=3) {t:Nat} {p:Nat×Sl3×Sl3×Sl3} (hp:L.cl[t]? = some p) {l':List Nat} {z:Sl3} (hz:RdV 1 H z l'.length (l'.flatMap EI.enc))
  (h2:(x.g.c t).uses.length+l'.length≤1099511627776) (hm:m≤H.next) :
  ∃s' H',S3 (LCo k) m H (some (Addr.add ⟨p.1,0,none⟩ 0)) z=some H'∧Rep T tx m H' (L.setcl t (p.1,s',p.2.2.1,p.2.2.2)) (withC x t { x.g.c t with uses:=(x.g.c t).uses++l' })∧Fm (fun i=>i=p.1∨fpt p.2.1 i) H H'∧∀i,fpt s' i→fpt p.2.1 i∨H.next≤i:=by
 obtain ⟨s',H1,H',a1,a2,a3,a4,a5⟩:=h.appU hp hz h2 hm;refine ⟨s',H',?_,a3,a4,a5⟩;unfold S3;simp only [Option.bind_some,add_zero];have hr:rd deSl H (⟨p.1,0,none⟩:Addr)=some p.2.1:=by
  have:=readC h hp (j:=0) (v:=p.2.1.v) rfl deSl;rw [add_zero] at this;exact this
 rw [hr];rw [hTI] at a1;have a2':H1.setCell m (⟨p.1,0,none⟩:Addr) (Sl3.v s')=some H':=by rw [add_zero] at a2; exact a2
 simp only [Option.bind_some,a1,a2']
theorem W9 (x:Gh) (t:Nat) (c c':Cl):withC (withC x t c) t c'=withC x t c':=by
 unfold withC;simp [List.set_set]
theorem za (L:GL) (t:Nat) (p p':Nat×Sl3×Sl3×Sl3):(L.setcl t p).setcl t p'=L.setcl t p':=by
 unfold GL.setcl;simp [List.set_set]
theorem zci (hE:Env T tx m Tb) (hP:PE T 58 kt e) (hTI:T.I=3) (k:Nat) (h:Rep T tx m H L x) (hb:Tb H) (hm:m≤H.next) (hI:MJ x.g) (hX:MX x.g) (hS:Small x.g) {a b:Nat} (ha:a<x.g.n) (hbn:b<x.g.n) (hne:x.g.o a≠x.g.o b) :
  ∃H' L' z,U3 (LCo k) m H (GL.p L) ((x.g.o a:Nat):Int) ((x.g.o b:Nat):Int)=some (z,H')∧Rep T tx m H' L' ⟨(joinSt x.g (x.g.o a) (x.g.o b) x.g.fo).1,x.ids,x.sd,x.fe⟩∧SlA EQ 122 m H' ((joinSt x.g (x.g.o a) (x.g.o b) x.g.fo).2.map qe) z ∧
   (∀id,fpt z id→H.next≤id)∧(∀c id,L'.fp c id→¬fpt z id)∧Tb H'∧m≤H'.next∧Fm (Wc L H.next) H H'∧L'.q=L.q∧(∀c id,L'.fp c id→L.fp c id∨H.next≤id):=by
 have hg:=GI.of hI hS;generalize hs:x.g.o a=s at hne;generalize ht:x.g.o b=t at hne;have hsl:s<x.g.cls.length:=by rw [← hs]; exact hI.cl a ha
 have htl:t<x.g.cls.length:=by rw [← ht]; exact hI.cl b hbn
 obtain ⟨p3,ps,hps,c1,c2⟩:=h.cls_ hsl (v:=(s:Int)) rfl;obtain ⟨p6,pt,hpt,c3,c4⟩:=h.cls_ htl (v:=(t:Int)) rfl;have uS:=hI.uses a ha; rw [hs] at uS;have mS:=hI.mem a ha; rw [hs] at mS;have vS:=hI.vals a ha; rw [hs] at vS;have mT:=hI.mem b hbn; rw [ht] at mT;have vT:=hI.vals b hbn; rw [ht] at vT;have ulS:=hX.ulen a ha; rw [hs] at ulS;have ulT:=hX.ulen b hbn; rw [ht] at ulT;have ndS:=hX.mnd a ha; rw [hs] at ndS;have ndT:=hX.mnd b hbn; rw [ht] at ndT;have vnS:=hI.vnd a ha; rw [hs] at vnS;have vnT:=hI.vnd b hbn; rw [ht] at vnT;have hn:=hS.n;have htot:=hS.tot;have hcnt:=zg7 (g:=x.g) hne;have hmS:(x.g.c s).mem.length≤1048576:=Nat.le_trans (l8 x.g.n _ ndS fun y hy=>((mS y).1 hy).1) hn;have hmT:(x.g.c t).mem.length≤1048576:=Nat.le_trans (l8 x.g.n _ ndT fun y hy=>((mT y).1 hy).1) hn;have hvS:(x.g.c s).vals.length≤1048576:=Nat.le_trans (l8 x.g.n _ vnS fun y hy=>((vS y).1 hy).1) hn;have hvT:(x.g.c t).vals.length≤1048576:=Nat.le_trans (l8 x.g.n _ vnT fun y hy=>((vT y).1 hy).1) hn;have hus:∀u∈(x.g.c s).uses,u<x.g.n:=fun u hu=>let ⟨y,hy,_⟩:=(uS u).1 hu; (List.getElem?_eq_some_iff.1 hy).1
 have hlowL:∀c id,L.fp c id→id<H.next:=fun c id hid=>(h.low hid).2;have h0:Rep T tx m H L (withS x (delS x.g ((x.g.c s).uses.take 0))):=by rw [zdr]; exact h
 have hu0:SlA EI 3 m H (x.g.c s).uses ps.2.1:=by rw [← hTI]; exact h.hold (.us s) ps hps
 have dUm:∀id,fpt ps.2.1 id→id≠L.ms:=fun id hid e=>by have:=h.disj (.us s) .ms id ⟨ps,hps,hid⟩ e; cases this
 obtain ⟨H1,l1,l2,l3,l4,l5⟩:=zb9 hE hP hTI k hg (s9:=ps.2.1) (by omega) hus (t:Int) (some ⟨pt.1,0,none⟩) ⟨ps.1,0,none⟩ H.next (x.g.c s).uses.length 0 H (by omega) h0 hu0 dUm hb hm;have hm1:SlA EI 3 m H1 (x.g.c s).mem ps.2.2.1:=by rw [← hTI]; exact l2.hold (.me s) ps hps
 have dMo:∀id,fpt ps.2.2.1 id→¬fpt L.sO id:=fun id hid e=>by have:=h.disj (.me s) .O id ⟨ps,hps,hid⟩ e; cases this
 have h1':Rep T tx m H1 L (withO (withS x (delS x.g (x.g.c s).uses)) (setAll (withS x (delS x.g (x.g.c s).uses)).g.of ((x.g.c s).mem.take 0) t)):=l2;obtain ⟨H2,k1,k2,k3,k4,k5⟩:=zcd hE k (x0:=withS x (delS x.g (x.g.c s).uses)) (s9:=ps.2.2.1) hmS (fun u hu=>by show u<x.g.of.length; rw [hI.len]; exact ((mS u).1 hu).1) t (some ⟨pt.1,0,none⟩) ⟨ps.1,0,none⟩ (x.g.c s).mem.length 0 H1 (by omega) h1' hm1 dMo l3;have hof:setAll (withS x (delS x.g (x.g.c s).uses)).g.of (x.g.c s).mem t=x.g.of.map (re s t):=zdo (g:=x.g) hI.len mS;rw [hof] at k2
 let x2:Gh:=withO (withS x (delS x.g (x.g.c s).uses)) (x.g.of.map (re s t))
 have hu2:SlA EI 3 m H2 (x.g.c s).uses ps.2.1:=by rw [← hTI]; exact k2.hold (.us s) ps hps
 have hn12:H.next≤H1.next:=l5.1;have hn22:H.next≤H2.next:=by rw [k4]; exact hn12
 have ho2:∀i,i<x.g.n→x2.g.o i=re s t (x.g.o i):=fun i hi=>join_o (g:=x.g) (s:=s) (t:=t) (fo:=x.g.fo) hI.len hi;obtain ⟨H3,z,j1,j2,j3,j4,j5,j6,j7,j8,j9⟩:=zb4 hE hP hTI k (x0:=x2) (H0:=H) (by show (x.g.of.map _).length=x.g.n; rw [List.length_map]; exact hI.len) ((hS.s _).o _) (fun i hi=>by
   show x2.g.o i<x.g.cls.length;rw [ho2 i hi];unfold re;split
   ·exact htl
   ·exact hI.cl i hi) hI.args (s9:=ps.2.1) (us:=(x.g.c s).uses) (by omega) hus (some ⟨pt.1,0,none⟩) ⟨ps.1,0,none⟩ (delS x.g (x.g.c s).uses) hlowL (fun id hid=>hlowL (.us s) id ⟨ps,hps,hid⟩) dUm
   (x.g.c s).uses.length 0 H2 Sl3.nil (by omega) k2 hu2 SlA.nil (fun id hid=>absurd hid O1) k3 (by rw [k4]; exact l4) hn22
 have hz3:RdV 1 H3 ps.2.1 (x.g.c s).uses.length ((x.g.c s).uses.flatMap EI.enc):=SlA.rdv j8;have c0:∀(f:Key→Option Nat) (y:Nat),(withS x2 f).g.c y=x.g.c y:=fun _ _=>rfl;obtain ⟨su,H4,q1,q2,q3,q4⟩:=z2k k j2 hTI hpt hz3 (by rw [c0]; omega) j6;have htL:t<L.cl.length:=(List.getElem?_eq_some_iff.1 hpt).1;have hself:∀p,(L.setcl t p).cl[t]? = some p:=fun p=>List.getElem?_set_self htL;have hoth:∀p,(L.setcl t p).cl[s]? = some ps:=fun p=>(List.getElem?_set_ne (fun e=>hne e.symm)).trans hps
 let x3:=withS x2 (insS x2.g.sig (x.g.c s).uses (delS x.g (x.g.c s).uses,[])).1
 have htc:t<x3.g.cls.length:=htl
 let cu:Cl:={ x.g.c t with uses:=(x.g.c t).uses++(x.g.c s).uses }
 have ct4:(withC x3 t cu).g.c t=cu:=by rw [C7 htc,if_pos rfl]
 have cs4:(withC x3 t cu).g.c s=x.g.c s:=by rw [C7 htc,if_neg hne]; rfl
 have hm4:RdV 1 H4 ps.2.2.1 (x.g.c s).mem.length ((x.g.c s).mem.flatMap EI.enc):=by
  have:=(show SlA EI T.I m H4 ((withC x3 t cu).g.c s).mem ps.2.2.1 from q2.hold (.me s) ps (hoth _)).rdv;rw [cs4] at this;exact this
 have hn34:m≤H4.next:=Nat.le_trans j6 q3.1;obtain ⟨sm,H5a,H5,r1,r2,r3,r4,r5⟩:=q2.appM (hself _) hm4 (by show ((withC x3 t cu).g.c t).mem.length+_≤_; rw [ct4]; show (x.g.c t).mem.length+_≤_; omega) hn34;have e5:withC (withC x3 t cu) t { (withC x3 t cu).g.c t with mem:=((withC x3 t cu).g.c t).mem++(x.g.c s).mem }=withC x3 t { cu with mem:=cu.mem++(x.g.c s).mem }:=by rw [W9,ct4]
 have r3:Rep T tx m H5 (L.setcl t (pt.1,su,sm,pt.2.2.2)) (withC x3 t { cu with mem:=cu.mem++(x.g.c s).mem }):=by rw [← e5,← za]; exact r3
 let cm:Cl:={ cu with mem:=cu.mem++(x.g.c s).mem }
 have ct5:(withC x3 t cm).g.c t=cm:=by rw [C7 htc,if_pos rfl]
 have cs5:(withC x3 t cm).g.c s=x.g.c s:=by rw [C7 htc,if_neg hne]; rfl
 have hv5:RdV 1 H5 ps.2.2.2 (x.g.c s).vals.length ((x.g.c s).vals.flatMap EI.enc):=by
  have:=(show SlA EI T.I m H5 ((withC x3 t cm).g.c s).vals ps.2.2.2 from r3.hold (.va s) ps (hoth _)).rdv;rw [cs5] at this;exact this
 have hn45:m≤H5.next:=Nat.le_trans hn34 r4.1;obtain ⟨sv,H6a,H6,t1,t2,t3,t4,t5⟩:=r3.appV (hself _) hv5 (by show ((withC x3 t cm).g.c t).vals.length+_≤_; rw [ct5]; show (x.g.c t).vals.length+_≤_; omega) hn45;have e6:withC (withC x3 t cm) t { (withC x3 t cm).g.c t with vals:=((withC x3 t cm).g.c t).vals++(x.g.c s).vals }=withC x3 t { cm with vals:=cm.vals++(x.g.c s).vals }:=by rw [W9,ct5]
 have t3:Rep T tx m H6 (L.setcl t (pt.1,su,sm,sv)) (withC x3 t { cm with vals:=cm.vals++(x.g.c s).vals }):=by rw [← e6,← za]; exact t3
 let cv:Cl:={ cm with vals:=cm.vals++(x.g.c s).vals }
 have ct6:(withC x3 t cv).g.c t=cv:=by rw [C7 htc,if_pos rfl]
 have cs6:(withC x3 t cv).g.c s=x.g.c s:=by rw [C7 htc,if_neg hne]; rfl
 obtain ⟨H7,w1,w2,w3,w4⟩:=t3.putL (hself _) (min (x.g.c t).low (x.g.c s).low);have e7:withC (withC x3 t cv) t { (withC x3 t cv).g.c t with low:=min (x.g.c t).low (x.g.c s).low }=withC x3 t { cv with low:=min (x.g.c t).low (x.g.c s).low }:=by rw [W9,ct6]
 have w2:Rep T tx m H7 (L.setcl t (pt.1,su,sm,sv)) (withC x3 t { cv with low:=min (x.g.c t).low (x.g.c s).low }):=by rw [← e7,← za]; exact w2
 have zlow:∀id,fpt z id→H.next≤id∧id<H3.next:=fun id hid=>⟨j4 id hid,(SlG.fp j3 hid).2⟩;have oldP:∀id,(id=pt.1∨fpt pt.2.1 id∨fpt pt.2.2.1 id∨fpt pt.2.2.2 id)→id<H.next:=by
  rintro id (e | e | e | e)
  ·exact hlowL (.blk t) id ⟨pt,hpt,e⟩
  ·exact hlowL (.us t) id ⟨pt,hpt,e⟩
  ·exact hlowL (.me t) id ⟨pt,hpt,e⟩
  ·exact hlowL (.va t) id ⟨pt,hpt,e⟩
 have hz7:SlA EQ 122 m H7 ((joinSt x.g s t x.g.fo).2.map qe) z:=by
  have z3:SlA EQ 122 m H3 ((joinSt x.g s t x.g.fo).2.map qe) z:=j3;have z4:=z3.fr q3 fun id hid hw=>by
   have:=zlow id hid;have:=oldP id (hw.elim .inl fun h=>.inr (.inl h));omega
  have z5:=z4.fr r4 fun id hid hw=>by
   have:=zlow id hid;have:=oldP id (hw.elim .inl fun h=>.inr (.inr (.inl h)));omega
  have z6:=z5.fr t4 fun id hid hw=>by
   have:=zlow id hid;have:=oldP id (hw.elim .inl fun h=>.inr (.inr (.inr h)));omega
  exact z6.fr w3 fun id hid hw=>by
   have:=zlow id hid;have:=oldP id (.inl hw);omega
 have hfin:withC x3 t { cv with low:=min (x.g.c t).low (x.g.c s).low }=⟨(joinSt x.g s t x.g.fo).1,x.ids,x.sd,x.fe⟩:=rfl;rw [hfin] at w2;have fresh:∀c id,(L.setcl t (pt.1,su,sm,sv)).fp c id→L.fp c id∨H3.next≤id:=by
  intro c id hid;have h34:=q3.1;have h45:=r4.1;cases c with
  | blk k0 =>
   obtain ⟨p0,hp0,e0⟩:=hid;by_cases hk:k0=t
   ·subst hk; rw [hself] at hp0; cases hp0; exact .inl ⟨pt,hpt,e0⟩
   ·exact .inl ⟨p0,(List.getElem?_set_ne (fun e=>hk e.symm)).symm.trans hp0,e0⟩
  | us k0 =>
   obtain ⟨p0,hp0,e0⟩:=hid;by_cases hk:k0=t
   ·subst hk; rw [hself] at hp0; cases hp0;exact (q4 id e0).imp (fun e=>⟨pt,hpt,e⟩) fun e=>e
   ·exact .inl ⟨p0,(List.getElem?_set_ne (fun e=>hk e.symm)).symm.trans hp0,e0⟩
  | me k0 =>
   obtain ⟨p0,hp0,e0⟩:=hid;by_cases hk:k0=t
   ·subst hk; rw [hself] at hp0; cases hp0;exact (r5 id e0).imp (fun e=>⟨pt,hpt,e⟩) fun e=>by omega
   ·exact .inl ⟨p0,(List.getElem?_set_ne (fun e=>hk e.symm)).symm.trans hp0,e0⟩
  | va k0 =>
   obtain ⟨p0,hp0,e0⟩:=hid;by_cases hk:k0=t
   ·subst hk; rw [hself] at hp0; cases hp0;exact (t5 id e0).imp (fun e=>⟨pt,hpt,e⟩) fun e=>by omega
   ·exact .inl ⟨p0,(List.getElem?_set_ne (fun e=>hk e.symm)).symm.trans hp0,e0⟩
  | _=>exact .inl hid
 have lowm:∀id,(id=pt.1∨fpt pt.2.1 id∨fpt pt.2.2.1 id∨fpt pt.2.2.2 id)→m≤id∧∃c,L.fp c id:=by
  rintro id (e | e | e | e)
  ·exact ⟨(h.low (c:=.blk t) ⟨pt,hpt,e⟩).1,.blk t,pt,hpt,e⟩
  ·exact ⟨(h.low (c:=.us t) ⟨pt,hpt,e⟩).1,.us t,pt,hpt,e⟩
  ·exact ⟨(h.low (c:=.me t) ⟨pt,hpt,e⟩).1,.me t,pt,hpt,e⟩
  ·exact ⟨(h.low (c:=.va t) ⟨pt,hpt,e⟩).1,.va t,pt,hpt,e⟩
 have f34:Fm (Wc L H.next) H3 H4:=q3.weak fun id _ hid _=>(lowm id (hid.elim .inl fun h=>.inr (.inl h))).2;have f45:Fm (Wc L H.next) H4 H5:=r4.weak fun id _ hid _=>(lowm id (hid.elim .inl fun h=>.inr (.inr (.inl h)))).2;have f56:Fm (Wc L H.next) H5 H6:=t4.weak fun id _ hid _=>(lowm id (hid.elim .inl fun h=>.inr (.inr (.inr h)))).2;have f67:Fm (Wc L H.next) H6 H7:=w3.weak fun id _ hid _=>(lowm id (.inl hid)).2;have b4:=hE.tb j5 q3 fun id hid=>(lowm id (hid.elim .inl fun h=>.inr (.inl h))).1;have b5:=hE.tb b4 r4 fun id hid=>(lowm id (hid.elim .inl fun h=>.inr (.inr (.inl h)))).1;have b6:=hE.tb b5 t4 fun id hid=>(lowm id (hid.elim .inl fun h=>.inr (.inr (.inr h)))).1;have b7:=hE.tb b6 w3 fun id hid=>(lowm id (.inl hid)).1;refine ⟨H7,L.setcl t (pt.1,su,sm,sv),z,?_,w2,hz7,j4,fun c id hid hz=>?_,?_,?_,?_,rfl,fun c id hid=>?_⟩
 ·unfold U3;simp only [GL.p,Option.bind_some];rw [h.q (j:=5) (v:=L.sC.v) rfl];simp only [show deSl (Sl3.v L.sC)=some L.sC from rfl,Option.bind_some,c1,c2,c3,c4,add_zero];have ru:rd deSl H (⟨ps.1,0,none⟩:Addr)=some ps.2.1:=by
   have:=readC h hps (j:=0) (v:=ps.2.1.v) rfl deSl;rw [add_zero] at this;exact this
  rw [ru];simp only [Option.bind_some];show Option.bind (loopO (V1 (LCo k) m (t:Int) ⟨L.q,0,none⟩ (some ⟨pt.1,0,none⟩) ⟨ps.1,0,none⟩ ps.2.1) (H,((0:Nat):Int))) _=_;rw [l1];simp only [Option.bind_some];rw [readC l2 hps (j:=1) (v:=ps.2.2.1.v) rfl deSl];simp only [show deSl (Sl3.v ps.2.2.1)=some ps.2.2.1 from rfl,Option.bind_some];show Option.bind (loopO (E2 (LCo k) m (t:Int) ⟨L.q,0,none⟩ (some ⟨pt.1,0,none⟩) ⟨ps.1,0,none⟩ ps.2.2.1) (H1,((0:Nat):Int))) _=_;rw [k1];simp only [Option.bind_some];have ru2:rd deSl H2 (⟨ps.1,0,none⟩:Addr)=some ps.2.1:=by
   have:=readC k2 hps (j:=0) (v:=ps.2.1.v) rfl deSl;rw [add_zero] at this;exact this
  rw [ru2];simp only [Option.bind_some];show Option.bind (loopO (U1 (LCo k) m ⟨L.q,0,none⟩ (some ⟨pt.1,0,none⟩) ⟨ps.1,0,none⟩ ps.2.1) (H2,Sl3.nil,((0:Nat):Int))) _=_;rw [j1];simp only [Option.bind_some];have ru3:rd deSl H3 (⟨ps.1,0,none⟩:Addr)=some ps.2.1:=by
   have:=readC j2 hps (j:=0) (v:=ps.2.1.v) rfl deSl;rw [add_zero] at this;exact this
  rw [ru3];simp only [Option.bind_some];have q1':S3 (LCo k) m H3 (some ⟨pt.1,0,none⟩) ps.2.1=some H4:=by rw [add_zero] at q1; exact q1
  rw [q1'];simp only [Option.bind_some];rw [readC q2 (hself _) (j:=1) (v:=pt.2.2.1.v) rfl deSl,readC q2 (hoth _) (j:=1) (v:=ps.2.2.1.v) rfl deSl];simp only [show deSl (Sl3.v pt.2.2.1)=some pt.2.2.1 from rfl,show deSl (Sl3.v ps.2.2.1)=some ps.2.2.1 from rfl,Option.bind_some];rw [hTI] at r1 t1;rw [show appS m 3 1 8 H4 pt.2.2.1 ps.2.2.1=some (sm,H5a) from r1];simp only [Option.bind_some];rw [show H5a.setCell m ((⟨pt.1,0,none⟩:Addr).add 1) (Sl3.v sm)=some H5 from r2];simp only [Option.bind_some];rw [readC r3 (hself _) (j:=2) (v:=pt.2.2.2.v) rfl deSl,readC r3 (hoth _) (j:=2) (v:=ps.2.2.2.v) rfl deSl];simp only [show deSl (Sl3.v pt.2.2.2)=some pt.2.2.2 from rfl,show deSl (Sl3.v ps.2.2.2)=some ps.2.2.2 from rfl,Option.bind_some];rw [show appS m 3 1 8 H5 pt.2.2.2 ps.2.2.2=some (sv,H6a) from t1];simp only [Option.bind_some];rw [show H6a.setCell m ((⟨pt.1,0,none⟩:Addr).add 2) (Sl3.v sv)=some H6 from t2];simp only [Option.bind_some];have lt6:rd (deI .i64) H6 ((⟨pt.1,0,none⟩:Addr).add 3)=some ((x.g.c t).low:Int):=by
   rw [readC t3 (hself _) (j:=3) rfl (deI .i64),ct6]; rfl
  have ls6:rd (deI .i64) H6 ((⟨ps.1,0,none⟩:Addr).add 3)=some ((x.g.c s).low:Int):=by
   rw [readC t3 (hoth _) (j:=3) rfl (deI .i64),cs6]; rfl
  rw [lt6,ls6];simp only [Option.bind_some];rw [hP.min];simp only [Option.bind_some];have hmin:min ((x.g.c t).low:Int) ((x.g.c s).low:Int)=((min (x.g.c t).low (x.g.c s).low:Nat):Int):=by omega
  rw [hmin,show H6.setCell m ((⟨pt.1,0,none⟩:Addr).add 3) (.int .i64 ((min (x.g.c t).low (x.g.c s).low:Nat):Int))=some H7 from w1];rfl
 ·have h1:=zlow id hz;rcases fresh c id hid with h2 | h2
  ·have:=hlowL c id h2; omega
  ·omega
 ·exact b7
 ·rw [w4]; exact Nat.le_trans hn45 t4.1
 ·exact fmT l5 (fmT (fmC .O k5 fun id hid=>hid) (fmT j9 (fmT f34 (fmT f45 (fmT f56 f67)))))
 ·rcases fresh c id hid with h2 | h2
  ·exact .inl h2
  ·have:=j7; exact .inr (by omega)
end
end Go.Proofs.YtgkhbmoidenjaaaDoor
namespace Go.Proofs.YtgkhbmoidenjaaaDoor
open Go Go.Abs Go.Abs.Eg
set_option maxRecDepth 100000
abbrev W3:=Nat×Nat×Ed
def qw (w:W3):Q7:=((w.1:Int),(w.2.1:Int),w.2.2.1,w.2.2.2.1,w.2.2.2.2.1,w.2.2.2.2.2.1,w.2.2.2.2.2.2)
def prs (ql:List W3):List (Nat×Nat):=ql.map fun w=>(w.1,w.2.1)
def cw (p:Nat×Nat):W3:=(p.1,p.2,0,0,(p.1:Int),(p.2:Int),true)
theorem qe_cw (l:List (Nat×Nat)):l.map qe=(l.map cw).map qw:=by
 rw [List.map_map];rfl
theorem prs_cw (l:List (Nat×Nat)):prs (l.map cw)=l:=by
 unfold prs;rw [List.map_map];exact List.map_id' l
section
variable {T:Tys} {tx:Key→ByteArray} {m:Nat} {H:AH} {L:GL} {x:Gh} {Tb:AH→Prop} {kt e:TypeId}
theorem Small.join {g:St} (h:Small g) (s t:Nat) (fo:List Int):Small (joinSt g s t fo).1 :=
 ⟨h.n,h.tot,h.args,h.sym,by show (g.cls.set t _).length≤_; rw [List.length_set]; exact h.cls⟩
theorem zgc (g:St) (s t:Nat) (fo:List Int):(joinSt g s t fo).2.length≤(g.c s).uses.length:=by
 have:=z5d (⟨g.N,g.of.map (re s t),g.cls,g.sigs,fo⟩:St).sig (g.c s).uses (delS g (g.c s).uses,[]);simp only [List.length_nil,Nat.zero_add] at this;exact this
structure MS (T:Tys) (tx:Key→ByteArray) (m:Nat) (Tb:AH→Prop) (M:List (Nat×Nat)) (n0:Nat) (H:AH) (L:GL) (x:Gh) (ql:List W3) (v:Sl3):Prop where
 rep:Rep T tx m H L x
 tb:Tb H
 mi:MI x.g M (prs ql)
 mx:MX x.g
 sm:Small x.g
 sl:VecA EQ 122 m H (ql.map qw) v∨∃w,ql=[w]∧SlA EQ 122 m H [qw w] v
 dj:∀c id,L.fp c id→¬fpt v id
 fr:∀id,fpt v id→n0≤id
 nm:m≤H.next
 nn:n0≤H.next
 bd:ql.length+live x.g*1048576≤1099512676353
 li:LI x.g.N x.sd x.fe x.g.n x.g.o
 lq:∀w∈ql,LOK x.g.N x.sd (US x.fe) w.1 w.2.1 w.2.2.2
structure MR (T:Tys) (tx:Key→ByteArray) (m:Nat) (Tb:AH→Prop) (M:List (Nat×Nat)) (n0:Nat) (H:AH) (L:GL) (x:Gh) (H':AH) (L':GL) (x':Gh):Prop where
 rep:Rep T tx m H' L' x'
 tb:Tb H'
 mi:MI x'.g M []
 mx:MX x'.g
 sm:Small x'.g
 nm:m≤H'.next
 N:x'.g.N=x.g.N
 ids:x'.ids=x.ids
 sd:x'.sd=x.sd
 q:L'.q=L.q
 cll:x'.g.cls.length=x.g.cls.length
 fm:Fm (Wc L n0) H H'
 fp:∀c id,L'.fp c id→L.fp c id∨n0≤id
 li:LI x'.g.N x'.sd x'.fe x'.g.n x'.g.o
theorem zg9 {L L':GL} {n0:Nat} (h:∀c id,L'.fp c id→L.fp c id∨n0≤id) {id:Nat} (hw:Wc L' n0 id):Wc L n0 id:=by
 intro hlt;obtain ⟨c,hc⟩:=hw hlt;rcases h c id hc with h | h
 ·exact ⟨c,h⟩
 ·omega
theorem zbf (hE:Env T tx m Tb) (hP:PE T 58 kt e) (hTI:T.I=3) (k:Nat) {M:List (Nat×Nat)} {n0:Nat} (y0 y1:Int) (y2 y3:Int) (y4:Bool):∀(lv:Nat) (ql:List W3) (H:AH) (L:GL) (x:Gh) (v:Sl3),live x.g≤lv→MS T tx m Tb M n0 H L x ql v →
  ∃H' L' x' z,loopO (M1 (LCo k) m (GL.p L) y0 y1 y2 y3 y4) (H,v)=some (.inl (H',z))∧MR T tx m Tb M n0 H L x H' L' x':=by
 intro lv;induction lv using Nat.strongRecOn with
 | ind lv ihl =>
 intro ql;induction ql with
 | nil =>
  intro H L x v hlv h;have hv:v.n=0:=by
   rcases h.sl with h | ⟨w,h,_⟩
   ·exact h.n
   ·cases h
  refine ⟨H,L,x,v,D4 ?_,h.rep,h.tb,h.mi,h.mx,h.sm,h.nm,rfl,rfl,rfl,rfl,rfl,Fm.refl _ _,fun c id h=>.inl h,h.li⟩;unfold M1;simp only [hv,if_neg (show ¬(((0:Nat):Int) > 0) by omega)]
 | cons w ql ihq =>
  intro H L x v hlv h;have hql:(w :: ql).length<OPEN:=by have:=h.bd; unfold OPEN; omega
  have hsl:SlA EQ 122 m H ((w :: ql).map qw) v:=by
   rcases h.sl with h | ⟨w',h,h'⟩
   ·exact h.toS
   ·cases h; exact h'
  have hcnt:v.n=ql.length+1:=by rw [hsl.cnt,List.length_map]; rfl
  obtain ⟨p5,r0,r1,r2,r3,r4,r5,r6,r7⟩:=rd_EQ hsl (i:=0) (by simp) (v:=0) rfl;have hw0:((w :: ql).map qw)[0]'(by simp)=qw w:=rfl;rw [hw0] at r1 r2 r3 r4 r5 r6 r7;obtain ⟨s7,t1,t2,t3⟩:=zf3 (x:=qw w) (l:=ql.map qw) (s:=v) (by
   rcases h.sl with h | ⟨w',h,h'⟩
   ·exact .inl h
   ·cases h; exact .inr ⟨rfl,h'⟩) (by rw [List.length_map]; simp only [List.length_cons] at hql; omega)
  obtain ⟨wan,wbn,wc⟩:=h.mi.qd w.1 w.2.1 (by simp [prs]);obtain ⟨q1,a1,a2⟩:=h.rep.of_ (i:=w.1) (by rw [h.mi.len]; exact wan) (v:=(w.1:Int)) rfl;obtain ⟨q2,a3,a4⟩:=h.rep.of_ (i:=w.2.1) (by rw [h.mi.len]; exact wbn) (v:=(w.2.1:Int)) rfl;have hd7:∀c id,L.fp c id→¬fpt s7 id:=fun c id hc hf=>h.dj c id hc (t3 id hf);by_cases heq:x.g.o w.1=x.g.o w.2.1
  ·
   have hb0:M1 (LCo k) m (GL.p L) y0 y1 y2 y3 y4 (H,v)=some (.next (H,s7)):=by
    unfold M1;simp only [hcnt,if_pos (show ((ql.length+1:Nat):Int) > 0 by omega),r0,r1,r2,r3,r4,r5,r6,r7,Option.bind_some,GL.p];rw [show slc 7 H v (some 1) none none=some s7 from t1];simp only [Option.bind_some];rw [h.rep.q (j:=4) (v:=L.sO.v) rfl];simp only [show deSl (Sl3.v L.sO)=some L.sO from rfl,Option.bind_some];have a1':idxA 1 L.sO (qw w).1=some q1:=a1;have a3':idxA 1 L.sO (qw w).2.1=some q2:=a3;rw [a1',a3'];simp only [Option.bind_some,a2,a4];rw [if_pos (by rw [heq])]
   obtain ⟨H',L',x',z,z1,z2⟩:=ihq H L x s7 hlv ⟨h.rep,h.tb,h.mi.drop heq,h.mx,h.sm,.inl t2,hd7,fun id hid=>h.fr id (t3 id hid),h.nm,h.nn,by have:=h.bd; simp only [List.length_cons] at this; omega,h.li,fun w' hw'=>h.lq w' (List.mem_cons_of_mem _ hw')⟩;exact ⟨H',L',x',z,by rw [V2 hb0]; exact z1,z2⟩
  ·
   have hol:=h.mi.cl;obtain ⟨c1,pa,hpa,b1,b2⟩:=h.rep.cls_ (hol w.1 wan) (v:=((x.g.o w.1:Nat):Int)) rfl;obtain ⟨c2,pb,hpb,b3,b4⟩:=h.rep.cls_ (hol w.2.1 wbn) (v:=((x.g.o w.2.1:Nat):Int)) rfl;have key:∀(a b:Nat),((a=w.1∧b=w.2.1)∨(a=w.2.1∧b=w.1)) →
     (∀(F:Int×Int×Int×Int×Int×Int×Int×Int×Bool→Option (Lp (AH×Sl3) AH)),Option.bind (α:=(Int×Int×Int×Int×Int×Int×Int×Int×Bool)) (if (pa.2.2.1.n:Int) > (pb.2.2.1.n:Int) then some (((x.g.o w.2.1:Nat):Int),((x.g.o w.1:Nat):Int),(qw w).2.1,(qw w).1,(qw w).2.2.1,(qw w).2.2.2.1,(qw w).2.2.2.2.1,(qw w).2.2.2.2.2.1,(qw w).2.2.2.2.2.2)
      else some (((x.g.o w.1:Nat):Int),((x.g.o w.2.1:Nat):Int),(qw w).1,(qw w).2.1,(qw w).2.2.1,(qw w).2.2.2.1,(qw w).2.2.2.2.1,(qw w).2.2.2.2.2.1,(qw w).2.2.2.2.2.2)) F=F (((x.g.o a:Nat):Int),((x.g.o b:Nat):Int),(a:Int),(b:Int),(qw w).2.2.1,(qw w).2.2.2.1,(qw w).2.2.2.2.1,(qw w).2.2.2.2.2.1,(qw w).2.2.2.2.2.2)) →
     ∃H' L' x' z,loopO (M1 (LCo k) m (GL.p L) y0 y1 y2 y3 y4) (H,v)=some (.inl (H',z))∧MR T tx m Tb M n0 H L x H' L' x':=by
    intro a b hab hsel;have han:a<x.g.n:=by rcases hab with ⟨e1,e2⟩ | ⟨e1,e2⟩ <;> rw [e1] <;> assumption
    have hbn:b<x.g.n:=by rcases hab with ⟨e1,e2⟩ | ⟨e1,e2⟩ <;> rw [e2] <;> assumption
    have hne:x.g.o a≠x.g.o b:=by
     rcases hab with ⟨e1,e2⟩ | ⟨e1,e2⟩
     ·rw [e1,e2]; exact heq
     ·rw [e1,e2]; exact fun e=>heq e.symm
    have hpp:((w.1,w.2.1):Nat×Nat)=(a,b)∨((w.1,w.2.1):Nat×Nat)=(b,a):=by
     rcases hab with ⟨e1,e2⟩ | ⟨e1,e2⟩
     ·exact .inl (by rw [e1,e2])
     ·exact .inr (by rw [e1,e2])
    obtain ⟨H1,fe1,d1,d2,d3,d4,d5,d6,d7,d8,l0,d9⟩:=z9i hE k h.rep h.tb h.mi h.sm han (v:=(a:Int)) rfl;have hfel:x.fe.length=x.g.n:=by rw [← h.mi.flen,← h.rep.fel,List.length_map]
    obtain ⟨p36,H2,f1,f2,f3,f4,f5,f6⟩:=setF hE d2 d4 (i:=a) (by show a<fe1.length; omega) ((b:Int),(qw w).2.2.2.1,(qw w).2.2.2.2.1,(qw w).2.2.2.2.2.1,(qw w).2.2.2.2.2.2) (v:=(a:Int)) rfl
    let fe2:List Ed:=fe1.set a ((b:Int),(qw w).2.2.2.1,(qw w).2.2.2.2.1,(qw w).2.2.2.2.2.1,(qw w).2.2.2.2.2.2)
    have hfo2:fe2.map (·.1)=(fe1.map (·.1)).set a (b:Int):=by show (fe1.set a _).map (·.1)=_; rw [List.map_set]
    have f3:Rep T tx m H2 L (withF x fe2):=f3;obtain ⟨g1,g2,g3⟩:=d3.link han hbn hne;rw [← hfo2] at g1 g2 g3;have hm2:m≤H2.next:=by rw [f5,d5]; exact h.nm
    obtain ⟨H3,L3,z3,j1,j2,j3,j4,j5,j6,j7,j8,j9,j10⟩:=zci hE hP hTI k f3 f4 hm2 (h.mi.toJ.f _) (h.mx.f _) (show Small (withF x fe2).g from ⟨h.sm.n,h.sm.tot,h.sm.args,h.sm.sym,h.sm.cls⟩) (a:=a) (b:=b) han hbn hne;have hn2:H2.next=H.next:=by rw [f5,d5]
    rw [hn2] at j4 j8 j10
    let x3:Gh:=⟨(joinSt x.g (x.g.o a) (x.g.o b) (fe2.map (·.1))).1,x.ids,x.sd,fe2⟩
    have j2:Rep T tx m H3 L3 x3:=j2;have j3:SlA EQ 122 m H3 ((joinSt x.g (x.g.o a) (x.g.o b) (fe2.map (·.1))).2.map qe) z3:=j3;have mi3:MI x3.g M (prs ql++(joinSt x.g (x.g.o a) (x.g.o b) (fe2.map (·.1))).2):=h.mi.join (p:=(w.1,w.2.1)) hpp rfl rfl hne g1 g2 g3;have hlab:LOK x.g.N x.sd (US x.fe) a b w.2.2.2:=by
     have h0:=h.lq w List.mem_cons_self;rcases hab with ⟨e1,e2⟩ | ⟨e1,e2⟩
     ·rw [e1,e2]; exact h0
     ·rw [e1,e2]; exact h0.symm
    have up1:∀i j l,US x.fe i j l→US fe1 i j l:=fun i j l hu=>(d8 i j l).2 hu;have hafe:a<fe1.length:=by omega
    have li3:LI x3.g.N x3.sd x3.fe x3.g.n x3.g.o:=(h.li.us up1).join han hbn d9 hafe (hlab.mono (fun _ _ h=>h) (fun _ h=>h) up1) fun i hi=>join_o h.mi.len hi;have up2:∀i j l,US x.fe i j l→US x3.fe i j l:=fun i j l hu=>US.set d9 hafe (up1 i j l hu);have lout:∀p∈(joinSt x.g (x.g.o a) (x.g.o b) (fe2.map (·.1))).2,LOK x3.g.N x3.sd (US x3.fe) (cw p).1 (cw p).2.1 (cw p).2.2.2:=fun p hp=>by
     obtain ⟨o1,o2,o3⟩:=zff h.mi han rfl p.1 p.2 hp;exact zap (g:=x3.g) h.mi.args li3 o1 o2 o3 0
    have mx3:MX x3.g:=MX.join (p:=(w.1,w.2.1)) h.mi h.mx ⟨han,hbn⟩ rfl rfl hne;have sm3:Small x3.g:=h.sm.join _ _ _;have ofm:∀i,i<x.g.n→x.g.o i∈x.g.of:=fun i hi=>by
     have hl:i<x.g.of.length:=by rw [h.mi.len]; exact hi
     have:x.g.o i=x.g.of[i]:=by
      unfold St.o;rw [List.getD_eq_getElem?_getD,List.getElem?_eq_getElem hl]; rfl
     rw [this]; exact List.getElem_mem _
    have lv3:live x3.g+1≤live x.g:=zd5 hne (ofm a han) (ofm b hbn) (hol a han);have out3:(joinSt x.g (x.g.o a) (x.g.o b) (fe2.map (·.1))).2.length≤1048576:=by
     have h1:=zgc x.g (x.g.o a) (x.g.o b) (fe2.map (·.1));have h2:=h.mx.ulen a han;have h3:=cnt_le (g:=x.g) (x.g.o a);have h4:=h.sm.tot;omega
    generalize hout:(joinSt x.g (x.g.o a) (x.g.o b) (fe2.map (·.1))).2=out at j3 mi3 out3 lout;have fmA:Fm (Wc L H.next) H H3:=fmT (fmC .F d7 fun id hid=>hid) (fmT (fmC .F f6 fun id hid=>hid) j8);have t2':VecA EQ 122 m H3 (ql.map qw) s7:=VecV.fr t2 fmA fun id hid hw=>by
     have hid':=m7 hid;have hlt:id<H.next:=(SlG.fp (VecA.toS t2) hid').2;obtain ⟨c,hc⟩:=hw hlt;exact hd7 c id hc hid'
    have hbd:=h.bd;simp only [List.length_cons] at hbd;have hl3:ql.length+out.length+live x3.g*1048576≤1099512676353:=by
     have:(live x3.g+1)*1048576≤live x.g*1048576:=Nat.mul_le_mul_right _ lv3;rw [Nat.add_mul] at this;omega
    obtain ⟨s40,H4,k1,k2,k3⟩:=VecA.app (bytes:=56) (l':=(out.map cw).map qw) t2' (by
     have:=j3.rdv;rw [qe_cw] at this;exact this) (by simp only [List.length_map]; omega) (by simp only [List.length_map]; omega) j7
    have own7:∀id,owns s7 id→n0≤id∧id<H.next∧m≤id:=fun id hid=>by
     have hid':=m7 hid;have:=SlG.fp (VecA.toS t2) hid';exact ⟨h.fr id (t3 id hid'),this.2,this.1⟩
    have hHn:H.next≤H3.next:=fmA.1;have rep4:Rep T tx m H4 L3 x3:=j2.other k3.fm fun c id hc ho=>by
     have h1:=own7 id ho;rcases j10 c id hc with h2 | h2
     ·exact hd7 c id h2 (m7 ho)
     ·omega
    have sl4:VecA EQ 122 m H4 ((ql++out.map cw).map qw) s40:=by rw [List.map_append]; exact k2
    have f40:∀id,fpt s40 id→(owns s7 id)∨H3.next≤id:=fun id hid=>by
     have hv:=sl4;unfold VecA at hv;generalize (ql++out.map cw).map qw=ll at hv;cases hv with
     | nil hn hv=>exact absurd hid O1
     | zero a ha hn hv=>exact absurd rfl hid.1
     | opn id' off cs hm hid' hg hl ho hx=>exact k3.ow id ⟨rfl,hid.2⟩
    have ms4:MS T tx m Tb M n0 H4 L3 x3 (ql++out.map cw) s40:=by
     refine ⟨rep4,hE.tb j6 k3.fm fun id hid=>(own7 id hid).2.2,?_,mx3,sm3,.inl sl4,fun c id hc hf=>?_,fun id hid=>?_,Nat.le_trans j7 k3.fm.1,Nat.le_trans h.nn (Nat.le_trans hHn k3.fm.1),?_,li3,fun w' hw'=>?_⟩
     ·have:prs (ql++out.map cw)=prs ql++out:=by
       unfold prs;rw [List.map_append]
       congr 1
       exact prs_cw out
      rw [this];exact mi3
     ·rcases f40 id hf with h1 | h1
      ·have h2:=own7 id h1;rcases j10 c id hc with h3 | h3
       ·exact hd7 c id h3 (m7 h1)
       ·omega
      ·have:=(j2.low hc).2; omega
     ·rcases f40 id hid with h1 | h1
      ·exact (own7 id h1).1
      ·have:=h.nn; omega
     ·simp only [List.length_append,List.length_map]; omega
     ·rcases List.mem_append.1 hw' with hw' | hw'
      ·exact (h.lq w' (List.mem_cons_of_mem _ hw')).mono (fun _ _ h=>h) (fun _ h=>h) up2
      ·obtain ⟨p,hp,rfl⟩:=List.mem_map.1 hw';exact lout p hp
    obtain ⟨H',L',x',z,y1',y2'⟩:=ihl (live x3.g) (by omega) (ql++out.map cw) H4 L3 x3 s40 (Nat.le_refl _) ms4;have hfp:∀c id,L3.fp c id→L.fp c id∨n0≤id:=fun c id hc=>(j10 c id hc).imp (fun h=>h) fun h1=>Nat.le_trans h.nn h1;have wcn:∀id,Wc L H.next id→Wc L n0 id:=fun id hw hlt=>hw (by have:=h.nn; omega);have hb0:M1 (LCo k) m (GL.p L) y0 y1 y2 y3 y4 (H,v)=some (.next (H4,s40)):=by
     unfold M1;simp only [hcnt,if_pos (show ((ql.length+1:Nat):Int) > 0 by omega),r0,r1,r2,r3,r4,r5,r6,r7,Option.bind_some,GL.p];rw [show slc 7 H v (some 1) none none=some s7 from t1];simp only [Option.bind_some];rw [h.rep.q (j:=4) (v:=L.sO.v) rfl];simp only [show deSl (Sl3.v L.sO)=some L.sO from rfl,Option.bind_some];have a1':idxA 1 L.sO (qw w).1=some q1:=a1;have a3':idxA 1 L.sO (qw w).2.1=some q2:=a3;rw [a1',a3'];simp only [Option.bind_some,a2,a4];rw [if_neg (show ¬(((x.g.o w.1:Nat):Int)=((x.g.o w.2.1:Nat):Int)) by omega)];rw [h.rep.q (j:=5) (v:=L.sC.v) rfl];simp only [show deSl (Sl3.v L.sC)=some L.sC from rfl,Option.bind_some,b1,b2,b3,b4];rw [readC h.rep hpa (j:=1) (v:=pa.2.2.1.v) rfl deSl,readC h.rep hpb (j:=1) (v:=pb.2.2.1.v) rfl deSl];simp only [show deSl (Sl3.v pa.2.2.1)=some pa.2.2.1 from rfl,show deSl (Sl3.v pb.2.2.1)=some pb.2.2.1 from rfl,Option.bind_some];refine (hsel _).trans ?_;have d1':J3 (LCo k) m H (some ⟨L.q,0,none⟩) (a:Int)=some H1:=d1;simp only [d1',Option.bind_some];rw [d2.q (j:=6) (v:=L.sF.v) rfl];simp only [show deSl (Sl3.v L.sF)=some L.sF from rfl,Option.bind_some,f1,f2];have j1':U3 (LCo k) m H2 (some ⟨L.q,0,none⟩) ((x.g.o a:Nat):Int) ((x.g.o b:Nat):Int)=some (z3,H3):=j1;rw [j1'];simp only [Option.bind_some];have k1':appS m 122 7 56 H3 s7 z3=some (s40,H4):=k1;rw [k1'];rfl
    have hp3:GL.p L3=GL.p L:=by unfold GL.p; rw [j9]
    rw [hp3] at y1';refine ⟨H',L',x',z,by rw [V2 hb0]; exact y1',y2'.rep,y2'.tb,y2'.mi,y2'.mx,y2'.sm,y2'.nm,y2'.N,y2'.ids,y2'.sd,y2'.q.trans j9,y2'.cll.trans (by show (x.g.cls.set _ _).length=_; rw [List.length_set]),?_,fun c id hc=>?_,y2'.li⟩
    ·refine (fmA.weak fun id _ hw=>wcn id hw).comp ((fmN (L:=L) (n0:=n0) k3.fm fun id hid=>(own7 id hid).1).comp (y2'.fm.weak fun id _ hw=>zg9 hfp hw) fun _ _ h=>h) fun _ _ h=>h
    ·rcases y2'.fp c id hc with h1 | h1
     ·exact hfp c id h1
     ·exact .inr h1
   by_cases hgt:(pa.2.2.1.n:Int) > (pb.2.2.1.n:Int)
   ·exact key w.2.1 w.1 (.inr ⟨rfl,rfl⟩) fun F=>by rw [if_pos hgt]; rfl
   ·exact key w.1 w.2.1 (.inl ⟨rfl,rfl⟩) fun F=>by rw [if_neg hgt]; rfl
end
end Go.Proofs.YtgkhbmoidenjaaaDoor
namespace Go.Proofs.YtgkhbmoidenjaaaDoor
open Go Go.Abs Go.Abs.Eg
set_option maxRecDepth 100000
section
variable {T:Tys} {tx:Key→ByteArray} {m:Nat} {H:AH} {L:GL} {x:Gh} {Tb:AH→Prop} {kt e:TypeId}
theorem z5i (hE:Env T tx m Tb) (hP:PE T 58 kt e) (hTI:T.I=3) (k:Nat) (h:Rep T tx m H L x) (hb:Tb H) {M:List (Nat×Nat)} {a b:Nat} (hI:MI x.g M [(a,b)]) (hX:MX x.g) (hS:Small x.g) (hm:m≤H.next)
  (e1 e2 e3 e4:Int) (e5:Bool) {v w:Int} (hv:v=a) (hw:w=b) (hli:LI x.g.N x.sd x.fe x.g.n x.g.o) (hlk:LOK x.g.N x.sd (US x.fe) a b (e2,e3,e4,e5)) :
  ∃H' L' x',W1 (LCo k) m H (GL.p L) v w e1 e2 e3 e4 e5=some H'∧MR T tx m Tb M H.next H L x H' L' x':=by
 subst hv hw;have w0:∃w:W3,w=(a,b,(e1,e2,e3,e4,e5)):=⟨_,rfl⟩;obtain ⟨w0,hw0⟩:=w0;have hx:Ext H (H.push { obj:=.cells (EQ.enc (qw w0)).toArray 122 (0,0),opn:=false,esz:=0,ro:=false }):=Fm.push _ _ _;have hfn:∀id,fpt (⟨some ⟨H.next,0,none⟩,1,1⟩:Sl3) id→id=H.next:=by
  rintro id ⟨_,a,ha,rfl⟩
  cases ha;rfl
 have hlv:=zg5 x.g;have hcl:=hS.cls;obtain ⟨H',L',x',z,a1,a2⟩:=zbf hE hP hTI k (M:=M) (n0:=H.next) e1 e2 e3 e4 e5 (live x.g) [w0] _ L x ⟨some ⟨H.next,0,none⟩,1,1⟩ (Nat.le_refl _)
  ⟨h.ext hx,hE.tbx hb hx,by rw [hw0]; exact hI,hX,hS,.inr ⟨w0,rfl,SlA.row (E:=EQ) (qw w0) hm⟩,fun c id hc hf=>by have:=(h.low hc).2; have:=hfn id hf; omega,fun id hf=>by have:=hfn id hf; omega,Nat.le_trans hm hx.1,hx.1,by simp only [List.length_singleton]; omega,hli,fun w' hw'=>by rw [List.mem_singleton] at hw'; rw [hw',hw0]; exact hlk⟩
 refine ⟨H',L',x',?_,a2.rep,a2.tb,a2.mi,a2.mx,a2.sm,a2.nm,a2.N,a2.ids,a2.sd,a2.q,a2.cll,(fmE hx).comp a2.fm fun _ _ h=>h,a2.fp,a2.li⟩;unfold W1;have hr:newR 122 1 #[(Value.int .i64 (a:Int)),(Value.int .i64 (b:Int)),(Value.int .i64 e1),(Value.int .i64 e2),(Value.int .i64 e3),(Value.int .i64 e4),(Value.bool e5)] H=some (⟨some ⟨H.next,0,none⟩,1,1⟩,H.push { obj:=.cells (EQ.enc (qw w0)).toArray 122 (0,0),opn:=false,esz:=0,ro:=false }):=by rw [hw0]; rfl
 rw [hr];simp only [Option.bind_some];show Option.bind (loopO (M1 (LCo k) m (GL.p L) e1 e2 e3 e4 e5) _) _=_;rw [a1];rfl
theorem fmP {L L1:GL} {n0:Nat} {H H':AH} {W:Nat→Prop} (h:Fm W H H') (hw:∀id,W id→∃c,L1.fp c id) (hfp:∀c id,L1.fp c id→L.fp c id∨n0≤id):Fm (Wc L n0) H H':=h.weak fun id _ hid hlt=>by
 obtain ⟨c,hc⟩:=hw id hid;rcases hfp c id hc with h | h
 ·exact ⟨c,h⟩
 ·omega
theorem zbc (hE:Env T tx m Tb) (hTI:T.I=3) (k:Nat) {x0:Gh} {n:Nat} {aa:List Nat} {sl:Sl3} (hal:aa.length≤64) (hxa:x0.g.args n=aa) (hal2:∀a∈aa,a<x0.g.of.length) (hcl:∀a∈aa,x0.g.o a<x0.g.cls.length)
  (hus:∀a∈aa,(x0.g.c (x0.g.o a)).uses.length≤1048576) (n0:Nat) (L0:GL) (hsl:L0.na[n]? = some sl) :
  ∀(d i:Nat) (H:AH) (L:GL),i+d=aa.length→Rep T tx m H L ⟨{ x0.g with cls:=addU x0.g.o n (aa.take i) x0.g.cls },x0.ids,x0.sd,x0.fe⟩→Tb H→m≤H.next→n0≤H.next→L.na=L0.na→L.q=L0.q→(∀c id,L.fp c id→L0.fp c id∨n0≤id) →
   ∃H' L',loopO (A2 (LCo k) m (n:Int) ⟨L0.q,0,none⟩ sl) (H,(i:Int))=some (.inl (H',(aa.length:Int)))∧Rep T tx m H' L' ⟨{ x0.g with cls:=addU x0.g.o n aa x0.g.cls },x0.ids,x0.sd,x0.fe⟩∧Tb H'∧m≤H'.next∧Fm (Wc L0 n0) H H'∧L'.q=L0.q∧(∀c id,L'.fp c id→L0.fp c id∨n0≤id):=by
 intro d;induction d with
 | zero =>
  intro i H L hi h hb hm hn hna hq hfp;have:i=aa.length:=by omega
  subst this;rw [List.take_length] at h;have hs:SlA EI T.I m H (x0.g.args n) sl:=(h.hold (.na n)) sl (by rw [hna]; exact hsl);rw [hxa] at hs;refine ⟨H,L,D4 ?_,h,hb,hm,Fm.refl _ _,hq,hfp⟩;unfold A2;simp only [hs.cnt,if_neg (show ¬((aa.length:Int)<(aa.length:Int)) by omega)]
 | succ d ih =>
  intro i H L hi h hb hm hn hna hq hfp;have hil:i<aa.length:=by omega
  have hs:SlA EI T.I m H (x0.g.args n) sl:=(h.hold (.na n)) sl (by rw [hna]; exact hsl);rw [hxa] at hs;obtain ⟨p,r1,r2⟩:=rd_EI hs hil (v:=(i:Int)) rfl;have ham:=List.getElem_mem hil;obtain ⟨p2,r3,r4⟩:=h.of_ (i:=aa[i]) (hal2 _ ham) (v:=(aa[i]:Int)) rfl;have r4:rd (deI .i64) H p2=some ((x0.g.o aa[i]:Nat):Int):=r4;have hclt:x0.g.o aa[i]<(addU x0.g.o n (aa.take i) x0.g.cls).length:=by rw [o7]; exact hcl _ ham
  obtain ⟨p3,pp,hpp,r5,r6⟩:=h.cls_ (k:=x0.g.o aa[i]) hclt (v:=((x0.g.o aa[i]:Nat):Int)) rfl;have hx:Ext H (H.push { obj:=.cells (EI.enc n).toArray 3 (0,0),opn:=false,esz:=0,ro:=false }):=Fm.push _ _ _;have hz:=z50 (e:=3) (H:=H) (k:=1) (sz:=EI.sz) (cells:=EI.enc n) (by rw [EI.len]; omega) (EI.one n);have hlen:((addU x0.g.o n (aa.take i) x0.g.cls).getD (x0.g.o aa[i]) Cl.nil).uses.length≤1048640:=by
   rw [z3s _ _ _ _ _ (by have:=hclt; rw [o7] at this; exact this)];have h1:=hus _ ham;have h1:(x0.g.cls.getD (x0.g.o aa[i]) Cl.nil).uses.length≤1048576:=h1;have h2:=List.countP_le_length (p:=fun a=>x0.g.o a == x0.g.o aa[i]) (l:=aa.take i);rw [List.length_take] at h2;omega
  obtain ⟨s',H',b1,b2,b3,b4⟩:=z2k k (h.ext hx) hTI hpp (l':=[n]) (by simpa using (show RdV 1 _ _ 1 (EI.enc n) from hz)) (by
   show ((addU x0.g.o n (aa.take i) x0.g.cls).getD (x0.g.o aa[i]) Cl.nil).uses.length+1≤_;omega) (Nat.le_trans hm hx.1)
  have hself:=hpp;have hxn:H.next≤H'.next:=Nat.le_trans hx.1 b3.1;have hfpS:∀c id,(L.setcl (x0.g.o aa[i]) (pp.1,s',pp.2.2.1,pp.2.2.2)).fp c id→L.fp c id∨H.next≤id:=by
   have get:∀{k:Nat} {p0},(L.setcl (x0.g.o aa[i]) (pp.1,s',pp.2.2.1,pp.2.2.2)).cl[k]? = some p0→L.cl[k]? = some p0∨k=x0.g.o aa[i]∧p0=(pp.1,s',pp.2.2.1,pp.2.2.2):=by
    intro k p0 h0;have h0:(L.cl.set (x0.g.o aa[i]) (pp.1,s',pp.2.2.1,pp.2.2.2))[k]? = some p0:=h0;by_cases hk:x0.g.o aa[i]=k
    ·subst hk;rw [List.getElem?_set_self (List.getElem?_eq_some_iff.1 hpp).1] at h0;cases h0;exact .inr ⟨rfl,rfl⟩
    ·rw [List.getElem?_set_ne hk] at h0;exact .inl h0
   intro c id hid;cases c with
   | blk j =>
    obtain ⟨p0,hp0,e⟩:=hid;rcases get hp0 with hp0 | ⟨rfl,rfl⟩
    ·exact .inl ⟨p0,hp0,e⟩
    ·exact .inl ⟨pp,hpp,e⟩
   | us j =>
    obtain ⟨p0,hp0,e⟩:=hid;rcases get hp0 with hp0 | ⟨rfl,rfl⟩
    ·exact .inl ⟨p0,hp0,e⟩
    ·rcases b4 id e with e | e
     ·exact .inl ⟨pp,hpp,e⟩
     ·exact .inr (Nat.le_trans hx.1 e)
   | me j =>
    obtain ⟨p0,hp0,e⟩:=hid;rcases get hp0 with hp0 | ⟨rfl,rfl⟩
    ·exact .inl ⟨p0,hp0,e⟩
    ·exact .inl ⟨pp,hpp,e⟩
   | va j =>
    obtain ⟨p0,hp0,e⟩:=hid;rcases get hp0 with hp0 | ⟨rfl,rfl⟩
    ·exact .inl ⟨p0,hp0,e⟩
    ·exact .inl ⟨pp,hpp,e⟩
   | _=>exact .inl hid
  have hrep:Rep T tx m H' (L.setcl (x0.g.o aa[i]) (pp.1,s',pp.2.2.1,pp.2.2.2)) ⟨{ x0.g with cls:=addU x0.g.o n (aa.take (i+1)) x0.g.cls },x0.ids,x0.sd,x0.fe⟩:=by
   rw [List.take_succ_eq_append_getElem hil,z6u,← zbe _ _ (fun c=>{ c with uses:=c.uses++[n] }) hclt];exact b2
  have hbb:A2 (LCo k) m (n:Int) ⟨L0.q,0,none⟩ sl (H,(i:Int))=some (.next (H',((i+1:Nat):Int))):=by
   unfold A2;simp only [hs.cnt,if_pos (show (i:Int)<(aa.length:Int) by omega),r1,r2,Option.bind_some];rw [← hq,h.q (j:=5) (v:=L.sC.v) rfl,h.q (j:=4) (v:=L.sO.v) rfl];simp only [show deSl (Sl3.v L.sC)=some L.sC from rfl,show deSl (Sl3.v L.sO)=some L.sO from rfl,Option.bind_some,r3,r4,r5,r6];have hr:newR 3 1 #[(Value.int .i64 (n:Int))] H=some (⟨some ⟨H.next,0,none⟩,1,1⟩,H.push { obj:=.cells (EI.enc n).toArray 3 (0,0),opn:=false,esz:=0,ro:=false }):=rfl;rw [hr];simp only [Option.bind_some];rw [b1];simp only [Option.bind_some];rw [J2 (n:=aa.length) hil (by rw [K3]; omega)]
  have fm1:Fm (Wc L0 n0) H H':=(fmE hx).comp (fmP (L1:=L) b3 (fun id hid=>hid.elim (fun e=>⟨.blk (x0.g.o aa[i]),pp,hpp,e⟩) fun e=>⟨.us (x0.g.o aa[i]),pp,hpp,e⟩) hfp) fun _ _ h=>h;obtain ⟨H2,L2,c1,c2,c3,c4,c5,c6,c7⟩:=ih (i+1) H' (L.setcl (x0.g.o aa[i]) (pp.1,s',pp.2.2.1,pp.2.2.2)) (by omega) hrep (hE.tb (hE.tbx hb hx) b3 fun id hid=>by
    rcases hid with e | e
    ·exact (h.low (c:=.blk (x0.g.o aa[i])) ⟨pp,hpp,e⟩).1
    ·exact (h.low (c:=.us (x0.g.o aa[i])) ⟨pp,hpp,e⟩).1) (Nat.le_trans hm hxn) (Nat.le_trans hn hxn) hna hq fun c id hid=>by
    rcases hfpS c id hid with h1 | h1
    ·exact hfp c id h1
    ·exact .inr (Nat.le_trans hn h1)
  exact ⟨H2,L2,by rw [V2 hbb]; exact c1,c2,c3,c4,fm1.comp c5 fun _ _ h=>h,c6,c7⟩
end
end Go.Proofs.YtgkhbmoidenjaaaDoor
namespace Go.Proofs.YtgkhbmoidenjaaaDoor
open Go Go.Abs Go.Abs.Eg
set_option maxRecDepth 100000
structure TyOK (T:Tys):Prop where
 G:T.G=63
 N:T.N=86
 S:T.S=91
 I:T.I=3
 P:T.P=79
 E:T.E=109
 C:T.C=78
section
variable {T:Tys} {tx:Key→ByteArray} {m:Nat} {H:AH} {L:GL} {x:Gh} {Tb:AH→Prop} {kt e:TypeId}
structure GR (T:Tys) (tx:Key→ByteArray) (m:Nat) (Tb:AH→Prop) (M:List (Nat×Nat)) (H:AH) (L:GL) (x:Gh):Prop where
 rep:Rep T tx m H L x
 tb:Tb H
 mi:MI x.g M []
 mx:MX x.g
 sm:Small x.g
 nm:m≤H.next
 cll:x.g.cls.length=x.g.n
 li:LI x.g.N x.sd x.fe x.g.n x.g.o
structure GC (T:Tys) (tx:Key→ByteArray) (m:Nat) (Tb:AH→Prop) (M:List (Nat×Nat)) (n0:Nat) (H:AH) (L:GL) (H':AH) (L':GL) (x':Gh):Prop where
 gr:GR T tx m Tb M H' L' x'
 q:L'.q=L.q
 fm:Fm (Wc L n0) H H'
 fp:∀c id,L'.fp c id→L.fp c id∨n0≤id
theorem zb5 (hE:Env T tx m Tb) (hP:PE T 58 kt e) (hT:TyOK T) (k:Nat) {y:Nd} (h:Rep T tx m H L (addN x y)) (hb:Tb H) {M:List (Nat×Nat)} (hI:MI x.g M []) (hX:MX x.g) (hS:Small (begSt x.g y)) (hc:x.g.cls.length=x.g.n) (hm:m≤H.next)
  (hy:∀a∈y.args,a<x.g.n) {n:Nat} (hn:n=x.g.n) (hli:LI x.g.N x.sd x.fe x.g.n x.g.o) :
  ∃H' L' x',X2 (LCo k) m H (GL.p L) (n:Int)=some H'∧GC T tx m Tb M H.next H L H' L' x'∧x'.g.N=x.g.N++[y]∧x'.ids=x.ids∧x'.sd=x.sd:=by
 subst hn;have hTI:=hT.I;have hTC:=hT.C;have hTP:=hT.P;have hTE:=hT.E;have hNs:x.g.n+1≤1048576:=by have:=hS.n; rw [beg_n] at this; exact this
 obtain ⟨s1,H2,p,H4,H5,a1,a2,a3,a4,a5,a6,a7⟩:=zct (T:=T) hm x.g.n y.value;have hyN:(addN x y).g.N[x.g.n]? = some y:=by
  have:=beg_N (g:=x.g) (x:=y) x.g.n;rw [if_pos rfl] at this;exact this
 have h4:=h.ext a5;have h5:=h.ext a6;have hm5:m≤H5.next:=Nat.le_trans hm a6.1;obtain ⟨p8,sl,r1,r2,r3,r4,r5,r6⟩:=h4.node hyN (v:=((x.g.n:Nat):Int)) rfl;have hol:x.g.of.length=x.g.n:=hI.len;obtain ⟨z6,H6,s6,H6',H7,b1,b2,b3,b4,b5,b6⟩:=h5.pushO x.g.cls.length (by show x.g.of.length≤_; omega) hm5;have hm7:m≤H7.next:=Nat.le_trans hm5 b5.1;have hd7:∀c' id,GL.fp { L with sO:=s6 } c' id→¬ownC p id:=fun c' id hid ho=>by
  rcases fpO (n0:=H5.next) b6 c' id hid with h1 | h1
  ·have:=(h.low h1).2; have:=a7 id ho; omega
  ·have:=(a4.lt ho).2; omega
 have a4':ClA T m H7 p ⟨[],[x.g.n],if y.value then [x.g.n] else [],x.g.n⟩:=a4.fr b5 fun id ho hw=>by
  have:=a7 id ho;rcases hw with e | e
  ·have:=(h.low (c:=.q) (id:=id) e).2; omega
  ·have:=(h.low (c:=.O) (id:=id) e).2; omega
 obtain ⟨z8,H8,s8,H8',H9,c1,c2,c3,c4,c5,c6⟩:=b4.pushC a4' hd7 (by show x.g.cls.length≤_; omega) hm7;have hm9:m≤H9.next:=Nat.le_trans hm7 c5.1;have hfel:x.fe.length=x.g.n:=by
  have:x.fe.map (·.1)=x.g.fo:=h.fel;rw [← hI.flen,← this,List.length_map]
 obtain ⟨z10,H10,s10,H10',H11,d1,d2,d3,d4,d5,d6⟩:=c4.pushF (-1,0,0,0,false) (by show x.fe.length≤_; omega) hm9;have hm11:m≤H11.next:=Nat.le_trans hm9 d5.1;have n5:H.next≤H5.next:=a6.1;have n7:H.next≤H7.next:=Nat.le_trans n5 b5.1;have n9:H.next≤H9.next:=Nat.le_trans n7 c5.1;have n11:H.next≤H11.next:=Nat.le_trans n9 d5.1;have fp1:∀c id,GL.fp { L with sO:=s6 } c id→L.fp c id∨H.next≤id:=fpO fun i hi=>(b6 i hi).imp (fun h=>h) fun h=>Nat.le_trans n5 h;have fp2:∀c id,GL.fp { L with sO:=s6,sC:=s8,cl:=L.cl++[p] } c id→L.fp c id∨H.next≤id:=fun c id hid=>by
  rcases fpC (L:={ L with sO:=s6 }) (n0:=H.next) (fun i hi=>(c6 i hi).imp (fun h=>h) fun h=>Nat.le_trans n7 h) a7 c id hid with h1 | h1
  ·exact fp1 c id h1
  ·exact .inr h1
 have fp3:∀c id,GL.fp { L with sO:=s6,sC:=s8,cl:=L.cl++[p],sF:=s10 } c id→L.fp c id∨H.next≤id:=fun c id hid=>by
  rcases fpF (L:={ L with sO:=s6,sC:=s8,cl:=L.cl++[p] }) (n0:=H.next) (fun i hi=>(d6 i hi).imp (fun h=>h) fun h=>Nat.le_trans n9 h) c id hid with h1 | h1
  ·exact fp2 c id h1
  ·exact .inr h1
 have fm1:Fm (Wc L H.next) H H5:=fmE a6;have fm2:Fm (Wc L H.next) H5 H7:=fmP (L1:=L) b5 (fun id hid=>hid.elim (fun e=>⟨.q,e⟩) fun e=>⟨.O,e⟩) fun _ _ h=>.inl h;have fm3:Fm (Wc L H.next) H7 H9:=fmP (L1:={ L with sO:=s6 }) c5 (fun id hid=>hid.elim (fun e=>⟨.q,e⟩) fun e=>⟨.C,e⟩) fp1;have fm4:Fm (Wc L H.next) H9 H11:=fmP (L1:={ L with sO:=s6,sC:=s8,cl:=L.cl++[p] }) d5 (fun id hid=>hid.elim (fun e=>⟨.q,e⟩) fun e=>⟨.F,e⟩) fp2;have fmA:Fm (Wc L H.next) H H11:=fmT fm1 (fmT fm2 (fmT fm3 fm4));have tb5:=hE.tbx hb a6;have tb7:Tb H7:=hE.tb tb5 b5 fun id hid=>hid.elim (fun e=>(h.low (c:=.q) (id:=id) e).1) fun e=>(h.low (c:=.O) (id:=id) e).1;have tb9:Tb H9:=hE.tb tb7 c5 fun id hid=>hid.elim (fun e=>(b4.low (c:=.q) (id:=id) e).1) fun e=>(b4.low (c:=.C) (id:=id) e).1;have tb11:Tb H11:=hE.tb tb9 d5 fun id hid=>hid.elim (fun e=>(c4.low (c:=.q) (id:=id) e).1) fun e=>(c4.low (c:=.F) (id:=id) e).1
 let x0:Gh:=⟨⟨x.g.N++[y],x.g.of++[x.g.cls.length],x.g.cls++[⟨[],[x.g.n],if y.value then [x.g.n] else [],x.g.n⟩],x.g.sigs,x.g.fo++[-1]⟩,x.ids,x.sd,x.fe++[(-1,0,0,0,false)]⟩
 let L0:GL:={ L with sO:=s6,sC:=s8,cl:=L.cl++[p],sF:=s10 }
 have d4:Rep T tx m H11 L0 x0:=d4;have ho0:∀i,i<x.g.n→x0.g.o i=x.g.o i:=fun i hi=>I4 (x:=y) hol hi;have hx0a:x0.g.args x.g.n=y.args:=by
  unfold St.args;show (((addN x y).g.N[x.g.n]?).map Nd.args).getD []=_;rw [hyN]; rfl
 have husz:∀a∈y.args,(x0.g.c (x0.g.o a)).uses.length≤1048576:=by
  intro a ha;have hlt:=hI.cl a (hy a ha);have e0:x0.g.c (x.g.o a)=x.g.c (x.g.o a):=by
   show (x.g.cls++[_]).getD _ Cl.nil=x.g.cls.getD _ Cl.nil;rw [List.getD_eq_getElem?_getD,List.getD_eq_getElem?_getD,List.getElem?_append_left hlt]
  rw [ho0 a (hy a ha),e0,hX.ulen a (hy a ha)];have h1:=cnt_le (g:=x.g) (x.g.o a);have h2:=hS.tot;rw [zao] at h2;omega
 obtain ⟨H12,L1,e1,e2,e3,e4,e5,e6,e7⟩:=zbc hE hTI k (x0:=x0) (n:=x.g.n) (aa:=y.args) (sl:=sl) (by
   refine hS.args x.g.n y ?_;exact hyN) hx0a (fun a ha=>by show a<(x.g.of++[_]).length; rw [List.length_append]; have:=hy a ha; omega) (fun a ha=>by
    rw [ho0 a (hy a ha)];show _<(x.g.cls++[_]).length;have:=hI.cl a (hy a ha);rw [List.length_append]; omega) husz H11.next L0 r6 y.args.length 0 H11 L0 (by omega) d4 tb11 hm11 (Nat.le_refl _) rfl rfl (fun c id h=>.inl h)
 let x1:Gh:=⟨begSt x.g y,x.ids,x.sd,x.fe++[(-1,0,0,0,false)]⟩
 have e2:Rep T tx m H12 L1 x1:=e2;have n12:H.next≤H12.next:=Nat.le_trans n11 e5.1;have fp4:∀c id,L1.fp c id→L.fp c id∨H.next≤id:=fun c id hid=>by
  rcases e7 c id hid with h1 | h1
  ·exact fp3 c id h1
  ·exact .inr (Nat.le_trans n11 h1)
 have fm5:Fm (Wc L H.next) H11 H12:=e5.weak fun id _ hw hlt=>by
  obtain ⟨c,hc⟩:=hw (by omega);rcases fp3 c id hc with h1 | h1
  ·exact ⟨c,h1⟩
  ·omega
 have fmB:Fm (Wc L H.next) H H12:=fmT fmA fm5;have hcl1:∀i,i<x1.g.n→x1.g.o i<x1.g.cls.length:=by
  intro i hi;have hi:i<(begSt x.g y).n:=hi;rw [beg_n] at hi;show (begSt x.g y).o i<(addU _ _ _ _).length;rw [o7,List.length_append];by_cases hh:i<x.g.n
  ·rw [I4 hol hh]; have:=hI.cl i hh; omega
  ·have:i=x.g.n:=by omega
   rw [this,z15 hol]; simp
 have hol1:x1.g.of.length=x1.g.n:=by
  show (x.g.of++[_]).length=(begSt x.g y).n;rw [beg_n,List.length_append,hol]; rfl
 have hargs1:∀(i:Nat) z,x1.g.N[i]? = some z→∀a∈z.args,a<i:=by
  intro i z hz a ha;have hz:(begSt x.g y).N[i]? = some z:=hz;rw [beg_N] at hz;split at hz
  ·rename_i ei;cases hz;rw [ei]; exact hy a ha
  ·exact hI.args i z hz a ha
 have hn1:x.g.n<x1.g.n:=by show x.g.n<(begSt x.g y).n; rw [beg_n]; omega
 have hcc:x1.g.cls.length=x1.g.n:=by
  show (addU _ _ _ _).length=(begSt x.g y).n;rw [o7,List.length_append,beg_n,hc]; rfl
 have li1:LI x1.g.N x1.sd x1.fe x1.g.n x1.g.o:=by
  have:=hli.beg hol hI.cl y (0,0,0,false);show LI (x.g.N++[y]) x.sd (x.fe++[(-1,0,0,0,false)]) (begSt x.g y).n (begSt x.g y).o;rw [beg_n]; exact this
 obtain ⟨H13,f1,f2⟩:=z2a hE k m e2 e3 hol1 hS hcl1 hargs1 e4 hTI hn1 (v:=((x.g.n:Nat):Int)) rfl;have hsg:x1.g.sig x.g.n=Eg.keyOf y x.g.o:=by
  show (begSt x.g y).sig x.g.n=_;exact o8 hol hy
 rw [hsg] at f1;have e2':=e2.ext f2;have hl13:=e2'.lkS hP.mp (Eg.keyOf y x.g.o);have n13:H.next≤H13.next:=Nat.le_trans n12 f2.1;have m13:m≤H13.next:=Nat.le_trans e4 f2.1;have tb13:Tb H13:=hE.tbx e3 f2;have fmC':Fm (Wc L H.next) H H13:=fmT fmB (fmE f2);have walk:∀R:Option AH,(match x.g.sigs (Eg.keyOf y x.g.o) with
   | some j=>W1 (LCo k) m H13 (GL.p L1) ((x.g.n:Nat):Int) (j:Int) 0 0 ((x.g.n:Nat):Int) (j:Int) true
   | none=>upM Tryd.prog m 58 H13 (some L1.ms) (Value.string (tx (Eg.keyOf y x.g.o))) (Value.int .i64 ((x.g.n:Nat):Int)))=R→X2 (LCo k) m H (GL.p L) ((x.g.n:Nat):Int)=R:=by
  intro R hR;unfold X2;rw [hTI] at a1;rw [hTC] at a2;rw [a1];simp only [Option.bind_some];rw [a2];simp only [Option.bind_some];rw [h4.q (j:=0) (v:=L.sN.v) rfl];simp only [show deSl (Sl3.v L.sN)=some L.sN from rfl,Option.bind_some,r1,r4];have hv:(if y.value=true then
    (newR 3 1 #[(Value.int .i64 ((x.g.n:Nat):Int))] H4).bind fun x=>match x with
     | (s10,H11)=>(H11.setCell m ((⟨p.1,0,none⟩:Addr).add 2) (Sl3.v s10)).bind fun H12=>some H12
    else some H4)=some H5:=by
   rcases a3 with ⟨h1,h2⟩ | ⟨h1,s10',H11',h2,h3⟩
   ·rw [h1,h2]; rfl
   ·rw [hTI] at h2;rw [if_pos h1,h2];simp only [Option.bind_some];rw [h3]; rfl
  refine (congrArg (fun o=>Option.bind o _) hv).trans ?_;simp only [Option.bind_some];rw [h5.q (j:=4) (v:=L.sO.v) rfl,h5.q (j:=5) (v:=L.sC.v) rfl];simp only [show deSl (Sl3.v L.sO)=some L.sO from rfl,show deSl (Sl3.v L.sC)=some L.sC from rfl,Option.bind_some];have hcn:L.sC.n=x.g.cls.length:=by
   have:=SlA.cnt (show SlA EP T.P m H5 (L.cl.map (·.1)) L.sC from h5.hold .C);rw [this,List.length_map];exact h.cll
  rw [hTI] at b1 b2;rw [hTP] at c1 c2;rw [hTE] at d1 d2;rw [hcn,b1];simp only [Option.bind_some];rw [b2];simp only [Option.bind_some];rw [b3];simp only [Option.bind_some];rw [show rd deSl H7 ((⟨L.q,0,none⟩:Addr).add 5)=some L.sC from b4.q (j:=5) (v:=L.sC.v) rfl deSl];simp only [Option.bind_some];rw [c1];simp only [Option.bind_some];have c2':appS m 79 1 8 H8 L.sC z8=some (s8,H8'):=c2;rw [c2'];simp only [Option.bind_some];have c3':H8'.setCell m ((⟨L.q,0,none⟩:Addr).add 5) (Sl3.v s8)=some H9:=c3;rw [c3'];simp only [Option.bind_some];rw [show rd deSl H9 ((⟨L.q,0,none⟩:Addr).add 6)=some L.sF from c4.q (j:=6) (v:=L.sF.v) rfl deSl];simp only [Option.bind_some];have d1':newR 109 1 #[(Value.int .i64 (-1)),(Value.int .i64 0),(Value.int .i64 0),(Value.int .i64 0),(Value.bool false)] H9=some (z10,H10):=d1;rw [d1'];simp only [Option.bind_some];have d2':appS m 109 5 40 H10 L.sF z10=some (s10,H10'):=d2;rw [d2'];simp only [Option.bind_some];have d3':H10'.setCell m ((⟨L.q,0,none⟩:Addr).add 6) (Sl3.v s10)=some H11:=d3;rw [d3'];simp only [Option.bind_some];rw [show rd deSl H11 ((⟨L.q,0,none⟩:Addr).add 0)=some L.sN from d4.q (j:=0) (v:=L.sN.v) rfl deSl];obtain ⟨p8',sl',r1',r2',r3',r4',r5',r6'⟩:=d4.node (i:=x.g.n) (y:=y) hyN (v:=((x.g.n:Nat):Int)) rfl;have r1':idxA 3 L.sN ((x.g.n:Nat):Int)=some p8':=r1';have r6':L.na[x.g.n]? = some sl':=r6';rw [r6] at r6';cases r6';simp only [Option.bind_some,r1',r3'];refine (congrArg (fun o=>Option.bind o _) (show (LCo k).run (A2 (LCo k) m ((x.g.n:Nat):Int) ⟨L.q,0,none⟩ sl) (H11,0)=some (.inl (H12,(y.args.length:Int))) from e1)).trans ?_;simp only [Option.bind_some];have hq1:L1.q=L.q:=e6;have f1':F1 (LCo k) m H12 (some ⟨L.q,0,none⟩) ((x.g.n:Nat):Int)=some (tx (Eg.keyOf y x.g.o),H13):=by rw [← hq1]; exact f1
  rw [f1'];simp only [Option.bind_some];rw [← hq1,e2'.q (j:=7) (v:=.map (some L1.ms)) rfl deM];simp only [show deM (Value.map (some L1.ms))=some (some L1.ms) from rfl,Option.bind_some];rw [show lkM Tryd.prog 58 (deI .i64) H13 (some L1.ms) (Value.string (tx (Eg.keyOf y x.g.o)))=some ((((x.g.sigs (Eg.keyOf y x.g.o)).getD 0:Nat):Int),(x.g.sigs (Eg.keyOf y x.g.o)).isSome) from hl13];simp only [Option.bind_some];rw [← hR];cases hs:x.g.sigs (Eg.keyOf y x.g.o) with
  | some j =>
   simp only [Option.isSome_some,if_true,Option.getD_some,GL.p];cases W1 (LCo k) m H13 (some ⟨L1.q,0,none⟩) ((x.g.n:Nat):Int) (j:Int) 0 0 ((x.g.n:Nat):Int) (j:Int) true <;> rfl
  | none =>
   simp only [Option.isSome_none,Bool.false_eq_true,if_false];cases upM Tryd.prog m 58 H13 (some L1.ms) (Value.string (tx (Eg.keyOf y x.g.o))) (Value.int .i64 ((x.g.n:Nat):Int)) <;> rfl
 cases hs:x.g.sigs (Eg.keyOf y x.g.o) with
 | some j =>
  have hmi:=hI.beg_wait hy hs;have hmx:=MX.beg hI hX hy x.g.sigs;obtain ⟨H',L',x',g1,g2⟩:=z5i hE hP hTI k e2' tb13 (M:=M) (a:=x.g.n) (b:=j) hmi hmx hS m13 0 0 ((x.g.n:Nat):Int) (j:Int) true (v:=((x.g.n:Nat):Int)) (w:=(j:Int)) rfl rfl li1 (by
   obtain ⟨hj,hjs⟩:=hI.s1 _ _ hs;refine zap (g:=x1.g) hargs1 li1 hn1 (by omega) ?_ 0;rw [hsg];have:x1.g.sig j=x.g.sig j:=X6 hol hI.args hj;rw [this,hjs])
  refine ⟨H',L',x',walk _ (by rw [hs]; exact g1),⟨⟨g2.rep,g2.tb,g2.mi,g2.mx,g2.sm,g2.nm,?_,g2.li⟩,g2.q.trans e6,fmT fmC' (g2.fm.weak fun id _ hw hlt=>?_),fun c id hid=>?_⟩,g2.N,g2.ids,g2.sd⟩
  ·rw [g2.cll,hcc];show (begSt x.g y).N.length=x'.g.N.length;rw [g2.N]
  ·obtain ⟨c,hc⟩:=hw (by omega);rcases fp4 c id hc with h1 | h1
   ·exact ⟨c,h1⟩
   ·omega
  ·rcases g2.fp c id hid with h1 | h1
   ·exact fp4 c id h1
   ·exact .inr (Nat.le_trans n13 h1)
 | none =>
  have hmi:=hI.beg_new' hy hs;have hmx:=MX.beg hI hX hy fun s=>if s=Eg.keyOf y x.g.o then some x.g.n else x.g.sigs s
  obtain ⟨H',g1,g2,g3,g4⟩:=e2'.upS hE.inj hP.mp (Eg.keyOf y x.g.o) x.g.n;refine ⟨H',L1,_,walk _ (by rw [hs]; exact g1),⟨⟨g2,hE.tb tb13 g3 fun id hid=>?_,hmi,hmx,hS.s _,by rw [g4]; exact m13,hcc,li1⟩,e6,fmT fmC' (fmP (L1:=L1) g3 (fun id hid=>⟨.ms,hid⟩) fp4),fp4⟩,rfl,rfl,rfl⟩;exact (e2'.low (c:=.ms) (id:=id) hid).1
end
end Go.Proofs.YtgkhbmoidenjaaaDoor
namespace Go.Proofs.YtgkhbmoidenjaaaDoor
open Go Go.Abs Go.Abs.Eg
set_option maxRecDepth 100000
section
variable {T:Tys} {tx:Key→ByteArray} {m:Nat} {H:AH} {L:GL} {x:Gh} {Tb:AH→Prop} {kt e:TypeId}
structure GS (T:Tys) (tx:Key→ByteArray) (m:Nat) (Tb:AH→Prop) (H:AH) (L:GL) (x:Gh):Prop where
 gr:GR T tx m Tb (Mof x.sd) H L x
 ids:IdsOK x.ids x.g.N
 sdr:∀s∈x.sd,okA x.g.N s.1=true∧okA x.g.N s.2.1=true
structure GO (T:Tys) (tx:Key→ByteArray) (m:Nat) (Tb:AH→Prop) (n0:Nat) (H:AH) (L:GL) (H':AH) (L':GL) (x':Gh):Prop where
 gs:GS T tx m Tb H' L' x'
 q:L'.q=L.q
 fm:Fm (Wc L n0) H H'
 fp:∀c id,L'.fp c id→L.fp c id∨n0≤id
theorem z98 {N:List Nd} {y:Nd} {a:Int} (h:okA N a=true):okA (N++[y]) a=true:=by
 obtain ⟨n,rfl,hn⟩:=c8.1 h;exact c8.2 ⟨n,rfl,by rw [List.length_append]; omega⟩
theorem GS.ext {H':AH} (hE:Env T tx m Tb) (h:GS T tx m Tb H L x) (hx:Ext H H'):GS T tx m Tb H' L x :=
 ⟨⟨h.gr.rep.ext hx,hE.tbx h.gr.tb hx,h.gr.mi,h.gr.mx,h.gr.sm,Nat.le_trans h.gr.nm hx.1,h.gr.cll,h.gr.li⟩,h.ids,h.sdr⟩
theorem z8d (hE:Env T tx m Tb) (hP:PE T 58 kt e) (hT:TyOK T) (k:Nat) (h:GS T tx m Tb H L x) {y:Nd} {sl:Sl3} (hs:SlA EI T.I m H y.args sl) {n0:Nat} (hn0:n0≤H.next) (hf:∀id,fpt sl id→n0≤id) (hd:∀c id,L.fp c id→¬fpt sl id)
  (hy:∀a∈y.args,a<x.g.n) (hl:y.args.length≤64) (hsy:-9223372036854775808≤y.sym∧y.sym<9223372036854775808) (ht:totN x.g.N+y.args.length≤1048576) :
  ∃H' L' x',Z1 (LCo k) m H (GL.p L) y.sym sl y.value=some ((putP x.g.N y).1,(putP x.g.N y).2.1,H')∧GO T tx m Tb n0 H L H' L' x'∧x'.g.N=(putP x.g.N y).2.2∧x'.sd=x.sd:=by
 have hn:=h.gr.sm.n;obtain ⟨H2,a1,a2⟩:=hE.text k m m H y.value y.sym sl y.args h.gr.tb h.gr.nm hs (fun a ha=>by have:=hy a ha; omega) hl hsy.1 hsy.2;have h2:=h.gr.rep.ext a2;have hlk:=h2.lkI hP.mp (y.value,y.sym,y.args);have hids:x.ids (y.value,y.sym,y.args)=x.g.N.findIdx? fun z=>decide (z=y):=h.ids y;have m2:m≤H2.next:=Nat.le_trans h.gr.nm a2.1;cases hfi:x.g.N.findIdx? fun z=>decide (z=y) with
 | some i =>
  rw [hfi] at hids;rw [hids] at hlk;have hp:putP x.g.N y=((i:Int),0,x.g.N):=by unfold putP; rw [hfi]
  refine ⟨H2,L,x,?_,⟨h.ext hE a2,rfl,fmE a2,fun _ _ h=>.inl h⟩,by rw [hp],rfl⟩;rw [hp];unfold Z1;rw [a1];simp only [Option.bind_some,GL.p];rw [h2.q (j:=1) (v:=.map (some L.mi)) rfl deM];simp only [show deM (Value.map (some L.mi))=some (some L.mi) from rfl,Option.bind_some];rw [show lkM Tryd.prog 58 (deI .i64) H2 (some L.mi) (Value.string (tx (y.value,y.sym,y.args)))=some (((((some i:Option Nat)).getD 0:Nat):Int),(some i:Option Nat).isSome) from hlk];rfl
 | none =>
  rw [hfi] at hids;rw [hids] at hlk;by_cases hbig:1048576≤x.g.N.length
  ·have hp:putP x.g.N y=(0,3,x.g.N):=by unfold putP; rw [hfi]; simp only [if_pos hbig]
   refine ⟨H2,L,x,?_,⟨h.ext hE a2,rfl,fmE a2,fun _ _ h=>.inl h⟩,by rw [hp],rfl⟩;rw [hp];unfold Z1;rw [a1];simp only [Option.bind_some,GL.p];rw [h2.q (j:=1) (v:=.map (some L.mi)) rfl deM];simp only [show deM (Value.map (some L.mi))=some (some L.mi) from rfl,Option.bind_some];rw [show lkM Tryd.prog 58 (deI .i64) H2 (some L.mi) (Value.string (tx (y.value,y.sym,y.args)))=some (((((none:Option Nat)).getD 0:Nat):Int),(none:Option Nat).isSome) from hlk];simp only [Option.bind_some,Option.isSome_none,Bool.false_eq_true,if_false];rw [h2.q (j:=0) (v:=L.sN.v) rfl deSl];simp only [show deSl (Sl3.v L.sN)=some L.sN from rfl,Option.bind_some,z6o h2];rw [if_pos (by show (1048576:Int)≤((x.g.N.length:Nat):Int); omega)]
  ·have hp:putP x.g.N y=(((x.g.N.length:Nat):Int),0,x.g.N++[y]):=by unfold putP; rw [hfi]; simp only [if_neg hbig]
   rw [hp];obtain ⟨H3,b1,b2,b3,b4⟩:=h2.upI hE.inj hP.mp (y.value,y.sym,y.args) x.g.n;have m3:m≤H3.next:=by rw [b4]; exact m2
   have hs3:SlA EI T.I m H3 y.args sl:=(hs.ext a2).fr b3 fun id hid e=>hd .mi id e hid;obtain ⟨z4,H4,s4,H4',H5,c1,c2,c3,c4,c5,c6⟩:=b2.pushN y hs3 hd (by show x.g.N.length≤_; omega) m3;have m5:m≤H5.next:=Nat.le_trans m3 c5.1;have n2:n0≤H2.next:=Nat.le_trans hn0 a2.1;have n3:n0≤H3.next:=by rw [b4]; exact n2
   have n5:n0≤H5.next:=Nat.le_trans n3 c5.1;have tb3:=hE.tb (hE.tbx h.gr.tb a2) b3 fun id hid=>(h2.low (c:=.mi) (id:=id) hid).1;have tb5:=hE.tb tb3 c5 fun id hid=>hid.elim (fun e=>(b2.low (c:=.q) (id:=id) e).1) fun e=>(b2.low (c:=.N) (id:=id) e).1;have fp1:∀c id,GL.fp { L with sN:=s4,na:=L.na++[sl] } c id→L.fp c id∨n0≤id:=fpN (fun i hi=>(c6 i hi).imp (fun h=>h) fun h=>Nat.le_trans n3 h) hf;have hS:Small (begSt x.g y):=by
    refine ⟨by rw [beg_n]; show x.g.N.length+1≤_; omega,by rw [zao,tot_eq]; exact ht,fun i z hz=>?_,fun i z hz=>?_,?_⟩
    ·rw [beg_N] at hz;split at hz
     ·cases hz; exact hl
     ·exact h.gr.sm.args i z hz
    ·rw [beg_N] at hz;split at hz
     ·cases hz; exact hsy
     ·exact h.gr.sm.sym i z hz
    ·show (addU _ _ _ _).length≤_;rw [o7,List.length_append,h.gr.cll];show x.g.N.length+1≤_;omega
   obtain ⟨H6,L6,x6,d1,d2,d3,d4,d5⟩:=zb5 hE hP hT k (x:=withI x fun k'=>if k'=(y.value,y.sym,y.args) then some x.g.n else x.ids k') (y:=y) c4 tb5 (M:=Mof x.sd) h.gr.mi h.gr.mx hS h.gr.cll m5 hy (n:=x.g.n) rfl h.gr.li;have d3:x6.g.N=x.g.N++[y]:=d3;have d4:x6.ids=fun k'=>if k'=keyN y then some x.g.n else x.ids k':=d4
   have d5:x6.sd=x.sd:=d5;refine ⟨H6,L6,x6,?_,⟨⟨by rw [d5]; exact d2.gr,?_,fun s hs'=>?_⟩,d2.q,?_,fun c id hid=>?_⟩,d3,d5⟩
   ·unfold Z1;rw [a1];simp only [Option.bind_some,GL.p];rw [h2.q (j:=1) (v:=.map (some L.mi)) rfl deM];simp only [show deM (Value.map (some L.mi))=some (some L.mi) from rfl,Option.bind_some];rw [show lkM Tryd.prog 58 (deI .i64) H2 (some L.mi) (Value.string (tx (y.value,y.sym,y.args)))=some (((((none:Option Nat)).getD 0:Nat):Int),(none:Option Nat).isSome) from hlk];simp only [Option.bind_some,Option.isSome_none,Bool.false_eq_true,if_false];rw [h2.q (j:=0) (v:=L.sN.v) rfl deSl];simp only [show deSl (Sl3.v L.sN)=some L.sN from rfl,Option.bind_some,z6o h2];rw [if_neg (by show ¬(1048576:Int)≤((x.g.N.length:Nat):Int); omega)];have b1':upM Tryd.prog m 58 H2 (some L.mi) (Value.string (tx (y.value,y.sym,y.args))) (Value.int .i64 ((x.g.n:Nat):Int))=some H3:=b1;rw [b1'];simp only [Option.bind_some];rw [show rd deSl H3 ((⟨L.q,0,none⟩:Addr).add 0)=some L.sN from b2.q (j:=0) (v:=L.sN.v) rfl deSl];simp only [Option.bind_some];rw [hT.N] at c1 c2;rw [c1];simp only [Option.bind_some];rw [c2];simp only [Option.bind_some];rw [c3];simp only [Option.bind_some];have d1':X2 (LCo k) m H5 (some ⟨L.q,0,none⟩) ((x.g.n:Nat):Int)=some H6:=d1;rw [d1'];rfl
   ·rw [d3,d4];exact h.ids.push hids
   ·rw [d5] at hs';obtain ⟨s1,s2⟩:=h.sdr s hs';rw [d3];exact ⟨z98 s1,z98 s2⟩
   ·refine fmT (fmE a2) (fmT (fmP (L1:=L) b3 (fun id hid=>⟨.mi,hid⟩) fun _ _ h=>.inl h) (fmT (fmP (L1:=L) c5 (fun id hid=>hid.elim (fun e=>⟨.q,e⟩) fun e=>⟨.N,e⟩) fun _ _ h=>.inl h) (d2.fm.weak fun id _ hw hlt=>?_)));obtain ⟨c,hc⟩:=hw (by omega);rcases fp1 c id hc with h1 | h1
    ·exact ⟨c,h1⟩
    ·omega
   ·rcases d2.fp c id hid with h1 | h1
    ·exact fp1 c id h1
    ·exact .inr (Nat.le_trans n5 h1)
end
end Go.Proofs.YtgkhbmoidenjaaaDoor
namespace Go.Proofs.YtgkhbmoidenjaaaDoor
open Go Go.Abs Go.Abs.Eg
set_option maxRecDepth 100000
section
variable {T:Tys} {tx:Key→ByteArray} {m:Nat} {H:AH} {L:GL} {x:Gh} {Tb:AH→Prop} {kt e:TypeId}
theorem zb2 (hE:Env T tx m Tb) (hP:PE T 58 kt e) (hT:TyOK T) (k:Nat) (h:GS T tx m Tb H L x) {v:Int} (hsy:-9223372036854775808≤v∧v<9223372036854775808) (ht:totN x.g.N≤1048576) :
  ∃H' L' x',G4 (LCo k) m H (GL.p L) v=some ((valP x.g.N v).1,(valP x.g.N v).2.1,H')∧GO T tx m Tb H.next H L H' L' x'∧x'.g.N=(valP x.g.N v).2.2∧x'.sd=x.sd:=by
 obtain ⟨H',L',x',a1,a2,a3,a4⟩:=z8d hE hP hT k h (y:=⟨true,v,[]⟩) (sl:=Sl3.nil) SlA.nil (n0:=H.next) (Nat.le_refl _) (fun id h=>absurd h O1) (fun _ _ _=>O1) (fun a ha=>by cases ha) (by simp) hsy (by simpa using ht);refine ⟨H',L',x',?_,a2,a3,a4⟩;unfold G4;rw [E8 k h.gr.rep];simp only [Option.bind_some,if_true];rw [show Z1 (LCo k) m H (GL.p L) v Sl3.nil true=_ from a1];rfl
theorem zaz (c m1:Nat) {s:Sl3} {l:List Nat} (h:∀H',Ext H H'→RdV 1 H' s l.length (l.flatMap EI.enc)) (hN:l.length≤1000) (hm:m1≤H.next) :
  ∃s' H',I5 (LCo c) m1 H s=some (s',H')∧VecA EI 3 m1 H' l s'∧Ext H H'∧∀id,owns s' id→H.next≤id:=by
 unfold I5;cases hnil:isNilS s with
 | true =>
  have hp:s.p=none:=by
   unfold isNilS at hnil;cases hq:s.p with
   | none=>rfl
   | some a=>rw [hq] at hnil; cases hnil
  have:l=[]:=by
   have:=(h H (Fm.refl _ _)).nil hp;exact List.length_eq_zero_iff.1 this.1
  subst this;exact ⟨Sl3.nil,H,rfl,VecA.nil _ _ _ _,Fm.refl _ _,fun id h=>absurd h zf0⟩
 | false =>
  have hp:Ext H (H.push { obj:=.cells #[] 3 (0,0),opn:=false,esz:=0,ro:=false }):=Fm.push _ _ _;obtain ⟨s',H',a1,a2,a3⟩:=VecA.app (E:=EI) (e:=3) (bytes:=8) (l:=[]) (l':=l) (m:=m1) (VecA.zero _ _ _ _ ⟨H.next,0,none⟩ ⟨by simp,rfl⟩) (h _ hp) (by simp only [List.length_nil,Nat.zero_add]; omega) (by simp only [List.length_nil,Nat.zero_add]; omega) (by simp; omega);have hx:=a3.ext hp fun id h=>absurd h zd2;refine ⟨s',H',?_,a2,hx.1,hx.2⟩;simp only [Bool.false_eq_true,if_false,newR,Option.bind_some];have a1':appS m1 3 1 8 (H.push { obj:=.cells #[] 3 (0,0),opn:=false,esz:=0,ro:=false }) ⟨some ⟨H.next,0,none⟩,0,0⟩ s=some (s',H'):=a1;rw [a1'];rfl
theorem z7r (k:Nat) (h:Rep T tx m H L x) {s:Sl3} {aa:List Int} (hs:AR H s aa) (hN:aa.length≤64) {pr:Addr} (hp:rd deP H pr=some (GL.p L)) :
  D3 (LCo k) H s (some pr)=some (!aa.all (okA x.g.N)):=by
 have loop:∀(d i:Nat),i+d=aa.length→(∀j (hj:j<aa.length),j<i→okA x.g.N aa[j]=true)→∃r,loopO (S1 (LCo k) H s (some pr)) (i:Int)=some r∧(aa.all (okA x.g.N)=true→∃z,r=.inl z)∧(aa.all (okA x.g.N)=false→∃z:Nat,r=.inr (z:Int)):=by
  intro d;induction d with
  | zero =>
   intro i hi hall;refine ⟨.inl (i:Int),D4 ?_,fun _=>⟨_,rfl⟩,fun hc=>?_⟩
   ·unfold S1;simp only [hs.n,if_neg (show ¬((i:Int)<(aa.length:Int)) by omega)]
   ·have:aa.all (okA x.g.N)=true:=by
     rw [List.all_eq_true];intro a ha;obtain ⟨j,hj,rfl⟩:=List.mem_iff_getElem.1 ha;exact hall j hj (by omega)
    rw [this] at hc; cases hc
  | succ d ih =>
   intro i hi hall;have hil:i<aa.length:=by omega
   obtain ⟨q,r1,r2⟩:=hs.at_ i hil;have hadd:F4 (LCo k) H aa[i] (some pr)=some (!okA x.g.N aa[i]):=by
    unfold F4;simp only [Option.bind_some,hp];rw [i7 k h];rfl
   cases hok:okA x.g.N aa[i] with
   | true =>
    have hb:S1 (LCo k) H s (some pr) (i:Int)=some (.next ((i+1:Nat):Int)):=by
     unfold S1;simp only [hs.n,if_pos (show (i:Int)<(aa.length:Int) by omega),r1,r2,Option.bind_some,hadd,hok];rw [J2 (n:=aa.length) hil (by rw [K3]; omega)];rfl
    obtain ⟨r,c1,c2,c3⟩:=ih (i+1) (by omega) fun j hj hji=>by
     by_cases e:j=i
     ·subst e; exact hok
     ·exact hall j hj (by omega)
    exact ⟨r,by rw [V2 hb]; exact c1,c2,c3⟩
   | false =>
    refine ⟨.inr (i:Int),z3q ?_,fun hc=>?_,fun _=>⟨i,rfl⟩⟩
    ·unfold S1;simp only [hs.n,if_pos (show (i:Int)<(aa.length:Int) by omega),r1,r2,Option.bind_some,hadd,hok];rfl
    ·rw [List.all_eq_true] at hc;rw [hc _ (List.getElem_mem hil)] at hok; cases hok
 obtain ⟨r,c1,c2,c3⟩:=loop aa.length 0 (by omega) fun j hj hji=>absurd hji (Nat.not_lt_zero _);unfold D3 S4;rw [show (LCo k).run (S1 (LCo k) H s (some pr)) 0=some r from c1];cases hall:aa.all (okA x.g.N) with
 | true =>
  obtain ⟨z,rfl⟩:=c2 hall;rfl
 | false =>
  obtain ⟨z,rfl⟩:=c3 hall;show some (decide ((z:Int)≥0))=some (!false);rw [decide_eq_true (show (z:Int)≥0 by omega)];rfl
theorem zee (hE:Env T tx m Tb) (hP:PE T 58 kt e) (hT:TyOK T) (k:Nat) (h:GS T tx m Tb H L x) {v:Int} (hsy:-9223372036854775808≤v∧v<9223372036854775808) {s:Sl3} {aa:List Int} (hs:∀H',Ext H H'→AR H' s aa) (ht:totN x.g.N+aa.length≤1048576) :
  ∃H' L' x',Y3 (LCo k) m H (GL.p L) v s=some ((addP x.g.N v aa).1,(addP x.g.N v aa).2.1,H')∧GO T tx m Tb H.next H L H' L' x'∧x'.g.N=(addP x.g.N v aa).2.2∧x'.sd=x.sd:=by
 let H2:=H.push (pubB 23 [Value.pointer (GL.p L)])
 have x2:Ext H H2:=Fm.push _ _ _;have h2:=h.ext hE x2;have hpr:rd deP H2 (⟨H.next,0,none⟩:Addr)=some (GL.p L):=by
  have:=(ArrV.new (f:=23) (m:=m) (H:=H) (cells:=[Value.pointer (GL.p L)]) h.gr.nm).rd (j:=0) (v:=Value.pointer (GL.p L)) rfl deP;rw [add_zero] at this;exact this
 have hnb:newB 23 [Value.pointer (GL.p L)] H=some (⟨H.next,0,none⟩,H2):=rfl;have hs2:=hs H2 x2;have pre:Y3 (LCo k) m H (GL.p L) v s=if (aa.length:Int) > 64 then some (0,51,H2) else if (!aa.all (okA x.g.N))=true then some (0,150,H2) else
   (I5 (LCo k) (Nat.max m H2.next) H2 s).bind fun r=>(Z1 (LCo k) m r.2 (GL.p L) v r.1 false).bind fun r=>some (r.1,r.2.1,r.2.2):=by
  unfold Y3;rw [hnb];simp only [Option.bind_some];rw [hpr];simp only [Option.bind_some];rw [E8 k h2.gr.rep];simp only [Option.bind_some,if_true,hs2.n];by_cases hbig:(aa.length:Int) > 64
  ·rw [if_pos hbig,if_pos hbig]
  ·rw [if_neg hbig,if_neg hbig,z7r k h2.gr.rep hs2 (by omega) hpr];rfl
 rw [pre];by_cases hbig:64<aa.length
 ·have hp:addP x.g.N v aa=(0,51,x.g.N):=by unfold addP; rw [if_pos hbig]
  rw [if_pos (by omega),hp];exact ⟨H2,L,x,rfl,⟨h2,rfl,fmE x2,fun _ _ h=>.inl h⟩,rfl,rfl⟩
 ·rw [if_neg (by omega)];cases hall:aa.all (okA x.g.N) with
  | false =>
   have hp:addP x.g.N v aa=(0,150,x.g.N):=by unfold addP; rw [if_neg hbig,hall]; rfl
   rw [hp];exact ⟨H2,L,x,rfl,⟨h2,rfl,fmE x2,fun _ _ h=>.inl h⟩,rfl,rfl⟩
  | true =>
   have hp:addP x.g.N v aa=putP x.g.N ⟨false,v,aa.map Int.toNat⟩:=by unfold addP; rw [if_neg hbig,hall]; rfl
   have hok:=List.all_eq_true.1 hall;have hnn:∀a∈aa,0≤a:=fun a ha=>by obtain ⟨n,rfl,_⟩:=c8.1 (hok a ha); exact Int.natCast_nonneg n
   obtain ⟨s',H3,b1,b2,b3,b4⟩:=zaz k (Nat.max m H2.next) (H:=H2) (s:=s) (l:=aa.map Int.toNat) (fun H' hx=>by
    have:=(hs H' (x2.trans hx)).rdv;rw [z5c hnn] at this;rw [List.length_map]; exact this) (by rw [List.length_map]; omega) (Nat.max_le.2 ⟨h2.gr.nm,Nat.le_refl _⟩)
   have h3:=h2.ext hE b3;have hsl:SlA EI T.I m H3 (aa.map Int.toNat) s':=by rw [hT.I]; exact SlA.down (VecA.toS b2) (Nat.le_max_left _ _)
   have hfr:∀id,fpt s' id→H.next≤id:=fun id hid=>Nat.le_trans x2.1 (b4 id (zgb b2 hid));obtain ⟨H',L',x',c1,c2,c3,c4⟩:=z8d hE hP hT k h3 (y:=⟨false,v,aa.map Int.toNat⟩) (sl:=s') hsl (n0:=H.next) (Nat.le_trans x2.1 b3.1) hfr (fun c id hc hf=>by
    have h1:=(h.gr.rep.low hc).2;have:=hfr id hf;omega) (fun a ha=>by
     obtain ⟨b,hb,rfl⟩:=List.mem_map.1 ha;obtain ⟨n,rfl,hn⟩:=c8.1 (hok b hb);exact hn) (by show (aa.map Int.toNat).length≤64; rw [List.length_map]; omega) hsy (by show totN x.g.N+(aa.map Int.toNat).length≤_; rw [List.length_map]; exact ht)
   refine ⟨H',L',x',?_,⟨c2.gs,c2.q,fmT (fmE (x2.trans b3)) c2.fm,c2.fp⟩,by rw [hp]; exact c3,c4⟩;rw [b1,hp];simp only [Option.bind_some,Bool.not_true,Bool.false_eq_true,if_false];have c1':Z1 (LCo k) m H3 (GL.p L) v s' false=some ((putP x.g.N ⟨false,v,aa.map Int.toNat⟩).1,(putP x.g.N ⟨false,v,aa.map Int.toNat⟩).2.1,H'):=c1;rw [c1'];rfl
theorem z81 (hE:Env T tx m Tb) (hP:PE T 58 kt e) (hT:TyOK T) (k:Nat) (h:GS T tx m Tb H L x) (a b c:Int) (d:Bool) (hl:x.sd.length≤1048576) :
  ∃H' L' x',Z2 (LCo k) m H (GL.p L) a b c d=some ((sayP x.g.N x.sd (a,b,c,d)).1,H')∧GO T tx m Tb H.next H L H' L' x'∧x'.g.N=x.g.N∧x'.sd=(sayP x.g.N x.sd (a,b,c,d)).2:=by
 have hm:=h.gr.nm;cases hok:okA x.g.N a&&okA x.g.N b with
 | false =>
  have hp:sayP x.g.N x.sd (a,b,c,d)=(150,x.sd):=by unfold sayP; simp only [hok]; rfl
  refine ⟨H,L,x,?_,⟨h,rfl,Fm.refl _ _,fun _ _ h=>.inl h⟩,rfl,by rw [hp]⟩;rw [hp];unfold Z2;rw [E8 k h.gr.rep];simp only [Option.bind_some,if_true];rw [i7 k h.gr.rep,i7 k h.gr.rep];have e1:decide (0≤a∧a<(x.g.n:Int))=okA x.g.N a:=rfl;have e2:decide (0≤b∧b<(x.g.n:Int))=okA x.g.N b:=rfl;rw [e1,e2];cases ha:okA x.g.N a with
  | false=>rfl
  | true =>
   rw [ha] at hok;simp only [Bool.true_and] at hok;rw [hok];rfl
 | true =>
  have hp:sayP x.g.N x.sd (a,b,c,d)=(0,x.sd++[(a,b,c,d)]):=by unfold sayP; simp only [hok]; rfl
  simp only [Bool.and_eq_true] at hok;obtain ⟨n1,ra,hn1⟩:=c8.1 hok.1;obtain ⟨n2,rb,hn2⟩:=c8.1 hok.2;rw [hp];obtain ⟨z1,H1,s1,H1',H2,b1,b2,b3,b4,b5,b6⟩:=h.gr.rep.pushS (a,b,c,d) hl hm;have m2:m≤H2.next:=Nat.le_trans hm b5.1;have tb2:Tb H2:=hE.tb h.gr.tb b5 fun id hid=>hid.elim (fun e=>(h.gr.rep.low (c:=.q) (id:=id) e).1) fun e=>(h.gr.rep.low (c:=.S) (id:=id) e).1;have fp1:∀c id,GL.fp { L with sS:=s1 } c id→L.fp c id∨H.next≤id:=fpS b6;have fm1:Fm (Wc L H.next) H H2:=fmP (L1:=L) b5 (fun id hid=>hid.elim (fun e=>⟨.q,e⟩) fun e=>⟨.S,e⟩) fun _ _ h=>.inl h;have sdr':∀s∈x.sd++[(a,b,c,d)],okA x.g.N s.1=true∧okA x.g.N s.2.1=true:=by
   intro s hs;rcases List.mem_append.1 hs with hs | hs
   ·exact h.sdr s hs
   ·rw [List.mem_singleton] at hs;subst hs;exact hok
  have pre:Z2 (LCo k) m H (GL.p L) a b c d=if d=true then some (0,H2) else (W1 (LCo k) m H2 (GL.p L) a b 0 c 0 0 false).bind fun H=>some (0,H):=by
   unfold Z2;rw [E8 k h.gr.rep];simp only [Option.bind_some,if_true];rw [i7 k h.gr.rep,i7 k h.gr.rep];have e1:decide (0≤a∧a<(x.g.n:Int))=true:=hok.1;have e2:decide (0≤b∧b<(x.g.n:Int))=true:=hok.2;rw [e1,e2];simp only [Option.bind_some,if_true,Bool.not_true,Bool.false_eq_true,if_false,GL.p];rw [h.gr.rep.q (j:=2) (v:=L.sS.v) rfl deSl];simp only [show deSl (Sl3.v L.sS)=some L.sS from rfl,Option.bind_some];rw [hT.S] at b1 b2;rw [b1];simp only [Option.bind_some];rw [b2];simp only [Option.bind_some];rw [b3];simp only [Option.bind_some];cases d with
   | true=>rfl
   | false =>
    simp only [Bool.false_eq_true,if_false];cases W1 (LCo k) m H2 (some ⟨L.q,0,none⟩) a b 0 c 0 0 false <;> rfl
  have li':∀d',LI x.g.N (x.sd++[(a,b,c,d')]) x.fe x.g.n x.g.o:=fun d' i j hi hj e=>(h.gr.li i j hi hj e).mono (fun _ _ h=>h) (fun s hs=>List.mem_append_left _ hs) fun _ _ _ h=>h;rw [pre];cases d with
  | true =>
   refine ⟨H2,_,_,rfl,⟨⟨⟨b4,tb2,?_,h.gr.mx,h.gr.sm,m2,h.gr.cll,li' true⟩,h.ids,sdr'⟩,rfl,fm1,fp1⟩,rfl,rfl⟩;show MI x.g (Mof (x.sd++[(a,b,c,true)])) [];rw [z8h];simp only [if_true,List.append_nil];exact h.gr.mi
  | false =>
   have hmi:MI x.g (Mof (x.sd++[(a,b,c,false)])) [(n1,n2)]:=by
    rw [z8h];have:=h.gr.mi.say (a:=n1) (b:=n2) hn1 hn2;rw [ra,rb]
    simpa using this
   obtain ⟨H',L',x',g1,g2⟩:=z5i hE hP hT.I k b4 tb2 (M:=Mof (x.sd++[(a,b,c,false)])) hmi h.gr.mx h.gr.sm m2 0 c 0 0 false ra rb (li' false) (.inl ⟨rfl,(a,b,c,false),List.mem_append_right _ List.mem_cons_self,rfl,rfl,.inl ⟨ra,rb⟩⟩);have g1':W1 (LCo k) m H2 (GL.p L) a b 0 c 0 0 false=some H':=g1;have gN:x'.g.N=x.g.N:=g2.N;have gsd:x'.sd=x.sd++[(a,b,c,false)]:=g2.sd;refine ⟨H',L',x',by rw [g1']; rfl,⟨⟨⟨g2.rep,g2.tb,by rw [gsd]; exact g2.mi,g2.mx,g2.sm,g2.nm,?_,g2.li⟩,?_,?_⟩,g2.q,fmT fm1 (g2.fm.weak fun id _ hw hlt=>?_),fun c id hid=>?_⟩,gN,gsd⟩
   ·rw [g2.cll];show x.g.cls.length=x'.g.N.length;rw [gN]; exact h.gr.cll
   ·rw [show x'.ids=x.ids from g2.ids,gN]; exact h.ids
   ·rw [gsd,gN]; exact sdr'
   ·obtain ⟨c,hc⟩:=hw (by have:=b5.1; omega);rcases fp1 c id hc with h1 | h1
    ·exact ⟨c,h1⟩
    ·omega
   ·rcases g2.fp c id hid with h1 | h1
    ·exact fp1 c id h1
    ·exact .inr (Nat.le_trans b5.1 h1)
end
end Go.Proofs.YtgkhbmoidenjaaaDoor
namespace Go.Proofs.YtgkhbmoidenjaaaDoor
open Go Go.Abs Go.Abs.Eg
set_option maxRecDepth 100000
section
variable {T:Tys} {tx:Key→ByteArray} {m:Nat} {H:AH} {L:GL} {x:Gh} {Tb:AH→Prop} {kt e:TypeId}
theorem zf6 (hE:Env T tx m Tb) (hT:TyOK T) (k:Nat) (hb:Tb H) (hm:m≤H.next) :
  ∃H' L,c9 (LCo k) m H=some (GL.p L,H')∧GS T tx m Tb H' L ⟨⟨[],[],[],fun _=>none,[]⟩,fun _=>none,[],[]⟩∧Ext H H'∧∀c id,L.fp c id→H.next≤id:=by
 let H2:=H.push mapB
 let H4:=H2.push mapB
 let L:GL:=⟨H4.next,H.next,H2.next,Sl3.nil,Sl3.nil,Sl3.nil,Sl3.nil,Sl3.nil,Sl3.nil,[],[]⟩
 let H6:=H4.push (pubB 63 (qCells L))
 have x1:Ext H H2:=Fm.push _ _ _;have x2:Ext H2 H4:=Fm.push _ _ _;have x3:Ext H4 H6:=Fm.push _ _ _;have n2:H2.next=H.next+1:=AH.next_push _ _;have n4:H4.next=H.next+2:=by show (H2.push _).next=_; rw [AH.next_push,n2]
 have n6:H6.next=H.next+3:=by show (H4.push _).next=_; rw [AH.next_push,n4]
 have xx:Ext H H6:=x1.trans (x2.trans x3);have m1:MapU Value.string H6 H.next fun _=>none:=by
  have h1:=(MapU.new Value.string (H:=H)).fr x2 (by show H.next<H2.next; omega) (fun h=>h);exact h1.fr x3 (by show H.next<H4.next; omega) (fun h=>h)
 have m2:MapU Value.string H6 H2.next fun _=>none:=(MapU.new Value.string (H:=H2)).fr x3 (by show H2.next<H4.next; omega) (fun h=>h);have own:∀c id,L.fp c id→(c=.q∧id=H4.next)∨(c=.mi∧id=H.next)∨(c=.ms∧id=H2.next):=by
  intro c id h;cases c with
  | q=>exact .inl ⟨rfl,h⟩
  | mi=>exact .inr (.inl ⟨rfl,h⟩)
  | ms=>exact .inr (.inr ⟨rfl,h⟩)
  | N=>exact (O1 h).elim
  | S=>exact (O1 h).elim
  | O=>exact (O1 h).elim
  | C=>exact (O1 h).elim
  | F=>exact (O1 h).elim
  | blk k=>obtain ⟨p,hp,_⟩:=h; cases hp
  | us k=>obtain ⟨p,hp,_⟩:=h; cases hp
  | me k=>obtain ⟨p,hp,_⟩:=h; cases hp
  | va k=>obtain ⟨p,hp,_⟩:=h; cases hp
  | na k=>obtain ⟨p,hp,_⟩:=h; cases hp
 refine ⟨H6,L,rfl,⟨⟨⟨fun c=>?_,fun c c' id h1 h2=>?_,rfl,rfl,rfl⟩,hE.tbx hb xx,MI.empty,⟨fun i h=>absurd h (Nat.not_lt_zero i),fun i h=>absurd h (Nat.not_lt_zero i)⟩,⟨by decide,by decide,fun i y h=>(by cases h),fun i y h=>(by cases h),by decide⟩,by omega,rfl,fun i j h=>absurd h (Nat.not_lt_zero i)⟩,fun y=>rfl,fun s h=>(by cases h)⟩,xx,fun c id h=>?_⟩
 ·cases c with
  | q =>
   show ArrV T.G m H6 H4.next (qCells L);rw [hT.G];exact ArrV.new (by omega)
  | mi=>exact ⟨hm,by show H.next<H6.next; omega,_,m1,fun k=>rfl⟩
  | ms=>exact ⟨by show m≤H2.next; omega,by show H2.next<H6.next; omega,_,m2,fun k=>rfl⟩
  | N=>exact SlA.nil
  | S=>exact SlA.nil
  | O=>exact SlA.nil
  | C=>exact SlA.nil
  | F=>exact SlA.nil
  | blk k=>intro p hp; cases hp
  | us k=>intro p hp; cases hp
  | me k=>intro p hp; cases hp
  | va k=>intro p hp; cases hp
  | na k=>intro p hp; cases hp
 ·rcases own c id h1 with ⟨rfl,e1⟩ | ⟨rfl,e1⟩ | ⟨rfl,e1⟩ <;> rcases own c' id h2 with ⟨rfl,e2⟩ | ⟨rfl,e2⟩ | ⟨rfl,e2⟩ <;> first | rfl | (exfalso; omega)
 ·rcases own c id h with ⟨_,e1⟩ | ⟨_,e1⟩ | ⟨_,e1⟩ <;> omega
theorem zdf (k:Nat) (h:GS T tx m Tb H L x) {a:Nat} (ha:a<x.g.n):C2 (LCo k) H (GL.p L) (a:Int)=some ((((x.g.c (x.g.o a)).low:Nat):Int),true):=by
 obtain ⟨q1,r1,r2⟩:=h.gr.rep.of_ (i:=a) (by rw [h.gr.mi.len]; exact ha) (v:=(a:Int)) rfl;obtain ⟨q2,p,hp,r3,r4⟩:=h.gr.rep.cls_ (h.gr.mi.cl a ha) (v:=((x.g.o a:Nat):Int)) rfl;unfold C2;rw [i7 k h.gr.rep,decide_eq_true (show (0:Int)≤(a:Int)∧(a:Int)<(x.g.n:Int) by omega)];simp only [Option.bind_some,if_true,GL.p];rw [h.gr.rep.q (j:=5) (v:=L.sC.v) rfl deSl,h.gr.rep.q (j:=4) (v:=L.sO.v) rfl deSl];simp only [show deSl (Sl3.v L.sC)=some L.sC from rfl,show deSl (Sl3.v L.sO)=some L.sO from rfl,Option.bind_some,r1,r2,r3,r4];rw [readC h.gr.rep hp (j:=3) (v:=.int .i64 (((x.g.c (x.g.o a)).low:Nat):Int)) rfl (deI .i64)];rfl
end
end Go.Proofs.YtgkhbmoidenjaaaDoor
namespace Go.Proofs.YtgkhbmoidenjaaaDoor
open Go Go.Abs Go.Abs.Eg
set_option maxRecDepth 100000
section
variable {m:Nat} {H:AH} {id:Nat} {f:Nat→Nat}
theorem zac:∀(u:Nat),Go.Lib.decDigits u=(decD (nd u) u).map Nat.toUInt8:=by
 intro u;induction u using Nat.strongRecOn with
 | ind u ih =>
  rw [Go.Lib.decDigits];by_cases h:u<10
  ·rw [dif_pos h,D9 h];show _=([]++[48+u % 10]:List Nat).map Nat.toUInt8;rw [Nat.mod_eq_of_lt h];rfl
  ·rw [dif_neg h,nd_big h,ih (u / 10) (by omega)];show _=(decD (nd (u / 10)) (u / 10)++[48+u % 10]).map Nat.toUInt8;rw [List.map_append];rfl
theorem zfc (a:Int):(⟨(Go.Lib.itoa a).toArray⟩:ByteArray)=bytesL (itoaL a):=by
 unfold bytesL Go.Lib.itoa itoaL;by_cases h:a<0
 ·rw [if_pos h,if_pos h,zac];rfl
 ·rw [if_neg h,if_neg h,zac];have:a.natAbs=a.toNat:=by omega
  rw [this];rfl
theorem z6x (k:Nat) (hT:HasT H) (hm:m≤H.next) {a:Int} (h0:-9223372036854775808≤a) (h1:a<9223372036854775808):∃H',strconv_Itoa (LCo k) m H a=some (bytesL (itoaL a),H')∧Ext H H':=by
 refine ⟨H,?_,Fm.refl _ _⟩;unfold strconv_Itoa;rw [if_pos ⟨hT,h0,by omega⟩,zfc]
theorem z4o {a:Int} (h0:-9223372036854775808≤a) (h1:a<9223372036854775808):(itoaL a).length≤20:=by
 unfold itoaL;rw [List.length_append,z5b];have:a.natAbs<10 ^ (18+1):=by
  have:(10:Nat) ^ (18+1)=10000000000000000000:=by decide
  rw [this]; omega
 have:=nd_le 18 _ this;split <;> simp <;> omega
theorem cat_ok {l l':List Nat} (h:l.length+l'.length≤9223372036854775807):strcat (bytesL l) (bytesL l')=some (bytesL (l++l')):=by
 unfold strcat;rw [z4f,z4f,if_neg (by rw [show IntKind.i64.max=9223372036854775807 from rfl]; omega),z7h]
theorem zcz (k m2:Nat) {sl:Sl3} {l:List Nat} (hl:l.length≤64) (hla:∀a∈l,a≤1048576) {pre:List Nat} (hp:pre.length≤1000):∀(d i:Nat) (H:AH),i+d=l.length→HasT H→m≤H.next→(∀H',Ext H H'→SlA EI 3 m2 H' l sl) →
  ∃H',loopO (m4 (LCo k) m sl) (H,bytesL (pre++argsL (l.take i)),(i:Int))=some (.inl (H',bytesL (pre++argsL l),(l.length:Int)))∧Ext H H':=by
 have hal:∀(l:List Nat),(∀a∈l,a≤1048576)→(argsL l).length≤21*l.length:=by
  intro l;induction l with
  | nil=>intro _; exact Nat.le_refl _
  | cons a l ih =>
   intro h;have h1:=ih fun b hb=>h b (List.mem_cons_of_mem _ hb);have h2:=h a (by simp);have h3:=z4o (a:=(a:Int)) (by omega) (by omega);show (32 :: (itoaL (a:Int))++argsL l).length≤_;simp only [List.length_append,List.length_cons];omega
 intro d;induction d with
 | zero =>
  intro i H hi hT hm hs;have:i=l.length:=by omega
  subst this;have h0:=(hs H (Fm.refl _ _)).cnt;refine ⟨H,?_,Fm.refl _ _⟩;rw [List.take_length];refine D4 ?_;unfold m4;simp only [h0,if_neg (show ¬((l.length:Int)<(l.length:Int)) by omega)]
 | succ d ih =>
  intro i H hi hT hm hs;have hil:i<l.length:=by omega
  have h0:=hs H (Fm.refl _ _);obtain ⟨q,r1,r2⟩:=rd_EI h0 hil (v:=(i:Int)) rfl;have hli:=hla _ (List.getElem_mem hil);obtain ⟨H1,a1,a2⟩:=z6x k hT hm (a:=((l[i]:Nat):Int)) (by omega) (by omega);have ln1:=z4o (a:=((l[i]:Nat):Int)) (by omega) (by omega);have ln2:=hal (l.take i) fun a ha=>hla a (List.mem_of_mem_take ha);rw [List.length_take] at ln2;have c1:strcat (⟨#[32]⟩:ByteArray) (bytesL (itoaL ((l[i]:Nat):Int)))=some (bytesL (32 :: itoaL ((l[i]:Nat):Int))):=cat_ok (l:=[32]) (by simp only [List.length_singleton]; omega);have c2:strcat (bytesL (pre++argsL (l.take i))) (bytesL (32 :: itoaL ((l[i]:Nat):Int)))=some (bytesL (pre++argsL (l.take (i+1)))):=by
   rw [cat_ok (by simp only [List.length_append,List.length_cons]; omega),List.take_succ_eq_append_getElem hil]
   congr 2
   unfold argsL;rw [List.flatMap_append,List.append_assoc]
   congr 2
   simp
  obtain ⟨H2,b1,b2⟩:=ih (i+1) H1 (by omega) (hT.ext a2) (Nat.le_trans hm a2.1) fun H' hx=>hs H' (a2.trans hx);refine ⟨H2,?_,a2.trans b2⟩;rw [← b1];refine V2 ?_;unfold m4;simp only [h0.cnt,if_pos (show (i:Int)<(l.length:Int) by omega),r1,r2,Option.bind_some,a1,c1,c2];rw [J2 (n:=l.length) hil (by rw [K3]; omega)]
theorem zel {T:Tys} {Tb:AH→Prop} (hI:T.I=3) (htab:∀H,Tb H→HasT H) (htb:∀{H H':AH} {W:Nat→Prop},Tb H→Fm W H H'→(∀id,W id→m≤id)→Tb H'):Env T txK m Tb:=by
 refine ⟨zfw,htb,fun k m1 m2 H v s sl l hb hm hs hla hl h0 h1=>?_⟩;rw [hI] at hs;have hT:=htab H hb;obtain ⟨H1,a1,a2⟩:=z6x (m:=m1) k hT hm h0 h1;have ln1:=z4o h0 h1;obtain ⟨H2,b1,b2⟩:=zcz (m:=m1) k m2 hl hla (pre:=(if v then 118 else 115) :: itoaL s) (by simp only [List.length_cons]; omega) l.length 0 H1 (by omega) (hT.ext a2) (Nat.le_trans hm a2.1) fun H' hx=>hs.ext (a2.trans hx);refine ⟨H2,?_,a2.trans b2⟩;have c1:strcat (bytesL [if v then 118 else 115]) (bytesL (itoaL s))=some (bytesL ((if v then 118 else 115) :: itoaL s)):=cat_ok (l:=[if v then 118 else 115]) (by simp only [List.length_singleton]; omega);have hv:(if v=true then some (⟨#[118]⟩:ByteArray) else some (⟨#[115]⟩:ByteArray):Option ByteArray)=some (bytesL [if v then 118 else 115]):=by cases v <;> rfl
 unfold N5;refine (congrArg (fun o=>Option.bind o _) hv).trans ?_;simp only [Option.bind_some];rw [a1];simp only [Option.bind_some];rw [c1];simp only [Option.bind_some];have b1':(LCo k).run (m4 (LCo k) m1 sl) (H1,bytesL ((if v then 118 else 115) :: itoaL s),0)=some (.inl (H2,bytesL (((if v then 118 else 115) :: itoaL s)++argsL l),(l.length:Int))):=by
  have e:((if v then 118 else 115) :: itoaL s)++argsL (l.take 0)=(if v then 118 else 115) :: itoaL s:=by simp [argsL]
  rw [e] at b1;exact b1
 rw [b1'];rfl
end
end Go.Proofs.YtgkhbmoidenjaaaDoor
namespace Go.Proofs.YtgkhbmoidenjaaaDoor
open Go Go.Abs Go.Abs.Eg
set_option maxRecDepth 100000
theorem strK:KeyK Tryd.prog 9 (fun s:ByteArray=>Value.string s):=by
 refine ⟨⟨.string,by kernel_rfl,.inl fun a b=>?_⟩,fun a b=>by kernel_rfl,fun a=>?_⟩
 ·show some (a == b)=_;rw [ba_beq]
 ·show (a == a)=true;rw [ba_beq]; simp
theorem mp:MP Tryd.prog 58 9 3:=⟨strK,by kernel_rfl,by kernel_rfl⟩
theorem del_eq (m:Nat) (H H':AH) (r:Option Nat) (s:ByteArray) (h:aDelete Tryd.prog m #[58] [.map r,.string s] H=some (.tuple #[],H')):gOp Tryd.prog m (opsOf (cfst (csnd (csnd (csnd (cfst (cfst (csnd (csnd (cfst (cfst (csnd (cfst (csnd (csnd B73))))))))))))))) 7 [(65,.val (Value.map r)),(68,.val (Value.string s))] deV H=some (.tuple #[],H'):=by
 unfold gOp;rw [show runOp Tryd.prog (NE.plain 0) ih0 m (opAt (opsOf (cfst (csnd (csnd (csnd (cfst (cfst (csnd (csnd (cfst (cfst (csnd (cfst (csnd (csnd B73))))))))))))))) 7) (evV [(65,.val (Value.map r)),(68,.val (Value.string s))]) H=aDelete Tryd.prog m #[58] [.map r,.string s] H from by kernel_rfl];rw [h];rfl
theorem min_eq (a b:Int) (H:AH):gOp1 Tryd.prog (opsOf (cfst (csnd (csnd (csnd (csnd (csnd (csnd (csnd (csnd (csnd B73))))))))))) 9 [(166,.val (Value.int .i64 a)),(170,.val (Value.int .i64 b))] (deI .i64) H=some (min a b):=by
 have h:runOp Tryd.prog (NE.plain 0) ih0 0 (opAt (opsOf (cfst (csnd (csnd (csnd (csnd (csnd (csnd (csnd (csnd (csnd B73))))))))))) 9) (evV [(166,.val (Value.int .i64 a)),(170,.val (Value.int .i64 b))]) H=some (.int .i64 (if b<a then b else a),H):=by kernel_rfl
 unfold gOp1 gOp;rw [h];show some (if b<a then b else a)=some (min a b)
 congr 1
 split <;> omega
theorem pe {T:Tys}:PE T 58 9 3:=⟨mp,del_eq,min_eq⟩
section
variable {m:Nat} {H:AH} {R:RL} {N:List Nd} {sd:List Sd}
abbrev RF (m:Nat) (H:AH) (R:RL) (N:List Nd) (sd:List Sd):Prop:=RR 32 42 49 m H R N sd
abbrev RL.p (R:RL):Option Addr:=some ⟨R.q,0,none⟩
theorem z6r (k:Nat) {s1 s2:Sl3} {m1 m2:Nat} {z y:Nd} (hz:SlA EI 3 m1 H z.args s1) (hy:SlA EI 3 m2 H y.args s2) (hl:z.args.length≤64):M7 (LCo k) H z.sym z.value s1 y.sym y.value s2=some (decide (z=y)):=by
 have first:(if z.sym=y.sym then if (z.value == y.value)=true then some (!decide ((s1.n:Int)=(s2.n:Int))) else some true else some true:Option Bool)=some (!(decide (z.sym=y.sym)&&(decide (z.value=y.value)&&decide (z.args.length=y.args.length)))):=by
  rw [hz.cnt,hy.cnt];by_cases h1:z.sym=y.sym
  ·rw [if_pos h1];by_cases h2:z.value=y.value
   ·rw [if_pos (by rw [h2]; simp)];by_cases h3:z.args.length=y.args.length
    ·simp [h1,h2,h3]
    ·have:¬(z.args.length:Int)=(y.args.length:Int):=by omega
     simp [h1,h2,h3];exact this
   ·rw [if_neg (by simpa using h2)];simp [h2]
  ·rw [if_neg h1];simp [h1]
 unfold M7;refine (congrArg (fun o=>Option.bind o _) first).trans ?_;simp only [Option.bind_some];by_cases hc:z.sym=y.sym∧z.value=y.value∧z.args.length=y.args.length
 ·obtain ⟨c1,c2,c3⟩:=hc;rw [if_neg (by simp [c1,c2,c3])];have A:=scanI (f:=N3 (LCo k) H z.sym z.value s1 y.sym y.value s2) z.args.length (fun i=>decide (z.args[i]? ≠ y.args[i]?)) (fun i=>(i:Int)) (fun _=>false) (fun i hi hp=>?_) (fun i hi hp=>?_) ?_;rotate_left
  ·obtain ⟨q1,r1,r2⟩:=rd_EI hz hi (v:=(i:Int)) rfl;obtain ⟨q2,r3,r4⟩:=rd_EI hy (i:=i) (by omega) (v:=(i:Int)) rfl;have he:z.args[i]=y.args[i]'(by omega):=by
    have:=of_decide_eq_false hp;rw [List.getElem?_eq_getElem hi,List.getElem?_eq_getElem (show i<y.args.length by omega)] at this
    simpa using this
   unfold N3;simp only [hz.cnt,if_pos (show (i:Int)<(z.args.length:Int) by omega),r1,r2,r3,r4,Option.bind_some];rw [if_pos (by rw [he]),J2 (n:=z.args.length) hi (by rw [K3]; omega)]
  ·obtain ⟨q1,r1,r2⟩:=rd_EI hz hi (v:=(i:Int)) rfl;obtain ⟨q2,r3,r4⟩:=rd_EI hy (i:=i) (by omega) (v:=(i:Int)) rfl;have he:¬z.args[i]=y.args[i]'(by omega):=by
    have:=of_decide_eq_true hp;rw [List.getElem?_eq_getElem hi,List.getElem?_eq_getElem (show i<y.args.length by omega)] at this
    simpa using this
   unfold N3;simp only [hz.cnt,if_pos (show (i:Int)<(z.args.length:Int) by omega),r1,r2,r3,r4,Option.bind_some];rw [if_neg (by omega)]
  ·unfold N3;simp only [hz.cnt,if_neg (show ¬((z.args.length:Int)<(z.args.length:Int)) by omega)]
  rcases A with ⟨i,hi,hp,_,e⟩ | ⟨hall,e⟩
  ·rw [show (LCo k).run (N3 (LCo k) H z.sym z.value s1 y.sym y.value s2) 0=some (.inr false) from e];have:¬z=y:=fun h=>by
    rw [h] at hp;simp at hp
   simp only [Option.bind_some,decide_eq_false this]
  ·rw [show (LCo k).run (N3 (LCo k) H z.sym z.value s1 y.sym y.value s2) 0=some (.inl (z.args.length:Int)) from e];have:z=y:=by
    have ha:z.args=y.args:=by
     refine List.ext_getElem? fun i=>?_;by_cases hi:i<z.args.length
     ·have:=of_decide_eq_false (hall i hi)
      simpa using this
     ·rw [List.getElem?_eq_none (by omega),List.getElem?_eq_none (by omega)]
    cases z; cases y;simp only at c1 c2 ha;rw [c1,c2,ha]
   simp only [Option.bind_some,decide_eq_true this]
 ·have hb:(!(decide (z.sym=y.sym)&&(decide (z.value=y.value)&&decide (z.args.length=y.args.length))))=true:=by
   by_cases h1:z.sym=y.sym
   ·by_cases h2:z.value=y.value
    ·have h3:¬z.args.length=y.args.length:=fun h3=>hc ⟨h1,h2,h3⟩;simp [h3]
    ·simp [h2]
   ·simp [h1]
  rw [if_pos hb,decide_eq_false]
  rintro rfl
  exact hc ⟨rfl,rfl,rfl⟩
structure RO (m n0:Nat) (H:AH) (R:RL) (H':AH) (R':RL) (N:List Nd) (sd:List Sd):Prop where
 rr:RF m H' R' N sd
 q:R'.q=R.q
 nm:m≤H'.next
 fm:Fm (fun id=>id<n0→R.fp id) H H'
 fp:∀id,R'.fp id→R.fp id∨n0≤id
theorem z4b (k:Nat) (h:RF m H R N sd) (hm:m≤H.next) {y:Nd} {sl:Sl3} (hs:SlA EI 3 m H y.args sl) {n0:Nat} (hn0:n0≤H.next) (hf:∀id,fpt sl id→n0≤id) (hd:∀id,R.fp id→¬fpt sl id) (hl:∀z∈N,z.args.length≤64) (hN:N.length≤1048576) :
  ∃H' R',I3 (LCo k) m H (RL.p R) y.sym y.value sl=some ((putP N y).1,(putP N y).2.1,H')∧RO m n0 H R H' R' (putP N y).2.2 sd:=by
 have hcnt:R.sN.n=N.length:=by rw [h.hN.cnt,l7 h.nal]
 have A:=scanI (f:=G2 (LCo k) H (RL.p R) y.sym y.value sl) N.length (fun i=>decide (N[i]? = some y)) (fun i=>(i:Int)) (fun i=>((i:Int),0,H)) (fun i hi hp=>?_) (fun i hi hp=>?_) ?_;rotate_left
 ·obtain ⟨q,s,r1,r2,r3,r4,r5,_⟩:=h.node hi (v:=(i:Int)) rfl;have hne:¬N[i]=y:=by
   have:=of_decide_eq_false hp;rw [List.getElem?_eq_getElem hi] at this
   simpa using this
  unfold G2;simp only [Option.bind_some];rw [h.q.rd (j:=0) (v:=R.sN.v) rfl deSl];simp only [show deSl (Sl3.v R.sN)=some R.sN from rfl,Option.bind_some,hcnt,if_pos (show (i:Int)<(N.length:Int) by omega),r1,r2,r3,r4];rw [z6r k r5 hs (hl _ (List.getElem_mem hi)),decide_eq_false hne];simp only [Option.bind_some,Bool.false_eq_true,if_false];rw [J2 (n:=N.length) hi (by rw [K3]; omega)]
 ·obtain ⟨q,s,r1,r2,r3,r4,r5,_⟩:=h.node hi (v:=(i:Int)) rfl;have he:N[i]=y:=by
   have:=of_decide_eq_true hp;rw [List.getElem?_eq_getElem hi] at this
   simpa using this
  unfold G2;simp only [Option.bind_some];rw [h.q.rd (j:=0) (v:=R.sN.v) rfl deSl];simp only [show deSl (Sl3.v R.sN)=some R.sN from rfl,Option.bind_some,hcnt,if_pos (show (i:Int)<(N.length:Int) by omega),r1,r2,r3,r4];rw [z6r k r5 hs (hl _ (List.getElem_mem hi)),decide_eq_true he];simp only [Option.bind_some,if_true]
 ·unfold G2;simp only [Option.bind_some];rw [h.q.rd (j:=0) (v:=R.sN.v) rfl deSl];simp only [show deSl (Sl3.v R.sN)=some R.sN from rfl,Option.bind_some,hcnt,if_neg (show ¬((N.length:Int)<(N.length:Int)) by omega)]
 unfold I3;rcases A with ⟨i,hi,hp,hfst,e⟩ | ⟨hall,e⟩
 ·rw [show (LCo k).run (G2 (LCo k) H (RL.p R) y.sym y.value sl) 0=some (.inr ((i:Int),0,H)) from e];have he:N[i]=y:=by
   have:=of_decide_eq_true hp;rw [List.getElem?_eq_getElem hi] at this
   simpa using this
  have hfi:=z7i hi he fun j hj hh=>by
   have:=of_decide_eq_false (hfst j hj);rw [List.getElem?_eq_getElem (show j<N.length by omega)] at this;exact this (by rw [hh])
  have hp:putP N y=((i:Int),0,N):=by unfold putP; rw [hfi]
  rw [hp];exact ⟨H,R,rfl,h,rfl,hm,Fm.refl _ _,fun _ h=>.inl h⟩
 ·rw [show (LCo k).run (G2 (LCo k) H (RL.p R) y.sym y.value sl) 0=some (.inl (N.length:Int)) from e];have hfi:=z8n (N:=N) (y:=y) fun j hj hh=>by
   have:=of_decide_eq_false (hall j hj);rw [List.getElem?_eq_getElem hj] at this;exact this (by rw [hh])
  simp only [Option.bind_some];rw [h.q.rd (j:=0) (v:=R.sN.v) rfl deSl];simp only [show deSl (Sl3.v R.sN)=some R.sN from rfl,Option.bind_some,hcnt];by_cases hbig:1048576≤N.length
  ·have hp:putP N y=(0,3,N):=by unfold putP; rw [hfi]; simp only [if_pos hbig]
   rw [hp,if_pos (show ((N.length:Nat):Int)≥1048576 by omega)];exact ⟨H,R,rfl,h,rfl,hm,Fm.refl _ _,fun _ h=>.inl h⟩
  ·have hp:putP N y=(((N.length:Nat):Int),0,N++[y]):=by unfold putP; rw [hfi]; simp only [if_neg hbig]
   rw [hp,if_neg (show ¬((N.length:Nat):Int)≥1048576 by omega)];obtain ⟨z,H0,s',H1,H2,a1,a2,a3,a4,a5,a6⟩:=h.pushN y hs hd hN hm;refine ⟨H2,{ R with sN:=s',na:=R.na++[sl] },?_,a4,rfl,Nat.le_trans hm a5.1,a5.weak fun id _ hid _=>hid.elim (fun e=>.inl e) fun e=>.inr (.inl e),fun id hid=>?_⟩
   ·rw [a1];simp only [Option.bind_some];rw [a2];simp only [Option.bind_some];rw [a3];simp only [Option.bind_some];rw [show rd deSl H2 ((⟨R.q,0,none⟩:Addr).add 0)=some s' from a4.q.rd (j:=0) (v:=s'.v) rfl deSl];simp only [Option.bind_some];have hc:s'.n=N.length+1:=by
     have:=a4.hN.cnt;rw [show ({ R with sN:=s',na:=R.na++[sl] }:RL).sN=s' from rfl] at this;rw [this,z6z h.nal,List.length_append,l7 h.nal];rfl
    rw [hc,z4x (n:=N.length) (by omega) (by omega)]
   ·rcases hid with e0 | e0 | e0 | ⟨s0,hs',e0⟩
    ·exact .inl (.inl e0)
    ·rcases a6 id e0 with e0 | e0
     ·exact .inl (.inr (.inl e0))
     ·exact .inr (Nat.le_trans hn0 e0)
    ·exact .inl (.inr (.inr (.inl e0)))
    ·rcases List.mem_append.1 hs' with h1 | h1
     ·exact .inl (.inr (.inr (.inr ⟨s0,h1,e0⟩)))
     ·rw [List.mem_singleton] at h1;rw [h1] at e0;exact .inr (hf id e0)
theorem z7t (k:Nat) (h:RF m H R N sd) (hm:m≤H.next) (v:Int) (hl:∀z∈N,z.args.length≤64) (hN:N.length≤1048576) :
  ∃H' R',M4 (LCo k) m H (RL.p R) v=some ((valP N v).1,(valP N v).2.1,H')∧RO m H.next H R H' R' (valP N v).2.2 sd:=by
 obtain ⟨H',R',a1,a2⟩:=z4b k h hm (y:=⟨true,v,[]⟩) (sl:=Sl3.nil) SlA.nil (n0:=H.next) (Nat.le_refl _) (fun id h=>absurd h O1) (fun _ _=>O1) hl hN;refine ⟨H',R',?_,a2⟩;unfold M4;rw [show I3 (LCo k) m H (RL.p R) v true Sl3.nil=_ from a1];rfl
theorem J7 (k:Nat) (h:RF m H R N sd) (a:Int):S2 (LCo k) H (RL.p R) a=some (okA N a):=by
 have hcnt:R.sN.n=N.length:=by rw [h.hN.cnt,l7 h.nal]
 unfold S2;by_cases h0:a≥0
 ·rw [if_pos h0];simp only [Option.bind_some];rw [h.q.rd (j:=0) (v:=R.sN.v) rfl deSl];simp only [show deSl (Sl3.v R.sN)=some R.sN from rfl,Option.bind_some,hcnt];unfold okA
  congr 1
  exact decide_eq_decide.2 ⟨fun h1=>⟨h0,h1⟩,fun h1=>h1.2⟩
 ·rw [if_neg h0];unfold okA
  congr 1
  exact (decide_eq_false fun h1=>h0 h1.1).symm
theorem z9m (k:Nat) (h:RF m H R N sd) (hm:m≤H.next) {v:Int} {s:Sl3} {aa:List Int} (hs:Eg.AR H s aa) (hl:∀z∈N,z.args.length≤64) (hN:N.length≤1048576) :
  ∃H' R',C5 (LCo k) m H (RL.p R) v s=some ((addP N v aa).1,(addP N v aa).2.1,H')∧RO m H.next H R H' R' (addP N v aa).2.2 sd:=by
 unfold C5;rw [hs.n];by_cases hbig:64<aa.length
 ·have hp:addP N v aa=(0,51,N):=by unfold addP; rw [if_pos hbig]
  rw [if_pos (show ((aa.length:Nat):Int) > 64 by omega),hp];exact ⟨H,R,rfl,h,rfl,hm,Fm.refl _ _,fun _ h=>.inl h⟩
 ·rw [if_neg (show ¬((aa.length:Nat):Int) > 64 by omega)];have A:=scanI (f:=D2 (LCo k) H (RL.p R) v s) aa.length (fun i=>match aa[i]? with
    | some a=>!okA N a
    | none=>false) (fun i=>(i:Int)) (fun _=>(0,150,H)) (fun i hi hp=>?_) (fun i hi hp=>?_) ?_
  rotate_left
  ·rw [List.getElem?_eq_getElem hi] at hp;obtain ⟨q,r1,r2⟩:=hs.at_ i hi;have hp:okA N aa[i]=true:=by simpa using hp
   unfold D2;simp only [hs.n,if_pos (show (i:Int)<(aa.length:Int) by omega),r1,r2,Option.bind_some];rw [J7 k h,hp];simp only [Option.bind_some,if_true];rw [J2 (n:=aa.length) hi (by rw [K3]; omega)]
  ·rw [List.getElem?_eq_getElem hi] at hp;obtain ⟨q,r1,r2⟩:=hs.at_ i hi;have hp:okA N aa[i]=false:=by simpa using hp
   unfold D2;simp only [hs.n,if_pos (show (i:Int)<(aa.length:Int) by omega),r1,r2,Option.bind_some];rw [J7 k h,hp];rfl
  ·unfold D2;simp only [hs.n,if_neg (show ¬((aa.length:Int)<(aa.length:Int)) by omega)]
  rcases A with ⟨i,hi,hp,_,e⟩ | ⟨hall,e⟩
  ·rw [show (LCo k).run (D2 (LCo k) H (RL.p R) v s) 0=some (.inr (0,150,H)) from e];rw [List.getElem?_eq_getElem hi] at hp;have hp:okA N aa[i]=false:=by simpa using hp
   have hf:aa.all (okA N)=false:=by
    rw [List.all_eq_false];exact ⟨_,List.getElem_mem hi,by rw [hp]; simp⟩
   have hp:addP N v aa=(0,150,N):=by unfold addP; rw [if_neg hbig,hf]; rfl
   rw [hp];exact ⟨H,R,rfl,h,rfl,hm,Fm.refl _ _,fun _ h=>.inl h⟩
  ·rw [show (LCo k).run (D2 (LCo k) H (RL.p R) v s) 0=some (.inl (aa.length:Int)) from e];have hok:∀a∈aa,okA N a=true:=fun a ha=>by
    obtain ⟨i,hi,rfl⟩:=List.mem_iff_getElem.1 ha;have:=hall i hi;rw [List.getElem?_eq_getElem hi] at this
    simpa using this
   have hp:addP N v aa=putP N ⟨false,v,aa.map Int.toNat⟩:=by unfold addP; rw [if_neg hbig,List.all_eq_true.2 hok]; rfl
   have hnn:∀a∈aa,0≤a:=fun a ha=>by obtain ⟨n,rfl,_⟩:=c8.1 (hok a ha); exact Int.natCast_nonneg n
   have hz:=hs.rdv;rw [z5c hnn] at hz;obtain ⟨s',H1,b1,b2,b3,b4⟩:=SlA.app (E:=EI) (e:=3) (m:=m) (bytes:=8) (l:=[]) (l':=aa.map Int.toNat) (s:=Sl3.nil) (z:=s) SlA.nil (by rw [List.length_map]; exact hz) (by simp only [List.length_nil,List.length_map,Nat.zero_add]; omega) (by simp only [List.length_nil,List.length_map,Nat.zero_add]; omega) hm;have x1:Ext H H1:=⟨b3.1,fun id b hid _ hg=>b3.2 id b hid O1 hg⟩;have hfr:∀id,fpt s' id→H.next≤id:=fun id hid=>(b4 id hid).resolve_left O1;obtain ⟨H',R',c1,c2⟩:=z4b k (RR.ext h x1) (Nat.le_trans hm x1.1) (y:=⟨false,v,aa.map Int.toNat⟩) (sl:=s') b2 (n0:=H.next) x1.1 hfr (fun id hid hf=>by have:=(RR.low h hid).2; have:=hfr id hf; omega) hl hN;refine ⟨H',R',?_,by rw [hp]; exact c2.rr,c2.q,c2.nm,⟨Nat.le_trans x1.1 c2.fm.1,fun id b hid hw hg=>c2.fm.2 id b (Nat.lt_of_lt_of_le hid x1.1) hw (x1.2 id b hid (fun h=>h) hg)⟩,c2.fp⟩;simp only [Option.bind_some];have b1':appS m 3 1 8 H Sl3.nil s=some (s',H1):=b1;rw [b1',hp];simp only [Option.bind_some];rw [show I3 (LCo k) m H1 (RL.p R) v false s'=_ from c1];rfl
theorem z4d (k:Nat) (h:RF m H R N sd) (hm:m≤H.next) (a b c:Int) (d:Bool) (hl:sd.length≤1048576) :
  ∃H' R',J4 (LCo k) m H (RL.p R) a b c d=some ((sayP N sd (a,b,c,d)).1,H')∧RO m H.next H R H' R' N (sayP N sd (a,b,c,d)).2:=by
 have pre:((S2 (LCo k) H (RL.p R) a).bind fun x2=>if x2=true then (S2 (LCo k) H (RL.p R) b).bind fun x3=>some (!x3) else some true:Option Bool)=some (!(okA N a&&okA N b)):=by
  rw [J7 k h,J7 k h];cases okA N a <;> cases okA N b <;> rfl
 unfold J4;refine Exists.imp (fun H'=>Exists.imp fun R'=>And.imp_left fun hh=>(congrArg (fun o=>Option.bind o _) pre).trans hh) ?_;simp only [Option.bind_some];cases hok:okA N a&&okA N b with
 | false =>
  have hp:sayP N sd (a,b,c,d)=(150,sd):=by unfold sayP; simp only [hok]; rfl
  rw [hp];exact ⟨H,R,rfl,h,rfl,hm,Fm.refl _ _,fun _ h=>.inl h⟩
 | true =>
  have hp:sayP N sd (a,b,c,d)=(0,sd++[(a,b,c,d)]):=by unfold sayP; simp only [hok]; rfl
  rw [hp];obtain ⟨z,H0,s',H1,H2,a1,a2,a3,a4,a5,a6⟩:=RR.pushS h (a,b,c,d) hl hm;refine ⟨H2,{ R with sS:=s' },?_,a4,rfl,Nat.le_trans hm a5.1,a5.weak fun id _ hid _=>hid.elim (fun e=>.inl e) fun e=>.inr (.inr (.inl e)),fun id hid=>?_⟩
  ·simp only [Bool.not_true,Bool.false_eq_true,if_false];rw [RR.q h |>.rd (j:=1) (v:=R.sS.v) rfl deSl];simp only [show deSl (Sl3.v R.sS)=some R.sS from rfl,Option.bind_some];rw [a1];simp only [Option.bind_some];rw [a2];simp only [Option.bind_some];rw [a3];rfl
  ·rcases hid with e | e | e | e
   ·exact .inl (.inl e)
   ·exact .inl (.inr (.inl e))
   ·rcases a6 id e with e | e
    ·exact .inl (.inr (.inr (.inl e)))
    ·exact .inr e
   ·exact .inl (.inr (.inr (.inr e)))
end
end Go.Proofs.YtgkhbmoidenjaaaDoor
namespace Go.Proofs.YtgkhbmoidenjaaaDoor
open Go Go.Abs Go.Abs.Eg
set_option maxRecDepth 100000
section
variable {T:Tys} {m:Nat} {H0 H H':AH} {L:GL} {x:Gh} {R:RL} {Tb:AH→Prop} {tx:Key→ByteArray}
abbrev Tb0 (H0:AH):AH→Prop:=fun H=>Ext H0 H
theorem tb0_fr {W:Nat→Prop} (hlo:H0.next≤m) (h:Tb0 H0 H) (hf:Fm W H H') (hw:∀id,W id→m≤id):Tb0 H0 H' :=
 ⟨Nat.le_trans h.1 hf.1,fun id b hid hn hg=>hf.2 id b (Nat.lt_of_lt_of_le hid h.1) (fun hwi=>by have:=hw id hwi; omega) (h.2 id b hid hn hg)⟩
theorem env0 (hT:TyOK T) (hH:HasT H0) (hlo:H0.next≤m):Env T txK m (Tb0 H0):=zel hT.I (fun H h=>hH.ext h) fun h hf hw=>tb0_fr hlo h hf hw
theorem GS.fr {W:Nat→Prop} (hE:Env T tx m Tb) (h:GS T tx m Tb H L x) (hf:Fm W H H') (hw:∀c id,L.fp c id→¬W id) (hm:∀id,W id→m≤id):GS T tx m Tb H' L x :=
 ⟨⟨h.gr.rep.other hf hw,hE.tb h.gr.tb hf hm,h.gr.mi,h.gr.mx,h.gr.sm,Nat.le_trans h.gr.nm hf.1,h.gr.cll,h.gr.li⟩,h.ids,h.sdr⟩
structure PG (T:Tys) (m:Nat) (H0 H:AH) (L:GL) (x:Gh) (R:RL):Prop where
 gs:GS T txK m (Tb0 H0) H L x
 rf:RF m H R x.g.N x.sd
 sep:∀c id,L.fp c id→¬R.fp id
 nok:NOK x.g.N
theorem PG.old (h:PG T m H0 H L x R):Ext H0 H:=h.gs.gr.tb
theorem PG.ext (hE:Env T txK m (Tb0 H0)) (h:PG T m H0 H L x R) (hf:Ext H H'):PG T m H0 H' L x R:=⟨h.gs.ext hE hf,RR.ext h.rf hf,h.sep,h.nok⟩
theorem PG.rf1 (h:PG T m H0 H L x R) {H1:AH} {L1:GL} {x1:Gh} (g:GO T txK m (Tb0 H0) H.next H L H1 L1 x1):RF m H1 R x.g.N x.sd :=
 RR.fr h.rf g.fm fun id hid hw=>by
  obtain ⟨c,hc⟩:=hw (RR.low h.rf hid).2;exact h.sep c id hc hid
def Wp (L:GL) (R:RL) (n0:Nat) (id:Nat):Prop:=id<n0→(∃c,L.fp c id)∨R.fp id
theorem PG.low (h:PG T m H0 H L x R) {id:Nat} (hw:Wp L R H.next id):m≤id:=by
 by_cases hlt:id<H.next
 ·rcases hw hlt with ⟨c,hc⟩ | hr
  ·exact (h.gs.gr.rep.low hc).1
  ·exact (RR.low h.rf hr).1
 ·have:=h.gs.gr.nm; omega
structure PO (T:Tys) (m:Nat) (H0 H:AH) (L:GL) (R:RL) (H':AH) (L':GL) (x':Gh) (R':RL):Prop where
 pg:PG T m H0 H' L' x' R'
 q:L'.q=L.q
 rq:R'.q=R.q
 fm:Fm (Wp L R H.next) H H'
 fp:∀c id,L'.fp c id→L.fp c id∨H.next≤id
 rfp:∀id,R'.fp id→R.fp id∨H.next≤id
theorem PG.both (hE:Env T txK m (Tb0 H0)) (h:PG T m H0 H L x R) {H1 H2:AH} {L1:GL} {x1:Gh} {R':RL} {N':List Nd} {sd':List Sd} (g:GO T txK m (Tb0 H0) H.next H L H1 L1 x1) (r:RO m H1.next H1 R H2 R' N' sd')
  (hN:x1.g.N=N') (hS:x1.sd=sd') (hk:NOK N'):PO T m H0 H L R H2 L1 x1 R':=by
 subst hN; subst hS;have hle:=g.fm.1;have hRlt:∀id,R.fp id→id<H.next:=fun id hid=>(RR.low h.rf hid).2;refine ⟨⟨g.gs.fr hE r.fm (fun c id hc hw=>?_) (fun id hw=>?_),r.rr,fun c id hc hr=>?_,hk⟩,g.q,r.q,?_,g.fp,fun id hid=>?_⟩
 ·have hr:=hw (g.gs.gr.rep.low hc).2;rcases g.fp c id hc with h1 | h1
  ·exact h.sep c id h1 hr
  ·have:=hRlt id hr; omega
 ·by_cases hlt:id<H1.next
  ·exact (RR.low h.rf (hw hlt)).1
  ·have:=g.gs.gr.nm; omega
 ·rcases g.fp c id hc with h1 | h1
  ·rcases r.fp id hr with h2 | h2
   ·exact h.sep c id h1 h2
   ·have:=(h.gs.gr.rep.low h1).2; omega
  ·rcases r.fp id hr with h2 | h2
   ·have:=hRlt id h2; omega
   ·have:=(g.gs.gr.rep.low hc).2; omega
 ·refine (g.fm.weak fun id _ hw=>?_).comp (W':=fun id=>id<H1.next→R.fp id) r.fm fun id hid hn hw=>hn ?_
  ·exact fun hlt=>.inl (hw hlt)
  ·exact fun hlt=>.inr (hw (by omega))
 ·rcases r.fp id hid with h1 | h1
  ·exact .inl h1
  ·exact .inr (by omega)
theorem PG.nlen (h:PG T m H0 H L x R):x.g.N.length≤1048576:=h.gs.gr.sm.n
theorem PG.args (h:PG T m H0 H L x R):∀z∈x.g.N,z.args.length≤64:=fun z hz=>by
 obtain ⟨i,hi,rfl⟩:=List.mem_iff_getElem.1 hz;exact h.gs.gr.sm.args i _ (List.getElem?_eq_getElem hi)
variable {kt e:TypeId}
theorem zd6 (hE:Env T txK m (Tb0 H0)) (hP:PE T 58 kt e) (hT:TyOK T) (k:Nat) (h:PG T m H0 H L x R) {kd sy:Int} {s:Sl3} {aa:List Int} {a b tg:Int} (hk:1≤kd∧kd≤4)
  (hsy:-9223372036854775808≤sy∧sy<9223372036854775808) (hs:∀H',Fm (Wp L R H.next) H H'→AR H' s aa) (ht:totN x.g.N+aa.length≤1048576) (hl:x.sd.length≤1048576) :
  ∃H' L' x' R',B6 (LCo k) m H (GL.p L) (RL.p R) kd sy s a b tg=some (true,H')∧PO T m H0 H L R H' L' x' R'∧totN x'.g.N≤totN x.g.N+aa.length∧x'.sd.length≤x.sd.length+1:=by
 unfold B6;by_cases h1:kd=1
 ·subst h1;rw [if_pos rfl];obtain ⟨H1,L1,x1,a1,a2,a3,a4⟩:=zee hE hP hT k h.gs hsy (fun H' hx=>hs H' (hx.weak fun _ _ h=>h.elim)) ht;obtain ⟨H2,R2,b1,b2⟩:=z9m k (h.rf1 a2) a2.gs.gr.nm (v:=sy) (hs H1 (a2.fm.weak fun _ _ hw hlt=>.inl (hw hlt))) h.args h.nlen;refine ⟨H2,L1,x1,R2,?_,h.both hE a2 b2 a3 a4 (h.nok.add sy aa),by rw [a3]; exact zfp _ _ _,by rw [a4]; omega⟩;rw [a1];simp only [Option.bind_some];rw [b1];simp only [Option.bind_some,if_true,decide_true]
 rw [if_neg h1];by_cases h2:kd=2
 ·subst h2;rw [if_pos rfl];obtain ⟨H1,L1,x1,a1,a2,a3,a4⟩:=zb2 hE hP hT k h.gs hsy (by omega);obtain ⟨H2,R2,b1,b2⟩:=z7t k (h.rf1 a2) a2.gs.gr.nm sy h.args h.nlen;refine ⟨H2,L1,x1,R2,?_,h.both hE a2 b2 a3 a4 (h.nok.val sy),by rw [a3]; have:=zfl x.g.N sy; omega,by rw [a4]; omega⟩;rw [a1];simp only [Option.bind_some];rw [b1];simp only [Option.bind_some,if_true,decide_true]
 rw [if_neg h2];by_cases h3:kd=3
 ·subst h3;rw [if_pos rfl];obtain ⟨H1,L1,x1,a1,a2,a3,a4⟩:=z81 hE hP hT k h.gs a b tg false hl;obtain ⟨H2,R2,b1,b2⟩:=z4d k (h.rf1 a2) a2.gs.gr.nm a b tg false hl;refine ⟨H2,L1,x1,R2,?_,h.both hE a2 b2 a3 a4 h.nok,by rw [a3]; omega,by rw [a4]; exact zax _ _ _⟩;unfold B5;rw [a1];simp only [Option.bind_some];rw [b1];simp only [Option.bind_some,decide_true]
 rw [if_neg h3];have h4:kd=4:=by omega
 subst h4;rw [if_pos rfl];obtain ⟨H1,L1,x1,a1,a2,a3,a4⟩:=z81 hE hP hT k h.gs a b tg true hl;obtain ⟨H2,R2,b1,b2⟩:=z4d k (h.rf1 a2) a2.gs.gr.nm a b tg true hl;refine ⟨H2,L1,x1,R2,?_,h.both hE a2 b2 a3 a4 h.nok,by rw [a3]; omega,by rw [a4]; exact zax _ _ _⟩;unfold A5;rw [a1];simp only [Option.bind_some];rw [b1];simp only [Option.bind_some,decide_true]
theorem new_RF (hm:m≤H.next):RF m (H.push (pubB 32 [Sl3.v Sl3.nil,Sl3.v Sl3.nil,Sl3.v Sl3.nil])) ⟨H.next,Sl3.nil,Sl3.nil,[]⟩ [] []:=RR.new hm
theorem zbj (hH:HasT H0) (hlo:H0.next≤m) (hP:PE T 58 kt e) (hT:TyOK T) (k:Nat) (hx:Ext H0 H) (hm:m≤H.next) {s:Sl3} {ops:List OpD} (hs:OpsR H0 s ops) (hb:bulkO ops≤1048576) :
  ∃H' L x R,S6 (LCo k) m H s=some (GL.p L,RL.p R,true,H')∧PG T m H0 H' L x R∧totN x.g.N≤1048576∧x.sd.length≤ops.length:=by
 have hE:=env0 (T:=T) (m:=m) hT hH hlo;obtain ⟨H1,L,a1,a2,a3,a4⟩:=zf6 hE hT k hx hm
 let R:RL:=⟨H1.next,Sl3.nil,Sl3.nil,[]⟩
 let H2:=H1.push (pubB 32 [Sl3.v Sl3.nil,Sl3.v Sl3.nil,Sl3.v Sl3.nil])
 have x2:Ext H1 H2:=Fm.push _ _ _;have hpg:PG T m H0 H2 L ⟨⟨[],[],[],fun _=>none,[]⟩,fun _=>none,[],[]⟩ R:=by
  refine ⟨a2.ext hE x2,new_RF a2.gr.nm,fun c id hc hr=>?_,NOK.nil⟩;have h1:=(a2.gr.rep.low hc).2;rcases hr with e | e | e | ⟨s,hs,e⟩
  ·have e:id=H1.next:=e;omega
  ·exact O1 e
  ·exact O1 e
  ·cases hs
 have hsum:∀i,i≤ops.length→((ops.take i).map fun o=>o.aa.length).sum≤(ops.map fun o=>o.aa.length).sum:=fun i hi=>by
  rw [List.map_take];generalize ops.map (fun o=>o.aa.length)=l;have:l.sum=(l.take i).sum+(l.drop i).sum:=by rw [← List.sum_append,List.take_append_drop]
  omega
 unfold bulkO at hb;obtain ⟨st,b1,b2⟩:=w9 (R:=(Option Addr)×(Option Addr)×Bool×AH) (body:=Z3 (LCo k) m s ⟨H1.next,0,none⟩ ⟨L.q,0,none⟩) ops.length
  (fun i (st:AH×Int)=>st.2=(i:Int)∧∃L' x R',PG T m H0 st.1 L' x R'∧L'.q=L.q∧R'.q=H1.next∧totN x.g.N≤((ops.take i).map fun o=>o.aa.length).sum∧x.sd.length≤i)
  (Q:=fun st=>∃L' x R',PG T m H0 st.1 L' x R'∧L'.q=L.q∧R'.q=H1.next∧totN x.g.N≤1048576∧x.sd.length≤ops.length)
  (fun i hi st hst=>by
   obtain ⟨H3,v⟩:=st;obtain ⟨rfl,L',x,R',c1,c2,c3,c4,c5⟩:=hst;have c1:PG T m H0 H3 L' x R':=c1;obtain ⟨p,r1,ro0⟩:=hs.at_ i hi;have ro:=ro0.ext c1.old;have hbt:=zd0 ops hi;unfold Z3;simp only [hs.n,if_pos (show (i:Int)<(ops.length:Int) by omega),r1,Option.bind_some];rw [ro.kd.rd];simp only [show deI .i64 (Value.int .i64 ops[i].kd)=some ops[i].kd from rfl,Option.bind_some];by_cases hk1:ops[i].kd≥1
   ·by_cases hk2:ops[i].kd≤4
    ·obtain ⟨sl,ra,rb⟩:=ro0.aa;obtain ⟨H4,L4,x4,R4,d1,d2,d3,d4⟩:=zd6 hE hP hT k c1 (kd:=ops[i].kd) (s:=sl) (a:=ops[i].a) (b:=ops[i].b) (tg:=ops[i].tg) ⟨hk1,hk2⟩ ro.ok (aa:=ops[i].aa) (fun H' hf=>rb H' (tb0_fr hlo c1.old hf fun id hw=>c1.low hw)) (by omega) (by omega);refine ⟨(H4,((i+1:Nat):Int)),?_,rfl,L4,x4,R4,d2.pg,d2.q.trans c2,d2.rq.trans c3,by omega,by omega⟩;have d1':B6 (LCo k) m H3 (some ⟨L.q,0,none⟩) (some ⟨H1.next,0,none⟩) ops[i].kd ops[i].sy sl ops[i].a ops[i].b ops[i].tg=some (true,H4):=by
      rw [← d1,GL.p,RL.p,c2,c3]
     rw [if_pos hk1,if_pos hk2,ro.sy.rd,(ra.ext c1.old).rd,ro.a.rd,ro.b.rd,ro.tg.rd];simp only [show ∀z,deI .i64 (Value.int .i64 z)=some z from fun _=>rfl,show deSl (Sl3.v sl)=some sl from rfl,Option.bind_some];rw [d1'];simp only [Option.bind_some,Bool.not_true,Bool.false_eq_true,if_false];rw [J2 (n:=ops.length) hi (by rw [K3]; omega)]
    ·refine ⟨(H3,((i+1:Nat):Int)),?_,rfl,L',x,R',c1,c2,c3,by omega,by omega⟩;rw [if_pos hk1,if_neg hk2];simp only [Option.bind_some,Bool.false_eq_true,if_false];rw [J2 (n:=ops.length) hi (by rw [K3]; omega)]
   ·refine ⟨(H3,((i+1:Nat):Int)),?_,rfl,L',x,R',c1,c2,c3,by omega,by omega⟩;rw [if_neg hk1];simp only [Option.bind_some,Bool.false_eq_true,if_false];rw [J2 (n:=ops.length) hi (by rw [K3]; omega)])
  (fun st hst=>by
   obtain ⟨H3,v⟩:=st;obtain ⟨rfl,L',x,R',c1,c2,c3,c4,c5⟩:=hst;refine ⟨(H3,(ops.length:Int)),?_,L',x,R',c1,c2,c3,?_,c5⟩
   ·unfold Z3;simp only [hs.n,if_neg (show ¬((ops.length:Int)<(ops.length:Int)) by omega)]
   ·rw [List.take_length] at c4;omega)
  (s:=(H2,0)) ⟨rfl,L,_,R,hpg,rfl,rfl,Nat.zero_le _,Nat.zero_le _⟩
 obtain ⟨H3,v⟩:=st;obtain ⟨L',x,R',c1,c2,c3,c4,c5⟩:=b2;refine ⟨H3,L',x,R',?_,c1,c4,c5⟩;unfold S6;rw [a1];simp only [Option.bind_some];rw [show newB 32 [(Sl3.v Sl3.nil),(Sl3.v Sl3.nil),(Sl3.v Sl3.nil)] H1=some (⟨H1.next,0,none⟩,H2) from rfl];simp only [Option.bind_some];rw [show (LCo k).run (Z3 (LCo k) m s ⟨H1.next,0,none⟩ ⟨L.q,0,none⟩) (H2,0)=some (.inl (H3,v)) from b1];simp only [GL.p,RL.p,c2,c3];rfl
end
end Go.Proofs.YtgkhbmoidenjaaaDoor
namespace Go.Proofs.YtgkhbmoidenjaaaDoor
open Go Go.Abs Go.Abs.Eg
set_option maxRecDepth 100000
section
variable {T:Tys} {m:Nat} {H0 H H':AH} {L L2:GL} {x y:Gh} {R:RL} {kt e:TypeId}
structure TG (T:Tys) (m:Nat) (H0 H:AH) (L:GL) (x:Gh) (R:RL) (L2:GL) (y:Gh):Prop where
 pg:PG T m H0 H L x R
 gs:GS T txK m (Tb0 H0) H L2 y
 sg:∀c c' id,L2.fp c id→¬L.fp c' id
 sr:∀c id,L2.fp c id→¬R.fp id
end
end Go.Proofs.YtgkhbmoidenjaaaDoor
namespace Go.Proofs.YtgkhbmoidenjaaaDoor
open Go Go.Abs Go.Abs.Eg
set_option maxRecDepth 100000
def ty0:Tys:=⟨63,86,91,3,79,109,78⟩
theorem ty0_ok:TyOK ty0:=⟨rfl,rfl,rfl,rfl,rfl,rfl,rfl⟩
section
variable {m:Nat} {H0 H H':AH} {L L2:GL} {x y:Gh} {R:RL}
end
end Go.Proofs.YtgkhbmoidenjaaaDoor
namespace Go.Proofs.YtgkhbmoidenjaaaDoor
open Go Go.Abs Go.Abs.Eg
set_option maxRecDepth 100000
theorem bnd {α β:Type} {a:Option α} {f:α→Option β} {x:α} {r:Option β} (h:a=some x) (h2:f x=r):Option.bind a f=r:=by rw [h]; exact h2
section
variable {T:Tys} {tx:Key→ByteArray} {m m1:Nat} {H:AH} {L:GL} {x:Gh}
end
end Go.Proofs.YtgkhbmoidenjaaaDoor
namespace Go.Proofs.YtgkhbmoidenjaaaDoor
open Go Go.Abs Go.Abs.Eg
set_option maxRecDepth 100000
structure XN (H0 Hc:AH) (D:List Nat) (T:List Int) (K:Nat):Prop where
 ext:Ext H0 Hc
 nx:H0.next+2≤Hc.next
 tg:∃f,MapB Hc H0.next f∧(∀t,(f t).isSome=true↔t∈T)∧∀t u,f t=some u→∃c:Int,u=.int .i64 c
 dn:∃f,MapB Hc (H0.next+1) f∧∀n:Nat,(n ∉ D→f n=none)∧(n∈D→∃c:Nat,f n=some (.int .i64 c)∧1≤c∧c≤K)
section
variable {T:Tys} {tx:Key→ByteArray} {m:Nat} {H0 Hc H':AH} {L:GL} {x:Gh} {D:List Nat} {Ts:List Int} {K:Nat} {v:Sl3} {ql:List (Nat×Nat)}
structure ZR (m:Nat) (H0 Hc:AH) (z:List Nat) (s v:Sl3):Prop where
 z:VecA EI 3 m Hc z s
 lo:∀id,owns s id→H0.next+2≤id
 nv:∀id,owns s id→¬owns v id
end
end Go.Proofs.YtgkhbmoidenjaaaDoor
namespace Go.Proofs.YtgkhbmoidenjaaaDoor
open Go Go.Abs Go.Abs.Eg
set_option maxRecDepth 100000
structure PI (N:List Nd) (M:List (Nat×Nat)) (n:Nat) (r0 r:Nat→Nat) (more:Bool) (C:Nat→Nat→Prop):Prop where
 rq:RQ N M n r
 ms:∀i j,(i,j)∈M→r i=r j
 pr:(more=false∧(∀i,r i=r0 i)∧∀i k p q,C i k→N[i]? = some p→N[k]? = some q→alk r p q=true→r i=r k)∨(more=true∧rts n r<rts n r0)
structure RG (m0:Nat) (H0:AH) (R:RL) (N:List Nd) (sd:List Sd):Prop where
 rf:RF m0 H0 R N sd
 nok:NOK N
 args:∀(i:Nat) y,N[i]? = some y→∀a∈y.args,a<i
 len:∀y∈N,y.args.length≤64
 n:N.length≤1048576
section
variable {m m0:Nat} {H H0 Hc H':AH} {id:Nat} {R:RL} {N:List Nd} {sd:List Sd} {M:List (Nat×Nat)} {r r0:Nat→Nat} {more:Bool} {C C':Nat→Nat→Prop}
def upto (i k:Nat) (a b:Nat):Prop:=b<a∧(a<i∨a=i∧b<k)
end
end Go.Proofs.YtgkhbmoidenjaaaDoor
namespace Go.Proofs.YtgkhbmoidenjaaaDoor
open Go Go.Abs Go.Abs.Eg
set_option maxRecDepth 100000
theorem rd_EZ {e:TypeId} {m:Nat} {H:AH} {s:Sl3} {l:List Int} (h:SlA EZ e m H l s) {i:Nat} (hi:i<l.length) {v:Int} (hv:v=i):∃q,idxA 1 s v=some q∧rd (deI .i64) H q=some l[i]:=by
 obtain ⟨a,h1,h2,h3,h4⟩:=h.at_ (by decide) hi hv;refine ⟨_,h2,?_⟩;have:=(h4 0 (.int .i64 l[i]) rfl).rd (deI .i64);rw [add_zero] at this;rw [this]; rfl
section
variable {m m0 m1:Nat} {H H0 Hc H':AH} {R:RL} {N:List Nd} {sd:List Sd} {zs:List Int} {s:Sl3} {e:TypeId}
end
section
variable {T:Tys} {tx:Key→ByteArray} {m:Nat} {H:AH} {L:GL} {x:Gh} {Tb:AH→Prop}
end
end Go.Proofs.YtgkhbmoidenjaaaDoor
namespace Go.Proofs.YtgkhbmoidenjaaaDoor
open Go Go.Abs Go.Abs.Eg
set_option maxRecDepth 100000
def ints (l:List Nat):List Int:=l.map fun (i:Nat)=>(i:Int)
theorem z5s:∀{l:List Nat},l.Nodup→(ints l).Nodup
 | [],_=>by simp [ints]
 | a :: l,h=>by
  rw [List.nodup_cons] at h;refine List.nodup_cons.2 ⟨fun hm=>?_,z5s h.2⟩;obtain ⟨b,hb,e⟩:=List.mem_map.1 hm;exact h.1 (by rw [← Int.ofNat.inj e]; exact hb)
theorem zcj (l:List Nat):l.flatMap EI.enc=(ints l).map fun z=>Value.int .i64 z:=by
 induction l with
 | nil=>rfl
 | cons a l ih=>rw [List.flatMap_cons,ih]; rfl
section
variable {T:Tys} {tx:Key→ByteArray} {m:Nat} {H:AH} {L:GL} {x:Gh} {Tb:AH→Prop}
theorem zaa (k:Nat) {l:List Nat} {s:Sl3} {e:TypeId} {m0:Nat} (hs:SlA EI e m0 H l s) (h0:0<l.length) (hl:l.length≤1048576) (hm:m≤H.next) :
  ∃v H1 t H',Z6 (LCo k) m H s=some (v,H1)∧M5 (LCo k) m H1 v=some (t,H')∧SlA EZ 3 m H' (sortI (ints l)) t∧Ext H H'∧∀id,fpt t id→H.next≤id:=by
 obtain ⟨a,ha,_,hsp,_⟩:=hs.at_ (by decide) h0 (v:=((0:Nat):Int)) rfl
 let H1:=H.push (pubB 27 [Sl3.v s])
 have x1:Ext H H1:=Fm.push _ _ _;have n1:H1.next=H.next+1:=rfl
 let zs:=ints l
 have hzl:zs.length=l.length:=by show (l.map _).length=_; rw [List.length_map]
 have hcnt:=hs.cnt;have hrd:rdCells H1 a 0 s.n=some (zs.map fun z=>Value.int .i64 z):=by
  have:=(hs.ext x1).rdv.rd a ha;rw [show EI.sz=1 from rfl,Nat.mul_one,← hcnt,zcj] at this;exact this
 let t:Sl3:=⟨some ⟨H1.next,0,none⟩,s.n,OPEN⟩
 let H2:=H1.push (rowB 3 zs)
 have hap:X4 (LCo k) m H1 Sl3.nil (.func (.func 62) #[] #[.pointer (some ⟨H.next,0,none⟩)])=some (t,H2):=by
  have hso:seqOf (.func (.func 62) #[] #[.pointer (some ⟨H.next,0,none⟩)])=some H.next:=rfl;have hg:H1.get H.next=some (pubB 27 [Sl3.v s]):=AH.get_push_same _ _;have hv:(#[Sl3.v s]:Array Value)[0]? = some (.slice (some a) s.n s.c):=by
   rw [← ha]; rfl
  unfold X4;simp only [hso,Sl3.nil,and_self,if_true];rw [hg];show (match ([Sl3.v s].toArray)[0]? with
   | some (Value.slice (some a) n _)=>_
   | _=>none)=_
  rw [show ([Sl3.v s].toArray)[0]? = some (Value.slice (some a) s.n s.c) from hv];simp only [hrd,z3e];rw [if_pos ⟨hsp,by rw [hzl,hcnt],by omega,by omega⟩]
 let H3:=H2.put H1.next { obj:=.cells (zcells (sortI zs)) 3 (0,0),opn:=true,esz:=1,ro:=false }
 have hso:T6 (LCo k) m H2 t=some H3:=by
  unfold T6;have hg:H2.get H1.next=some (rowB 3 zs):=AH.get_push_same _ _;simp only [t,hg,rowB];have:(zcells zs).toList=zs.map fun z=>Value.int .i64 z:=by unfold zcells; simp
  rw [this,z3e];simp only;rw [if_pos ⟨trivial,by rw [hzl,hcnt],by omega,by omega,by omega⟩]
 have x2:Ext H1 H2:=Fm.push _ _ _;have x3:Ext H H3:=(x1.trans x2).comp (Fm.put (i:=H1.next)) fun id hid _ e=>by omega
 refine ⟨_,H1,t,H3,rfl,?_,?_,x3,fun id hid=>?_⟩
 ·unfold M5 J6;refine bnd (x:=(t,H2)) (bnd (x:=(t,H2)) hap rfl) ?_;exact bnd hso rfl
 ·have hsl:(sortI zs).length=s.n:=by rw [z38,hzl,hcnt]
  show SlA EZ 3 m H3 (sortI zs) ⟨some ⟨H1.next,0,none⟩,s.n,OPEN⟩;rw [← hsl];refine .own ?_;refine VecV.opn H1.next 0 (zcells (sortI zs)) (by omega) (show H1.next<H1.next+1 by omega) (AH.get_put_same _ _ _) (EZ.flat_len _) (EZ.flat_one _) fun i v hv=>?_;have hfm:∀l:List Int,l.flatMap EZ.enc=l.map fun z=>Value.int .i64 z:=fun l=>by induction l with
   | nil=>rfl
   | cons a l ih=>rw [List.flatMap_cons,ih]; rfl
  rw [hfm] at hv;unfold zcells;rw [Nat.zero_add]
  simpa using hv
 ·obtain ⟨_,b,hb,rfl⟩:=hid;cases hb;show H.next≤H.next+1;omega
theorem zbb (k:Nat) (h:GS T tx m Tb H L x) {a:Nat} (ha:a<x.g.n) :
  ∃s H' zs,E4 (LCo k) m H (GL.p L) (a:Int)=some (s,H')∧SlA EZ 3 m H' zs s∧Ext H H'∧(∀id,fpt s id→H.next≤id)∧zs.Pairwise (·<·)∧∀z,z∈zs↔∃j:Nat,z=j∧j<x.g.n∧x.g.o j=x.g.o a:=by
 obtain ⟨q1,r1,r2⟩:=h.gr.rep.of_ (i:=a) (by rw [h.gr.mi.len]; exact ha) (v:=(a:Int)) rfl;obtain ⟨q2,p,hp,r3,r4⟩:=h.gr.rep.cls_ (h.gr.mi.cl a ha) (v:=((x.g.o a:Nat):Int)) rfl;have hblk:ArrV T.C m H p.1 (cCells p (x.g.c (x.g.o a)).low):=h.gr.rep.hold (.blk _) p hp;have hme:SlA EI T.I m H (x.g.c (x.g.o a)).mem p.2.2.1:=h.gr.rep.hold (.me _) p hp;have hmem:=h.gr.mi.mem a ha;have hnd:=h.gr.mx.mnd a ha;have hpos:0<(x.g.c (x.g.o a)).mem.length:=List.length_pos_of_mem ((hmem a).2 ⟨ha,rfl⟩);have hlen:(x.g.c (x.g.o a)).mem.length≤1048576:=Nat.le_trans (l8 x.g.n _ hnd fun y hy=>((hmem y).1 hy).1) h.gr.sm.n;obtain ⟨v,H1,t,H',b1,b2,b3,b4,b5⟩:=zaa k hme hpos hlen h.gr.nm;have hznd:(ints (x.g.c (x.g.o a)).mem).Nodup:=z5s hnd;refine ⟨t,H',_,?_,b3,b4,b5,z85 hznd,fun z=>?_⟩
 ·unfold E4;refine bnd (i7 k h.gr.rep _) ?_;rw [decide_eq_true ⟨by omega,by omega⟩,if_pos rfl];refine bnd (x:=(⟨L.q,0,none⟩:Addr)) rfl ?_;refine bnd (x:=L.sC) (h.gr.rep.q (j:=5) (v:=L.sC.v) rfl deSl) ?_;refine bnd (x:=L.sO) (h.gr.rep.q (j:=4) (v:=L.sO.v) rfl deSl) ?_;refine bnd r1 ?_;refine bnd r2 ?_;refine bnd r3 ?_;refine bnd r4 ?_;refine bnd (x:=(⟨p.1,0,none⟩:Addr)) rfl ?_;refine bnd (x:=p.2.2.1) (hblk.rd (j:=1) (v:=p.2.2.1.v) rfl deSl) ?_;refine bnd (x:=(v,H1)) b1 ?_;exact bnd (x:=(t,H')) b2 rfl
 ·rw [ze1];unfold ints;rw [List.mem_map];constructor
  ·rintro ⟨j,hj,rfl⟩
   exact ⟨j,rfl,(hmem j).1 hj⟩
  ·rintro ⟨j,rfl,hj⟩
   exact ⟨j,(hmem j).2 hj,rfl⟩
def lowOf (x:Gh) (i:Nat):Nat:=(x.g.c (x.g.o i)).low
theorem z68 (h:GS T tx m Tb H L x) {i j:Nat} (hi:i<x.g.n) (hj:j<x.g.n):lowOf x i=lowOf x j↔x.g.o i=x.g.o j:=by
 constructor
 ·intro e;rw [← (h.gr.mi.low i hi).2.1,← (h.gr.mi.low j hj).2.1];unfold lowOf at e;rw [e]
 ·intro e;unfold lowOf;rw [e]
end
section
variable {m:Nat} {H0 H:AH} {L:GL} {x:Gh} {R:RL} {T:Tys}
theorem z1d (k:Nat) (h:PG T m H0 H L x R) {i:Nat} (hi:i<x.g.n):C2 (LCo k) H (GL.p L) (i:Int)=some ((lowOf x i:Int),true):=zdf k h.gs hi
theorem zd8 (k:Nat) (h:PG T m H0 H L x R) (q5:Addr) (s6:Sl3) {a:Nat} (ha:a<x.g.n) {zs:List Int} {s:Sl3} (hs:SlA EZ 3 m H zs s) (hl:zs.length≤1073741824) (hup:zs.Pairwise (·<·)) (hz:∀z,z∈zs↔∃j:Nat,z=j∧j<x.g.n∧x.g.o j=x.g.o a) :
  ∃e,loopO (O2 (LCo k) (GL.p L) q5 s6 (a:Int) (lowOf x a:Int) s H) (false,0)=some (.inl (true,e)):=by
 obtain ⟨⟨v1,v2⟩,g1,g2⟩:=w9 (R:=Bool×AH) (body:=O2 (LCo k) (GL.p L) q5 s6 (a:Int) (lowOf x a:Int) s H) zs.length (fun i (v:Bool×Int)=>v=((zs.take i).any (fun z=>decide (z=(a:Int))),(i:Int))) (Q:=fun v=>v.1=zs.any fun z=>decide (z=(a:Int)))
  (fun i hi v hv=>by
   subst hv;obtain ⟨q,r1,r2⟩:=rd_EZ hs hi (v:=(i:Int)) rfl;obtain ⟨j,e1,e2,e3⟩:=(hz zs[i]).1 (List.getElem_mem hi);have hlow:lowOf x j=lowOf x a:=(z68 h.gs e2 ha).2 e3;refine ⟨((zs.take (i+1)).any (fun z=>decide (z=(a:Int))),((i+1:Nat):Int)),?_,rfl⟩;have hstep:(zs.take (i+1)).any (fun z=>decide (z=(a:Int)))=((zs.take i).any (fun z=>decide (z=(a:Int)))||decide (zs[i]=(a:Int))):=by
    rw [List.take_succ_eq_append_getElem hi,List.any_append];simp
   unfold O2;simp only;rw [hs.cnt,if_pos (by omega)];refine bnd r1 ?_;refine bnd r2 ?_;rw [e1];refine bnd (x:=((lowOf x j:Int),true)) (z1d k h e2) ?_;refine bnd (x:=(zs.take (i+1)).any (fun z=>decide (z=(a:Int)))) ?_ ?_
   ·rw [hstep];cases hb:(zs.take i).any (fun z=>decide (z=(a:Int))) with
    | true=>rw [if_pos rfl]; rfl
    | false =>
     rw [if_neg (by simp)];refine bnd r1 ?_;refine bnd r2 ?_;rfl
   ·refine bnd (x:=false) ?_ (by simp only [Bool.false_eq_true,if_false]; rw [J2 (n:=zs.length) hi (by rw [K3]; omega)]);rw [if_pos (by rw [hlow])];by_cases h0:i=0
    ·subst h0; rw [if_neg (by omega)]
    ·rw [if_pos (by omega)];obtain ⟨q2,r3,r4⟩:=rd_EZ hs (i:=i - 1) (by omega) (v:=((i - 1:Nat):Int)) rfl;have hw:IntKind.i64.wrap ((i:Int) - 1)=((i - 1:Nat):Int):=z4x (by omega) (by omega);refine bnd r1 ?_;refine bnd r2 ?_;rw [hw];refine bnd r3 ?_;refine bnd r4 ?_;have:=(List.pairwise_iff_getElem.1 hup) (i - 1) i (by omega) hi (by omega)
     congr 1
     rw [decide_eq_false_iff_not];omega)
  (fun v hv=>by
   subst hv;refine ⟨((zs.take zs.length).any (fun z=>decide (z=(a:Int))),(zs.length:Int)),?_,by rw [List.take_length]⟩;unfold O2;simp only;rw [hs.cnt,if_neg (by omega)])
  (s:=(false,0)) (by simp)
 have:zs.any (fun z=>decide (z=(a:Int)))=true:=by
  rw [List.any_eq_true];exact ⟨(a:Int),(hz _).2 ⟨a,rfl,ha,rfl⟩,by simp⟩
 simp only at g2;rw [this] at g2;subst g2;exact ⟨v2,g1⟩
theorem zd9 (k:Nat) (h:PG T m H0 H L x R) (q5:Addr) (s6:Sl3) (y1 y2 y3 z1 z2:Int) (w1 w2:Bool) {p q:Nd} {s1 s2:Sl3} {m1 m2:Nat} (hp:SlA EI 3 m1 H p.args s1) (hq:SlA EI 3 m2 H q.args s2) (hl:p.args.length=q.args.length) (h64:p.args.length≤64) (ha:∀a∈p.args,a<x.g.n) (hb:∀a∈q.args,a<x.g.n) :
  ∃e,loopO (P2 (LCo k) (GL.p L) q5 s6 y1 y2 H y3 z1 w1 s1 z2 w2 s2) (true,0)=some (.inl (decide (p.args.map (lowOf x)=q.args.map (lowOf x)),e)):=by
 obtain ⟨⟨v1,v2⟩,g1,g2⟩:=w9 (R:=Bool×AH) (body:=P2 (LCo k) (GL.p L) q5 s6 y1 y2 H y3 z1 w1 s1 z2 w2 s2) p.args.length (fun i (v:Bool×Int)=>v=(decide ((p.args.take i).map (lowOf x)=(q.args.take i).map (lowOf x)),(i:Int))) (Q:=fun v=>v.1=decide (p.args.map (lowOf x)=q.args.map (lowOf x)))
  (fun i hi v hv=>by
   subst hv;have hi2:i<q.args.length:=by omega
   obtain ⟨t1,r1,r2⟩:=rd_EI hp hi (v:=(i:Int)) rfl;obtain ⟨t2,r3,r4⟩:=rd_EI hq hi2 (v:=(i:Int)) rfl;refine ⟨(decide ((p.args.take (i+1)).map (lowOf x)=(q.args.take (i+1)).map (lowOf x)),((i+1:Nat):Int)),?_,rfl⟩;have hstep:((p.args.take (i+1)).map (lowOf x)=(q.args.take (i+1)).map (lowOf x))↔((p.args.take i).map (lowOf x)=(q.args.take i).map (lowOf x)∧lowOf x p.args[i]=lowOf x q.args[i]):=by
    rw [List.take_succ_eq_append_getElem hi,List.take_succ_eq_append_getElem hi2,List.map_append,List.map_append];constructor
    ·intro e;have:=List.append_inj' e rfl;refine ⟨this.1,by simpa using this.2⟩
    ·rintro ⟨e1,e2⟩
     rw [e1];simp [e2]
   unfold P2;simp only;rw [hp.cnt,if_pos (by omega)];refine bnd (x:=decide ((p.args.take (i+1)).map (lowOf x)=(q.args.take (i+1)).map (lowOf x))) ?_ (by rw [J2 (n:=p.args.length) hi (by rw [K3]; omega)]);refine bnd r1 ?_;refine bnd r2 ?_;refine bnd (x:=((lowOf x p.args[i]:Int),true)) (z1d k h (ha _ (List.getElem_mem hi))) ?_;refine bnd r3 ?_;refine bnd r4 ?_;refine bnd (x:=((lowOf x q.args[i]:Int),true)) (z1d k h (hb _ (List.getElem_mem hi2))) ?_;by_cases e1:(p.args.take i).map (lowOf x)=(q.args.take i).map (lowOf x)
   ·rw [decide_eq_true e1,if_pos rfl]
    congr 1
    rw [decide_eq_decide,hstep];constructor
    ·intro e; exact ⟨e1,by omega⟩
    ·intro e; rw [e.2]
   ·rw [decide_eq_false e1,if_neg (by simp)]
    congr 1
    symm;rw [decide_eq_false_iff_not,hstep];exact fun e=>e1 e.1)
  (fun v hv=>by
   subst hv;refine ⟨(decide ((p.args.take p.args.length).map (lowOf x)=(q.args.take p.args.length).map (lowOf x)),(p.args.length:Int)),?_,by rw [List.take_length,hl,List.take_length]⟩;unfold P2;simp only;rw [hp.cnt,if_neg (by omega)])
  (s:=(true,0)) (by simp)
 simp only at g2;rw [← g2];exact ⟨v2,g1⟩
theorem zdt (k:Nat) (h:PG T m H0 H L x R) (s6:Sl3) {a:Nat} (ha:a<x.g.n) :
  ∃e,loopO (Q2 (LCo k) (GL.p L) ⟨R.q,0,none⟩ s6 (a:Int) (lowOf x a:Int) H) 0=some (.inl e):=by
 have hn:=h.gs.gr.sm.n;have hrd:rd deSl H ((⟨R.q,0,none⟩:Addr).add 0)=some R.sN:=h.rf.q.rd (j:=0) (v:=R.sN.v) rfl deSl;obtain ⟨v,g1,_⟩:=w9 (R:=Bool×AH) (body:=Q2 (LCo k) (GL.p L) ⟨R.q,0,none⟩ s6 (a:Int) (lowOf x a:Int) H) a (fun i (v:Int)=>v=(i:Int)) (Q:=fun _=>True)
  (fun b hb v hv=>by
   subst hv;have hbn:b<x.g.n:=by omega
   have hbN:b<x.g.N.length:=hbn;have haN:a<x.g.N.length:=ha;obtain ⟨q1,s1,r1,r2,r3,r4,r5,_⟩:=h.rf.node haN (v:=(a:Int)) rfl;obtain ⟨q2,s2,t1,t2,t3,t4,t5,_⟩:=h.rf.node hbN (v:=(b:Int)) rfl;have ea:=List.getElem?_eq_getElem haN;have eb:=List.getElem?_eq_getElem hbN;have haa:∀c∈x.g.N[a].args,c<x.g.n:=fun c hc=>by have:=h.gs.gr.mi.args a _ ea c hc; omega
   have hba:∀c∈x.g.N[b].args,c<x.g.n:=fun c hc=>by have:=h.gs.gr.mi.args b _ eb c hc; omega
   refine ⟨((b+1:Nat):Int),?_,rfl⟩;unfold Q2;rw [if_pos (by omega)];refine bnd (x:=.inl ()) ?_ (by rw [J2 (n:=a) hb (by rw [K3]; omega)]);refine bnd (x:=((lowOf x b:Int),true)) (z1d k h hbn) ?_;refine bnd hrd ?_;refine bnd r1 ?_;refine bnd r2 ?_;refine bnd r3 ?_;refine bnd r4 ?_;refine bnd hrd ?_;refine bnd t1 ?_;refine bnd t2 ?_;refine bnd t3 ?_;refine bnd t4 ?_;by_cases hc:x.g.N[a].value=false∧x.g.N[b].value=false∧x.g.N[a].sym=x.g.N[b].sym∧x.g.N[a].args.length=x.g.N[b].args.length∧lowOf x a≠lowOf x b
   ·obtain ⟨c1,c2,c3,c4,c5⟩:=hc;refine bnd (x:=false) ?_ ?_
    ·rw [c1,c2,if_neg (by simp),if_neg (by simp),if_pos c3,r5.cnt,t5.cnt,if_pos (by omega)]
     congr 1
     rw [decide_eq_false_iff_not];omega
    ·rw [if_neg (by simp)];obtain ⟨e,e1⟩:=zd9 k h ⟨R.q,0,none⟩ s6 (a:Int) (lowOf x a:Int) (b:Int) x.g.N[a].sym x.g.N[b].sym x.g.N[a].value x.g.N[b].value r5 t5 c4 (h.gs.gr.sm.args a _ ea) haa hba;have hne:¬x.g.N[a].args.map (lowOf x)=x.g.N[b].args.map (lowOf x):=fun hm=>by
      apply c5;rw [z68 h.gs ha hbn,h.gs.gr.mi.iff ha hbn];refine .congr ea eb (by rw [c1,c2]) c3 c4 fun j u w hu hw=>?_;have hul:=haa u (List.mem_of_getElem? hu);have hwl:=hba w (List.mem_of_getElem? hw);rw [← h.gs.gr.mi.iff hul hwl,← z68 h.gs hul hwl];have:=congrArg (fun l:List Nat=>l[j]?) hm
      simpa [hu,hw] using this
     rw [decide_eq_false hne] at e1;refine bnd (x:=.inl (false,e)) ?_ (by simp);exact e1
   ·refine bnd (x:=true) ?_ (by rw [if_pos rfl]);by_cases c1:x.g.N[a].value=true
    ·rw [if_pos c1]
    rw [if_neg c1];by_cases c2:x.g.N[b].value=true
    ·rw [if_pos c2]
    rw [if_neg c2];by_cases c3:x.g.N[a].sym=x.g.N[b].sym
    ·rw [if_pos c3,r5.cnt,t5.cnt];by_cases c4:x.g.N[a].args.length=x.g.N[b].args.length
     ·rw [if_pos (by omega)]
      congr 1
      rw [decide_eq_true_eq];have:lowOf x a=lowOf x b:=Classical.byContradiction fun c5=>hc ⟨by simpa using c1,by simpa using c2,c3,c4,c5⟩;rw [this]
     ·rw [if_neg (by omega)]
    ·rw [if_neg c3])
  (fun v hv=>by
   subst hv;refine ⟨(a:Int),?_,trivial⟩;unfold Q2;rw [if_neg (by omega)])
  (s:=0) rfl
 exact ⟨v,g1⟩
end
theorem za8 (k:Nat) {H:AH} (hH:HasT H) {s:Sl3} {ops:List OpD} (hs:OpsR H s ops) (hb:bulkO ops≤1048576):∃H',D5 (LCo k) H.next H s=some (true,H'):=by
 have hE:=env0 (T:=ty0) (m:=H.next) ty0_ok hH (Nat.le_refl _);obtain ⟨H1,L,x,R,a1,a2,a3,a4⟩:=zbj (m:=H.next) hH (Nat.le_refl _) (pe (T:=ty0)) ty0_ok k (Fm.refl _ _) (Nat.le_refl _) hs hb;have hn:x.g.N.length≤1048576:=a2.gs.gr.sm.n;have hr1:rd deSl H1 ((⟨R.q,0,none⟩:Addr).add 0)=some R.sN:=a2.rf.q.rd (j:=0) (v:=R.sN.v) rfl deSl;have hcnt:R.sN.n=x.g.N.length:=by rw [a2.rf.hN.cnt,l7 a2.rf.nal]
 obtain ⟨⟨Hz,e⟩,g1,g2⟩:=w9 (R:=Bool×AH) (body:=W2 (LCo k) H.next (GL.p L) ⟨R.q,0,none⟩ R.sN) x.g.N.length (fun j (v:AH×Int)=>v.2=(j:Int)∧Ext H1 v.1) (Q:=fun v=>Ext H1 v.1)
  (fun a ha v hv=>by
   obtain ⟨Hd,v2⟩:=v;obtain ⟨hv1,hx1⟩:=hv;simp only at hv1 hx1;subst hv1;have han:a<x.g.n:=ha;have hpg:=a2.ext hE hx1;obtain ⟨s11,H12,zs,c1,c2,c3,c4,c5,c6⟩:=zbb k hpg.gs han;have hpg2:=hpg.ext hE c3;have hzl:zs.length≤1073741824:=by
    have h1:zs.Nodup:=c5.imp fun h=>by omega
    have:=zaf h1 (l':=(List.range x.g.n).map fun (i:Nat)=>(i:Int)) fun z hz=>by
     obtain ⟨j,e1,e2,_⟩:=(c6 z).1 hz;exact List.mem_map.2 ⟨j,List.mem_range.2 e2,e1.symm⟩
    rw [List.length_map,List.length_range] at this;have hnn:x.g.n=x.g.N.length:=rfl;omega
   have hpos:0<zs.length:=List.length_pos_of_mem ((c6 (a:Int)).2 ⟨a,rfl,han,rfl⟩);obtain ⟨q14,d1,d2⟩:=rd_EZ c2 hpos (v:=0) rfl;have hfirst:zs[0]=(lowOf x a:Int):=by
    obtain ⟨l1,l2,l3⟩:=hpg.gs.gr.mi.low a han;have hm:((lowOf x a:Nat):Int)∈zs:=(c6 _).2 ⟨_,rfl,l1,l2⟩;obtain ⟨i,hi,e1⟩:=List.mem_iff_getElem.1 hm;obtain ⟨j,e2,e3,e4⟩:=(c6 zs[0]).1 (List.getElem_mem hpos);have h1:=l3 j e3 e4;have h1:lowOf x a≤j:=h1;by_cases h0:i=0
    ·subst h0; exact e1
    ·have:=(List.pairwise_iff_getElem.1 c5) 0 i hpos hi (by omega);omega
   obtain ⟨e1,f1⟩:=zd8 k hpg2 ⟨R.q,0,none⟩ R.sN han c2 hzl c5 c6;obtain ⟨e2,f2⟩:=zdt k hpg2 R.sN han;refine ⟨(H12,((a+1:Nat):Int)),?_,rfl,hx1.trans c3⟩;unfold W2;simp only;rw [hcnt,if_pos (by omega)];refine bnd (x:=((lowOf x a:Int),true)) (z1d k hpg han) ?_;refine bnd (x:=(s11,H12)) c1 ?_;refine bnd (x:=false) ?_ ?_
   ·rw [if_pos rfl,c2.cnt,if_neg (by omega)];refine bnd d1 ?_;refine bnd d2 ?_;rw [hfirst];simp
   ·rw [if_neg (by simp)];refine bnd (x:=.inl (true,e1)) ?_ ?_
    ·exact f1
    ·simp only [if_true];refine bnd (x:=.inl e2) ?_ (by simp only [J2 (n:=x.g.N.length) ha (by rw [K3]; omega)]);exact f2)
  (fun v hv=>by
   obtain ⟨Hd,v2⟩:=v;obtain ⟨hv1,hx1⟩:=hv;simp only at hv1 hx1;subst hv1;refine ⟨(Hd,(x.g.N.length:Int)),?_,hx1⟩;unfold W2;simp only;rw [hcnt,if_neg (by omega)])
  (s:=(H1,0)) ⟨rfl,Fm.refl _ _⟩
 refine ⟨Hz,?_⟩;unfold D5;refine bnd (x:=(GL.p L,RL.p R,true,H1)) a1 ?_;simp only [if_true];refine bnd (x:=(⟨R.q,0,none⟩:Addr)) rfl ?_;refine bnd hr1 ?_;refine bnd (x:=.inl (Hz,e)) ?_ ?_
 ·exact g1
 ·exact bnd (zdz (LCo k) (hH.ext (a2.old.trans g2))) rfl
end Go.Proofs.YtgkhbmoidenjaaaDoor
namespace Go.Proofs.YtgkhbmoidenjaaaDoor
open Go Go.Abs Go.Abs.Eg Go.ChangeShapes Go.WideShapes
set_option maxRecDepth 100000
theorem z3f {H:Type} {enc:TypeId×Value→H} {W:World} {base:Nat} {args:Array Value} {ds:List (DataW H)} {ps:List MemPlace} (hg:Tryd.prog.globals.size≤W.heap.size)
  (hval:∀(j:Nat) t v,Tryd.f4.params[j]? = some t→args[j]? = some v→Value.okWide Tryd.prog W .any base t v)
  (hA:DataW.TrodAll enc Tryd.prog W 0 (fun _=>true) true Tryd.f4.params.toList args.toList ds ps) (hL:laidMet Tryd.prog Rows.egraphClosesUptoRow.laid W) (hsh:W.ShapedOpen Tryd.prog)
  (hk:Rows.uptoSmall H ds=true) (hwt:(DataW.weightsEach Tryd.prog (Tryd.f4.params.toList++[]) ds).all (·≤reachBytes)=true) :
  Calls Tryd.prog 4 args W fun e W'=>e=.returned (.bool true)∧RowKit.Below W.heap.size W W':=by
 rw [Tryd.params4] at hA hval hwt;obtain ⟨v0,vs0,d0,ds0,p0,q0,hargs,rfl,rfl,h0,r0⟩:=trodAll_cons hA;obtain ⟨rfl,rfl,rfl⟩:=trodAll_nil r0;obtain rfl:args=#[v0]:=by cases args; simp_all
 simp only [List.append_nil,DataW.weightsEach] at hwt;have hk:=bulks.bound hk;simp only [Rows.uptoBulkAll] at hk;obtain ⟨φ0,H0x,s0,o0,i0,le0,e0,vr0,va0,bk0⟩:=zc7 (zf5 hg hL hsh) h0 (hval 0 22 v0 rfl rfl) hwt;obtain ⟨H',hr⟩:=za8 1 (zc6.ext e0) va0 (by omega);exact z7q (ne:=NE.plain 1000) sane (zv hr) i0 (ar1 vr0)
theorem z30 (os:Os) {H:Type} (enc:TypeId×Value→H):∃x,DataW.whole enc Tryd.prog ((laidW2 Tryd.prog Rows.egraphClosesUptoRow.laid os).forCall (fun _ _=>0) ⟨#[],#[.slice none 0 0],[]⟩).memory Tryd.f4.params.toList Rows.egraphClosesSpec.vars false (#[.slice none 0 0]:Array Value).toList 8=some ([.nil],[],x) :=
 ⟨[],by kernel_rfl⟩
theorem z2x (os:Os) (started:os.Started) (H:Type) (enc:TypeId×Value→H) (F:Stop.Interp) :
  ReturnsInHanded {} Tryd.checked os 4 .any ((Rows.OpenSpec.upto Rows.egraphClosesSpec).preRow enc Tryd.prog Tryd.f4 Rows.egraphClosesUptoRow.domain false Rows.egraphClosesUptoRow.laid) (((Rows.OpenSpec.upto Rows.egraphClosesSpec).at F).post enc Tryd.prog Tryd.f4 false true false false):=by
 obtain ⟨x,hx⟩:=z30 os enc;exact z5k (C:=Tryd.checked) (s:=Rows.OpenSpec.upto Rows.egraphClosesSpec) (k:=Rows.uptoSmall) rfl own started (by kernel_rfl) Tryd.func4 zbz laidOut (by kernel_rfl) rfl (by kernel_rfl)
  (fun ds hds=>by
   have h1:ds.length=1:=hds
   match ds,h1 with
   | [d0],_=>exact ⟨rfl,rfl,rfl⟩)
  rfl (by kernel_rfl)
  (witness_row_atRef (enc:=enc) (C:=Tryd.checked) false (laidW2 Tryd.prog Rows.egraphClosesUptoRow.laid os) #[.slice none 0 0] rfl (by kernel_rfl) (by kernel_rfl) (by kernel_rfl)
   (OpenSpec.preRow_of_cond 8 hx (by kernel_rfl) (fun k hk=>by cases hk; kernel_rfl) (by kernel_rfl) (ze4 os _)))
  (fun W base args ds ps hg hval hA hk hL hsh hwt=>z3f hg hval hA hL hsh hk hwt)
theorem z3y:Rows.EgraphClosesUptoSaid :=
 OpenClaim.holds_of_cond 4 Tryd.f4 rfl rfl rfl rfl rfl rfl rfl ⟨rfl,rfl,rfl,rfl,rfl⟩ rfl rfl rfl rfl rfl (by kernel_rfl) Tryd.func4 (by kernel_rfl)
  (of_decide_eq_true (by kernel_rfl)) (by unfold Func.isWrapper; first | (rw [if_pos (by decide +kernel)]; kernel_rfl) | (rw [if_neg (by decide +kernel)]; exact ⟨rfl,rfl⟩))
  (fun os started H enc _ F=>by rw [OpenClaim.pre_eq_preRow]; exact z2x os started H enc F)
theorem z3c (f:FuncId) (fn:Func) (hf:Tryd.pinned.checked.prog.funcNamed "tribunal/tribunallaw15.EgraphCloses"=some f) (hfn:Tryd.pinned.checked.prog.funcs[f]? = some fn) :
  false=Tryd.pinned.checked.prog.looks []∧∀(j:Nat) t,fn.params[j]? = some t→Tryd.pinned.checked.prog.wantsStandIn t=false:=by
 obtain rfl:f=4:=Option.some.inj ((show Tryd.prog.funcNamed "tribunal/tribunallaw15.EgraphCloses"=some 4 by kernel_rfl).symm.trans hf) |>.symm;obtain rfl:fn=Tryd.f4:=(Option.some.inj (Tryd.func4.symm.trans hfn)).symm;exact ⟨by kernel_rfl,fun j t ht=>by
  have hall:(Tryd.f4.params.toList.all fun u=>!Tryd.prog.wantsStandIn u)=true:=by kernel_rfl
  have hm:t∈Tryd.f4.params.toList:=by simpa using Array.mem_of_getElem? ht
  exact (show Tryd.prog.wantsStandIn t=false by simpa using List.all_eq_true.1 hall t hm)⟩
theorem egraphCloses_holds:Rows.EgraphClosesUptoCardSaid :=
 Claim7.holds_tied_plain_at .later [] _ _ _ _ z3y (fun _ h=>by cases h) (by kernel_rfl) (fun _ h=>by cases h) egraphClosesUpto_row_tie rfl ⟨rfl,rfl⟩ (by kernel_rfl) rfl z3c (by kernel_rfl)
#print axioms egraphCloses_holds
end Go.Proofs.YtgkhbmoidenjaaaDoor
