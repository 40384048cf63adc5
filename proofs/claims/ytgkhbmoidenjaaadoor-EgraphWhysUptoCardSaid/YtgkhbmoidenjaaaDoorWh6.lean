/- EgraphWhys is proved where what it reads is of bulk at most 1048576: it returns true and its argument reads as before. No condition beyond the row's own (listed tables of Go's library as the text lays them). -/
import Derived.Test.YtgkhbmoidenjaaaDoorWh5
namespace Go.Proofs.YtgkhbmoidenjaaaDoor
open Go Go.Abs Go.Abs.Eg
set_option maxRecDepth 100000
section
variable {m:Nat} {H:AH} {R:RL} {N:List Nd} {sd:List Sd}
abbrev RF (m:Nat) (H:AH) (R:RL) (N:List Nd) (sd:List Sd):Prop:=RR 32 42 49 m H R N sd
abbrev RL.p (R:RL):Option Addr:=some ⟨R.q,0,none⟩
theorem z9m (k:Nat) {s1 s2:Sl3} {m1 m2:Nat} {z y:Nd} (hz:SlA EI 3 m1 H z.args s1) (hy:SlA EI 3 m2 H y.args s2) (hl:z.args.length≤64):g9 (LCo k) H z.sym z.value s1 y.sym y.value s2=some (decide (z=y)):=by
 have first:(if z.sym=y.sym then if (z.value == y.value)=true then some (!decide ((s1.n:Int)=(s2.n:Int))) else some true else some true:Option Bool)=some (!(decide (z.sym=y.sym)&&(decide (z.value=y.value)&&decide (z.args.length=y.args.length)))):=by
  rw [hz.cnt,hy.cnt];by_cases h1:z.sym=y.sym
  ·rw [if_pos h1];by_cases h2:z.value=y.value
   ·rw [if_pos (by rw [h2]; simp)];by_cases h3:z.args.length=y.args.length
    ·simp [h1,h2,h3]
    ·have:¬(z.args.length:Int)=(y.args.length:Int):=by omega
     simp [h1,h2,h3];exact this
   ·rw [if_neg (by simpa using h2)];simp [h2]
  ·rw [if_neg h1];simp [h1]
 unfold g9;refine (congrArg (fun o=>Option.bind o _) first).trans ?_;simp only [Option.bind_some];by_cases hc:z.sym=y.sym∧z.value=y.value∧z.args.length=y.args.length
 ·obtain ⟨c1,c2,c3⟩:=hc;rw [if_neg (by simp [c1,c2,c3])];have A:=scanI (f:=o4 (LCo k) H z.sym z.value s1 y.sym y.value s2) z.args.length (fun i=>decide (z.args[i]? ≠ y.args[i]?)) (fun i=>(i:Int)) (fun _=>false) (fun i hi hp=>?_) (fun i hi hp=>?_) ?_;rotate_left
  ·obtain ⟨q1,r1,r2⟩:=rd_EI hz hi (v:=(i:Int)) rfl;obtain ⟨q2,r3,r4⟩:=rd_EI hy (i:=i) (by omega) (v:=(i:Int)) rfl;have he:z.args[i]=y.args[i]'(by omega):=by
    have:=of_decide_eq_false hp;rw [List.getElem?_eq_getElem hi,List.getElem?_eq_getElem (show i<y.args.length by omega)] at this
    simpa using this
   unfold o4;simp only [hz.cnt,if_pos (show (i:Int)<(z.args.length:Int) by omega),r1,r2,r3,r4,Option.bind_some];rw [if_pos (by rw [he]),P1 (n:=z.args.length) hi (by rw [N2]; omega)]
  ·obtain ⟨q1,r1,r2⟩:=rd_EI hz hi (v:=(i:Int)) rfl;obtain ⟨q2,r3,r4⟩:=rd_EI hy (i:=i) (by omega) (v:=(i:Int)) rfl;have he:¬z.args[i]=y.args[i]'(by omega):=by
    have:=of_decide_eq_true hp;rw [List.getElem?_eq_getElem hi,List.getElem?_eq_getElem (show i<y.args.length by omega)] at this
    simpa using this
   unfold o4;simp only [hz.cnt,if_pos (show (i:Int)<(z.args.length:Int) by omega),r1,r2,r3,r4,Option.bind_some];rw [if_neg (by omega)]
  ·unfold o4;simp only [hz.cnt,if_neg (show ¬((z.args.length:Int)<(z.args.length:Int)) by omega)]
  rcases A with ⟨i,hi,hp,_,e⟩ | ⟨hall,e⟩
  ·rw [show (LCo k).run (o4 (LCo k) H z.sym z.value s1 y.sym y.value s2) 0=some (.inr false) from e];have:¬z=y:=fun h=>by
    rw [h] at hp;simp at hp
   simp only [Option.bind_some,decide_eq_false this]
  ·rw [show (LCo k).run (o4 (LCo k) H z.sym z.value s1 y.sym y.value s2) 0=some (.inl (z.args.length:Int)) from e];have:z=y:=by
    have ha:z.args=y.args:=by
     refine List.ext_getElem? fun i=>?_;by_cases hi:i<z.args.length
     ·have:=of_decide_eq_false (hall i hi)
      simpa using this
     ·rw [List.getElem?_eq_none (by omega),List.getElem?_eq_none (by omega)]
    cases z; cases y;simp only at c1 c2 ha;rw [c1,c2,ha]
   simp only [Option.bind_some,decide_eq_true this]
 ·have hb:(!(decide (z.sym=y.sym)&&(decide (z.value=y.value)&&decide (z.args.length=y.args.length))))=true:=by
   by_cases h1:z.sym=y.sym
   ·by_cases h2:z.value=y.value
    ·have h3:¬z.args.length=y.args.length:=fun h3=>hc ⟨h1,h2,h3⟩;simp [h3]
    ·simp [h2]
   ·simp [h1]
  rw [if_pos hb,decide_eq_false]
  rintro rfl
  exact hc ⟨rfl,rfl,rfl⟩
structure RO (m n0:Nat) (H:AH) (R:RL) (H':AH) (R':RL) (N:List Nd) (sd:List Sd):Prop where
 rr:RF m H' R' N sd
 q:R'.q=R.q
 nm:m≤H'.next
 fm:Fm (fun id=>id<n0→R.fp id) H H'
 fp:∀id,R'.fp id→R.fp id∨n0≤id
theorem z71 (k:Nat) (h:RF m H R N sd) (hm:m≤H.next) {y:Nd} {sl:Sl3} (hs:SlA EI 3 m H y.args sl) {n0:Nat} (hn0:n0≤H.next) (hf:∀id,fpt sl id→n0≤id) (hd:∀id,R.fp id→¬fpt sl id) (hl:∀z∈N,z.args.length≤64) (hN:N.length≤1048576) :
  ∃H' R',X3 (LCo k) m H (RL.p R) y.sym y.value sl=some ((putP N y).1,(putP N y).2.1,H')∧RO m n0 H R H' R' (putP N y).2.2 sd:=by
 have hcnt:R.sN.n=N.length:=by rw [h.hN.cnt,A7 h.nal]
 have A:=scanI (f:=Z2 (LCo k) H (RL.p R) y.sym y.value sl) N.length (fun i=>decide (N[i]? = some y)) (fun i=>(i:Int)) (fun i=>((i:Int),0,H)) (fun i hi hp=>?_) (fun i hi hp=>?_) ?_;rotate_left
 ·obtain ⟨q,s,r1,r2,r3,r4,r5,_⟩:=h.node hi (v:=(i:Int)) rfl;have hne:¬N[i]=y:=by
   have:=of_decide_eq_false hp;rw [List.getElem?_eq_getElem hi] at this
   simpa using this
  unfold Z2;simp only [Option.bind_some];rw [h.q.rd (j:=0) (v:=R.sN.v) rfl deSl];simp only [show deSl (Sl3.v R.sN)=some R.sN from rfl,Option.bind_some,hcnt,if_pos (show (i:Int)<(N.length:Int) by omega),r1,r2,r3,r4];rw [z9m k r5 hs (hl _ (List.getElem_mem hi)),decide_eq_false hne];simp only [Option.bind_some,Bool.false_eq_true,if_false];rw [P1 (n:=N.length) hi (by rw [N2]; omega)]
 ·obtain ⟨q,s,r1,r2,r3,r4,r5,_⟩:=h.node hi (v:=(i:Int)) rfl;have he:N[i]=y:=by
   have:=of_decide_eq_true hp;rw [List.getElem?_eq_getElem hi] at this
   simpa using this
  unfold Z2;simp only [Option.bind_some];rw [h.q.rd (j:=0) (v:=R.sN.v) rfl deSl];simp only [show deSl (Sl3.v R.sN)=some R.sN from rfl,Option.bind_some,hcnt,if_pos (show (i:Int)<(N.length:Int) by omega),r1,r2,r3,r4];rw [z9m k r5 hs (hl _ (List.getElem_mem hi)),decide_eq_true he];simp only [Option.bind_some,if_true]
 ·unfold Z2;simp only [Option.bind_some];rw [h.q.rd (j:=0) (v:=R.sN.v) rfl deSl];simp only [show deSl (Sl3.v R.sN)=some R.sN from rfl,Option.bind_some,hcnt,if_neg (show ¬((N.length:Int)<(N.length:Int)) by omega)]
 unfold X3;rcases A with ⟨i,hi,hp,hfst,e⟩ | ⟨hall,e⟩
 ·rw [show (LCo k).run (Z2 (LCo k) H (RL.p R) y.sym y.value sl) 0=some (.inr ((i:Int),0,H)) from e];have he:N[i]=y:=by
   have:=of_decide_eq_true hp;rw [List.getElem?_eq_getElem hi] at this
   simpa using this
  have hfi:=zaj hi he fun j hj hh=>by
   have:=of_decide_eq_false (hfst j hj);rw [List.getElem?_eq_getElem (show j<N.length by omega)] at this;exact this (by rw [hh])
  have hp:putP N y=((i:Int),0,N):=by unfold putP; rw [hfi]
  rw [hp];exact ⟨H,R,rfl,h,rfl,hm,Fm.refl _ _,fun _ h=>.inl h⟩
 ·rw [show (LCo k).run (Z2 (LCo k) H (RL.p R) y.sym y.value sl) 0=some (.inl (N.length:Int)) from e];have hfi:=zbq (N:=N) (y:=y) fun j hj hh=>by
   have:=of_decide_eq_false (hall j hj);rw [List.getElem?_eq_getElem hj] at this;exact this (by rw [hh])
  simp only [Option.bind_some];rw [h.q.rd (j:=0) (v:=R.sN.v) rfl deSl];simp only [show deSl (Sl3.v R.sN)=some R.sN from rfl,Option.bind_some,hcnt];by_cases hbig:1048576≤N.length
  ·have hp:putP N y=(0,3,N):=by unfold putP; rw [hfi]; simp only [if_pos hbig]
   rw [hp,if_pos (show ((N.length:Nat):Int)≥1048576 by omega)];exact ⟨H,R,rfl,h,rfl,hm,Fm.refl _ _,fun _ h=>.inl h⟩
  ·have hp:putP N y=(((N.length:Nat):Int),0,N++[y]):=by unfold putP; rw [hfi]; simp only [if_neg hbig]
   rw [hp,if_neg (show ¬((N.length:Nat):Int)≥1048576 by omega)];obtain ⟨z,H0,s',H1,H2,a1,a2,a3,a4,a5,a6⟩:=h.pushN y hs hd hN hm;refine ⟨H2,{ R with sN:=s',na:=R.na++[sl] },?_,a4,rfl,Nat.le_trans hm a5.1,a5.weak fun id _ hid _=>hid.elim (fun e=>.inl e) fun e=>.inr (.inl e),fun id hid=>?_⟩
   ·rw [a1];simp only [Option.bind_some];rw [a2];simp only [Option.bind_some];rw [a3];simp only [Option.bind_some];rw [show rd deSl H2 ((⟨R.q,0,none⟩:Addr).add 0)=some s' from a4.q.rd (j:=0) (v:=s'.v) rfl deSl];simp only [Option.bind_some];have hc:s'.n=N.length+1:=by
     have:=a4.hN.cnt;rw [show ({ R with sN:=s',na:=R.na++[sl] }:RL).sN=s' from rfl] at this;rw [this,z9h h.nal,List.length_append,A7 h.nal];rfl
    rw [hc,A6 (n:=N.length) (by omega) (by omega)]
   ·rcases hid with e0 | e0 | e0 | ⟨s0,hs',e0⟩
    ·exact .inl (.inl e0)
    ·rcases a6 id e0 with e0 | e0
     ·exact .inl (.inr (.inl e0))
     ·exact .inr (Nat.le_trans hn0 e0)
    ·exact .inl (.inr (.inr (.inl e0)))
    ·rcases List.mem_append.1 hs' with h1 | h1
     ·exact .inl (.inr (.inr (.inr ⟨s0,h1,e0⟩)))
     ·rw [List.mem_singleton] at h1;rw [h1] at e0;exact .inr (hf id e0)
theorem zae (k:Nat) (h:RF m H R N sd) (hm:m≤H.next) (v:Int) (hl:∀z∈N,z.args.length≤64) (hN:N.length≤1048576) :
  ∃H' R',G5 (LCo k) m H (RL.p R) v=some ((valP N v).1,(valP N v).2.1,H')∧RO m H.next H R H' R' (valP N v).2.2 sd:=by
 obtain ⟨H',R',a1,a2⟩:=z71 k h hm (y:=⟨true,v,[]⟩) (sl:=Sl3.nil) SlA.nil (n0:=H.next) (Nat.le_refl _) (fun id h=>absurd h U1) (fun _ _=>U1) hl hN;refine ⟨H',R',?_,a2⟩;unfold G5;rw [show X3 (LCo k) m H (RL.p R) v true Sl3.nil=_ from a1];rfl
theorem r9 (k:Nat) (h:RF m H R N sd) (a:Int):D3 (LCo k) H (RL.p R) a=some (okA N a):=by
 have hcnt:R.sN.n=N.length:=by rw [h.hN.cnt,A7 h.nal]
 unfold D3;by_cases h0:a≥0
 ·rw [if_pos h0];simp only [Option.bind_some];rw [h.q.rd (j:=0) (v:=R.sN.v) rfl deSl];simp only [show deSl (Sl3.v R.sN)=some R.sN from rfl,Option.bind_some,hcnt];unfold okA
  congr 1
  exact decide_eq_decide.2 ⟨fun h1=>⟨h0,h1⟩,fun h1=>h1.2⟩
 ·rw [if_neg h0];unfold okA
  congr 1
  exact (decide_eq_false fun h1=>h0 h1.1).symm
theorem zca (k:Nat) (h:RF m H R N sd) (hm:m≤H.next) {v:Int} {s:Sl3} {aa:List Int} (hs:Eg.AR H s aa) (hl:∀z∈N,z.args.length≤64) (hN:N.length≤1048576) :
  ∃H' R',v6 (LCo k) m H (RL.p R) v s=some ((addP N v aa).1,(addP N v aa).2.1,H')∧RO m H.next H R H' R' (addP N v aa).2.2 sd:=by
 unfold v6;rw [hs.n];by_cases hbig:64<aa.length
 ·have hp:addP N v aa=(0,51,N):=by unfold addP; rw [if_pos hbig]
  rw [if_pos (show ((aa.length:Nat):Int) > 64 by omega),hp];exact ⟨H,R,rfl,h,rfl,hm,Fm.refl _ _,fun _ h=>.inl h⟩
 ·rw [if_neg (show ¬((aa.length:Nat):Int) > 64 by omega)];have A:=scanI (f:=Y2 (LCo k) H (RL.p R) v s) aa.length (fun i=>match aa[i]? with
    | some a=>!okA N a
    | none=>false) (fun i=>(i:Int)) (fun _=>(0,150,H)) (fun i hi hp=>?_) (fun i hi hp=>?_) ?_
  rotate_left
  ·rw [List.getElem?_eq_getElem hi] at hp;obtain ⟨q,r1,r2⟩:=hs.at_ i hi;have hp:okA N aa[i]=true:=by simpa using hp
   unfold Y2;simp only [hs.n,if_pos (show (i:Int)<(aa.length:Int) by omega),r1,r2,Option.bind_some];rw [r9 k h,hp];simp only [Option.bind_some,if_true];rw [P1 (n:=aa.length) hi (by rw [N2]; omega)]
  ·rw [List.getElem?_eq_getElem hi] at hp;obtain ⟨q,r1,r2⟩:=hs.at_ i hi;have hp:okA N aa[i]=false:=by simpa using hp
   unfold Y2;simp only [hs.n,if_pos (show (i:Int)<(aa.length:Int) by omega),r1,r2,Option.bind_some];rw [r9 k h,hp];rfl
  ·unfold Y2;simp only [hs.n,if_neg (show ¬((aa.length:Int)<(aa.length:Int)) by omega)]
  rcases A with ⟨i,hi,hp,_,e⟩ | ⟨hall,e⟩
  ·rw [show (LCo k).run (Y2 (LCo k) H (RL.p R) v s) 0=some (.inr (0,150,H)) from e];rw [List.getElem?_eq_getElem hi] at hp;have hp:okA N aa[i]=false:=by simpa using hp
   have hf:aa.all (okA N)=false:=by
    rw [List.all_eq_false];exact ⟨_,List.getElem_mem hi,by rw [hp]; simp⟩
   have hp:addP N v aa=(0,150,N):=by unfold addP; rw [if_neg hbig,hf]; rfl
   rw [hp];exact ⟨H,R,rfl,h,rfl,hm,Fm.refl _ _,fun _ h=>.inl h⟩
  ·rw [show (LCo k).run (Y2 (LCo k) H (RL.p R) v s) 0=some (.inl (aa.length:Int)) from e];have hok:∀a∈aa,okA N a=true:=fun a ha=>by
    obtain ⟨i,hi,rfl⟩:=List.mem_iff_getElem.1 ha;have:=hall i hi;rw [List.getElem?_eq_getElem hi] at this
    simpa using this
   have hp:addP N v aa=putP N ⟨false,v,aa.map Int.toNat⟩:=by unfold addP; rw [if_neg hbig,List.all_eq_true.2 hok]; rfl
   have hnn:∀a∈aa,0≤a:=fun a ha=>by obtain ⟨n,rfl,_⟩:=P7.1 (hok a ha); exact Int.natCast_nonneg n
   have hz:=hs.rdv;rw [z73 hnn] at hz;obtain ⟨s',H1,b1,b2,b3,b4⟩:=SlA.app (E:=EI) (e:=3) (m:=m) (bytes:=8) (l:=[]) (l':=aa.map Int.toNat) (s:=Sl3.nil) (z:=s) SlA.nil (by rw [List.length_map]; exact hz) (by simp only [List.length_nil,List.length_map,Nat.zero_add]; omega) (by simp only [List.length_nil,List.length_map,Nat.zero_add]; omega) hm;have x1:Ext H H1:=⟨b3.1,fun id b hid _ hg=>b3.2 id b hid U1 hg⟩;have hfr:∀id,fpt s' id→H.next≤id:=fun id hid=>(b4 id hid).resolve_left U1;obtain ⟨H',R',c1,c2⟩:=z71 k (RR.ext h x1) (Nat.le_trans hm x1.1) (y:=⟨false,v,aa.map Int.toNat⟩) (sl:=s') b2 (n0:=H.next) x1.1 hfr (fun id hid hf=>by have:=(RR.low h hid).2; have:=hfr id hf; omega) hl hN;refine ⟨H',R',?_,by rw [hp]; exact c2.rr,c2.q,c2.nm,⟨Nat.le_trans x1.1 c2.fm.1,fun id b hid hw hg=>c2.fm.2 id b (Nat.lt_of_lt_of_le hid x1.1) hw (x1.2 id b hid (fun h=>h) hg)⟩,c2.fp⟩;simp only [Option.bind_some];have b1':appS m 3 1 8 H Sl3.nil s=some (s',H1):=b1;rw [b1',hp];simp only [Option.bind_some];rw [show X3 (LCo k) m H1 (RL.p R) v false s'=_ from c1];rfl
theorem z6s (k:Nat) (h:RF m H R N sd) (hm:m≤H.next) (a b c:Int) (d:Bool) (hl:sd.length≤1048576) :
  ∃H' R',u5 (LCo k) m H (RL.p R) a b c d=some ((sayP N sd (a,b,c,d)).1,H')∧RO m H.next H R H' R' N (sayP N sd (a,b,c,d)).2:=by
 have pre:((D3 (LCo k) H (RL.p R) a).bind fun x2=>if x2=true then (D3 (LCo k) H (RL.p R) b).bind fun x3=>some (!x3) else some true:Option Bool)=some (!(okA N a&&okA N b)):=by
  rw [r9 k h,r9 k h];cases okA N a <;> cases okA N b <;> rfl
 unfold u5;refine Exists.imp (fun H'=>Exists.imp fun R'=>And.imp_left fun hh=>(congrArg (fun o=>Option.bind o _) pre).trans hh) ?_;simp only [Option.bind_some];cases hok:okA N a&&okA N b with
 | false =>
  have hp:sayP N sd (a,b,c,d)=(150,sd):=by unfold sayP; simp only [hok]; rfl
  rw [hp];exact ⟨H,R,rfl,h,rfl,hm,Fm.refl _ _,fun _ h=>.inl h⟩
 | true =>
  have hp:sayP N sd (a,b,c,d)=(0,sd++[(a,b,c,d)]):=by unfold sayP; simp only [hok]; rfl
  rw [hp];obtain ⟨z,H0,s',H1,H2,a1,a2,a3,a4,a5,a6⟩:=RR.pushS h (a,b,c,d) hl hm;refine ⟨H2,{ R with sS:=s' },?_,a4,rfl,Nat.le_trans hm a5.1,a5.weak fun id _ hid _=>hid.elim (fun e=>.inl e) fun e=>.inr (.inr (.inl e)),fun id hid=>?_⟩
  ·simp only [Bool.not_true,Bool.false_eq_true,if_false];rw [RR.q h |>.rd (j:=1) (v:=R.sS.v) rfl deSl];simp only [show deSl (Sl3.v R.sS)=some R.sS from rfl,Option.bind_some];rw [a1];simp only [Option.bind_some];rw [a2];simp only [Option.bind_some];rw [a3];rfl
  ·rcases hid with e | e | e | e
   ·exact .inl (.inl e)
   ·exact .inl (.inr (.inl e))
   ·rcases a6 id e with e | e
    ·exact .inl (.inr (.inr (.inl e)))
    ·exact .inr e
   ·exact .inl (.inr (.inr (.inr e)))
end
end Go.Proofs.YtgkhbmoidenjaaaDoor
namespace Go.Proofs.YtgkhbmoidenjaaaDoor
open Go Go.Abs Go.Abs.Eg
set_option maxRecDepth 100000
section
variable {T:Tys} {m:Nat} {H0 H H':AH} {L:GL} {x:Gh} {R:RL} {Tb:AH→Prop} {tx:Key→ByteArray}
abbrev Tb0 (H0:AH):AH→Prop:=fun H=>Ext H0 H
theorem tb0_fr {W:Nat→Prop} (hlo:H0.next≤m) (h:Tb0 H0 H) (hf:Fm W H H') (hw:∀id,W id→m≤id):Tb0 H0 H' :=
 ⟨Nat.le_trans h.1 hf.1,fun id b hid hn hg=>hf.2 id b (Nat.lt_of_lt_of_le hid h.1) (fun hwi=>by have:=hw id hwi; omega) (h.2 id b hid hn hg)⟩
theorem env0 (hT:TyOK T) (hH:HasT H0) (hlo:H0.next≤m):Env T txK m (Tb0 H0):=zie hT.I (fun H h=>hH.ext h) fun h hf hw=>tb0_fr hlo h hf hw
theorem GS.fr {W:Nat→Prop} (hE:Env T tx m Tb) (h:GS T tx m Tb H L x) (hf:Fm W H H') (hw:∀c id,L.fp c id→¬W id) (hm:∀id,W id→m≤id):GS T tx m Tb H' L x :=
 ⟨⟨h.gr.rep.other hf hw,hE.tb h.gr.tb hf hm,h.gr.mi,h.gr.mx,h.gr.sm,Nat.le_trans h.gr.nm hf.1,h.gr.cll,h.gr.li⟩,h.ids,h.sdr⟩
structure PG (T:Tys) (m:Nat) (H0 H:AH) (L:GL) (x:Gh) (R:RL):Prop where
 gs:GS T txK m (Tb0 H0) H L x
 rf:RF m H R x.g.N x.sd
 sep:∀c id,L.fp c id→¬R.fp id
 nok:NOK x.g.N
theorem PG.old (h:PG T m H0 H L x R):Ext H0 H:=h.gs.gr.tb
theorem PG.ext (hE:Env T txK m (Tb0 H0)) (h:PG T m H0 H L x R) (hf:Ext H H'):PG T m H0 H' L x R:=⟨h.gs.ext hE hf,RR.ext h.rf hf,h.sep,h.nok⟩
theorem PG.rf1 (h:PG T m H0 H L x R) {H1:AH} {L1:GL} {x1:Gh} (g:GO T txK m (Tb0 H0) H.next H L H1 L1 x1):RF m H1 R x.g.N x.sd :=
 RR.fr h.rf g.fm fun id hid hw=>by
  obtain ⟨c,hc⟩:=hw (RR.low h.rf hid).2;exact h.sep c id hc hid
def Wp (L:GL) (R:RL) (n0:Nat) (id:Nat):Prop:=id<n0→(∃c,L.fp c id)∨R.fp id
theorem PG.low (h:PG T m H0 H L x R) {id:Nat} (hw:Wp L R H.next id):m≤id:=by
 by_cases hlt:id<H.next
 ·rcases hw hlt with ⟨c,hc⟩ | hr
  ·exact (h.gs.gr.rep.low hc).1
  ·exact (RR.low h.rf hr).1
 ·have:=h.gs.gr.nm; omega
structure PO (T:Tys) (m:Nat) (H0 H:AH) (L:GL) (R:RL) (H':AH) (L':GL) (x':Gh) (R':RL):Prop where
 pg:PG T m H0 H' L' x' R'
 q:L'.q=L.q
 rq:R'.q=R.q
 fm:Fm (Wp L R H.next) H H'
 fp:∀c id,L'.fp c id→L.fp c id∨H.next≤id
 rfp:∀id,R'.fp id→R.fp id∨H.next≤id
theorem PG.both (hE:Env T txK m (Tb0 H0)) (h:PG T m H0 H L x R) {H1 H2:AH} {L1:GL} {x1:Gh} {R':RL} {N':List Nd} {sd':List Sd} (g:GO T txK m (Tb0 H0) H.next H L H1 L1 x1) (r:RO m H1.next H1 R H2 R' N' sd')
  (hN:x1.g.N=N') (hS:x1.sd=sd') (hk:NOK N'):PO T m H0 H L R H2 L1 x1 R':=by
 subst hN; subst hS;have hle:=g.fm.1;have hRlt:∀id,R.fp id→id<H.next:=fun id hid=>(RR.low h.rf hid).2;refine ⟨⟨g.gs.fr hE r.fm (fun c id hc hw=>?_) (fun id hw=>?_),r.rr,fun c id hc hr=>?_,hk⟩,g.q,r.q,?_,g.fp,fun id hid=>?_⟩
 ·have hr:=hw (g.gs.gr.rep.low hc).2;rcases g.fp c id hc with h1 | h1
  ·exact h.sep c id h1 hr
  ·have:=hRlt id hr; omega
 ·by_cases hlt:id<H1.next
  ·exact (RR.low h.rf (hw hlt)).1
  ·have:=g.gs.gr.nm; omega
 ·rcases g.fp c id hc with h1 | h1
  ·rcases r.fp id hr with h2 | h2
   ·exact h.sep c id h1 h2
   ·have:=(h.gs.gr.rep.low h1).2; omega
  ·rcases r.fp id hr with h2 | h2
   ·have:=hRlt id h2; omega
   ·have:=(g.gs.gr.rep.low hc).2; omega
 ·refine (g.fm.weak fun id _ hw=>?_).comp (W':=fun id=>id<H1.next→R.fp id) r.fm fun id hid hn hw=>hn ?_
  ·exact fun hlt=>.inl (hw hlt)
  ·exact fun hlt=>.inr (hw (by omega))
 ·rcases r.fp id hid with h1 | h1
  ·exact .inl h1
  ·exact .inr (by omega)
theorem PG.nlen (h:PG T m H0 H L x R):x.g.N.length≤1048576:=h.gs.gr.sm.n
theorem PG.args (h:PG T m H0 H L x R):∀z∈x.g.N,z.args.length≤64:=fun z hz=>by
 obtain ⟨i,hi,rfl⟩:=List.mem_iff_getElem.1 hz;exact h.gs.gr.sm.args i _ (List.getElem?_eq_getElem hi)
variable {kt e:TypeId}
theorem zga (hE:Env T txK m (Tb0 H0)) (hP:PE T 58 kt e) (hT:TyOK T) (k:Nat) (h:PG T m H0 H L x R) {kd sy:Int} {s:Sl3} {aa:List Int} {a b tg:Int} (hk:1≤kd∧kd≤4)
  (hsy:-9223372036854775808≤sy∧sy<9223372036854775808) (hs:∀H',Fm (Wp L R H.next) H H'→AR H' s aa) (ht:totN x.g.N+aa.length≤1048576) (hl:x.sd.length≤1048576) :
  ∃H' L' x' R',K7 (LCo k) m H (GL.p L) (RL.p R) kd sy s a b tg=some (true,H')∧PO T m H0 H L R H' L' x' R'∧totN x'.g.N≤totN x.g.N+aa.length∧x'.sd.length≤x.sd.length+1:=by
 unfold K7;by_cases h1:kd=1
 ·subst h1;rw [if_pos rfl];obtain ⟨H1,L1,x1,a1,a2,a3,a4⟩:=zhe hE hP hT k h.gs hsy (fun H' hx=>hs H' (hx.weak fun _ _ h=>h.elim)) ht;obtain ⟨H2,R2,b1,b2⟩:=zca k (h.rf1 a2) a2.gs.gr.nm (v:=sy) (hs H1 (a2.fm.weak fun _ _ hw hlt=>.inl (hw hlt))) h.args h.nlen;refine ⟨H2,L1,x1,R2,?_,h.both hE a2 b2 a3 a4 (h.nok.add sy aa),by rw [a3]; exact zjb _ _ _,by rw [a4]; omega⟩;rw [a1];simp only [Option.bind_some];rw [b1];simp only [Option.bind_some,if_true,decide_true]
 rw [if_neg h1];by_cases h2:kd=2
 ·subst h2;rw [if_pos rfl];obtain ⟨H1,L1,x1,a1,a2,a3,a4⟩:=zeh hE hP hT k h.gs hsy (by omega);obtain ⟨H2,R2,b1,b2⟩:=zae k (h.rf1 a2) a2.gs.gr.nm sy h.args h.nlen;refine ⟨H2,L1,x1,R2,?_,h.both hE a2 b2 a3 a4 (h.nok.val sy),by rw [a3]; have:=zj5 x.g.N sy; omega,by rw [a4]; omega⟩;rw [a1];simp only [Option.bind_some];rw [b1];simp only [Option.bind_some,if_true,decide_true]
 rw [if_neg h2];by_cases h3:kd=3
 ·subst h3;rw [if_pos rfl];obtain ⟨H1,L1,x1,a1,a2,a3,a4⟩:=zat hE hP hT k h.gs a b tg false hl;obtain ⟨H2,R2,b1,b2⟩:=z6s k (h.rf1 a2) a2.gs.gr.nm a b tg false hl;refine ⟨H2,L1,x1,R2,?_,h.both hE a2 b2 a3 a4 h.nok,by rw [a3]; omega,by rw [a4]; exact zd8 _ _ _⟩;unfold o6;rw [a1];simp only [Option.bind_some];rw [b1];simp only [Option.bind_some,decide_true]
 rw [if_neg h3];have h4:kd=4:=by omega
 subst h4;rw [if_pos rfl];obtain ⟨H1,L1,x1,a1,a2,a3,a4⟩:=zat hE hP hT k h.gs a b tg true hl;obtain ⟨H2,R2,b1,b2⟩:=z6s k (h.rf1 a2) a2.gs.gr.nm a b tg true hl;refine ⟨H2,L1,x1,R2,?_,h.both hE a2 b2 a3 a4 h.nok,by rw [a3]; omega,by rw [a4]; exact zd8 _ _ _⟩;unfold u6;rw [a1];simp only [Option.bind_some];rw [b1];simp only [Option.bind_some,decide_true]
theorem new_RF (hm:m≤H.next):RF m (H.push (pubB 32 [Sl3.v Sl3.nil,Sl3.v Sl3.nil,Sl3.v Sl3.nil])) ⟨H.next,Sl3.nil,Sl3.nil,[]⟩ [] []:=RR.new hm
theorem zdr (hH:HasT H0) (hlo:H0.next≤m) (hP:PE T 58 kt e) (hT:TyOK T) (k:Nat) (hx:Ext H0 H) (hm:m≤H.next) {s:Sl3} {ops:List OpD} (hs:OpsR H0 s ops) (hb:bulkO ops≤1048576) :
  ∃H' L x R,t8 (LCo k) m H s=some (GL.p L,RL.p R,true,H')∧PG T m H0 H' L x R∧totN x.g.N≤1048576∧x.sd.length≤ops.length:=by
 have hE:=env0 (T:=T) (m:=m) hT hH hlo;obtain ⟨H1,L,a1,a2,a3,a4⟩:=zi0 hE hT k hx hm
 let R:RL:=⟨H1.next,Sl3.nil,Sl3.nil,[]⟩
 let H2:=H1.push (pubB 32 [Sl3.v Sl3.nil,Sl3.v Sl3.nil,Sl3.v Sl3.nil])
 have x2:Ext H1 H2:=Fm.push _ _ _;have hpg:PG T m H0 H2 L ⟨⟨[],[],[],fun _=>none,[]⟩,fun _=>none,[],[]⟩ R:=by
  refine ⟨a2.ext hE x2,new_RF a2.gr.nm,fun c id hc hr=>?_,NOK.nil⟩;have h1:=(a2.gr.rep.low hc).2;rcases hr with e | e | e | ⟨s,hs,e⟩
  ·have e:id=H1.next:=e;omega
  ·exact U1 e
  ·exact U1 e
  ·cases hs
 have hsum:∀i,i≤ops.length→((ops.take i).map fun o=>o.aa.length).sum≤(ops.map fun o=>o.aa.length).sum:=fun i hi=>by
  rw [List.map_take];generalize ops.map (fun o=>o.aa.length)=l;have:l.sum=(l.take i).sum+(l.drop i).sum:=by rw [← List.sum_append,List.take_append_drop]
  omega
 unfold bulkO at hb;obtain ⟨st,b1,b2⟩:=z1p (R:=(Option Addr)×(Option Addr)×Bool×AH) (body:=S4 (LCo k) m s ⟨H1.next,0,none⟩ ⟨L.q,0,none⟩) ops.length
  (fun i (st:AH×Int)=>st.2=(i:Int)∧∃L' x R',PG T m H0 st.1 L' x R'∧L'.q=L.q∧R'.q=H1.next∧totN x.g.N≤((ops.take i).map fun o=>o.aa.length).sum∧x.sd.length≤i)
  (Q:=fun st=>∃L' x R',PG T m H0 st.1 L' x R'∧L'.q=L.q∧R'.q=H1.next∧totN x.g.N≤1048576∧x.sd.length≤ops.length)
  (fun i hi st hst=>by
   obtain ⟨H3,v⟩:=st;obtain ⟨rfl,L',x,R',c1,c2,c3,c4,c5⟩:=hst;have c1:PG T m H0 H3 L' x R':=c1;obtain ⟨p,r1,ro0⟩:=hs.at_ i hi;have ro:=ro0.ext c1.old;have hbt:=zg5 ops hi;unfold S4;simp only [hs.n,if_pos (show (i:Int)<(ops.length:Int) by omega),r1,Option.bind_some];rw [ro.kd.rd];simp only [show deI .i64 (Value.int .i64 ops[i].kd)=some ops[i].kd from rfl,Option.bind_some];by_cases hk1:ops[i].kd≥1
   ·by_cases hk2:ops[i].kd≤4
    ·obtain ⟨sl,ra,rb⟩:=ro0.aa;obtain ⟨H4,L4,x4,R4,d1,d2,d3,d4⟩:=zga hE hP hT k c1 (kd:=ops[i].kd) (s:=sl) (a:=ops[i].a) (b:=ops[i].b) (tg:=ops[i].tg) ⟨hk1,hk2⟩ ro.ok (aa:=ops[i].aa) (fun H' hf=>rb H' (tb0_fr hlo c1.old hf fun id hw=>c1.low hw)) (by omega) (by omega);refine ⟨(H4,((i+1:Nat):Int)),?_,rfl,L4,x4,R4,d2.pg,d2.q.trans c2,d2.rq.trans c3,by omega,by omega⟩;have d1':K7 (LCo k) m H3 (some ⟨L.q,0,none⟩) (some ⟨H1.next,0,none⟩) ops[i].kd ops[i].sy sl ops[i].a ops[i].b ops[i].tg=some (true,H4):=by
      rw [← d1,GL.p,RL.p,c2,c3]
     rw [if_pos hk1,if_pos hk2,ro.sy.rd,(ra.ext c1.old).rd,ro.a.rd,ro.b.rd,ro.tg.rd];simp only [show ∀z,deI .i64 (Value.int .i64 z)=some z from fun _=>rfl,show deSl (Sl3.v sl)=some sl from rfl,Option.bind_some];rw [d1'];simp only [Option.bind_some,Bool.not_true,Bool.false_eq_true,if_false];rw [P1 (n:=ops.length) hi (by rw [N2]; omega)]
    ·refine ⟨(H3,((i+1:Nat):Int)),?_,rfl,L',x,R',c1,c2,c3,by omega,by omega⟩;rw [if_pos hk1,if_neg hk2];simp only [Option.bind_some,Bool.false_eq_true,if_false];rw [P1 (n:=ops.length) hi (by rw [N2]; omega)]
   ·refine ⟨(H3,((i+1:Nat):Int)),?_,rfl,L',x,R',c1,c2,c3,by omega,by omega⟩;rw [if_neg hk1];simp only [Option.bind_some,Bool.false_eq_true,if_false];rw [P1 (n:=ops.length) hi (by rw [N2]; omega)])
  (fun st hst=>by
   obtain ⟨H3,v⟩:=st;obtain ⟨rfl,L',x,R',c1,c2,c3,c4,c5⟩:=hst;refine ⟨(H3,(ops.length:Int)),?_,L',x,R',c1,c2,c3,?_,c5⟩
   ·unfold S4;simp only [hs.n,if_neg (show ¬((ops.length:Int)<(ops.length:Int)) by omega)]
   ·rw [List.take_length] at c4;omega)
  (s:=(H2,0)) ⟨rfl,L,_,R,hpg,rfl,rfl,Nat.zero_le _,Nat.zero_le _⟩
 obtain ⟨H3,v⟩:=st;obtain ⟨L',x,R',c1,c2,c3,c4,c5⟩:=b2;refine ⟨H3,L',x,R',?_,c1,c4,c5⟩;unfold t8;rw [a1];simp only [Option.bind_some];rw [show newB 32 [(Sl3.v Sl3.nil),(Sl3.v Sl3.nil),(Sl3.v Sl3.nil)] H1=some (⟨H1.next,0,none⟩,H2) from rfl];simp only [Option.bind_some];rw [show (LCo k).run (S4 (LCo k) m s ⟨H1.next,0,none⟩ ⟨L.q,0,none⟩) (H2,0)=some (.inl (H3,v)) from b1];simp only [GL.p,RL.p,c2,c3];rfl
end
end Go.Proofs.YtgkhbmoidenjaaaDoor
namespace Go.Proofs.YtgkhbmoidenjaaaDoor
open Go Go.Abs Go.Abs.Eg
set_option maxRecDepth 100000
section
variable {T:Tys} {m:Nat} {H0 H H':AH} {L L2:GL} {x y:Gh} {R:RL} {kt e:TypeId}
structure TG (T:Tys) (m:Nat) (H0 H:AH) (L:GL) (x:Gh) (R:RL) (L2:GL) (y:Gh):Prop where
 pg:PG T m H0 H L x R
 gs:GS T txK m (Tb0 H0) H L2 y
 sg:∀c c' id,L2.fp c id→¬L.fp c' id
 sr:∀c id,L2.fp c id→¬R.fp id
end
end Go.Proofs.YtgkhbmoidenjaaaDoor
namespace Go.Proofs.YtgkhbmoidenjaaaDoor
open Go Go.Abs Go.Abs.Eg
set_option maxRecDepth 100000
def ty0:Tys:=⟨63,86,91,3,79,109,78⟩
theorem ty0_ok:TyOK ty0:=⟨rfl,rfl,rfl,rfl,rfl,rfl,rfl⟩
section
variable {m:Nat} {H0 H H':AH} {L L2:GL} {x y:Gh} {R:RL}
end
end Go.Proofs.YtgkhbmoidenjaaaDoor
namespace Go.Proofs.YtgkhbmoidenjaaaDoor
open Go Go.Abs Go.Abs.Eg
set_option maxRecDepth 100000
theorem bnd {α β:Type} {a:Option α} {f:α→Option β} {x:α} {r:Option β} (h:a=some x) (h2:f x=r):Option.bind a f=r:=by rw [h]; exact h2
section
variable {T:Tys} {tx:Key→ByteArray} {m m1:Nat} {H:AH} {L:GL} {x:Gh}
theorem zgq (k:Nat) (h:Rep T tx m H L x) (hm1:m1≤H.next):∀{i:Nat} {q:List Nat},Pa x.fe i q→∀(pre:List Nat) (v:Sl3) (Hc:AH),Ext H Hc→SlA EI 3 m1 Hc (pre++[i]) v→(∀id,fpt v id→H.next≤id)→pre.length+q.length≤1048576 →
  ∃H' s z,loopO (O2 (LCo k) m1 (GL.p L)) (Hc,(i:Int),v)=some (.inl (H',z,s))∧SlA EI 3 m1 H' (pre++q) s∧Ext H H'∧∀id,fpt s id→H.next≤id:=by
 intro i q hp;induction hp with
 | root hf =>
  rename_i i l;intro pre v Hc hx hv hfr hl;have hr:=h.ext hx;have hi:=(List.getElem?_eq_some_iff.1 hf).1;obtain ⟨q,r1,_,r2,_⟩:=rd_EE (show SlA EE T.E m Hc x.fe L.sF from hr.hold .F) hi (v:=(i:Int)) rfl;have he:x.fe[i]=(-1,l):=by rw [List.getElem?_eq_getElem hi] at hf; exact Option.some.inj hf
  rw [he] at r2;refine ⟨Hc,v,(i:Int),N1 ?_,hv,hx,hfr⟩;unfold O2;simp only [GL.p,Option.bind_some];rw [hr.q (j:=6) (v:=L.sF.v) rfl deSl];simp only [show deSl (Sl3.v L.sF)=some L.sF from rfl,Option.bind_some,r1,r2];rw [if_neg (by omega)]
 | step hf hq ih =>
  rename_i i j l q;intro pre v Hc hx hv hfr hl;have hr:=h.ext hx;have hi:=(List.getElem?_eq_some_iff.1 hf).1;obtain ⟨p,r1,_,r2,_⟩:=rd_EE (show SlA EE T.E m Hc x.fe L.sF from hr.hold .F) hi (v:=(i:Int)) rfl;have he:x.fe[i]=((j:Int),l):=by rw [List.getElem?_eq_getElem hi] at hf; exact Option.some.inj hf
  rw [he] at r2;simp only [List.length_cons] at hl;obtain ⟨z,H1,s',H2,a1,a2,a3,a4,a5,a6⟩:=hv.push (bytes:=8) j (by simp only [List.length_append,List.length_singleton]; omega) (by simp only [List.length_append,List.length_singleton]; omega) (Nat.le_trans hm1 hx.1);have hx2:Ext H H2:=hx.comp a5 fun id hlt _ hw=>by have:=hfr id hw; omega
  have hfr2:∀id,fpt s' id→H.next≤id:=fun id hid=>by
   rcases a6 id hid with h1 | h1
   ·exact hfr id h1
   ·exact Nat.le_trans hx.1 h1
  obtain ⟨H',s,z',b1,b2,b3⟩:=ih (pre++[i]) s' H2 hx2 a4 hfr2 (by rw [List.length_append,List.length_singleton]; omega);refine ⟨H',s,z',?_,by simpa using b2,b3⟩;have hb:O2 (LCo k) m1 (GL.p L) (Hc,(i:Int),v)=some (.next (H2,(j:Int),s')):=by
   unfold O2;simp only [GL.p,Option.bind_some];rw [hr.q (j:=6) (v:=L.sF.v) rfl deSl];simp only [show deSl (Sl3.v L.sF)=some L.sF from rfl,Option.bind_some,r1,r2];rw [if_pos (by omega)];rw [show newR 3 1 #[Value.int .i64 (j:Int)] Hc=some (z,H1) from a1];simp only [Option.bind_some];rw [show appS m1 3 1 8 H1 v z=some (s',H2) from a3];rfl
  rw [J1 hb];exact b1
theorem za1 (k:Nat) (h:Rep T tx m H L x) (hm1:m1≤H.next) {i:Nat} {q:List Nat} (hp:Pa x.fe i q) (hn:x.fe.length≤1048576) :
  ∃s H',N4 (LCo k) m1 H (GL.p L) (i:Int)=some (s,H')∧Vw H' s q∧Ext H H':=by
 have hx:Ext H (H.push { obj:=.cells (EI.enc i).toArray 3 (0,0),opn:=false,esz:=0,ro:=false }):=Fm.push _ _ _;have hrow:=SlA.row (E:=EI) (e:=3) (H:=H) (m:=m1) i hm1;have hql:=pa_len hp;obtain ⟨H',s,z,b1,b2,b3,b4⟩:=zgq k h hm1 hp [] ⟨some ⟨H.next,0,none⟩,1,1⟩ _ hx hrow (fun id hid=>by
  obtain ⟨_,a,ha,rfl⟩:=hid;cases ha;exact Nat.le_refl _) (by simp only [List.length_nil]; omega)
 refine ⟨s,H',?_,Vw.of (by simpa using b2) (pa_ne hp),b3⟩;unfold N4;rw [show newR 3 1 #[Value.int .i64 (i:Int)] H=some (⟨some ⟨H.next,0,none⟩,1,1⟩,H.push { obj:=.cells (EI.enc i).toArray 3 (0,0),opn:=false,esz:=0,ro:=false }) from rfl];simp only [Option.bind_some];rw [show (LCo k).run (O2 (LCo k) m1 (GL.p L))=loopO (O2 (LCo k) m1 (GL.p L)) from rfl,b1];rfl
theorem ze7 (k0:Nat) (a0:Option Addr) (p1 p3:Nat) (y0 y1 y2:Int) (y3:Bool) (s11:Sl3) {p q:List Nat} (hpl:p.length≤1048576) (hql:q.length≤1048576):∀(k l:Nat) (s1 s2:Sl3),k≤p.length→l≤q.length→p.drop k=q.drop l→Vw H s1 (p.take k)→Vw H s2 (q.take l) →
  ∃t1 t2 k' l',loopO (J2 (LCo k0) a0 p1 p3 y0 y1 y2 y3 s11 H) (s1,s2)=some (.inl (t1,t2))∧Vw H t1 (p.take k')∧Vw H t2 (q.take l')∧Strip p q (p.take k') (q.take l'):=by
 intro k;induction k with
 | zero =>
  intro l s1 s2 hk hl hd h1 h2;refine ⟨s1,s2,0,l,N1 ?_,h1,h2,z7n hk hl hd (.inl rfl)⟩;unfold J2;have:=h1.n;simp only [List.take_zero,List.length_nil] at this;simp only [this];rw [if_neg (by omega)];rfl
 | succ k ih =>
  intro l s1 s2 hk hl hd h1 h2;have n1:s1.n=k+1:=by rw [h1.n,List.length_take]; omega
  cases l with
  | zero =>
   refine ⟨s1,s2,k+1,0,N1 ?_,h1,h2,z7n hk hl hd (.inr (.inl rfl))⟩;unfold J2;have:=h2.n;simp only [List.take_zero,List.length_nil] at this;simp only [this];rw [if_pos (by omega),if_neg (by omega)];rfl
  | succ l =>
   have n2:s2.n=l+1:=by rw [h2.n,List.length_take]; omega
   obtain ⟨q1,a1,a2⟩:=h1.at_ (i:=k) (by rw [List.length_take]; omega) (v:=(k:Int)) rfl;obtain ⟨q2,a3,a4⟩:=h2.at_ (i:=l) (by rw [List.length_take]; omega) (v:=(l:Int)) rfl;rw [List.getElem_take] at a2 a4;have w1:IntKind.i64.wrap ((s1.n:Int) - 1)=(k:Int):=by rw [n1]; exact A6 (by omega) (by omega)
   have w2:IntKind.i64.wrap ((s2.n:Int) - 1)=(l:Int):=by rw [n2]; exact A6 (by omega) (by omega)
   by_cases he:p[k]=q[l]
   ·obtain ⟨t1,b1,b2⟩:=h1.init (k:=k) (by omega) (v:=(k:Int)) rfl;obtain ⟨t2,b3,b4⟩:=h2.init (k:=l) (by omega) (v:=(l:Int)) rfl;obtain ⟨u1,u2,k',l',c1,c2⟩:=ih l t1 t2 (by omega) (by omega) (by rw [List.drop_eq_getElem_cons (by omega),List.drop_eq_getElem_cons (i:=l) (by omega),hd,he]) b2 b4;refine ⟨u1,u2,k',l',?_,c2⟩;rw [J1 (s':=(t1,t2)) ?_]
    ·exact c1
    ·unfold J2;simp only [w1,w2,a1,a2,a3,a4,b1,b3,Option.bind_some];rw [if_pos (by omega),if_pos (by omega)];simp only [Option.bind_some];rw [if_pos (by simp [he])]
   ·refine ⟨s1,s2,k+1,l+1,N1 ?_,h1,h2,z7n hk hl hd (.inr (.inr ?_))⟩
    ·unfold J2;simp only [w1,w2,a1,a2,a3,a4,Option.bind_some];rw [if_pos (by omega),if_pos (by omega)];simp only [Option.bind_some];rw [if_neg (by simpa using fun e=>he (Int.ofNat.inj e))]
    ·rw [Nat.add_sub_cancel,Nat.add_sub_cancel,List.getElem?_eq_getElem (by omega),List.getElem?_eq_getElem (by omega)]
     simpa using he
theorem z9z (n:Nat):(Builtin.zeroCells #[Value.int .i64 0] n).toList.all Abs.one=true∧(Builtin.zeroCells #[Value.int .i64 0] n).toList.length=n:=by
 have:(Builtin.zeroCells #[Value.int .i64 0] n).toList=List.replicate n (.int .i64 0):=by
  refine List.eq_replicate_iff.2 ⟨by simp [Builtin.zeroCells],fun b hb=>?_⟩;unfold Builtin.zeroCells at hb;rw [Array.toList_map] at hb;obtain ⟨i,_,rfl⟩:=List.mem_map.1 hb;have:i % (#[Value.int .i64 0]:Array Value).size=0:=Nat.mod_one i;rw [this];rfl
 rw [this];simp [Abs.one]
theorem zht (n:Nat) (hn:n≤4194304) (h0:0<n) (m:Nat) (H:AH):∃cs:List Value,cs.all Abs.one=true∧cs.length=n∧aAppend Tryd.prog m #[27,3] #[Sl3.v Sl3.nil,.int .i64 (n:Int)] H=some (Sl3.v ⟨some ⟨H.next,0,none⟩,n,OPEN⟩,H.push { obj:=.cells cs.toArray 3 (0,0),opn:=true,esz:=1,ro:=false }):=by
 refine ⟨(Builtin.zeroCells #[Value.int .i64 0] n).toList,(z9z n).1,(z9z n).2,?_⟩;have e1:aSrc Tryd.prog 3 3 ((Tryd.prog.info? 3).getD default) (.int .i64 (n:Int)) H=some (n,(Builtin.zeroCells #[Value.int .i64 0] n).toList):=by
  have:aSrc Tryd.prog 3 3 ((Tryd.prog.info? 3).getD default) (.int .i64 (n:Int)) H=bif Nat.ble (n*8) 281474976710656&&true&&true then some (n,(Builtin.zeroCells #[Value.int .i64 0] n).toList) else none:=by kernel_rfl
  rw [this,ble_of (by omega)];rfl
 have e2:aAppend Tryd.prog m #[27,3] #[Sl3.v Sl3.nil,.int .i64 (n:Int)] H=(match aSrc Tryd.prog 3 3 ((Tryd.prog.info? 3).getD default) (.int .i64 (n:Int)) H with
    | some (k,new)=>bif Nat.beq k 0 then (some (.slice none 0 0,H)) else grown H 3 1 8 k new
    | none=>none):=by kernel_rfl
 rw [e2,e1];simp only;rw [z93 (by omega)];unfold grown;rw [ble_of (by omega),ble_of (by omega)];rfl
theorem gOp_of {α:Type} {P:Program} {m:Nat} {ops:Array Oper} {j:Nat} {kn:KN} {de:Value→Option α} {H H':AH} {v:Value} {y:α} (h:runOp P (NE.plain 0) ih0 m (opAt ops j) (evV kn) H=some (v,H')) (hd:de v=some y):gOp P m ops j kn de H=some (y,H'):=by
 unfold gOp;rw [h];simp [hd]
theorem zi7 {e:TypeId} {m:Nat} {H:AH} (hm:m≤H.next) (cs:Array Value):VecA EI e m (H.push { obj:=.cells cs e (0,0),opn:=true,esz:=1,ro:=false }) [] ⟨some ⟨H.next,0,none⟩,0,OPEN⟩ :=
 VecV.opn H.next 0 cs hm (by simp) (AH.get_push_same _ _) (by simp) (by simp) fun i v hv=>by simp at hv
theorem zgn (k:Nat) (n:Nat) (hn:n≤4194304) (hm:m≤H.next):∃s H',m8 (LCo k) m H Sl3.nil (n:Int)=some (s,H')∧VecA EI 3 m H' [] s∧Ext H H'∧∀id,owns s id→H.next≤id:=by
 unfold m8;rw [if_neg (by omega)];have w1:IntKind.i64.wrap ((0:Int) - ((Sl3.nil.n:Nat):Int))=0:=A6 (n:=0) rfl (by omega);have w2:IntKind.i64.wrap ((n:Int) - 0)=(n:Int):=A6 (n:=n) (by omega) (by omega);by_cases h0:n=0
 ·subst h0;refine ⟨Sl3.nil,H,bnd (x:=(H,Sl3.nil)) (bnd (x:=(0:Int)) (by kernel_rfl) ?_) rfl,VecA.nil _ _ _ _,Fm.refl _ _,fun id h=>absurd h z7f⟩;simp only [w1];rw [if_neg (by simpa using (show ¬IntKind.i64.wrap ((0:Int) - 0) > 0 by decide))]
 ·obtain ⟨cs,c1,c2,c3⟩:=zht n hn (by omega) m H;refine ⟨⟨some ⟨H.next,0,none⟩,0,OPEN⟩,_,bnd (x:=(H.push { obj:=.cells cs.toArray 3 (0,0),opn:=true,esz:=1,ro:=false },⟨some ⟨H.next,0,none⟩,0,OPEN⟩)) (bnd (x:=(0:Int)) (by kernel_rfl) ?_) rfl,zi7 hm _,Fm.push _ _ _,fun id h=>?_⟩
  ·simp only [w1,w2];rw [if_pos (by omega)];refine bnd (x:=(0:Int)) (by kernel_rfl) ?_;refine bnd (x:=Sl3.nil) (by kernel_rfl) ?_;refine bnd (x:=(⟨some ⟨H.next,0,none⟩,n,OPEN⟩,H.push { obj:=.cells cs.toArray 3 (0,0),opn:=true,esz:=1,ro:=false })) (gOp_of (v:=Sl3.v ⟨some ⟨H.next,0,none⟩,n,OPEN⟩) (Eq.trans (b:=aAppend Tryd.prog m #[27,3] #[Sl3.v Sl3.nil,.int .i64 (n:Int)] H) (by kernel_rfl) c3) rfl) ?_;refine bnd (x:=⟨some ⟨H.next,0,none⟩,0,OPEN⟩) ?_ rfl;unfold slc;simp only [if_true];have hb:slcB n n none (some ((Sl3.nil.n:Nat):Int)) none=some (0,0,n):=by
    unfold slcB;simp only [boundI,Option.isSome_none,Bool.false_and,cond_false];rw [if_pos ⟨by omega,by show ((0:Nat):Int)≤n; omega⟩];rfl
   rw [hb];simp only [AH.get_push_same];rw [if_pos ⟨trivial,trivial,rfl⟩,Nat.zero_mul,add_zero]
  ·obtain ⟨_,a,ha,rfl⟩:=h;cases ha;exact Nat.le_refl _
theorem zd6 (k:Nat) {z s1 s2:Sl3} {l1 l2:List Nat} (hz:RoS H z [s1,s2]) (h1:Vw H s1 l1) (h2:Vw H s2 l2) (n1:l1.length≤1048576) (n2:l2.length≤1048576) (hm:m≤H.next) :
  ∃s H',P6 (LCo k) m H z=some (s,H')∧VecA EI 3 m H' (l1++l2) s∧Ext H H'∧∀id,owns s id→H.next≤id:=by
 have hn:z.n=2:=hz.len;obtain ⟨p0,g1,g2⟩:=hz.get (i:=0) (by simp) (v:=0) rfl;obtain ⟨p1,g3,g4⟩:=hz.get (i:=1) (by simp) (v:=1) rfl;simp only [List.getElem_cons_zero,List.getElem_cons_succ] at g2 g4;have e1:=h1.n;have e2:=h2.n;have w0:IntKind.i64.wrap ((0:Int)+(s1.n:Int))=((l1.length:Nat):Int):=A6 (by omega) (by omega);have w1:IntKind.i64.wrap (((l1.length:Nat):Int)+(s2.n:Int))=((l1.length+l2.length:Nat):Int):=A6 (by omega) (by omega);have v0:IntKind.i64.wrap ((0:Int)+1)=1:=by decide
 have v1:IntKind.i64.wrap ((1:Int)+1)=2:=by decide
 have l0:loopO (C4 (LCo k) H z) (0,0)=some (.inl (((l1.length+l2.length:Nat):Int),2)):=by
  rw [J1 (s':=(((l1.length:Nat):Int),1)),J1 (s':=(((l1.length+l2.length:Nat):Int),2)),N1 (s':=(((l1.length+l2.length:Nat):Int),2))]
  ·unfold C4;simp only [hn];rfl
  ·unfold C4;simp only [hn,g3,g4,w1,v1,Option.bind_some];rw [if_pos (by decide),if_neg (by omega)]
  ·unfold C4;simp only [hn,g1,g2,w0,v0,Option.bind_some];rw [if_pos (by decide),if_neg (by omega)]
 obtain ⟨s0,H0,a1,a2,a3,a4⟩:=zgn (H:=H) (m:=m) k (l1.length+l2.length) (by omega) hm;obtain ⟨s1',H1,b1,b2,b3⟩:=a2.app (bytes:=8) (h1.ext a3).rdv (by simp only [List.length_nil]; omega) (by simp only [List.length_nil]; omega) (Nat.le_trans hm a3.1);obtain ⟨x1,o1⟩:=b3.ext a3 a4;obtain ⟨s2',H2,c1,c2,c3⟩:=b2.app (bytes:=8) (h2.ext x1).rdv (by simp only [List.length_nil,List.length_append]; omega) (by simp only [List.length_nil,List.length_append]; omega) (Nat.le_trans hm x1.1);obtain ⟨x2,o2⟩:=c3.ext x1 o1;have lp:loopO (B4 (LCo k) m z) (H0,s0,0)=some (.inl (H2,s2',2)):=by
  rw [J1 (s':=(H1,s1',1)),J1 (s':=(H2,s2',2)),N1 (s':=(H2,s2',2))]
  ·unfold B4;simp only [hn];rfl
  ·unfold B4;obtain ⟨p1',g3',g4'⟩:=(hz.ext x1).get (i:=1) (by simp) (v:=1) rfl;simp only [List.getElem_cons_zero,List.getElem_cons_succ] at g4';simp only [hn,g3',g4',v1,Option.bind_some];rw [if_pos (by decide)];exact bnd (x:=(s2',H2)) c1 rfl
  ·unfold B4;obtain ⟨p0',g1',g2'⟩:=(hz.ext a3).get (i:=0) (by simp) (v:=0) rfl;simp only [List.getElem_cons_zero] at g2';simp only [hn,g1',g2',v0,Option.bind_some];rw [if_pos (by decide)];exact bnd (x:=(s1',H1)) b1 rfl
 refine ⟨s2',H2,?_,by simpa using c2,x2,o2⟩;unfold P6;refine bnd (x:=.inl (((l1.length+l2.length:Nat):Int),2)) ?_ ?_
 ·exact l0
 refine bnd (x:=(s0,H0)) a1 ?_;refine bnd (x:=.inl (H2,s2',2)) ?_ rfl;exact lp
end
end Go.Proofs.YtgkhbmoidenjaaaDoor
namespace Go.Proofs.YtgkhbmoidenjaaaDoor
open Go Go.Abs Go.Abs.Eg
set_option maxRecDepth 100000
theorem intK:KeyK Tryd.prog 3 (Value.int .i64):=by
 refine ⟨⟨.int .i64,by kernel_rfl,.inl fun a b=>?_⟩,fun a b=>by kernel_rfl,fun a=>?_⟩
 ·show some (a == b)=_
  congr 1
 ·show (IntKind.i64 == IntKind.i64&&a == a)=true;simp
theorem undZ:Tryd.prog.underlying 110=some (.map 3 3):=by kernel_rfl
theorem zeroZ:(Tryd.prog.info? 3).bind (·.zero)=some (.int .i64 0):=by kernel_rfl
def st4 (w:Nat×Nat):Int×Int×Int×Bool:=((w.1:Int),(w.2:Int),0,false)
structure XN (H0 Hc:AH) (D:List Nat) (T:List Int) (K:Nat):Prop where
 ext:Ext H0 Hc
 nx:H0.next+2≤Hc.next
 tg:∃f,MapB Hc H0.next f∧(∀t,(f t).isSome=true↔t∈T)∧∀t u,f t=some u→∃c:Int,u=.int .i64 c
 dn:∃f,MapB Hc (H0.next+1) f∧∀n:Nat,(n ∉ D→f n=none)∧(n∈D→∃c:Nat,f n=some (.int .i64 c)∧1≤c∧c≤K)
section
variable {T:Tys} {tx:Key→ByteArray} {m:Nat} {H0 Hc H':AH} {L:GL} {x:Gh} {D:List Nat} {Ts:List Int} {K:Nat} {v:Sl3} {ql:List (Nat×Nat)}
theorem XN.fr {W:Nat→Prop} (h:XN H0 Hc D Ts K) (hf:Fm W Hc H') (hw:∀id,W id→H0.next+2≤id):XN H0 H' D Ts K:=by
 obtain ⟨f,h1,h2⟩:=h.tg;obtain ⟨g,h3,h4⟩:=h.dn;have hn:=h.nx;exact ⟨h.ext.comp hf fun id hlt _ hq=>by have:=hw id hq; omega,Nat.le_trans hn hf.1,⟨f,h1.fr hf (by omega) fun hq=>by have:=hw _ hq; omega,h2⟩,⟨g,h3.fr hf (by omega) fun hq=>by have:=hw _ hq; omega,h4⟩⟩
theorem XN.ext_ (h:XN H0 Hc D Ts K) (hf:Ext Hc H'):XN H0 H' D Ts K:=h.fr hf fun _ h=>h.elim
theorem XN.old (h:XN H0 Hc D Ts K) (hm:m≤H0.next) (hK:K<4611686018427387904) {n:Nat} (hn:n∈D) :
  ∃(c c':Int) (H':AH),lk1 Tryd.prog 110 (deI .i64) Hc (some (H0.next+1)) (.int .i64 (n:Int))=some c∧upM Tryd.prog m 110 Hc (some (H0.next+1)) (.int .i64 (n:Int)) (.int .i64 (IntKind.i64.wrap (c+1)))=some H'∧lk1 Tryd.prog 110 (deI .i64) H' (some (H0.next+1)) (.int .i64 (n:Int))=some c'∧c' > 1 ∧
   XN H0 H' D Ts (K+1)∧Fm (fun i=>i=H0.next+1) Hc H'∧H'.next=Hc.next:=by
 obtain ⟨g,h3,h4⟩:=h.dn;obtain ⟨c,h5,h6,h7⟩:=(h4 n).2 hn;obtain ⟨f,h1,h2⟩:=h.tg;have hnx:=h.nx;have e1:=z1f intK undZ zeroZ rfl h3.u.toA (n:Int) (deI .i64);obtain ⟨H',b1,b2,b3,b4⟩:=h3.up intK undZ (m:=m) (by omega) (n:Int) (.int .i64 ((c+1:Nat):Int));have e2:=z1f intK undZ zeroZ rfl b2.u.toA (n:Int) (deI .i64);rw [h5] at e1;rw [if_pos rfl] at e2;have hw:IntKind.i64.wrap ((c:Int)+1)=((c+1:Nat):Int):=A6 (by omega) (by omega);refine ⟨(c:Int),((c+1:Nat):Int),H',e1,by rw [hw]; exact b1,e2,by omega,⟨h.ext.comp b3 fun id hlt _ hq=>by omega,by omega,⟨f,h1.fr b3 (by omega) (by omega),h2⟩,_,b2,fun z=>⟨fun hz=>?_,fun hz=>?_⟩⟩,b3,b4⟩
 ·have:¬(z:Int)=(n:Int):=fun e=>hz (by rw [Int.ofNat.inj e]; exact hn);simp only [if_neg this];exact (h4 z).1 hz
 ·by_cases e:(z:Int)=(n:Int)
  ·simp only [if_pos e];exact ⟨c+1,rfl,by omega,by omega⟩
  ·simp only [if_neg e];obtain ⟨d,g1,g2,g3⟩:=(h4 z).2 hz;exact ⟨d,g1,g2,by omega⟩
theorem XN.new (h:XN H0 Hc D Ts K) (hm:m≤H0.next) {n:Nat} (hn:n ∉ D) :
  ∃(H':AH),lk1 Tryd.prog 110 (deI .i64) Hc (some (H0.next+1)) (.int .i64 (n:Int))=some 0∧upM Tryd.prog m 110 Hc (some (H0.next+1)) (.int .i64 (n:Int)) (.int .i64 (IntKind.i64.wrap (0+1)))=some H'∧lk1 Tryd.prog 110 (deI .i64) H' (some (H0.next+1)) (.int .i64 (n:Int))=some 1 ∧
   XN H0 H' (n :: D) Ts (K+1)∧Fm (fun i=>i=H0.next+1) Hc H'∧H'.next=Hc.next:=by
 obtain ⟨g,h3,h4⟩:=h.dn;obtain ⟨f,h1,h2⟩:=h.tg;have hnx:=h.nx;have e1:=z1f intK undZ zeroZ rfl h3.u.toA (n:Int) (deI .i64);obtain ⟨H',b1,b2,b3,b4⟩:=h3.up intK undZ (m:=m) (by omega) (n:Int) (.int .i64 1);have e2:=z1f intK undZ zeroZ rfl b2.u.toA (n:Int) (deI .i64);rw [(h4 n).1 hn] at e1;rw [if_pos rfl] at e2;have hw:IntKind.i64.wrap ((0:Int)+1)=1:=by decide
 refine ⟨H',e1,by rw [hw]; exact b1,e2,⟨h.ext.comp b3 fun id hlt _ hq=>by omega,by omega,⟨f,h1.fr b3 (by omega) (by omega),h2⟩,_,b2,fun z=>⟨fun hz=>?_,fun hz=>?_⟩⟩,b3,b4⟩
 ·have:¬(z:Int)=(n:Int):=fun e=>hz (by rw [Int.ofNat.inj e]; exact List.mem_cons_self);simp only [if_neg this];exact (h4 z).1 fun hd=>hz (List.mem_cons_of_mem _ hd)
 ·by_cases e:(z:Int)=(n:Int)
  ·simp only [if_pos e];exact ⟨1,rfl,by omega,by omega⟩
  ·simp only [if_neg e];rcases List.mem_cons.1 hz with hz | hz
   ·exact absurd (congrArg Int.ofNat hz) e
   ·obtain ⟨d,g1,g2,g3⟩:=(h4 z).2 hz;exact ⟨d,g1,g2,by omega⟩
theorem XN.tag (h:XN H0 Hc D Ts K) (hm:m≤H0.next) (t:Int) :
  ∃(c:Int) (H':AH),lk1 Tryd.prog 110 (deI .i64) Hc (some H0.next) (.int .i64 t)=some c∧upM Tryd.prog m 110 Hc (some H0.next) (.int .i64 t) (.int .i64 (IntKind.i64.wrap (c+1)))=some H' ∧
   XN H0 H' D (t :: Ts) K∧Fm (fun i=>i=H0.next) Hc H'∧H'.next=Hc.next:=by
 obtain ⟨g,h3,h4⟩:=h.dn;obtain ⟨f,h1,h2,h5⟩:=h.tg;have hnx:=h.nx;have e1:=z1f intK undZ zeroZ rfl h1.u.toA t (deI .i64);obtain ⟨c,hc⟩:∃c:Int,deI .i64 ((f t).getD (.int .i64 0))=some c:=by
  cases hf:f t with
  | none=>exact ⟨0,rfl⟩
  | some u =>
   obtain ⟨c,rfl⟩:=h5 t u hf;exact ⟨c,rfl⟩
 obtain ⟨H',b1,b2,b3,b4⟩:=h1.up intK undZ (m:=m) (by omega) t (.int .i64 (IntKind.i64.wrap (c+1)));refine ⟨c,H',e1.trans hc,b1,⟨h.ext.comp b3 fun id hlt _ hq=>by omega,by omega,⟨_,b2,fun z=>?_,fun z u hu=>?_⟩,g,h3.fr b3 (by omega) (by omega),h4⟩,b3,b4⟩
 ·by_cases e:z=t
  ·simp [e]
  ·simp only [if_neg e,List.mem_cons];rw [h2 z];exact ⟨.inr,fun hh=>hh.resolve_left e⟩
 ·by_cases e:z=t
  ·simp only [if_pos e,Option.some.injEq] at hu;exact ⟨_,hu.symm⟩
  ·simp only [if_neg e] at hu;exact h5 z u hu
theorem zfn (k:Nat) (hr:Rep T tx m H0 L x) (p1 p3:Nat) (y0 y1 y2:Int) (y3:Bool) (s29:Sl3) (v80:Int) (z0 z1 z2:Int) (z4:Bool) {b':Nat} {xa xb:Nd} {sa:Sl3} (hb:x.g.N[b']? = some xb) (hsa:SlA EI T.I m H0 xa.args sa) (hl:xa.args.length=xb.args.length) (h64:xa.args.length≤64) (hm:m≤H0.next) (hq0:ql.length≤134217728) :
  ∀(j i:Nat) (Hc:AH) (v:Sl3),i+j=xa.args.length→XN H0 Hc D Ts K→VecA ES 91 m Hc ((ql++(xa.args.zip xb.args).take i).map st4) v→(∀id,owns v id→H0.next+2≤id) →
   ∃H' v' e,loopO (V2 (LCo k) m p1 p3 y0 y1 y2 y3 s29 v80 ⟨L.q,0,none⟩ z0 z1 z2 (b':Int) z4 sa) (Hc,v,(i:Int))=some (.inl (H',v',e))∧XN H0 H' D Ts K∧VecA ES 91 m H' ((ql++xa.args.zip xb.args).map st4) v'∧Ch Hc v H' v'∧∀id,owns v' id→H0.next+2≤id:=by
 have hzl:(xa.args.zip xb.args).length=xa.args.length:=by rw [List.length_zip,hl,Nat.min_self]
 intro j;induction j with
 | zero =>
  intro i Hc v hij hX hv hw;have hi:i=xa.args.length:=by omega
  subst hi;rw [List.take_of_length_le (by omega)] at hv;refine ⟨Hc,v,(xa.args.length:Int),N1 ?_,hX,hv,Ch.refl _ _,hw⟩;unfold V2;simp only [hsa.cnt];rw [if_neg (by omega)]
 | succ j ih =>
  intro i Hc v hij hX hv hw;have hi:i<xa.args.length:=by omega
  have hrc:=hr.ext hX.ext;obtain ⟨q1,a1,a2⟩:=rd_EI (hsa.ext hX.ext) hi (v:=(i:Int)) rfl;obtain ⟨q2,sb,b1,_,b3,_,b5,_⟩:=hrc.node hb (v:=(b':Int)) rfl;obtain ⟨q3,c1,c2⟩:=rd_EI b5 (i:=i) (by omega) (v:=(i:Int)) rfl;have hlen:((ql++(xa.args.zip xb.args).take i).map st4).length≤134217728+64:=by
   rw [List.length_map,List.length_append,List.length_take]; omega
  have hnx:=hX.nx;obtain ⟨zr,H1,v',H2,d1,d2,d3,d4⟩:=hv.push (bytes:=32) (st4 (xa.args[i],xb.args[i]'(by omega))) (by omega) (by omega) (by omega) (fun id ho=>(VecV.own hv id ho).2);have hX2:=hX.fr d4.fm hw;have hw2:∀id,owns v' id→H0.next+2≤id:=fun id ho=>by
   rcases d4.ow id ho with h1 | h1
   ·exact hw id h1
   ·omega
  have hz:(xa.args.zip xb.args).take (i+1)=(xa.args.zip xb.args).take i++[(xa.args[i],xb.args[i]'(by omega))]:=by
   rw [List.take_succ_eq_append_getElem (by omega),List.getElem_zip]
  obtain ⟨H',v'',e,f1,f2,f3,f4,f5⟩:=ih (i+1) H2 v' (by omega) hX2 (by rw [hz,← List.append_assoc,List.map_append]; exact d3) hw2;refine ⟨H',v'',e,?_,f2,f3,d4.trans f4,f5⟩;rw [J1 (s':=(H2,v',((i+1:Nat):Int))) ?_]
  ·exact f1
  ·unfold V2;simp only [hsa.cnt];rw [if_pos (by omega)];simp only [a1,a2,Option.bind_some];rw [hrc.q (j:=0) (v:=L.sN.v) rfl deSl];simp only [show deSl (Sl3.v L.sN)=some L.sN from rfl,b1,b3,c1,c2,Option.bind_some];refine bnd (x:=(zr,H1)) d1 ?_;refine bnd (x:=(v',H2)) d2 ?_;rw [P1 (n:=xa.args.length) hi (by rw [N2]; omega)]
structure ZR (m:Nat) (H0 Hc:AH) (z:List Nat) (s v:Sl3):Prop where
 z:VecA EI 3 m Hc z s
 lo:∀id,owns s id→H0.next+2≤id
 nv:∀id,owns s id→¬owns v id
theorem ZR.fr {W:Nat→Prop} {z:List Nat} {s v':Sl3} (h:ZR m H0 Hc z s v) (hf:Fm W Hc H') (hw:∀id,owns s id→¬W id) (hv:∀id,owns v' id→owns v id∨Hc.next≤id):ZR m H0 H' z s v' :=
 ⟨h.z.fr hf hw,h.lo,fun id h1 h2=>by
  rcases hv id h2 with h3 | h3
  ·exact h.nv id h1 h3
  ·have:=(VecV.own h.z id h1).2; omega⟩
theorem zfy (k:Nat) (hr:Rep T tx m H0 L x) (hS:Small x.g) (hfl:x.fe.length≤1048576) (hm:m≤H0.next) (y0 y1 y2:Int) (y3:Bool) {a b:Nat} {w:Nat×Nat} {z:List Nat} {s:Sl3} (hzl:z.length≤4194304)
  (hargs:∀(i:Nat) y,x.g.N[i]? = some y→∀a∈y.args,a<x.fe.length)
  {i:Nat} (hi:i<z.length) {k':Nat} {l:Lb} (he:x.fe[z[i]]? = some ((k':Int),l)) (hk:LOK x.g.N x.sd (US x.fe) z[i] k' l)
  (hX:XN H0 Hc D Ts K) (hK:K<4611686018427387904) (hI:XI x.g.N x.sd x.fe a b (w :: ql) D Ts) (hq:VecA ES 91 m Hc (ql.map st4) v) (hw:∀id,owns v id→H0.next+2≤id) (hz:ZR m H0 Hc z s v) (hql:ql.length≤134217728) :
  ∃H' v' q' D' T',Z1 (LCo k) m (GL.p L) H0.next (H0.next+1) y0 y1 y2 y3 s (Hc,v,(i:Int))=some (.next (H',v',((i+1:Nat):Int)))∧XN H0 H' D' T' (K+1)∧XI x.g.N x.sd x.fe a b (w :: q') D' T'∧VecA ES 91 m H' (q'.map st4) v'∧(∀id,owns v' id→H0.next+2≤id)∧ZR m H0 H' z s v' ∧
   z[i]∈D'∧(∀n∈D,n∈D')∧q'.length+64*D.length≤ql.length+64*D'.length∧(Ts.length≤D.length→T'.length≤D'.length):=by
 obtain ⟨q1,a1,a2⟩:=rd_EI hz.z.toS hi (v:=(i:Int)) rfl;have hnext:IntKind.i64.wrap ((i:Int)+1)=((i+1:Nat):Int):=P1 (n:=z.length) hi (by rw [N2]; omega);have hcn:(s.n:Int)=(z.length:Int):=by rw [hz.z.n]
 have hnx:=hX.nx;have zne:∀id,owns s id→¬id=H0.next+1:=fun id ho e=>by have:=hz.lo id ho; omega
 have zne0:∀id,owns s id→¬id=H0.next:=fun id ho e=>by have:=hz.lo id ho; omega
 have vne:∀id,owns v id→¬id=H0.next+1:=fun id ho e=>by have:=hw id ho; omega
 have vne0:∀id,owns v id→¬id=H0.next:=fun id ho e=>by have:=hw id ho; omega
 by_cases hD:z[i]∈D
 ·obtain ⟨c,c',H1,b1,b2,b3,b4,b5,b6,b7⟩:=hX.old hm hK hD;refine ⟨H1,v,ql,D,Ts,?_,b5,hI,hq.fr b6 vne,hw,hz.fr b6 zne fun id h=>.inl h,hD,fun n h=>h,Nat.le_refl _,fun h=>h⟩;unfold Z1;simp only [hcn];rw [if_pos (by omega)];refine bnd (x:=(H1,v)) ?_ (by simp only [hnext]);simp only [a1,a2,Option.bind_some];refine bnd b1 ?_;refine bnd b2 ?_;refine bnd b3 ?_;rw [if_pos b4]
 ·obtain ⟨H1,b1,b2,b3,b5,b6,b7⟩:=hX.new hm hD;have hr1:=hr.ext b5.ext;have hi':=(List.getElem?_eq_some_iff.1 he).1;have hel:x.fe[z[i]]=((k':Int),l):=by rw [List.getElem?_eq_getElem hi'] at he; exact Option.some.inj he
  obtain ⟨p,r1,_,r2,r3,r4,r5,r6⟩:=rd_EE (show SlA EE T.E m H1 x.fe L.sF from hr1.hold .F) hi' (v:=(z[i]:Int)) rfl;rw [hel] at r2 r3 r4 r5 r6;obtain ⟨t,f,o,cg⟩:=l;have open1:∀(r:AH×Sl3),(if cg=true then
     (rd deSl H1 (Addr.add ⟨L.q,0,none⟩ 0)).bind fun x47 => (idxA 3 x47 f).bind fun p48 => (rd deSl H1 (Addr.add p48 1)).bind fun x49 => (loopO (V2 (LCo k) m H0.next (H0.next+1) y0 y1 y2 y3 s (i:Int) ⟨L.q,0,none⟩ (k':Int) t f o cg x49) (H1,v,0)).bind fun oo=>match oo with
     | .inl (H64,v9_65,_) =>
      some (H64,v9_65)
     | .inr _=>none
    else
     (lk1 Tryd.prog 110 (deI .i64) H1 (some H0.next) (Value.int .i64 t)).bind fun x45 => (upM Tryd.prog m 110 H1 (some H0.next) (Value.int .i64 t) (Value.int .i64 (IntKind.i64.wrap (x45+1)))).bind fun H46 => some (H46,v))=some r→Z1 (LCo k) m (GL.p L) H0.next (H0.next+1) y0 y1 y2 y3 s (Hc,v,(i:Int))=some (.next (r.1,r.2,((i+1:Nat):Int))):=by
   intro r hh;unfold Z1;simp only [hcn];rw [if_pos (by omega)];refine bnd (x:=r) ?_ (by simp only [hnext]);simp only [a1,a2,Option.bind_some];refine bnd b1 ?_;refine bnd b2 ?_;refine bnd b3 ?_;rw [if_neg (by omega)];rw [hr1.q (j:=6) (v:=L.sF.v) rfl deSl];simp only [show deSl (Sl3.v L.sF)=some L.sF from rfl,Option.bind_some,r1,r2,r3,r4,r5,r6];exact hh
  rcases hk with ⟨hc,ht⟩ | ⟨hc,a',b',xa,xb,e1,e2,e3,e4,e5,e6,e7,e8,e9⟩
  ·
   have hc:cg=false:=hc;subst hc;obtain ⟨c,H2,g1,g2,g3,g4,g5⟩:=b5.tag hm t;have hI2:=hI.tagged hD he ht;refine ⟨H2,v,ql,z[i] :: D,t :: Ts,open1 (H2,v) ?_,g3,hI2,(hq.fr b6 vne).fr g4 vne0,hw,(hz.fr b6 zne fun id h=>.inl h).fr g4 zne0 fun id h=>.inl h,List.mem_cons_self,fun n h=>List.mem_cons_of_mem _ h,by simp only [List.length_cons]; omega,fun h=>by simp only [List.length_cons]; omega⟩;rw [if_neg (by simp)];exact bnd g1 (bnd g2 rfl)
  ·
   have hc:cg=true:=hc;have e1:f=a':=e1;have e2:o=b':=e2;subst hc e1 e2;obtain ⟨q2,sa,s1,_,s3,_,s5,s6⟩:=hr1.node e4 (v:=(a':Int)) rfl;have t5:SlA EI T.I m H0 xa.args sa:=by
    obtain ⟨q3,sa',_,_,_,_,t5,t6⟩:=hr.node e4 (v:=(a':Int)) rfl;rw [s6] at t6;cases t6;exact t5
   obtain ⟨H2,v',e,f1,f2,f3,f4,f5⟩:=zfn (ql:=ql) (D:=z[i] :: D) (Ts:=Ts) (K:=K+1) k hr H0.next (H0.next+1) y0 y1 y2 y3 s (i:Int) (k':Int) t (a':Int) true e5 t5 e8 (hS.args _ _ e4) hm hql xa.args.length 0 H1 v (by omega) b5 (by rw [List.take_zero,List.append_nil]; exact hq.fr b6 vne) hw;have hI2:=hI.congd hD he e4 e5 fun k u v hu hv=>⟨e9 k u v hu hv,hargs _ _ e4 u (List.mem_of_getElem? hu),hargs _ _ e5 v (List.mem_of_getElem? hv)⟩;have hz2:=(hz.fr b6 zne fun id h=>.inl h).fr f4.fm (fun id h1 h2=>hz.nv id h1 h2) f4.ow;have h64:=hS.args _ _ e4;refine ⟨H2,v',ql++xa.args.zip xb.args,z[i] :: D,Ts,open1 (H2,v') ?_,f2,by simpa using hI2,f3,f5,hz2,List.mem_cons_self,fun n h=>List.mem_cons_of_mem _ h,by simp only [List.length_cons,List.length_append,List.length_zip]; omega,fun h=>by simp only [List.length_cons]; omega⟩;rw [if_pos rfl];rw [hr1.q (j:=0) (v:=L.sN.v) rfl deSl];simp only [show deSl (Sl3.v L.sN)=some L.sN from rfl,s1,s3,Option.bind_some];refine bnd (x:=.inl (H2,v',e)) ?_ rfl;exact f1
end
end Go.Proofs.YtgkhbmoidenjaaaDoor
namespace Go.Proofs.YtgkhbmoidenjaaaDoor
open Go Go.Abs Go.Abs.Eg
set_option maxRecDepth 100000
section
variable {T:Tys} {tx:Key→ByteArray} {m:Nat} {H0 Hc H':AH} {L:GL} {x:Gh} {D:List Nat} {Ts:List Int} {K:Nat} {v:Sl3} {ql:List (Nat×Nat)}
theorem zbb (k:Nat) (hr:Rep T tx m H0 L x) (hS:Small x.g) (hfl:x.fe.length≤1048576) (hm:m≤H0.next) (y0 y1 y2:Int) (y3:Bool) {a b:Nat} {w:Nat×Nat} {z:List Nat} {s:Sl3} (hzl:z.length≤2097152)
  (hargs:∀(i:Nat) y,x.g.N[i]? = some y→∀a∈y.args,a<x.fe.length) (hed:∀n∈z,∃(k':Nat) (l:Lb),x.fe[n]? = some ((k':Int),l)∧LOK x.g.N x.sd (US x.fe) n k' l) (pc:Nat) :
  ∀(j i:Nat) (Hc:AH) (v:Sl3) (ql:List (Nat×Nat)) (D:List Nat) (Ts:List Int) (K:Nat),i+j=z.length→XN H0 Hc D Ts K→K+j<4611686018427387904→XI x.g.N x.sd x.fe a b (w :: ql) D Ts→VecA ES 91 m Hc (ql.map st4) v→(∀id,owns v id→H0.next+2≤id)→ZR m H0 Hc z s v →
   ql.length+pc≤1+64*D.length→Ts.length≤D.length →
   ∃H' v' q' D' T' e,loopO (Z1 (LCo k) m (GL.p L) H0.next (H0.next+1) y0 y1 y2 y3 s) (Hc,v,(i:Int))=some (.inl (H',v',e))∧XN H0 H' D' T' (K+j)∧XI x.g.N x.sd x.fe a b (w :: q') D' T'∧VecA ES 91 m H' (q'.map st4) v'∧(∀id,owns v' id→H0.next+2≤id) ∧
    (∀n∈z.drop i,n∈D')∧(∀n∈D,n∈D')∧q'.length+pc≤1+64*D'.length∧T'.length≤D'.length:=by
 intro j;induction j with
 | zero =>
  intro i Hc v ql D Ts K hij hX hK hI hq hw hz hl ht;refine ⟨Hc,v,ql,D,Ts,(i:Int),N1 ?_,hX,hI,hq,hw,?_,fun n h=>h,hl,ht⟩
  ·unfold Z1;simp only [hz.z.n];rw [if_neg (by omega)]
  ·rw [List.drop_of_length_le (by omega)];intro n hn;cases hn
 | succ j ih =>
  intro i Hc v ql D Ts K hij hX hK hI hq hw hz hl ht;have hi:i<z.length:=by omega
  have hDl:=hI.le;obtain ⟨k',l,he,hk⟩:=hed z[i] (List.getElem_mem hi);obtain ⟨H1,v1,q1,D1,T1,b1,b2,b3,b4,b5,b6,b7,b8,b9,b10⟩:=zfy k hr hS hfl hm y0 y1 y2 y3 (by omega) hargs hi he hk hX (by omega) hI hq hw hz (by omega);obtain ⟨H2,v2,q2,D2,T2,e,c1,c2,c3,c4,c5,c6,c7,c8,c9⟩:=ih (i+1) H1 v1 q1 D1 T1 (K+1) (by omega) b2 (by omega) b3 b4 b5 b6 (by omega) (b10 ht);refine ⟨H2,v2,q2,D2,T2,e,by rw [J1 b1]; exact c1,by rw [show K+(j+1)=K+1+j by omega]; exact c2,c3,c4,c5,fun n hn=>?_,fun n hn=>c7 n (b8 n hn),c8,c9⟩;rw [List.drop_eq_getElem_cons hi] at hn;rcases List.mem_cons.1 hn with rfl | hn
  ·exact c7 _ b7
  ·exact c6 n hn
theorem zf4 (k:Nat) (hr:Rep T tx m H0 L x) (hS:Small x.g) (hfl:x.fe.length≤1048576) (hm:m≤H0.next) (hall:∀i,i<x.fe.length→∃p,Pa x.fe i p) (hargs:∀(i:Nat) y,x.g.N[i]? = some y→∀a∈y.args,a<x.fe.length) {a b:Nat} {w:Nat×Nat} {pc:Nat}
  (hX:XN H0 Hc D Ts (pc*2097152)) (hI:XI x.g.N x.sd x.fe a b (w :: ql) D Ts) (hq:VecA ES 91 m Hc ((w :: ql).map st4) v∨ql=[]∧SlA ES 91 m Hc [st4 w] v) (hw:∀id,fpt v id→H0.next+2≤id) (hl:(w :: ql).length+pc≤1+64*D.length) (ht:Ts.length≤D.length) :
  ∃H' v' q' D' T',W2 (LCo k) m (GL.p L) H0.next (H0.next+1) (Hc,v)=some (.next (H',v'))∧XN H0 H' D' T' ((pc+1)*2097152)∧XI x.g.N x.sd x.fe a b q' D' T'∧VecA ES 91 m H' (q'.map st4) v'∧(∀id,owns v' id→H0.next+2≤id)∧q'.length+(pc+1)≤1+64*D'.length∧T'.length≤D'.length:=by
 have hDl:=hI.le;simp only [List.length_cons] at hl;have hsl:SlA ES 91 m Hc ((w :: ql).map st4) v:=by
  rcases hq with h | ⟨rfl,h⟩
  ·exact h.toS
  ·exact h
 have hcnt:v.n=ql.length+1:=by rw [hsl.cnt,List.length_map]; rfl
 obtain ⟨hj,hu,hv⟩:=hI.qj w List.mem_cons_self;obtain ⟨p,hp⟩:=hall _ hu;obtain ⟨q,hqq⟩:=hall _ hv;obtain ⟨p9,r1,r2,r3,r4,r5⟩:=rd_ES hsl (i:=0) (by simp) (v:=0) rfl;have hw0:((w :: ql).map st4)[0]'(by simp)=st4 w:=rfl;rw [hw0] at r2 r3 r4 r5;have hq':VecA ES 91 m Hc (st4 w :: ql.map st4) v∨ql.map st4=[]∧SlA ES 91 m Hc [st4 w] v:=hq.imp (fun h=>h) fun h=>⟨by rw [h.1]; rfl,h.2⟩;obtain ⟨s11,t1,t2,t3⟩:=zbh (x:=st4 w) (l:=ql.map st4) (s:=v) hq' (by rw [List.length_map]; unfold OPEN; omega);have hmc:m≤Hc.next:=Nat.le_trans hm hX.ext.1;have hrc:=hr.ext hX.ext;obtain ⟨x12,H13,a1,a2,a3⟩:=za1 (m1:=Nat.max m Hc.next) k hrc (Nat.max_le.2 ⟨hmc,Nat.le_refl _⟩) hp hfl;obtain ⟨x14,H15,b1,b2,b3⟩:=za1 (m1:=m) k (hrc.ext a3) (Nat.le_trans hmc a3.1) hqq hfl;have hpl:=pa_len hp;have hql:=pa_len hqq;obtain ⟨v11,v12,k',l',c1,c2,c3,c4⟩:=ze7 (H:=H15) k (GL.p L) H0.next (H0.next+1) (w.1:Int) (w.2:Int) 0 false s11 (p:=p) (q:=q) (by omega) (by omega) p.length q.length x12 x14 (Nat.le_refl _) (Nat.le_refl _) (by simp) (by rw [List.take_length]; exact a2.ext b3) (by rw [List.take_length]; exact b2);obtain ⟨s27,H28,d1,d2,d3,d4⟩:=zhl (e:=27) (H:=H15) [v11,v12];have hx28:Ext Hc H28:=(a3.trans b3).trans d3;obtain ⟨x29,H30,e1,e2,e3,e4⟩:=zd6 (m:=m) k d2 (c2.ext d3) (c3.ext d3) (by rw [List.length_take]; omega) (by rw [List.length_take]; omega) (Nat.le_trans hmc hx28.1);have hx30:Ext Hc H30:=hx28.trans e3;have hnx:=hX.nx;have hlast:=(N8 hall hj).1 p q hp hqq;have hbt:=c4.btw hp hqq;have hse:=ze5 hp hqq hlast c4;have hlk:=ju_lok hall hj p q hp hqq;obtain ⟨H',v',q',D',T',e,f1,f2,f3,f4,f5,f6,f7,f8,f9⟩:=zbb (a:=a) (b:=b) (w:=w) k hr hS hfl hm (w.1:Int) (w.2:Int) 0 false (z:=p.take k'++q.take l') (s:=x29) (by rw [List.length_append,List.length_take,List.length_take]; omega) hargs
  (fun n hn=>by
   obtain ⟨k1,l1,g1⟩:=hse n hn;exact ⟨k1,l1,g1,hlk n ((hbt n).1 hn) k1 l1 g1⟩) (pc+1) (p.take k'++q.take l').length 0 H30 s11 ql D Ts (pc*2097152) (by omega) (hX.ext_ hx30) (by rw [List.length_append,List.length_take,List.length_take]; omega) hI (t2.ext hx30) (fun id ho=>hw id (t3 id (J6 ho)))
  ⟨e2,fun id ho=>by have:=e4 id ho; have:=hx28.1; omega,fun id h1 h2=>by have:=e4 id h1; have:=(SlG.fp hsl (t3 id (J6 h2))).2; have:=hx28.1; omega⟩ (by omega) ht
 refine ⟨H',v',q',D',T',?_,?_,f3.pop fun p' q' c hp' hq' hc=>?_,f4,f5,f8,f9⟩
 ·unfold W2;simp only [hcnt];rw [if_pos (by omega)];refine bnd r1 ?_;refine bnd r2 ?_;refine bnd r3 ?_;refine bnd r4 ?_;refine bnd r5 ?_;refine bnd t1 ?_;refine bnd (x:=(x12,H13)) a1 ?_;refine bnd (x:=(x14,H15)) b1 ?_;refine bnd (x:=.inl (v11,v12)) ?_ ?_
  ·exact c1
  refine bnd (x:=(s27,H28)) d1 ?_;refine bnd (x:=(x29,H30)) e1 ?_;refine bnd (x:=.inl (H',v',e)) ?_ rfl;exact f1
 ·obtain ⟨g,h3,h4⟩:=f2.dn;refine ⟨f2.ext,f2.nx,f2.tg,g,h3,fun n=>⟨(h4 n).1,fun hn=>?_⟩⟩;obtain ⟨c,i1,i2,i3⟩:=(h4 n).2 hn;refine ⟨c,i1,i2,Nat.le_trans i3 ?_⟩;rw [List.length_append,List.length_take,List.length_take];omega
 ·rw [hp'.uniq hp,hq'.uniq hqq] at hc;exact f6 c (by rw [List.drop_zero]; exact (hbt c).2 hc)
theorem zc2 (k:Nat) (hr:Rep T tx m H0 L x) (hS:Small x.g) (hfl:x.fe.length≤1048576) (hm:m≤H0.next) (hall:∀i,i<x.fe.length→∃p,Pa x.fe i p) (hargs:∀(i:Nat) y,x.g.N[i]? = some y→∀a∈y.args,a<x.fe.length) {a b:Nat} :
  ∀(r pc:Nat) (Hc:AH) (v:Sl3) (ql:List (Nat×Nat)) (D:List Nat) (Ts:List Int),pc+r=67108866→XN H0 Hc D Ts (pc*2097152)→XI x.g.N x.sd x.fe a b ql D Ts→(VecA ES 91 m Hc (ql.map st4) v∨∃w,ql=[w]∧SlA ES 91 m Hc [st4 w] v)→(∀id,fpt v id→H0.next+2≤id)→ql.length+pc≤1+64*D.length→Ts.length≤D.length →
   ∃H' e D' T' K',loopO (W2 (LCo k) m (GL.p L) H0.next (H0.next+1)) (Hc,v)=some (.inl (H',e))∧XN H0 H' D' T' K'∧XI x.g.N x.sd x.fe a b [] D' T'∧T'.length≤D'.length:=by
 intro r;induction r with
 | zero =>
  intro pc Hc v ql D Ts hpc hX hI hq hw hl ht;have:=hI.le;exfalso; omega
 | succ r ih =>
  intro pc Hc v ql D Ts hpc hX hI hq hw hl ht;cases ql with
  | nil =>
   refine ⟨Hc,v,D,Ts,_,N1 ?_,hX,hI,ht⟩;have hv:v.n=0:=by
    rcases hq with h | ⟨w,h,_⟩
    ·exact h.n
    ·cases h
   unfold W2;simp only [hv];rw [if_neg (by omega)]
  | cons w ql =>
   obtain ⟨H1,v1,q1,D1,T1,b1,b2,b3,b4,b5,b6,b7⟩:=zf4 k hr hS hfl hm hall hargs hX hI (by
    rcases hq with h | ⟨w',h,h2⟩
    ·exact .inl h
    ·cases h; exact .inr ⟨rfl,h2⟩) hw hl ht
   obtain ⟨H',e,D',T',K',c1,c2⟩:=ih (pc+1) H1 v1 q1 D1 T1 (by omega) b2 b3 (.inl b4) (fun id hid=>by
    refine b5 id ⟨?_,hid.2⟩;cases b4 with
    | nil hn hv=>exact absurd hid U1
    | zero a ha hn hv=>exact absurd rfl hid.1
    | opn=>rfl) b6 b7
   exact ⟨H',e,D',T',K',by rw [J1 b1]; exact c1,c2⟩
theorem zbd {Tb:AH→Prop} (k:Nat) (h:GS T tx m Tb H0 L x) {a b:Nat} (ha:a<x.g.n) (hb:b<x.g.n) (ho:x.g.o a=x.g.o b) :
  ∃s H' zs,J4 (LCo k) m H0 (GL.p L) (a:Int) (b:Int)=some (s,H')∧SlA EZ 3 m H' zs s∧Ext H0 H'∧(∀id,fpt s id→H0.next≤id)∧zs.Pairwise (·<·)∧(∀t∈zs,∃s∈x.sd,s.2.2.2=false∧s.2.2.1=t)∧Cong x.g.N (Mof (withT x.sd (·∈zs))) a b:=by
 have hfl:x.fe.length=x.g.n:=by
  have:=congrArg List.length h.gr.rep.fel;rw [List.length_map] at this;rw [this,h.gr.mi.flen]
 have hn:=h.gr.sm.n;have hall:∀i,i<x.fe.length→∃p,Pa x.fe i p:=fun i hi=>(h.gr.mi.way i (by omega)).pa h.gr.rep.fel;have hargs:∀(i:Nat) y,x.g.N[i]? = some y→∀a∈y.args,a<x.fe.length:=fun i y hy a ha=>by
  have h1:=h.gr.mi.args i y hy a ha;have h2:i<x.g.n:=(List.getElem?_eq_some_iff.1 hy).1;omega
 have hm:=h.gr.nm;have hju:=h.gr.li a b ha hb ho
 let H2:=H0.push mapB
 let H4:=H2.push mapB
 have n2:H2.next=H0.next+1:=rfl;have n4:H4.next=H0.next+2:=rfl;have x4:Ext H0 H4:=Ext.trans (H1:=H2) (Fm.push _ _ _) (Fm.push _ _ _);have m1:MapB H4 H0.next fun _=>none:=(MapB.new (H:=H0)).fr (Fm.push (fun _=>False) H2 mapB) (show H0.next<H0.next+1 by omega) (fun h=>h);have m2:MapB H4 (H0.next+1) fun _=>none:=MapB.new (H:=H2);have hX0:XN H0 H4 [] [] 0:=⟨x4,by omega,⟨_,m1,fun t=>by simp,fun t u hu=>by cases hu⟩,⟨_,m2,fun n=>⟨fun _=>rfl,fun hn=>by cases hn⟩⟩⟩;have hrow:=SlA.row (E:=ES) (e:=91) (H:=H4) (m:=m) (st4 (a,b)) (by omega);obtain ⟨H5,e,D,Ts,K,b1,b2,b3,b4⟩:=zc2 k h.gr.rep h.gr.sm (by omega) hm hall hargs (a:=a) (b:=b) 67108866 0 _ ⟨some ⟨H4.next,0,none⟩,1,1⟩ [(a,b)] [] [] (by omega) (hX0.ext_ (Fm.push _ _ _)) (XI.start hju (by omega) (by omega)) (.inr ⟨_,rfl,hrow⟩) (fun id hid=>by
  obtain ⟨_,q,hq,rfl⟩:=hid;cases hq;exact Nat.le_refl _) (by simp) (by simp)
 obtain ⟨f,g1,g2,g3⟩:=b2.tg;have hDl:=b3.le;obtain ⟨zs,s,H',c1,c2,c3,c4,c5,c6⟩:=zgl (e:=3) (m:=m) g1 (by have:=b2.nx; omega) (T:=Ts) (fun z hz=>(g2 z).1 hz) (by omega);have hz:∀z,z∈zs↔z∈Ts:=fun z=>(c3 z).trans (g2 z);refine ⟨s,H',zs,?_,c4,b2.ext.trans c5,fun id hid=>Nat.le_trans b2.ext.1 (c6 id hid),c2,fun t ht=>b3.tl t ((hz t).1 ht),b3.done hall hju (by omega) (by omega) hz⟩;unfold J4;refine bnd (x:=(H0.next,H2)) rfl ?_;refine bnd (x:=(H0.next+1,H4)) rfl ?_;refine bnd (x:=(⟨some ⟨H4.next,0,none⟩,1,1⟩,H4.push { obj:=.cells (ES.enc (st4 (a,b))).toArray 91 (0,0),opn:=false,esz:=0,ro:=false })) rfl ?_;refine bnd (x:=.inl (H5,e)) ?_ ?_
 ·exact b1
 ·exact c1
end
end Go.Proofs.YtgkhbmoidenjaaaDoor
namespace Go.Proofs.YtgkhbmoidenjaaaDoor
open Go Go.Abs Go.Abs.Eg
set_option maxRecDepth 100000
def RA (m:Nat) (H:AH) (id n:Nat) (f:Nat→Nat):Prop:=ArrV 3 m H id ((List.range n).map fun i=>Value.int .i64 (f i:Nat))
abbrev arS (id n:Nat):Sl3:=⟨some ⟨id,0,none⟩,n,n⟩
section
variable {m:Nat} {H H0 Hc H':AH} {id n:Nat} {f g:Nat→Nat}
theorem RA.at_ (h:RA m H id n f) {i:Nat} (hi:i<n) {v:Int} (hv:v=i):idxA 1 (arS id n) v=some ((⟨id,0,none⟩:Addr).add i)∧rd (deI .i64) H ((⟨id,0,none⟩:Addr).add i)=some ((f i:Nat):Int):=by
 refine ⟨by have:=zhk (id:=id) hi hv; rwa [Nat.mul_one] at this,?_⟩;have:=ArrV.rd (j:=i) h (v:=.int .i64 (f i:Nat)) (by rw [List.getElem?_map,List.getElem?_range hi]; rfl) (deI .i64);rw [this]; rfl
theorem RA.congr (h:RA m H id n f) (he:∀i,i<n→f i=g i):RA m H id n g:=by
 unfold RA at *;have:((List.range n).map fun i=>Value.int .i64 (g i:Nat))=(List.range n).map fun i=>Value.int .i64 (f i:Nat):=List.map_congr_left fun i hi=>by rw [he i (List.mem_range.1 hi)]
 rw [this]; exact h
theorem RA.set (h:RA m H id n f) {i:Nat} (hi:i<n) (c:Nat):∃H',H.setCell m ((⟨id,0,none⟩:Addr).add i) (.int .i64 (c:Nat))=some H'∧RA m H' id n (fun j=>if j=i then c else f j)∧Fm (fun j=>j=id) H H'∧H'.next=H.next:=by
 obtain ⟨H',h1,h2,h3,h4⟩:=ArrV.set h (i:=i) (by simpa using hi) (.int .i64 (c:Nat));rw [Nat.mul_one] at h1;refine ⟨H',h1,?_,h3,h4⟩;have:(((List.range n).map fun i=>Value.int .i64 (f i:Nat)).set i (.int .i64 (c:Nat)))=(List.range n).map fun j=>Value.int .i64 ((if j=i then c else f j:Nat):Int):=by
  refine List.ext_getElem? fun j=>?_;rw [List.getElem?_set,List.getElem?_map,List.getElem?_map];by_cases hj:j<n
  ·rw [List.getElem?_range hj];by_cases e:i=j
   ·subst e; simp [hi]
   ·rw [if_neg e];simp only [Option.map_some,if_neg (fun h:j=i=>e h.symm)]
  ·rw [List.getElem?_eq_none (l:=List.range n) (by simpa using hj),if_neg (by omega)];rfl
 unfold RA;rw [← this]; exact h2
theorem RA.fr {W:Nat→Prop} (h:RA m H id n f) (hf:Fm W H H') (hw:¬W id):RA m H' id n f:=ArrV.fr h hf hw
theorem z7y (k:Nat) (x y:Nat) (hn:n≤1048576):∀(d i:Nat) (Hc:AH),i+d=n→RA m Hc id n (fun j=>if j<i then jn f x y j else f j) →
  ∃H' e,loopO (D5 (LCo k) m (arS id n) (x:Int) (y:Int)) (Hc,(i:Int))=some (.inl (H',e))∧RA m H' id n (jn f x y)∧Fm (fun j=>j=id) Hc H'∧H'.next=Hc.next:=by
 intro d;induction d with
 | zero =>
  intro i Hc hd h;have:i=n:=by omega
  subst this;refine ⟨Hc,(i:Int),N1 ?_,h.congr fun j hj=>if_pos hj,Fm.refl _ _,rfl⟩;unfold D5;simp only [if_neg (show ¬((i:Nat):Int)<((i:Nat):Int) by omega)]
 | succ d ih =>
  intro i Hc hd h;have hi:i<n:=by omega
  obtain ⟨a1,a2⟩:=h.at_ hi (v:=(i:Int)) rfl;simp only [if_neg (Nat.lt_irrefl i)] at a2;have hw:IntKind.i64.wrap ((i:Int)+1)=((i+1:Nat):Int):=P1 (n:=n) hi (by rw [N2]; omega);by_cases e:f i=y
  ·obtain ⟨H1,b1,b2,b3,b4⟩:=h.set hi x;obtain ⟨H',e',c1,c2,c3,c4⟩:=ih (i+1) H1 (by omega) (b2.congr fun j hj=>by
    by_cases e1:j=i
    ·subst e1;rw [if_pos rfl,if_pos (Nat.lt_succ_self _)];unfold jn; rw [if_pos e]
    ·rw [if_neg e1];by_cases e2:j<i
     ·rw [if_pos e2,if_pos (by omega)]
     ·rw [if_neg e2,if_neg (by omega)])
   refine ⟨H',e',?_,c2,b3.comp c3 fun _ _ h=>h,c4.trans b4⟩;rw [J1 (s':=(H1,((i+1:Nat):Int))) ?_]
   ·exact c1
   ·unfold D5;simp only;rw [if_pos (by omega)];refine bnd (x:=H1) ?_ (by simp only [hw]);refine bnd a1 ?_;refine bnd a2 ?_;rw [if_pos (by rw [e])];refine bnd a1 ?_;exact bnd b1 rfl
  ·obtain ⟨H',e',c1,c2,c3,c4⟩:=ih (i+1) Hc (by omega) (h.congr fun j hj=>by
    by_cases e1:j=i
    ·subst e1;rw [if_neg (Nat.lt_irrefl _),if_pos (Nat.lt_succ_self _)];unfold jn; rw [if_neg e]
    ·by_cases e2:j<i
     ·rw [if_pos e2,if_pos (by omega)]
     ·rw [if_neg e2,if_neg (by omega)])
   refine ⟨H',e',?_,c2,c3,c4⟩;rw [J1 (s':=(Hc,((i+1:Nat):Int))) ?_]
   ·exact c1
   ·unfold D5;simp only;rw [if_pos (by omega)];refine bnd (x:=Hc) ?_ (by simp only [hw]);refine bnd a1 ?_;refine bnd a2 ?_;rw [if_neg (by omega)]
theorem z80 (k:Nat) (hn:n≤1048576) (h:RA m Hc id n f) {a b:Nat} (ha:a<n) (hb:b<n):∃H' x y,M6 (LCo k) m Hc (arS id n) (a:Int) (b:Int)=some H'∧RA m H' id n (jn f x y)∧Fm (fun j=>j=id) Hc H'∧H'.next=Hc.next∧x≤y∧(f a=x∧f b=y∨f a=y∧f b=x):=by
 obtain ⟨a1,a2⟩:=h.at_ ha (v:=(a:Int)) rfl;obtain ⟨b1,b2⟩:=h.at_ hb (v:=(b:Int)) rfl;by_cases e:f b<f a
 ·obtain ⟨H',e',c1,c2,c3,c4⟩:=z7y k (f b) (f a) hn n 0 Hc (by omega) (h.congr fun j _=>(if_neg (by omega)).symm);refine ⟨H',f b,f a,?_,c2,c3,c4,by omega,.inr ⟨rfl,rfl⟩⟩;unfold M6;refine bnd a1 ?_;refine bnd a2 ?_;refine bnd b1 ?_;refine bnd b2 ?_;refine bnd (x:=(((f b:Nat):Int),((f a:Nat):Int))) (by rw [if_pos (by omega)]) ?_;refine bnd (x:=.inl (H',e')) ?_ rfl;exact c1
 ·obtain ⟨H',e',c1,c2,c3,c4⟩:=z7y k (f a) (f b) hn n 0 Hc (by omega) (h.congr fun j _=>(if_neg (by omega)).symm);refine ⟨H',f a,f b,?_,c2,c3,c4,by omega,.inl ⟨rfl,rfl⟩⟩;unfold M6;refine bnd a1 ?_;refine bnd a2 ?_;refine bnd b1 ?_;refine bnd b2 ?_;refine bnd (x:=(((f a:Nat):Int),((f b:Nat):Int))) (by rw [if_neg (by omega)]) ?_;refine bnd (x:=.inl (H',e')) ?_ rfl;exact c1
theorem ze8 (k:Nat) (h:RA m Hc id n f) {p q:Nd} {s1 s2:Sl3} {m1 m2:Nat} (hp:SlA EI 3 m1 Hc p.args s1) (hq:SlA EI 3 m2 Hc q.args s2) (hl:p.args.length≤64) (ha:∀a∈p.args,a<n) (hb:∀a∈q.args,a<n) :
  n8 (LCo k) Hc p.sym p.value s1 q.sym q.value s2 (arS id n)=some (alk f p q):=by
 unfold n8;refine bnd (x:=(p.value||(q.value||!(decide (p.sym=q.sym)&&decide (p.args.length=q.args.length))))) ?_ ?_
 ·rw [hp.cnt,hq.cnt];by_cases h1:p.value=true
  ·simp [h1]
  ·by_cases h2:q.value=true
   ·rw [if_neg h1,if_pos h2]; simp [h2]
   ·by_cases h3:p.sym=q.sym
    ·rw [if_neg h1,if_neg h2,if_pos h3];have:decide ((p.args.length:Int)=(q.args.length:Int))=decide (p.args.length=q.args.length):=by
      rw [decide_eq_decide]; omega
     rw [this];simp [h1,h2,h3]
    ·rw [if_neg h1,if_neg h2,if_neg h3]; simp [h3]
 by_cases hc:p.value=false∧q.value=false∧p.sym=q.sym∧p.args.length=q.args.length
 ·obtain ⟨c1,c2,c3,c4⟩:=hc;rw [if_neg (by simp [c1,c2,c3,c4])];have A:=scanI (f:=U4 (LCo k) Hc p.sym p.value s1 q.sym q.value s2 (arS id n)) p.args.length (fun i=>decide ((p.args.map f)[i]? ≠ (q.args.map f)[i]?)) (fun i=>(i:Int)) (fun _=>false) (fun i hi hh=>?_) (fun i hi hh=>?_) ?_;rotate_left
  ·obtain ⟨q1,r1,r2⟩:=rd_EI hp hi (v:=(i:Int)) rfl;obtain ⟨q2,r3,r4⟩:=rd_EI hq (i:=i) (by omega) (v:=(i:Int)) rfl;obtain ⟨t1,t2⟩:=h.at_ (ha _ (List.getElem_mem hi)) (v:=(p.args[i]:Int)) rfl;obtain ⟨t3,t4⟩:=h.at_ (hb _ (List.getElem_mem (show i<q.args.length by omega))) (v:=((q.args[i]'(by omega):Nat):Int)) rfl;have he:f p.args[i]=f (q.args[i]'(by omega)):=by
    have:=of_decide_eq_false hh;rw [List.getElem?_map,List.getElem?_map,List.getElem?_eq_getElem hi,List.getElem?_eq_getElem (show i<q.args.length by omega)] at this
    simpa using this
   unfold U4;simp only [hp.cnt,if_pos (show (i:Int)<(p.args.length:Int) by omega),r1,r2,r3,r4,t1,t2,t3,t4,Option.bind_some];rw [if_pos (by rw [he]),P1 (n:=p.args.length) hi (by rw [N2]; omega)]
  ·obtain ⟨q1,r1,r2⟩:=rd_EI hp hi (v:=(i:Int)) rfl;obtain ⟨q2,r3,r4⟩:=rd_EI hq (i:=i) (by omega) (v:=(i:Int)) rfl;obtain ⟨t1,t2⟩:=h.at_ (ha _ (List.getElem_mem hi)) (v:=(p.args[i]:Int)) rfl;obtain ⟨t3,t4⟩:=h.at_ (hb _ (List.getElem_mem (show i<q.args.length by omega))) (v:=((q.args[i]'(by omega):Nat):Int)) rfl;have he:¬f p.args[i]=f (q.args[i]'(by omega)):=by
    have:=of_decide_eq_true hh;rw [List.getElem?_map,List.getElem?_map,List.getElem?_eq_getElem hi,List.getElem?_eq_getElem (show i<q.args.length by omega)] at this
    simpa using this
   unfold U4;simp only [hp.cnt,if_pos (show (i:Int)<(p.args.length:Int) by omega),r1,r2,r3,r4,t1,t2,t3,t4,Option.bind_some];rw [if_neg (by omega)]
  ·unfold U4;simp only [hp.cnt,if_neg (show ¬((p.args.length:Int)<(p.args.length:Int)) by omega)]
  have hk:alk f p q=decide (p.args.map f=q.args.map f):=by unfold alk; simp [c1,c2,c3]
  rw [hk];rcases A with ⟨i,hi,hh,_,e⟩ | ⟨hall,e⟩
  ·refine bnd (x:=.inr false) ?_ ?_
   ·exact e
   have:¬p.args.map f=q.args.map f:=fun h=>by
    rw [h] at hh;simp at hh
   rw [decide_eq_false this]
  ·refine bnd (x:=.inl (p.args.length:Int)) ?_ ?_
   ·exact e
   have:p.args.map f=q.args.map f:=by
    refine List.ext_getElem? fun i=>?_;by_cases hi:i<p.args.length
    ·have:=of_decide_eq_false (hall i hi);exact Classical.not_not.1 this
    ·rw [List.getElem?_eq_none (by rw [List.length_map]; omega),List.getElem?_eq_none (by rw [List.length_map]; omega)]
   rw [decide_eq_true this]
 ·have hk:alk f p q=false:=by
   unfold alk;by_cases h1:p.value=true
   ·simp [h1]
   ·by_cases h2:q.value=true
    ·simp [h2]
    ·by_cases h3:p.sym=q.sym
     ·have h4:¬p.args.length=q.args.length:=fun h4=>hc ⟨by simpa using h1,by simpa using h2,h3,h4⟩;have:¬p.args.map f=q.args.map f:=fun h=>h4 (by have:=congrArg List.length h; simpa using this);simp [this]
     ·simp [h3]
  rw [if_pos ?_,hk];by_cases h1:p.value=true
  ·simp [h1]
  ·by_cases h2:q.value=true
   ·simp [h2]
   ·by_cases h3:p.sym=q.sym
    ·have h4:¬p.args.length=q.args.length:=fun h4=>hc ⟨by simpa using h1,by simpa using h2,h3,h4⟩;simp [h4]
    ·simp [h3]
end
end Go.Proofs.YtgkhbmoidenjaaaDoor
namespace Go.Proofs.YtgkhbmoidenjaaaDoor
open Go Go.Abs Go.Abs.Eg
set_option maxRecDepth 100000
structure PI (N:List Nd) (M:List (Nat×Nat)) (n:Nat) (r0 r:Nat→Nat) (more:Bool) (C:Nat→Nat→Prop):Prop where
 rq:RQ N M n r
 ms:∀i j,(i,j)∈M→r i=r j
 pr:(more=false∧(∀i,r i=r0 i)∧∀i k p q,C i k→N[i]? = some p→N[k]? = some q→alk r p q=true→r i=r k)∨(more=true∧rts n r<rts n r0)
structure RG (m0:Nat) (H0:AH) (R:RL) (N:List Nd) (sd:List Sd):Prop where
 rf:RF m0 H0 R N sd
 nok:NOK N
 args:∀(i:Nat) y,N[i]? = some y→∀a∈y.args,a<i
 len:∀y∈N,y.args.length≤64
 n:N.length≤1048576
section
variable {m m0:Nat} {H H0 Hc H':AH} {id:Nat} {R:RL} {N:List Nd} {sd:List Sd} {M:List (Nat×Nat)} {r r0:Nat→Nat} {more:Bool} {C C':Nat→Nat→Prop}
theorem zfp {n:Nat} {f g:Nat→Nat} (h:∀i,f i=g i):rts n f=rts n g:=by
 unfold rts;have:(fun i=>decide (f i=i))=fun i=>decide (g i=i):=funext fun i=>by rw [h i]
 rw [this]
theorem PI.le {n:Nat} (h:PI N M n r0 r more C):rts n r≤rts n r0:=by
 rcases h.pr with ⟨_,h,_⟩ | ⟨_,h⟩
 ·exact Nat.le_of_eq (zfp h)
 ·omega
theorem PI.join {n:Nat} (h:PI N M n r0 r more C) {i k x y:Nat} (hi:i<n) (hk:k<n) (hc:Cong N M i k) (hne:r i≠r k) (hxy:x≤y) (he:r i=x∧r k=y∨r i=y∧r k=x):PI N M n r0 (jn r x y) true C':=by
 obtain ⟨h1,h2,h3⟩:=h.rq.join hi hk hc hxy he;have hle:=h.le;have:=h3 (by rcases he with ⟨e1,e2⟩ | ⟨e1,e2⟩ <;> omega);exact ⟨h1,fun a b hab=>zd9 (h.ms a b hab),.inr ⟨rfl,by omega⟩⟩
def upto (i k:Nat) (a b:Nat):Prop:=b<a∧(a<i∨a=i∧b<k)
theorem PI.skip {n i k:Nat} (h:PI N M n r0 r more (upto i k)) (hs:∀p q,N[i]? = some p→N[k]? = some q→alk r p q=true→r i=r k):PI N M n r0 r more (upto i (k+1)):=by
 refine ⟨h.rq,h.ms,h.pr.imp (fun ⟨h1,h2,h3⟩=>⟨h1,h2,fun a b p q hab hp hq hk=>?_⟩) fun h=>h⟩;obtain ⟨h4,h5⟩:=hab;by_cases e:a=i∧b=k
 ·obtain ⟨rfl,rfl⟩:=e;exact hs p q hp hq hk
 ·exact h3 a b p q ⟨h4,by omega⟩ hp hq hk
theorem zf0 (k0:Nat) (hG:RG m0 H0 R N sd) (hid:H0.next≤id) {i:Nat} (hi:i<N.length):∀(d k:Nat) (Hc:AH) (r:Nat→Nat) (more:Bool),k+d=i→Ext H0 Hc→RA m Hc id N.length r→PI N M N.length r0 r more (upto i k) →
  ∃H' r' more' e,loopO (X4 (LCo k0) m R.sN (arS id N.length) (i:Int)) (Hc,more,(k:Int))=some (.inl (H',more',e))∧Ext H0 H'∧RA m H' id N.length r'∧PI N M N.length r0 r' more' (upto i i):=by
 have hn:=hG.n;intro d;induction d with
 | zero =>
  intro k Hc r more hd hx hr hP;have:k=i:=by omega
  subst this;refine ⟨Hc,r,more,(k:Int),N1 ?_,hx,hr,hP⟩;unfold X4;simp only;rw [if_neg (by omega)]
 | succ d ih =>
  intro k Hc r more hd hx hr hP;have hk:k<N.length:=by omega
  obtain ⟨a1,a2⟩:=hr.at_ hi (v:=(i:Int)) rfl;obtain ⟨b1,b2⟩:=hr.at_ hk (v:=(k:Int)) rfl;have hw:IntKind.i64.wrap ((k:Int)+1)=((k+1:Nat):Int):=P1 (n:=N.length) hk (by rw [N2]; omega);have hRc:=RR.ext hG.rf hx;obtain ⟨q1,s1,c1,c2,c3,c4,c5,_⟩:=hRc.node hi (v:=(i:Int)) rfl;obtain ⟨q2,s2,d1,d2,d3,d4,d5,_⟩:=hRc.node hk (v:=(k:Int)) rfl;have ei:=List.getElem?_eq_getElem hi;have ek:=List.getElem?_eq_getElem hk;have hai:∀a∈N[i].args,a<N.length:=fun a ha=>by have:=hG.args i _ ei a ha; omega
  have hak:∀a∈N[k].args,a<N.length:=fun a ha=>by have:=hG.args k _ ek a ha; omega
  have hlk:=ze8 k0 hr c5 d5 (hG.len _ (List.getElem_mem hi)) hai hak;by_cases hs:r i=r k∨alk r N[i] N[k]=false
  ·have hP2:=hP.skip (fun p q hp hq hh=>by
    rw [ei] at hp; rw [ek] at hq;cases hp; cases hq;rcases hs with h | h
    ·exact h
    ·rw [h] at hh; cases hh)
   obtain ⟨H',r',more',e,f1,f2⟩:=ih (k+1) Hc r more (by omega) hx hr hP2;refine ⟨H',r',more',e,?_,f2⟩;rw [J1 (s':=(Hc,more,((k+1:Nat):Int))) ?_]
   ·exact f1
   ·unfold X4;simp only;rw [if_pos (by omega)];refine bnd (x:=(Hc,more)) ?_ (by simp only [hw]);refine bnd (x:=false) ?_ (by simp);refine bnd a1 ?_;refine bnd a2 ?_;refine bnd b1 ?_;refine bnd b2 ?_;by_cases e1:r i=r k
    ·rw [if_pos (by rw [e1])]
    ·rw [if_neg (by omega)];have e2:=hs.resolve_left e1;rw [e2] at hlk;exact bnd c1 (bnd c2 (bnd c3 (bnd c4 (bnd d1 (bnd d2 (bnd d3 (bnd d4 (bnd hlk rfl))))))))
  ·have hs1:r i≠r k:=fun h=>hs (.inl h);have hs2:alk r N[i] N[k]=true:=by
    cases h:alk r N[i] N[k] with
    | false=>exact absurd (.inr h) hs
    | true=>rfl
   rw [hs2] at hlk;obtain ⟨H1,x,y,g1,g2,g3,g4,g5,g6⟩:=z80 k0 hn hr hi hk;have hP2:PI N M N.length r0 (jn r x y) true (upto i (k+1)):=hP.join hi hk (zhr hP.rq ei ek hai hak hs2) hs1 g5 g6;obtain ⟨H',r',more',e,f1,f2⟩:=ih (k+1) H1 (jn r x y) true (by omega) (hx.comp g3 fun j hj _ e=>by omega) g2 hP2;refine ⟨H',r',more',e,?_,f2⟩;rw [J1 (s':=(H1,true,((k+1:Nat):Int))) ?_]
   ·exact f1
   ·unfold X4;simp only;rw [if_pos (by omega)];refine bnd (x:=(H1,true)) ?_ (by simp only [hw]);refine bnd (x:=true) ?_ ?_
    ·refine bnd a1 ?_;refine bnd a2 ?_;refine bnd b1 ?_;refine bnd b2 ?_;rw [if_neg (by omega)];exact bnd c1 (bnd c2 (bnd c3 (bnd c4 (bnd d1 (bnd d2 (bnd d3 (bnd d4 (bnd hlk rfl))))))))
    ·rw [if_pos rfl];exact bnd g1 rfl
theorem zen (k0:Nat) (hG:RG m0 H0 R N sd) (hid:H0.next≤id):∀(d i:Nat) (Hc:AH) (r:Nat→Nat) (more:Bool),i+d=N.length→Ext H0 Hc→RA m Hc id N.length r→PI N M N.length r0 r more (upto i 0) →
  ∃H' r' more' e,loopO (Q5 (LCo k0) m R.sN (arS id N.length)) (Hc,more,(i:Int))=some (.inl (H',more',e))∧Ext H0 H'∧RA m H' id N.length r'∧PI N M N.length r0 r' more' (upto N.length 0):=by
 have hn:=hG.n;have hcnt:R.sN.n=N.length:=by rw [hG.rf.hN.cnt,A7 hG.rf.nal]
 intro d;induction d with
 | zero =>
  intro i Hc r more hd hx hr hP;have:i=N.length:=by omega
  subst this;refine ⟨Hc,r,more,(N.length:Int),N1 ?_,hx,hr,hP⟩;unfold Q5;simp only [hcnt];rw [if_neg (by omega)]
 | succ d ih =>
  intro i Hc r more hd hx hr hP;have hi:i<N.length:=by omega
  have hw:IntKind.i64.wrap ((i:Int)+1)=((i+1:Nat):Int):=P1 (n:=N.length) hi (by rw [N2]; omega);obtain ⟨H1,r1,more1,e1,a1,a2,a3,a4⟩:=zf0 k0 hG hid hi i 0 Hc r more (by omega) hx hr hP;have hP2:PI N M N.length r0 r1 more1 (upto (i+1) 0):=⟨a4.rq,a4.ms,a4.pr.imp (fun ⟨h1,h2,h3⟩=>⟨h1,h2,fun a b p q hab=>h3 a b p q ⟨hab.1,by have:=hab.1; have:=hab.2; omega⟩⟩) fun h=>h⟩;obtain ⟨H',r',more',e,f1,f2⟩:=ih (i+1) H1 r1 more1 (by omega) a2 a3 hP2;refine ⟨H',r',more',e,?_,f2⟩;rw [J1 (s':=(H1,more1,((i+1:Nat):Int))) ?_]
  ·exact f1
  ·unfold Q5;simp only [hcnt];rw [if_pos (by omega)];refine bnd (x:=.inl (H1,more1,e1)) ?_ (by simp only [hw]);exact a1
theorem zi2 (k0:Nat) (hG:RG m0 H0 R N sd) (hid:H0.next≤id):∀(c:Nat) (Hc:AH) (r:Nat→Nat),rts N.length r<c→Ext H0 Hc→RA m Hc id N.length r→RQ N M N.length r→(∀i j,(i,j)∈M→r i=r j) →
  ∃H' r' e,loopO (T4 (LCo k0) m R.sN (arS id N.length)) (Hc,true)=some (.inl (H',e))∧Ext H0 H'∧RA m H' id N.length r'∧RQ N M N.length r'∧(∀i j,(i,j)∈M→r' i=r' j)∧∀i k p q,k<i→i<N.length→N[i]? = some p→N[k]? = some q→alk r' p q=true→r' i=r' k:=by
 intro c;induction c with
 | zero=>intro Hc r h; omega
 | succ c ih =>
  intro Hc r hc hx hr hq hM;obtain ⟨H1,r1,more,e,a1,a2,a3,a4⟩:=zen (r0:=r) (M:=M) k0 hG hid N.length 0 Hc r false (by omega) hx hr ⟨hq,hM,.inl ⟨rfl,fun i=>rfl,fun i k p q h=>by unfold upto at h; omega⟩⟩;have hb:T4 (LCo k0) m R.sN (arS id N.length) (Hc,true)=some (.next (H1,more)):=by
   unfold T4;simp only;rw [if_pos trivial];refine bnd (x:=.inl (H1,more,e)) ?_ rfl;exact a1
  rw [J1 hb];rcases a4.pr with ⟨rfl,h2,h3⟩ | ⟨rfl,h2⟩
  ·refine ⟨H1,r1,false,N1 ?_,a2,a3,a4.rq,a4.ms,fun i k p q hki hi=>h3 i k p q ⟨hki,.inl hi⟩⟩;unfold T4;simp only;rw [if_neg (by simp)]
  ·exact ih H1 r1 (by omega) a2 a3 a4.rq a4.ms
theorem zfh (k0:Nat) {n:Nat} (hn:n≤1048576) (a0 a1:Sl3) {id:Nat}:∀(d i:Nat) (Hc:AH),i+d=n→RA m Hc id n (fun j=>if j<i then j else 0) →
  ∃H' e,loopO (T5 (LCo k0) m a0 a1 (arS id n)) (Hc,(i:Int))=some (.inl (H',e))∧RA m H' id n (fun j=>j)∧Fm (fun j=>j=id) Hc H':=by
 intro d;induction d with
 | zero =>
  intro i Hc hd h;have:i=n:=by omega
  subst this;refine ⟨Hc,(i:Int),N1 ?_,h.congr fun j hj=>if_pos hj,Fm.refl _ _⟩;unfold T5;simp only;rw [if_neg (by omega)]
 | succ d ih =>
  intro i Hc hd h;have hi:i<n:=by omega
  have hw:IntKind.i64.wrap ((i:Int)+1)=((i+1:Nat):Int):=P1 (n:=n) hi (by rw [N2]; omega);obtain ⟨a1',_⟩:=h.at_ hi (v:=(i:Int)) rfl;obtain ⟨H1,b1,b2,b3,b4⟩:=h.set hi i;obtain ⟨H',e,c1,c2,c3⟩:=ih (i+1) H1 (by omega) (b2.congr fun j hj=>by
   by_cases e1:j=i
   ·rw [if_pos e1,if_pos (by omega),e1]
   ·rw [if_neg e1];by_cases e2:j<i
    ·rw [if_pos e2,if_pos (by omega)]
    ·rw [if_neg e2,if_neg (by omega)])
  refine ⟨H',e,?_,c2,b3.comp c3 fun _ _ h=>h⟩;rw [J1 (s':=(H1,((i+1:Nat):Int))) ?_]
  ·exact c1
  ·unfold T5;simp only;rw [if_pos (by omega)];refine bnd a1' ?_;refine bnd b1 ?_;simp only [hw]
theorem zgu (k0:Nat) (hn:N.length≤1048576) (hid:H0.next≤id) (a0:Sl3) {e:TypeId} {m1:Nat} {s:Sl3} {sd':List Sd} (hs:SlA ES e m1 H0 sd' s) (hok:∀s∈sd',okA N s.1=true∧okA N s.2.1=true) (hsl:sd'.length≤1048576) :
  ∀(d i:Nat) (Hc:AH) (r:Nat→Nat),i+d=sd'.length→Ext H0 Hc→RA m Hc id N.length r→RQ N (Mof sd') N.length r→(∀a b,(a,b)∈Mof (sd'.take i)→r a=r b) →
  ∃H' r' e,loopO (Q4 (LCo k0) m a0 s (arS id N.length)) (Hc,(i:Int))=some (.inl (H',e))∧Ext H0 H'∧RA m H' id N.length r'∧RQ N (Mof sd') N.length r'∧∀a b,(a,b)∈Mof sd'→r' a=r' b:=by
 intro d;induction d with
 | zero =>
  intro i Hc r hd hx hr hq hM;have:i=sd'.length:=by omega
  subst this;rw [List.take_length] at hM;refine ⟨Hc,r,(sd'.length:Int),N1 ?_,hx,hr,hq,hM⟩;unfold Q4;simp only [hs.cnt];rw [if_neg (by omega)]
 | succ d ih =>
  intro i Hc r hd hx hr hq hM;have hi:i<sd'.length:=by omega
  have hw:IntKind.i64.wrap ((i:Int)+1)=((i+1:Nat):Int):=P1 (n:=sd'.length) hi (by rw [N2]; omega);obtain ⟨q,r1,r2,r3,r4,r5⟩:=rd_ES (hs.ext hx) hi (v:=(i:Int)) rfl;have htake:sd'.take (i+1)=sd'.take i++[sd'[i]]:=List.take_succ_eq_append_getElem hi;have hms:=z72 (sd'.take i) sd'[i];rw [← htake] at hms;cases hsp:sd'[i].2.2.2 with
  | true =>
   rw [hsp] at r5 hms;rw [if_pos rfl,List.append_nil] at hms;obtain ⟨H',r',e',c1,c2⟩:=ih (i+1) Hc r (by omega) hx hr hq (by rw [hms]; exact hM);refine ⟨H',r',e',?_,c2⟩;rw [J1 (s':=(Hc,((i+1:Nat):Int))) ?_]
   ·exact c1
   ·unfold Q4;simp only [hs.cnt];rw [if_pos (by omega)];refine bnd (x:=Hc) ?_ (by simp only [hw]);exact bnd r1 (bnd r5 (if_pos rfl))
  | false =>
   rw [hsp] at r5 hms;rw [if_neg (by simp)] at hms;obtain ⟨o1,o2⟩:=hok _ (List.getElem_mem hi);obtain ⟨na,ea,la⟩:=P7.1 o1;obtain ⟨nb,eb,lb⟩:=P7.1 o2;rw [ea] at r2 hms;rw [eb] at r3 hms;simp only [Int.toNat_natCast] at hms;have hin:(na,nb)∈Mof sd':=by
    unfold Mof;refine List.mem_filterMap.2 ⟨sd'[i],List.getElem_mem hi,?_⟩;rw [hsp,ea,eb];simp
   obtain ⟨H1,x,y,g1,g2,g3,g4,g5,g6⟩:=z80 k0 hn hr la lb;obtain ⟨j1,j2,_⟩:=hq.join la lb (.base hin) g5 g6;obtain ⟨H',r',e',c1,c2⟩:=ih (i+1) H1 (jn r x y) (by omega) (hx.comp g3 fun j hj _ e=>by omega) g2 j1 (by
    rw [hms];intro a b hab;rcases List.mem_append.1 hab with h | h
    ·exact zd9 (hM a b h)
    ·rw [List.mem_singleton] at h;cases h;exact j2)
   refine ⟨H',r',e',?_,c2⟩;rw [J1 (s':=(H1,((i+1:Nat):Int))) ?_]
   ·exact c1
   ·unfold Q4;simp only [hs.cnt];rw [if_pos (by omega)];refine bnd (x:=H1) ?_ (by simp only [hw]);refine bnd r1 (bnd r5 ?_);rw [if_neg (by simp)];exact bnd r1 (bnd r2 (bnd r1 (bnd r3 (bnd g1 rfl))))
theorem z81 (k0:Nat) (hG:RG m0 H0 R N sd) (hm:m≤H0.next) {e:TypeId} {m1:Nat} {s:Sl3} {sd':List Sd} (hs:SlA ES e m1 H0 sd' s) (hok:∀s∈sd',okA N s.1=true∧okA N s.2.1=true) (hsl:sd'.length≤1048576) :
  ∃H' r,X6 (LCo k0) m H0 R.sN s=some (arS H0.next N.length,H')∧Ext H0 H'∧RA m H' H0.next N.length r∧RQ N (Mof sd') N.length r∧∀i j,i<N.length→j<N.length→(r i=r j↔Cong N (Mof sd') i j):=by
 have hn:=hG.n;have hcnt:R.sN.n=N.length:=by rw [hG.rf.hN.cnt,A7 hG.rf.nal]
 obtain ⟨H1,a1,a2,a3,a4⟩:=ziz (e:=3) (bytes:=8) (m:=m) (H:=H0) (z:=.int .i64 0) (n:=N.length) (by omega) (by omega) hm;have a2':RA m H1 H0.next N.length (fun j=>if j<0 then j else 0):=by
  unfold RA;have:((List.range N.length).map fun i=>Value.int .i64 ((if i<0 then i else 0:Nat):Int))=List.replicate N.length (.int .i64 0):=by
   refine List.eq_replicate_iff.2 ⟨by simp,fun b hb=>?_⟩;obtain ⟨i,_,rfl⟩:=List.mem_map.1 hb;simp
  rw [this]; exact a2
 obtain ⟨H2,e2,b1,b2,b3⟩:=zfh k0 hn R.sN s N.length 0 H1 (by omega) a2';have x2:Ext H0 H2:=a3.comp b3 fun j hj _ e=>by omega
 obtain ⟨H3,r3,e3,c1,c2,c3,c4,c5⟩:=zgu k0 hn (Nat.le_refl _) R.sN hs hok hsl sd'.length 0 H2 _ (by omega) x2 b2 RQ.id (by intro a b h; simp [Mof] at h);obtain ⟨H4,r4,e4,d1,d2,d3,d4,d5,d6⟩:=zi2 k0 hG (Nat.le_refl _) (rts N.length r3+1) H3 r3 (by omega) c2 c3 c4 c5;refine ⟨H4,r4,?_,d2,d3,d4,fun i j hi hj=>⟨d4.snd i j hi hj,d4.full rfl hG.nok d5 d6⟩⟩;unfold X6;rw [hcnt];refine bnd (x:=(arS H0.next N.length,H1)) a1 ?_;refine bnd (x:=.inl (H2,e2)) ?_ ?_
 ·exact b1
 refine bnd (x:=.inl (H3,e3)) ?_ ?_
 ·exact c1
 refine bnd (x:=.inl (H4,e4)) ?_ rfl;exact d1
end
end Go.Proofs.YtgkhbmoidenjaaaDoor
namespace Go.Proofs.YtgkhbmoidenjaaaDoor
open Go Go.Abs Go.Abs.Eg
set_option maxRecDepth 100000
theorem rd_EZ {e:TypeId} {m:Nat} {H:AH} {s:Sl3} {l:List Int} (h:SlA EZ e m H l s) {i:Nat} (hi:i<l.length) {v:Int} (hv:v=i):∃q,idxA 1 s v=some q∧rd (deI .i64) H q=some l[i]:=by
 obtain ⟨a,h1,h2,h3,h4⟩:=h.at_ (by decide) hi hv;refine ⟨_,h2,?_⟩;have:=(h4 0 (.int .i64 l[i]) rfl).rd (deI .i64);rw [add_zero] at this;rw [this]; rfl
section
variable {m m0 m1:Nat} {H H0 Hc H':AH} {R:RL} {N:List Nd} {sd:List Sd} {zs:List Int} {s:Sl3} {e:TypeId}
theorem zgw (k0:Nat) (h:RF m0 H R N sd) (hs:SlA EZ e m1 H zs s) (mg:Bool) (hsl:sd.length≤1048576) (hzl:zs.length≤1073741824) (hup:zs.Pairwise (·<·)) (hme:∀t∈zs,∃s∈sd,s.2.2.1=t∧(mg=true→s.2.2.2=false)):V5 (LCo k0) H (RL.p R) s mg=some true:=by
 have hsn:R.sS.n=sd.length:=h.hS.cnt;have hrd:rd deSl H ((⟨R.q,0,none⟩:Addr).add 1)=some R.sS:=h.q.rd (j:=1) (v:=R.sS.v) rfl deSl;have one:∀(i:Nat) (hi:i<zs.length),∃b,loopO (G3 (LCo k0) H (RL.p R) s mg (i:Int)) (false,0)=some (.inl (true,b)):=by
  intro i hi;obtain ⟨q,r1,r2⟩:=rd_EZ hs hi (v:=(i:Int)) rfl
  let good:Sd→Bool:=fun w=>decide (w.2.2.1=zs[i])&&!(mg&&w.2.2.2)
  obtain ⟨st,g1,g2⟩:=z1p (R:=Bool) (body:=G3 (LCo k0) H (RL.p R) s mg (i:Int)) sd.length (fun j (v:Bool×Int)=>v=((sd.take j).any good,(j:Int))) (Q:=fun v=>v.1=sd.any good)
   (fun j hj v hv=>by
    subst hv;obtain ⟨q2,t1,t2,t3,t4,t5⟩:=rd_ES h.hS hj (v:=(j:Int)) rfl;have hw:IntKind.i64.wrap ((j:Int)+1)=((j+1:Nat):Int):=P1 (n:=sd.length) hj (by rw [N2]; omega);refine ⟨((sd.take (j+1)).any good,((j+1:Nat):Int)),?_,rfl⟩;have hstep:(sd.take (j+1)).any good=((sd.take j).any good||good sd[j]):=by
     rw [List.take_succ_eq_append_getElem hj,List.any_append];simp
    unfold G3;refine bnd (x:=(⟨R.q,0,none⟩:Addr)) rfl ?_;refine bnd hrd ?_;rw [hsn,if_pos (by omega)];refine bnd (x:=(sd.take (j+1)).any good) ?_ (by rw [hw]);rw [hstep];cases hb:(sd.take j).any good with
    | true=>rw [if_pos rfl]; rfl
    | false =>
     rw [if_neg (by simp)];refine bnd r1 ?_;refine bnd hrd ?_;refine bnd t1 ?_;refine bnd t4 ?_;refine bnd r2 ?_;by_cases e1:sd[j].2.2.1=zs[i]
     ·rw [if_pos e1];cases mg with
      | true =>
       rw [if_pos rfl];refine bnd hrd ?_;refine bnd t1 ?_;refine bnd t5 ?_;simp [good,e1]
      | false =>
       rw [if_neg (by simp)];simp [good,e1]
     ·rw [if_neg e1];simp [good,e1])
   (fun v hv=>by
    subst hv;refine ⟨((sd.take sd.length).any good,(sd.length:Int)),?_,by rw [List.take_length]⟩;unfold G3;refine bnd (x:=(⟨R.q,0,none⟩:Addr)) rfl ?_;refine bnd hrd ?_;rw [hsn,if_neg (by omega)])
   (s:=(false,0)) (by simp)
  obtain ⟨w,hw,h1,h2⟩:=hme _ (List.getElem_mem hi);have:sd.any good=true:=by
   rw [List.any_eq_true];refine ⟨w,hw,?_⟩;cases mg with
   | true=>simp [good,h1,h2 rfl]
   | false=>simp [good,h1]
  rw [this] at g2;obtain ⟨b1,b2⟩:=st;simp only at g2;subst g2;exact ⟨b2,g1⟩
 obtain ⟨st,g1,_⟩:=z1p (R:=Bool) (body:=m4 (LCo k0) H (RL.p R) s mg) zs.length (fun i (v:Int)=>v=(i:Int)) (Q:=fun _=>True)
  (fun i hi v hv=>by
   subst hv;obtain ⟨q,r1,r2⟩:=rd_EZ hs hi (v:=(i:Int)) rfl;obtain ⟨b,o1⟩:=one i hi;refine ⟨((i+1:Nat):Int),?_,rfl⟩;unfold m4;rw [hs.cnt,if_pos (by omega)];refine bnd (x:=false) ?_ ?_
   ·by_cases h0:i=0
    ·subst h0; rw [if_neg (by omega)]
    ·rw [if_pos (by omega)];obtain ⟨q2,r3,r4⟩:=rd_EZ hs (i:=i - 1) (by omega) (v:=((i - 1:Nat):Int)) rfl;have hw:IntKind.i64.wrap ((i:Int) - 1)=((i - 1:Nat):Int):=A6 (by omega) (by omega);refine bnd r1 ?_;refine bnd r2 ?_;rw [hw];refine bnd r3 ?_;refine bnd r4 ?_;have:=(List.pairwise_iff_getElem.1 hup) (i - 1) i (by omega) hi (by omega)
     congr 1
     rw [decide_eq_false_iff_not];omega
   ·rw [if_neg (by simp)];refine bnd (x:=.inl (true,b)) ?_ ?_
    ·exact o1
    ·simp only;rw [if_pos trivial,P1 (n:=zs.length) hi (by rw [N2]; omega)])
  (fun v hv=>by
   subst hv;refine ⟨(zs.length:Int),?_,trivial⟩;unfold m4;rw [hs.cnt,if_neg (by omega)])
  (s:=0) rfl
 unfold V5;refine bnd (x:=.inl st) ?_ rfl;exact g1
theorem of_one (k0:Nat) (hs:SlA EZ e m1 H0 zs s) (hzl:zs.length≤1073741824) (h0:RF m0 H0 R N sd) (hm:m≤H0.next) {i:Nat} (hi:i<sd.length) (hx:Ext H0 Hc) {w:List Sd} {v:Sl3} (hv:VecA ES 49 m Hc w v) (hwl:w.length≤1048576) (ho:∀id,owns v id→H0.next≤id):∀(d k:Nat),k+d=zs.length→(∀j (hj:j<zs.length),j<k→zs[j]≠sd[i].2.2.1) →
  ∃H' v' b,loopO (T3 (LCo k0) m s (i:Int) ⟨R.q,0,none⟩) (Hc,v,(k:Int))=some (.inl (H',v',b))∧VecA ES 49 m H' (if sd[i].2.2.1∈zs then w++[sd[i]] else w) v'∧Ext H0 H'∧∀id,owns v' id→H0.next≤id:=by
 have hsn:R.sS.n=sd.length:=h0.hS.cnt;have hc:=RR.ext h0 hx;have hrd:rd deSl Hc ((⟨R.q,0,none⟩:Addr).add 1)=some R.sS:=hc.q.rd (j:=1) (v:=R.sS.v) rfl deSl;obtain ⟨q2,t1,t2,t3,t4,t5⟩:=rd_ES hc.hS hi (v:=(i:Int)) rfl;intro d;induction d with
 | zero =>
  intro k hk hne;have:k=zs.length:=by omega
  subst this;have hn:sd[i].2.2.1 ∉ zs:=fun hm=>by
   obtain ⟨j,hj,e⟩:=List.mem_iff_getElem.1 hm;exact hne j hj hj e
  refine ⟨Hc,v,(zs.length:Int),N1 ?_,by rw [if_neg hn]; exact hv,hx,ho⟩;unfold T3;simp only [hs.cnt];rw [if_neg (by omega)]
 | succ d ih =>
  intro k hk hne;have hk':k<zs.length:=by omega
  obtain ⟨q,r1,r2⟩:=rd_EZ (hs.ext hx) hk' (v:=(k:Int)) rfl;by_cases he:zs[k]=sd[i].2.2.1
  ·have hmem:sd[i].2.2.1∈zs:=he▸List.getElem_mem hk';obtain ⟨z,H1,v',H2,d1,d2,d3,d4⟩:=hv.push (bytes:=32) sd[i] (by omega) (by omega) (Nat.le_trans hm hx.1) (fun id h=>(VecV.own hv id h).2);obtain ⟨x2,o2⟩:=d4.ext hx ho;refine ⟨H2,v',(k:Int),N1 ?_,by rw [if_pos hmem]; exact d3,x2,o2⟩;unfold T3;simp only [hs.cnt];rw [if_pos (by omega)];refine bnd r1 ?_;refine bnd r2 ?_;refine bnd hrd ?_;refine bnd t1 ?_;refine bnd t4 ?_;rw [if_pos he];refine bnd hrd ?_;refine bnd t1 ?_;refine bnd t2 ?_;refine bnd t3 ?_;refine bnd t4 ?_;refine bnd t5 ?_;refine bnd (x:=(z,H1)) d1 ?_;exact bnd (x:=(v',H2)) d2 rfl
  ·obtain ⟨H',v',b,c1,c2⟩:=ih (k+1) (by omega) (fun j hj hjk=>by
    by_cases e1:j=k
    ·subst e1; exact he
    ·exact hne j hj (by omega))
   refine ⟨H',v',b,?_,c2⟩;rw [J1 (s':=(Hc,v,((k+1:Nat):Int))) ?_]
   ·exact c1
   ·unfold T3;simp only [hs.cnt];rw [if_pos (by omega)];refine bnd r1 ?_;refine bnd r2 ?_;refine bnd hrd ?_;refine bnd t1 ?_;refine bnd t4 ?_;rw [if_neg he,P1 (n:=zs.length) hk' (by rw [N2]; omega)]
theorem ziy (k0:Nat) (hs:SlA EZ e m1 H0 zs s) (hzl:zs.length≤1073741824) (h0:RF m0 H0 R N sd) (hm:m≤H0.next) (hsl:sd.length≤1048576) :
  ∃v H',E6 (LCo k0) m H0 (RL.p R) s=some (v,H')∧VecA ES 49 m H' (withT sd (·∈zs)) v∧Ext H0 H':=by
 have hsn:R.sS.n=sd.length:=h0.hS.cnt;have loop:∀(d i:Nat) (Hc:AH) (v:Sl3),i+d=sd.length→Ext H0 Hc→VecA ES 49 m Hc (withT (sd.take i) (·∈zs)) v→(∀id,owns v id→H0.next≤id) →
   ∃H' v' b,loopO (K4 (LCo k0) m (RL.p R) s) (Hc,v,(i:Int))=some (.inl (H',v',b))∧VecA ES 49 m H' (withT sd (·∈zs)) v'∧Ext H0 H':=by
  intro d;induction d with
  | zero =>
   intro i Hc v hd hx hv ho;have:i=sd.length:=by omega
   subst this;rw [List.take_length] at hv;have hrd:rd deSl Hc ((⟨R.q,0,none⟩:Addr).add 1)=some R.sS:=(RR.ext h0 hx).q.rd (j:=1) (v:=R.sS.v) rfl deSl;refine ⟨Hc,v,(sd.length:Int),N1 ?_,hv,hx⟩;unfold K4;refine bnd (x:=(⟨R.q,0,none⟩:Addr)) rfl ?_;refine bnd hrd ?_;rw [hsn,if_neg (by omega)]
  | succ d ih =>
   intro i Hc v hd hx hv ho;have hi:i<sd.length:=by omega
   have hrd:rd deSl Hc ((⟨R.q,0,none⟩:Addr).add 1)=some R.sS:=(RR.ext h0 hx).q.rd (j:=1) (v:=R.sS.v) rfl deSl;have hwl:(withT (sd.take i) (·∈zs)).length≤1048576:=by
    have h2:(sd.take i).length≤sd.length:=by rw [List.length_take]; omega
    exact Nat.le_trans (List.length_filter_le _ _) (by omega)
   obtain ⟨H1,v1,b,a1,a2,a3,a4⟩:=of_one k0 hs hzl h0 hm hi hx hv hwl ho zs.length 0 (by omega) (fun j hj h=>absurd h (Nat.not_lt_zero _));have hnew:(if sd[i].2.2.1∈zs then withT (sd.take i) (·∈zs)++[sd[i]] else withT (sd.take i) (·∈zs))=withT (sd.take (i+1)) (·∈zs):=by
    unfold withT;rw [List.take_succ_eq_append_getElem hi,List.filter_append];by_cases hm:sd[i].2.2.1∈zs
    ·simp [hm]
    ·simp [hm]
   rw [hnew] at a2;obtain ⟨H',v',b',c1,c2⟩:=ih (i+1) H1 v1 (by omega) a3 a2 a4;refine ⟨H',v',b',?_,c2⟩;rw [J1 (s':=(H1,v1,((i+1:Nat):Int))) ?_]
   ·exact c1
   ·unfold K4;refine bnd (x:=(⟨R.q,0,none⟩:Addr)) rfl ?_;refine bnd hrd ?_;rw [hsn,if_pos (by omega)];refine bnd (x:=.inl (H1,v1,b)) ?_ (by rw [P1 (n:=sd.length) hi (by rw [N2]; omega)]);exact a1
 obtain ⟨H',v',b,a1,a2,a3⟩:=loop sd.length 0 H0 Sl3.nil (by omega) (Fm.refl _ _) (by rw [List.take_zero]; exact VecA.nil _ _ _ _) (fun id h=>absurd h z7f);refine ⟨v',H',?_,a2,a3⟩;unfold E6;refine bnd (x:=.inl (H',v',b)) ?_ rfl;exact a1
theorem zjk (hok:∀s∈sd,okA N s.1=true∧okA N s.2.1=true):∀s∈withT sd (·∈zs),okA N s.1=true∧okA N s.2.1=true:=fun s hs=>hok s (List.mem_filter.1 hs).1
theorem zi8 (hsl:sd.length≤1048576):(withT sd (·∈zs)).length≤1048576:=Nat.le_trans (List.length_filter_le _ _) hsl
theorem zc7 (k0:Nat) (hG:RG m0 H0 R N sd) (hm:m≤H0.next) (hs:SlA EZ e m1 H0 zs s) (hzl:zs.length≤1073741824) (hsl:sd.length≤1048576) (hok:∀s∈sd,okA N s.1=true∧okA N s.2.1=true) (hup:zs.Pairwise (·<·)) (hme:∀t∈zs,∃s∈sd,s.2.2.2=false∧s.2.2.1=t) {a b:Nat} (ha:a<N.length) (hb:b<N.length) (hc:Cong N (Mof (withT sd (·∈zs))) a b) :
  ∃H',Y5 (LCo k0) m H0 (RL.p R) s (a:Int) (b:Int)=some (true,H')∧Ext H0 H':=by
 obtain ⟨v,H1,a1,a2,a3⟩:=ziy (m:=Nat.max m H0.next) k0 hs hzl hG.rf (Nat.max_le.2 ⟨hm,Nat.le_refl _⟩) hsl;have hG1:RG m0 H1 R N sd:=⟨RR.ext hG.rf a3,hG.nok,hG.args,hG.len,hG.n⟩;obtain ⟨H2,r,b1,b2,b3,b4,b5⟩:=z81 (m:=m) k0 hG1 (Nat.le_trans hm a3.1) a2.toS (zjk hok) (zi8 hsl);obtain ⟨c1,c2⟩:=b3.at_ ha (v:=(a:Int)) rfl;obtain ⟨c3,c4⟩:=b3.at_ hb (v:=(b:Int)) rfl;refine ⟨H2,?_,a3.trans b2⟩;unfold Y5;refine bnd (zgw k0 hG.rf hs true hsl hzl hup fun t ht=>by
  obtain ⟨w,h1,h2,h3⟩:=hme t ht;exact ⟨w,h1,h3,fun _=>h2⟩) ?_
 rw [if_pos rfl];refine bnd (x:=(⟨R.q,0,none⟩:Addr)) rfl ?_;refine bnd (x:=R.sN) (hG.rf.q.rd (j:=0) (v:=R.sN.v) rfl deSl) ?_;refine bnd (x:=(v,H1)) a1 ?_;refine bnd (x:=(arS H1.next N.length,H2)) b1 ?_;refine bnd c1 ?_;refine bnd c2 ?_;refine bnd c3 ?_;refine bnd c4 ?_;have:r a=r b:=(b5 a b ha hb).2 hc;rw [this];simp
end
section
variable {T:Tys} {tx:Key→ByteArray} {m:Nat} {H:AH} {L:GL} {x:Gh} {Tb:AH→Prop}
theorem why_no (k:Nat) (h:GS T tx m Tb H L x) {a b:Nat} (ha:a<x.g.n) (hb:b<x.g.n) (ho:¬x.g.o a=x.g.o b):K3 (LCo k) m H (GL.p L) (a:Int) (b:Int)=some (Sl3.nil,false,H):=by
 obtain ⟨q1,r1,r2⟩:=h.gr.rep.of_ (i:=a) (by rw [h.gr.mi.len]; exact ha) (v:=(a:Int)) rfl;obtain ⟨q2,r3,r4⟩:=h.gr.rep.of_ (i:=b) (by rw [h.gr.mi.len]; exact hb) (v:=(b:Int)) rfl;unfold K3;refine bnd (x:=true) ?_ (by rw [if_pos rfl]);rw [I6 k h.gr.rep,decide_eq_true ⟨by omega,by omega⟩,I6 k h.gr.rep,decide_eq_true ⟨by omega,by omega⟩];simp only [Option.bind_some,if_true];rw [h.gr.rep.q (j:=4) (v:=L.sO.v) rfl deSl];simp only [show deSl (Sl3.v L.sO)=some L.sO from rfl,Option.bind_some,r1,r2,r3,r4];simp;omega
theorem zjj (k:Nat) (h:GS T tx m Tb H L x) {a b:Nat} (ha:a<x.g.n) (hb:b<x.g.n) (ho:x.g.o a=x.g.o b) :
  ∃s H' zs,K3 (LCo k) m H (GL.p L) (a:Int) (b:Int)=some (s,true,H')∧SlA EZ 3 m H' zs s∧Ext H H'∧(∀id,fpt s id→H.next≤id)∧zs.Pairwise (·<·)∧(∀t∈zs,∃s∈x.sd,s.2.2.2=false∧s.2.2.1=t)∧Cong x.g.N (Mof (withT x.sd (·∈zs))) a b:=by
 obtain ⟨q1,r1,r2⟩:=h.gr.rep.of_ (i:=a) (by rw [h.gr.mi.len]; exact ha) (v:=(a:Int)) rfl;obtain ⟨q2,r3,r4⟩:=h.gr.rep.of_ (i:=b) (by rw [h.gr.mi.len]; exact hb) (v:=(b:Int)) rfl;obtain ⟨s,H',zs,e1,e2⟩:=zbd k h ha hb ho;refine ⟨s,H',zs,?_,e2⟩;unfold K3;refine bnd (x:=false) ?_ ?_
 ·rw [I6 k h.gr.rep,decide_eq_true ⟨by omega,by omega⟩,I6 k h.gr.rep,decide_eq_true ⟨by omega,by omega⟩];simp only [Option.bind_some,if_true];rw [h.gr.rep.q (j:=4) (v:=L.sO.v) rfl deSl];simp only [show deSl (Sl3.v L.sO)=some L.sO from rfl,Option.bind_some,r1,r2,r3,r4];simp;omega
 ·rw [if_neg (by simp)];exact bnd (x:=(s,H')) e1 rfl
end
theorem zj0 {sd:List Sd} {zs:List Int} (hup:zs.Pairwise (·<·)) (hme:∀t∈zs,∃s∈sd,s.2.2.2=false∧s.2.2.1=t):zs.length≤sd.length:=by
 have h1:zs.Nodup:=hup.imp fun h=>by omega
 have:=z95 h1 (l':=sd.map fun s=>s.2.2.1) fun t ht=>by
  obtain ⟨s,h1,_,h3⟩:=hme t ht;exact List.mem_map.2 ⟨s,h1,h3⟩
 rwa [List.length_map] at this
theorem PG.rg {T:Tys} {m:Nat} {H0 H:AH} {L:GL} {x:Gh} {R:RL} (h:PG T m H0 H L x R):RG m H R x.g.N x.sd :=
 ⟨h.rf,h.nok,h.gs.gr.mi.args,fun y hy=>by
  obtain ⟨i,hi,rfl⟩:=List.mem_iff_getElem.1 hy;exact h.gs.gr.sm.args i _ (List.getElem?_eq_getElem hi),h.gs.gr.sm.n⟩
theorem zfk (k:Nat) {H:AH} (hH:HasT H) {s:Sl3} {ops:List OpD} (hs:OpsR H s ops) (hb:bulkO ops≤1048576):∃H',F6 (LCo k) H.next H s=some (true,H'):=by
 have hbo:ops.length≤1048576:=by unfold bulkO at hb; omega
 have hE:=env0 (T:=ty0) (m:=H.next) ty0_ok hH (Nat.le_refl _);obtain ⟨H1,L,x,R,a1,a2,a3,a4⟩:=zdr (m:=H.next) hH (Nat.le_refl _) (pe (T:=ty0)) ty0_ok k (Fm.refl _ _) (Nat.le_refl _) hs hb;have hsl:x.sd.length≤1048576:=by omega
 have hn:x.g.N.length≤1048576:=a2.gs.gr.sm.n;obtain ⟨H2,r,b1,b2,b3,b4,b5⟩:=z81 (m:=H.next) k a2.rg a2.gs.gr.nm (s:=R.sS) a2.rf.hS a2.gs.sdr hsl;have hr1:rd deSl H1 ((⟨R.q,0,none⟩:Addr).add 0)=some R.sN:=a2.rf.q.rd (j:=0) (v:=R.sN.v) rfl deSl;have hr2:rd deSl H1 ((⟨R.q,0,none⟩:Addr).add 1)=some R.sS:=a2.rf.q.rd (j:=1) (v:=R.sS.v) rfl deSl;have row:∀(a:Nat),a<x.g.N.length→∀Hc,Ext H2 Hc→∃H' e,loopO (A3 (LCo k) H.next (GL.p L) ⟨R.q,0,none⟩ (arS H1.next x.g.N.length) (a:Int)) (Hc,0)=some (.inl (H',e))∧Ext H2 H':=by
  intro a ha Hc hx;obtain ⟨⟨Hz,e⟩,g1,g2⟩:=z1p (R:=Bool×AH) (body:=A3 (LCo k) H.next (GL.p L) ⟨R.q,0,none⟩ (arS H1.next x.g.N.length) (a:Int)) x.g.N.length (fun j (v:AH×Int)=>v.2=(j:Int)∧Ext H2 v.1) (Q:=fun v=>Ext H2 v.1)
   (fun b hb v hv=>by
    obtain ⟨Hd,v2⟩:=v;obtain ⟨hv1,hx1⟩:=hv;simp only at hv1 hx1;subst hv1;have hw:IntKind.i64.wrap ((b:Int)+1)=((b+1:Nat):Int):=P1 (n:=x.g.N.length) hb (by rw [N2]; omega);have hpg:=a2.ext hE (b2.trans hx1);have main:∃s15 is Hm,K3 (LCo k) H.next Hd (GL.p L) (a:Int) (b:Int)=some (s15,is,Hm)∧Ext Hd Hm∧(is == decide (((r a:Nat):Int)=((r b:Nat):Int)))=true∧((is=true∧∃Hr,Y5 (LCo k) H.next Hm (RL.p R) s15 (a:Int) (b:Int)=some (true,Hr)∧Ext Hm Hr)∨(is=false∧s15.n=0)):=by
     by_cases ho:x.g.o a=x.g.o b
     ·obtain ⟨s15,Hm,zs,e1,e2,e3,e4,e5,e6,e7⟩:=zjj k hpg.gs (a:=a) (b:=b) ha hb ho;have hcg:=(a2.gs.gr.mi.iff (i:=a) (j:=b) ha hb).1 ho;have hrr:=(b5 a b ha hb).2 hcg;have hpm:=hpg.ext hE e3;obtain ⟨Hr,f1,f2⟩:=zc7 (m:=H.next) k hpm.rg hpm.gs.gr.nm e2 (Nat.le_trans (zj0 e5 e6) (by omega)) hsl a2.gs.sdr e5 e6 ha hb e7;exact ⟨s15,true,Hm,e1,e3,by rw [hrr]; simp,.inl ⟨rfl,Hr,f1,f2⟩⟩
     ·have hne:¬r a=r b:=fun h=>ho ((a2.gs.gr.mi.iff (i:=a) (j:=b) ha hb).2 ((b5 a b ha hb).1 h));refine ⟨Sl3.nil,false,Hd,why_no k hpg.gs (a:=a) (b:=b) ha hb ho,Fm.refl _ _,?_,.inr ⟨rfl,rfl⟩⟩;rw [decide_eq_false (by omega)]; rfl
    obtain ⟨s15,is,Hm,c1,c2,c3,c4⟩:=main;have hxm:Ext H2 Hm:=hx1.trans c2;obtain ⟨d1,d2⟩:=(b3.fr hxm fun h=>h).at_ ha (v:=(a:Int)) rfl;obtain ⟨d3,d4⟩:=(b3.fr hxm fun h=>h).at_ hb (v:=(b:Int)) rfl;rcases c4 with ⟨rfl,Hr,f1,f2⟩ | ⟨rfl,f1⟩
    ·refine ⟨(Hr,((b+1:Nat):Int)),?_,rfl,hxm.trans f2⟩;unfold A3;simp only;rw [if_pos (by omega)];refine bnd (x:=(s15,true,Hm)) c1 ?_;refine bnd (x:=(Hr,false)) ?_ (by simp only [hw,Bool.false_eq_true,if_false]);refine bnd d1 ?_;refine bnd d2 ?_;refine bnd d3 ?_;refine bnd d4 ?_;rw [if_pos c3];simp only [if_true];refine bnd (x:=(true,Hr)) f1 ?_;simp only [if_true,Bool.not_true];split
     ·split <;> rfl
     ·rfl
    ·refine ⟨(Hm,((b+1:Nat):Int)),?_,rfl,hxm⟩;unfold A3;simp only;rw [if_pos (by omega)];refine bnd (x:=(s15,false,Hm)) c1 ?_;refine bnd (x:=(Hm,false)) ?_ (by simp only [hw,Bool.false_eq_true,if_false]);refine bnd d1 ?_;refine bnd d2 ?_;refine bnd d3 ?_;refine bnd d4 ?_;rw [if_pos c3];simp only [f1,Bool.false_eq_true,if_false];simp)
   (fun v hv=>by
    obtain ⟨Hd,v2⟩:=v;obtain ⟨hv1,hx1⟩:=hv;simp only at hv1 hx1;subst hv1;refine ⟨(Hd,(x.g.N.length:Int)),?_,hx1⟩;unfold A3;simp only;rw [if_neg (by omega)])
   (s:=(Hc,0)) ⟨rfl,hx⟩
  exact ⟨Hz,e,g1,g2⟩
 obtain ⟨⟨Hz,e⟩,g1,g2⟩:=z1p (R:=Bool×AH) (body:=Y3 (LCo k) H.next (GL.p L) ⟨R.q,0,none⟩ (arS H1.next x.g.N.length)) x.g.N.length (fun j (v:AH×Int)=>v.2=(j:Int)∧Ext H2 v.1) (Q:=fun v=>Ext H2 v.1)
  (fun a ha v hv=>by
   obtain ⟨Hd,v2⟩:=v;obtain ⟨hv1,hx1⟩:=hv;simp only at hv1 hx1;subst hv1;obtain ⟨H',e',h1,h2⟩:=row a ha Hd hx1;refine ⟨(H',((a+1:Nat):Int)),?_,rfl,h2⟩;unfold Y3;simp only;rw [if_pos (by omega)];refine bnd (x:=.inl (H',e')) ?_ (by simp only [P1 (n:=x.g.N.length) ha (by rw [N2]; omega)]);exact h1)
  (fun v hv=>by
   obtain ⟨Hd,v2⟩:=v;obtain ⟨hv1,hx1⟩:=hv;simp only at hv1 hx1;subst hv1;refine ⟨(Hd,(x.g.N.length:Int)),?_,hx1⟩;unfold Y3;simp only;rw [if_neg (by omega)])
  (s:=(H2,0)) ⟨rfl,Fm.refl _ _⟩
 refine ⟨Hz,?_⟩;unfold F6;refine bnd (x:=(GL.p L,RL.p R,true,H1)) a1 ?_;simp only [if_true];refine bnd (x:=(⟨R.q,0,none⟩:Addr)) rfl ?_;refine bnd hr1 ?_;refine bnd hr2 ?_;refine bnd (x:=(arS H1.next x.g.N.length,H2)) b1 ?_;refine bnd (x:=.inl (Hz,e)) ?_ ?_
 ·exact g1
 ·refine bnd (zg9 (LCo k) (hH.ext ((a2.old.trans b2).trans g2))) rfl
end Go.Proofs.YtgkhbmoidenjaaaDoor
namespace Go.Proofs.YtgkhbmoidenjaaaDoor
open Go Go.Abs Go.Abs.Eg Go.ChangeShapes Go.WideShapes
set_option maxRecDepth 100000
theorem z7m {H:Type} {enc:TypeId×Value→H} {W:World} {base:Nat} {args:Array Value} {ds:List (DataW H)} {ps:List MemPlace} (hg:Tryd.prog.globals.size≤W.heap.size)
  (hval:∀(j:Nat) t v,Tryd.f3.params[j]? = some t→args[j]? = some v→Value.okWide Tryd.prog W .any base t v)
  (hA:DataW.TrodAll enc Tryd.prog W 0 (fun _=>true) true Tryd.f3.params.toList args.toList ds ps) (hL:laidMet Tryd.prog Rows.egraphWhysUptoRow.laid W) (hsh:W.ShapedOpen Tryd.prog)
  (hk:Rows.uptoSmall H ds=true) (hwt:(DataW.weightsEach Tryd.prog (Tryd.f3.params.toList++[]) ds).all (·≤reachBytes)=true) :
  Calls Tryd.prog 3 args W fun e W'=>e=.returned (.bool true)∧RowKit.Below W.heap.size W W':=by
 rw [Tryd.params3] at hA hval hwt;obtain ⟨v0,vs0,d0,ds0,p0,q0,hargs,rfl,rfl,h0,r0⟩:=trodAll_cons hA;obtain ⟨rfl,rfl,rfl⟩:=trodAll_nil r0;obtain rfl:args=#[v0]:=by cases args; simp_all
 simp only [List.append_nil,DataW.weightsEach] at hwt;have hk:=bulks.bound hk;simp only [Rows.uptoBulkAll] at hk;obtain ⟨φ0,H0x,s0,o0,i0,le0,e0,vr0,va0,bk0⟩:=zed (zio hg hL hsh) h0 (hval 0 22 v0 rfl rfl) hwt;obtain ⟨H',hr⟩:=zfk 1 (zf9.ext e0) va0 (by omega);exact zad (ne:=NE.plain 1000) sane (z4x hr) i0 (ar1 vr0)
theorem z75 (os:Os) {H:Type} (enc:TypeId×Value→H):∃x,DataW.whole enc Tryd.prog ((laidW2 Tryd.prog Rows.egraphWhysUptoRow.laid os).forCall (fun _ _=>0) ⟨#[],#[.slice none 0 0],[]⟩).memory Tryd.f3.params.toList Rows.egraphWhysSpec.vars false (#[.slice none 0 0]:Array Value).toList 8=some ([.nil],[],x) :=
 ⟨[],by kernel_rfl⟩
theorem z6h (os:Os) (started:os.Started) (H:Type) (enc:TypeId×Value→H) (F:Stop.Interp) :
  ReturnsInHanded {} Tryd.checked os 3 .any ((Rows.OpenSpec.upto Rows.egraphWhysSpec).preRow enc Tryd.prog Tryd.f3 Rows.egraphWhysUptoRow.domain false Rows.egraphWhysUptoRow.laid) (((Rows.OpenSpec.upto Rows.egraphWhysSpec).at F).post enc Tryd.prog Tryd.f3 false true false false):=by
 obtain ⟨x,hx⟩:=z75 os enc;exact z8l (C:=Tryd.checked) (s:=Rows.OpenSpec.upto Rows.egraphWhysSpec) (k:=Rows.uptoSmall) rfl own started (by kernel_rfl) Tryd.func3 zel laidOut (by kernel_rfl) rfl (by kernel_rfl)
  (fun ds hds=>by
   have h1:ds.length=1:=hds
   match ds,h1 with
   | [d0],_=>exact ⟨rfl,rfl,rfl⟩)
  rfl (by kernel_rfl)
  (witness_row_atRef (enc:=enc) (C:=Tryd.checked) false (laidW2 Tryd.prog Rows.egraphWhysUptoRow.laid os) #[.slice none 0 0] rfl (by kernel_rfl) (by kernel_rfl) (by kernel_rfl)
   (OpenSpec.preRow_of_cond 8 hx (by kernel_rfl) (fun k hk=>by cases hk; kernel_rfl) (by kernel_rfl) (zih os _)))
  (fun W base args ds ps hg hval hA hk hL hsh hwt=>z7m hg hval hA hL hsh hk hwt)
theorem z7x:Rows.EgraphWhysUptoSaid :=
 OpenClaim.holds_of_cond 3 Tryd.f3 rfl rfl rfl rfl rfl rfl rfl ⟨rfl,rfl,rfl,rfl,rfl⟩ rfl rfl rfl rfl rfl (by kernel_rfl) Tryd.func3 (by kernel_rfl)
  (of_decide_eq_true (by kernel_rfl)) (by unfold Func.isWrapper; first | (rw [if_pos (by decide +kernel)]; kernel_rfl) | (rw [if_neg (by decide +kernel)]; exact ⟨rfl,rfl⟩))
  (fun os started H enc _ F=>by rw [OpenClaim.pre_eq_preRow]; exact z6h os started H enc F)
theorem z7t (f:FuncId) (fn:Func) (hf:Tryd.pinned.checked.prog.funcNamed "tribunal/tribunallaw15.EgraphWhys"=some f) (hfn:Tryd.pinned.checked.prog.funcs[f]? = some fn) :
  false=Tryd.pinned.checked.prog.looks []∧∀(j:Nat) t,fn.params[j]? = some t→Tryd.pinned.checked.prog.wantsStandIn t=false:=by
 obtain rfl:f=3:=Option.some.inj ((show Tryd.prog.funcNamed "tribunal/tribunallaw15.EgraphWhys"=some 3 by kernel_rfl).symm.trans hf) |>.symm;obtain rfl:fn=Tryd.f3:=(Option.some.inj (Tryd.func3.symm.trans hfn)).symm;exact ⟨by kernel_rfl,fun j t ht=>by
  have hall:(Tryd.f3.params.toList.all fun u=>!Tryd.prog.wantsStandIn u)=true:=by kernel_rfl
  have hm:t∈Tryd.f3.params.toList:=by simpa using Array.mem_of_getElem? ht
  exact (show Tryd.prog.wantsStandIn t=false by simpa using List.all_eq_true.1 hall t hm)⟩
theorem egraphWhys_holds:Rows.EgraphWhysUptoCardSaid :=
 Claim7.holds_tied_plain_at .later [] _ _ _ _ z7x (fun _ h=>by cases h) (by kernel_rfl) (fun _ h=>by cases h) egraphWhysUpto_row_tie rfl ⟨rfl,rfl⟩ (by kernel_rfl) rfl z7t (by kernel_rfl)
#print axioms egraphWhys_holds
end Go.Proofs.YtgkhbmoidenjaaaDoor
