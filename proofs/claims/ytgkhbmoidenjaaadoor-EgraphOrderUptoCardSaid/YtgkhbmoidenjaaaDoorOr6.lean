/- EgraphOrder is proved where what it reads is of bulk at most 1048576: it returns true and its argument reads as before. No condition beyond the row's own (listed tables of Go's library as the text lays them). -/
import Derived.Test.YtgkhbmoidenjaaaDoorOr5
namespace Go.Proofs.YtgkhbmoidenjaaaDoor
open Go Go.Abs Go.Abs.Eg
set_option maxRecDepth 100000
section
variable {m:Nat} {H:AH} {R:RL} {N:List Nd} {sd:List Sd}
abbrev RF (m:Nat) (H:AH) (R:RL) (N:List Nd) (sd:List Sd):Prop:=RR 32 42 49 m H R N sd
abbrev RL.p (R:RL):Option Addr:=some ⟨R.q,0,none⟩
theorem zel (k:Nat) {s1 s2:Sl3} {m1 m2:Nat} {z y:Nd} (hz:SlA EI 3 m1 H z.args s1) (hy:SlA EI 3 m2 H y.args s2) (hl:z.args.length≤64):z67 (LCo k) H z.sym z.value s1 y.sym y.value s2=some (decide (z=y)):=by
 have first:(if z.sym=y.sym then if (z.value == y.value)=true then some (!decide ((s1.n:Int)=(s2.n:Int))) else some true else some true:Option Bool)=some (!(decide (z.sym=y.sym)&&(decide (z.value=y.value)&&decide (z.args.length=y.args.length)))):=by
  rw [hz.cnt,hy.cnt]
  by_cases h1:z.sym=y.sym
  ·rw [if_pos h1]
   by_cases h2:z.value=y.value
   ·rw [if_pos (by rw [h2]; simp)]
    by_cases h3:z.args.length=y.args.length
    ·simp [h1,h2,h3]
    ·have:¬(z.args.length:Int)=(y.args.length:Int):=by omega
     simp [h1,h2,h3]
     exact this
   ·rw [if_neg (by simpa using h2)]
    simp [h2]
  ·rw [if_neg h1]
   simp [h1]
 unfold z67
 refine (congrArg (fun o=>Option.bind o _) first).trans ?_
 simp only [Option.bind_some]
 by_cases hc:z.sym=y.sym∧z.value=y.value∧z.args.length=y.args.length
 ·obtain ⟨c1,c2,c3⟩:=hc
  rw [if_neg (by simp [c1,c2,c3])]
  have A:=scanI (f:=z2c (LCo k) H z.sym z.value s1 y.sym y.value s2) z.args.length (fun i=>decide (z.args[i]? ≠ y.args[i]?)) (fun i=>(i:Int)) (fun _=>false) (fun i hi hp=>?_) (fun i hi hp=>?_) ?_
  rotate_left
  ·obtain ⟨q1,r1,r2⟩:=rd_EI hz hi (v:=(i:Int)) rfl
   obtain ⟨q2,r3,r4⟩:=rd_EI hy (i:=i) (by omega) (v:=(i:Int)) rfl
   have he:z.args[i]=y.args[i]'(by omega):=by
    have:=of_decide_eq_false hp
    rw [List.getElem?_eq_getElem hi,List.getElem?_eq_getElem (show i<y.args.length by omega)] at this
    simpa using this
   unfold z2c
   simp only [hz.cnt,if_pos (show (i:Int)<(z.args.length:Int) by omega),r1,r2,r3,r4,Option.bind_some]
   rw [if_pos (by rw [he]),zv (n:=z.args.length) hi (by rw [z1g]; omega)]
  ·obtain ⟨q1,r1,r2⟩:=rd_EI hz hi (v:=(i:Int)) rfl
   obtain ⟨q2,r3,r4⟩:=rd_EI hy (i:=i) (by omega) (v:=(i:Int)) rfl
   have he:¬z.args[i]=y.args[i]'(by omega):=by
    have:=of_decide_eq_true hp
    rw [List.getElem?_eq_getElem hi,List.getElem?_eq_getElem (show i<y.args.length by omega)] at this
    simpa using this
   unfold z2c
   simp only [hz.cnt,if_pos (show (i:Int)<(z.args.length:Int) by omega),r1,r2,r3,r4,Option.bind_some]
   rw [if_neg (by omega)]
  ·unfold z2c
   simp only [hz.cnt,if_neg (show ¬((z.args.length:Int)<(z.args.length:Int)) by omega)]
  rcases A with ⟨i,hi,hp,_,e⟩ | ⟨hall,e⟩
  ·rw [show (LCo k).run (z2c (LCo k) H z.sym z.value s1 y.sym y.value s2) 0=some (.inr false) from e]
   have:¬z=y:=fun h=>by
    rw [h] at hp
    simp at hp
   simp only [Option.bind_some,decide_eq_false this]
  ·rw [show (LCo k).run (z2c (LCo k) H z.sym z.value s1 y.sym y.value s2) 0=some (.inl (z.args.length:Int)) from e]
   have:z=y:=by
    have ha:z.args=y.args:=by
     refine List.ext_getElem? fun i=>?_
     by_cases hi:i<z.args.length
     ·have:=of_decide_eq_false (hall i hi)
      simpa using this
     ·rw [List.getElem?_eq_none (by omega),List.getElem?_eq_none (by omega)]
    cases z; cases y
    simp only at c1 c2 ha
    rw [c1,c2,ha]
   simp only [Option.bind_some,decide_eq_true this]
 ·have hb:(!(decide (z.sym=y.sym)&&(decide (z.value=y.value)&&decide (z.args.length=y.args.length))))=true:=by
   by_cases h1:z.sym=y.sym
   ·by_cases h2:z.value=y.value
    ·have h3:¬z.args.length=y.args.length:=fun h3=>hc ⟨h1,h2,h3⟩
     simp [h3]
    ·simp [h2]
   ·simp [h1]
  rw [if_pos hb,decide_eq_false]
  rintro rfl
  exact hc ⟨rfl,rfl,rfl⟩
structure RO (m n0:Nat) (H:AH) (R:RL) (H':AH) (R':RL) (N:List Nd) (sd:List Sd):Prop where
 rr:RF m H' R' N sd
 q:R'.q=R.q
 nm:m≤H'.next
 fm:Fm (fun id=>id<n0→R.fp id) H H'
 fp:∀id,R'.fp id→R.fp id∨n0≤id
theorem zcb (k:Nat) (h:RF m H R N sd) (hm:m≤H.next) {y:Nd} {sl:Sl3} (hs:SlA EI 3 m H y.args sl) {n0:Nat} (hn0:n0≤H.next) (hf:∀id,fpt sl id→n0≤id) (hd:∀id,R.fp id→¬fpt sl id) (hl:∀z∈N,z.args.length≤64) (hN:N.length≤1048576) :
  ∃H' R',z28 (LCo k) m H (RL.p R) y.sym y.value sl=some ((putP N y).1,(putP N y).2.1,H')∧RO m n0 H R H' R' (putP N y).2.2 sd:=by
 have hcnt:R.sN.n=N.length:=by rw [h.hN.cnt,z4g h.nal]
 have A:=scanI (f:=z1h (LCo k) H (RL.p R) y.sym y.value sl) N.length (fun i=>decide (N[i]? = some y)) (fun i=>(i:Int)) (fun i=>((i:Int),0,H)) (fun i hi hp=>?_) (fun i hi hp=>?_) ?_
 rotate_left
 ·obtain ⟨q,s,r1,r2,r3,r4,r5,_⟩:=h.node hi (v:=(i:Int)) rfl
  have hne:¬N[i]=y:=by
   have:=of_decide_eq_false hp
   rw [List.getElem?_eq_getElem hi] at this
   simpa using this
  unfold z1h
  simp only [Option.bind_some]
  rw [h.q.rd (j:=0) (v:=R.sN.v) rfl deSl]
  simp only [show deSl (Sl3.v R.sN)=some R.sN from rfl,Option.bind_some,hcnt,if_pos (show (i:Int)<(N.length:Int) by omega),r1,r2,r3,r4]
  rw [zel k r5 hs (hl _ (List.getElem_mem hi)),decide_eq_false hne]
  simp only [Option.bind_some,Bool.false_eq_true,if_false]
  rw [zv (n:=N.length) hi (by rw [z1g]; omega)]
 ·obtain ⟨q,s,r1,r2,r3,r4,r5,_⟩:=h.node hi (v:=(i:Int)) rfl
  have he:N[i]=y:=by
   have:=of_decide_eq_true hp
   rw [List.getElem?_eq_getElem hi] at this
   simpa using this
  unfold z1h
  simp only [Option.bind_some]
  rw [h.q.rd (j:=0) (v:=R.sN.v) rfl deSl]
  simp only [show deSl (Sl3.v R.sN)=some R.sN from rfl,Option.bind_some,hcnt,if_pos (show (i:Int)<(N.length:Int) by omega),r1,r2,r3,r4]
  rw [zel k r5 hs (hl _ (List.getElem_mem hi)),decide_eq_true he]
  simp only [Option.bind_some,if_true]
 ·unfold z1h
  simp only [Option.bind_some]
  rw [h.q.rd (j:=0) (v:=R.sN.v) rfl deSl]
  simp only [show deSl (Sl3.v R.sN)=some R.sN from rfl,Option.bind_some,hcnt,if_neg (show ¬((N.length:Int)<(N.length:Int)) by omega)]
 unfold z28
 rcases A with ⟨i,hi,hp,hfst,e⟩ | ⟨hall,e⟩
 ·rw [show (LCo k).run (z1h (LCo k) H (RL.p R) y.sym y.value sl) 0=some (.inr ((i:Int),0,H)) from e]
  have he:N[i]=y:=by
   have:=of_decide_eq_true hp
   rw [List.getElem?_eq_getElem hi] at this
   simpa using this
  have hfi:=zfa hi he fun j hj hh=>by
   have:=of_decide_eq_false (hfst j hj)
   rw [List.getElem?_eq_getElem (show j<N.length by omega)] at this
   exact this (by rw [hh])
  have hp:putP N y=((i:Int),0,N):=by unfold putP; rw [hfi]
  rw [hp]
  exact ⟨H,R,rfl,h,rfl,hm,Fm.refl _ _,fun _ h=>.inl h⟩
 ·rw [show (LCo k).run (z1h (LCo k) H (RL.p R) y.sym y.value sl) 0=some (.inl (N.length:Int)) from e]
  have hfi:=zgk (N:=N) (y:=y) fun j hj hh=>by
   have:=of_decide_eq_false (hall j hj)
   rw [List.getElem?_eq_getElem hj] at this
   exact this (by rw [hh])
  simp only [Option.bind_some]
  rw [h.q.rd (j:=0) (v:=R.sN.v) rfl deSl]
  simp only [show deSl (Sl3.v R.sN)=some R.sN from rfl,Option.bind_some,hcnt]
  by_cases hbig:1048576≤N.length
  ·have hp:putP N y=(0,3,N):=by unfold putP; rw [hfi]; simp only [if_pos hbig]
   rw [hp,if_pos (show ((N.length:Nat):Int)≥1048576 by omega)]
   exact ⟨H,R,rfl,h,rfl,hm,Fm.refl _ _,fun _ h=>.inl h⟩
  ·have hp:putP N y=(((N.length:Nat):Int),0,N++[y]):=by unfold putP; rw [hfi]; simp only [if_neg hbig]
   rw [hp,if_neg (show ¬((N.length:Nat):Int)≥1048576 by omega)]
   obtain ⟨z,H0,s',H1,H2,a1,a2,a3,a4,a5,a6⟩:=h.pushN y hs hd hN hm
   refine ⟨H2,{ R with sN:=s',na:=R.na++[sl] },?_,a4,rfl,Nat.le_trans hm a5.1,a5.weak fun id _ hid _=>hid.elim (fun e=>.inl e) fun e=>.inr (.inl e),fun id hid=>?_⟩
   ·rw [a1]
    simp only [Option.bind_some]
    rw [a2]
    simp only [Option.bind_some]
    rw [a3]
    simp only [Option.bind_some]
    rw [show rd deSl H2 ((⟨R.q,0,none⟩:Addr).add 0)=some s' from a4.q.rd (j:=0) (v:=s'.v) rfl deSl]
    simp only [Option.bind_some]
    have hc:s'.n=N.length+1:=by
     have:=a4.hN.cnt
     rw [show ({ R with sN:=s',na:=R.na++[sl] }:RL).sN=s' from rfl] at this
     rw [this,zej h.nal,List.length_append,z4g h.nal]
     rfl
    rw [hc,z13 (n:=N.length) (by omega) (by omega)]
   ·rcases hid with e0 | e0 | e0 | ⟨s0,hs',e0⟩
    ·exact .inl (.inl e0)
    ·rcases a6 id e0 with e0 | e0
     ·exact .inl (.inr (.inl e0))
     ·exact .inr (Nat.le_trans hn0 e0)
    ·exact .inl (.inr (.inr (.inl e0)))
    ·rcases List.mem_append.1 hs' with h1 | h1
     ·exact .inl (.inr (.inr (.inr ⟨s0,h1,e0⟩)))
     ·rw [List.mem_singleton] at h1
      rw [h1] at e0
      exact .inr (hf id e0)
theorem zfn (k:Nat) (h:RF m H R N sd) (hm:m≤H.next) (v:Int) (hl:∀z∈N,z.args.length≤64) (hN:N.length≤1048576) :
  ∃H' R',z36 (LCo k) m H (RL.p R) v=some ((valP N v).1,(valP N v).2.1,H')∧RO m H.next H R H' R' (valP N v).2.2 sd:=by
 obtain ⟨H',R',a1,a2⟩:=zcb k h hm (y:=⟨true,v,[]⟩) (sl:=Sl3.nil) SlA.nil (n0:=H.next) (Nat.le_refl _) (fun id h=>absurd h zu) (fun _ _=>zu) hl hN
 refine ⟨H',R',?_,a2⟩
 unfold z36
 rw [show z28 (LCo k) m H (RL.p R) v true Sl3.nil=_ from a1]
 rfl
theorem z5y (k:Nat) (h:RF m H R N sd) (a:Int):z1o (LCo k) H (RL.p R) a=some (okA N a):=by
 have hcnt:R.sN.n=N.length:=by rw [h.hN.cnt,z4g h.nal]
 unfold z1o
 by_cases h0:a≥0
 ·rw [if_pos h0]
  simp only [Option.bind_some]
  rw [h.q.rd (j:=0) (v:=R.sN.v) rfl deSl]
  simp only [show deSl (Sl3.v R.sN)=some R.sN from rfl,Option.bind_some,hcnt]
  unfold okA
  congr 1
  exact decide_eq_decide.2 ⟨fun h1=>⟨h0,h1⟩,fun h1=>h1.2⟩
 ·rw [if_neg h0]
  unfold okA
  congr 1
  exact (decide_eq_false fun h1=>h0 h1.1).symm
theorem zh6 (k:Nat) (h:RF m H R N sd) (hm:m≤H.next) {v:Int} {s:Sl3} {aa:List Int} (hs:Eg.AR H s aa) (hl:∀z∈N,z.args.length≤64) (hN:N.length≤1048576) :
  ∃H' R',z3n (LCo k) m H (RL.p R) v s=some ((addP N v aa).1,(addP N v aa).2.1,H')∧RO m H.next H R H' R' (addP N v aa).2.2 sd:=by
 unfold z3n
 rw [hs.n]
 by_cases hbig:64<aa.length
 ·have hp:addP N v aa=(0,51,N):=by unfold addP; rw [if_pos hbig]
  rw [if_pos (show ((aa.length:Nat):Int) > 64 by omega),hp]
  exact ⟨H,R,rfl,h,rfl,hm,Fm.refl _ _,fun _ h=>.inl h⟩
 ·rw [if_neg (show ¬((aa.length:Nat):Int) > 64 by omega)]
  have A:=scanI (f:=z1i (LCo k) H (RL.p R) v s) aa.length (fun i=>match aa[i]? with
    | some a=>!okA N a
    | none=>false) (fun i=>(i:Int)) (fun _=>(0,150,H)) (fun i hi hp=>?_) (fun i hi hp=>?_) ?_
  rotate_left
  ·rw [List.getElem?_eq_getElem hi] at hp
   obtain ⟨q,r1,r2⟩:=hs.at_ i hi
   have hp:okA N aa[i]=true:=by simpa using hp
   unfold z1i
   simp only [hs.n,if_pos (show (i:Int)<(aa.length:Int) by omega),r1,r2,Option.bind_some]
   rw [z5y k h,hp]
   simp only [Option.bind_some,if_true]
   rw [zv (n:=aa.length) hi (by rw [z1g]; omega)]
  ·rw [List.getElem?_eq_getElem hi] at hp
   obtain ⟨q,r1,r2⟩:=hs.at_ i hi
   have hp:okA N aa[i]=false:=by simpa using hp
   unfold z1i
   simp only [hs.n,if_pos (show (i:Int)<(aa.length:Int) by omega),r1,r2,Option.bind_some]
   rw [z5y k h,hp]
   rfl
  ·unfold z1i
   simp only [hs.n,if_neg (show ¬((aa.length:Int)<(aa.length:Int)) by omega)]
  rcases A with ⟨i,hi,hp,_,e⟩ | ⟨hall,e⟩
  ·rw [show (LCo k).run (z1i (LCo k) H (RL.p R) v s) 0=some (.inr (0,150,H)) from e]
   rw [List.getElem?_eq_getElem hi] at hp
   have hp:okA N aa[i]=false:=by simpa using hp
   have hf:aa.all (okA N)=false:=by
    rw [List.all_eq_false]
    exact ⟨_,List.getElem_mem hi,by rw [hp]; simp⟩
   have hp:addP N v aa=(0,150,N):=by unfold addP; rw [if_neg hbig,hf]; rfl
   rw [hp]
   exact ⟨H,R,rfl,h,rfl,hm,Fm.refl _ _,fun _ h=>.inl h⟩
  ·rw [show (LCo k).run (z1i (LCo k) H (RL.p R) v s) 0=some (.inl (aa.length:Int)) from e]
   have hok:∀a∈aa,okA N a=true:=fun a ha=>by
    obtain ⟨i,hi,rfl⟩:=List.mem_iff_getElem.1 ha
    have:=hall i hi
    rw [List.getElem?_eq_getElem hi] at this
    simpa using this
   have hp:addP N v aa=putP N ⟨false,v,aa.map Int.toNat⟩:=by unfold addP; rw [if_neg hbig,List.all_eq_true.2 hok]; rfl
   have hnn:∀a∈aa,0≤a:=fun a ha=>by obtain ⟨n,rfl,_⟩:=z3r.1 (hok a ha); exact Int.natCast_nonneg n
   have hz:=hs.rdv
   rw [zal hnn] at hz
   obtain ⟨s',H1,b1,b2,b3,b4⟩:=SlA.app (E:=EI) (e:=3) (m:=m) (bytes:=8) (l:=[]) (l':=aa.map Int.toNat) (s:=Sl3.nil) (z:=s) SlA.nil (by rw [List.length_map]; exact hz) (by simp only [List.length_nil,List.length_map,Nat.zero_add]; omega) (by simp only [List.length_nil,List.length_map,Nat.zero_add]; omega) hm
   have x1:Ext H H1:=⟨b3.1,fun id b hid _ hg=>b3.2 id b hid zu hg⟩
   have hfr:∀id,fpt s' id→H.next≤id:=fun id hid=>(b4 id hid).resolve_left zu
   obtain ⟨H',R',c1,c2⟩:=zcb k (RR.ext h x1) (Nat.le_trans hm x1.1) (y:=⟨false,v,aa.map Int.toNat⟩) (sl:=s') b2 (n0:=H.next) x1.1 hfr (fun id hid hf=>by have:=(RR.low h hid).2; have:=hfr id hf; omega) hl hN
   refine ⟨H',R',?_,by rw [hp]; exact c2.rr,c2.q,c2.nm,⟨Nat.le_trans x1.1 c2.fm.1,fun id b hid hw hg=>c2.fm.2 id b (Nat.lt_of_lt_of_le hid x1.1) hw (x1.2 id b hid (fun h=>h) hg)⟩,c2.fp⟩
   simp only [Option.bind_some]
   have b1':appS m 3 1 8 H Sl3.nil s=some (s',H1):=b1
   rw [b1',hp]
   simp only [Option.bind_some]
   rw [show z28 (LCo k) m H1 (RL.p R) v false s'=_ from c1]
   rfl
theorem zc9 (k:Nat) (h:RF m H R N sd) (hm:m≤H.next) (a b c:Int) (d:Bool) (hl:sd.length≤1048576) :
  ∃H' R',z32 (LCo k) m H (RL.p R) a b c d=some ((sayP N sd (a,b,c,d)).1,H')∧RO m H.next H R H' R' N (sayP N sd (a,b,c,d)).2:=by
 have pre:(Option.bind (z1o (LCo k) H (RL.p R) a) fun x2=>if x2=true then Option.bind (z1o (LCo k) H (RL.p R) b) fun x3=>some (!x3) else some true:Option Bool)=some (!(okA N a&&okA N b)):=by
  rw [z5y k h,z5y k h]
  cases okA N a <;> cases okA N b <;> rfl
 unfold z32
 refine Exists.imp (fun H'=>Exists.imp fun R'=>And.imp_left fun hh=>(congrArg (fun o=>Option.bind o _) pre).trans hh) ?_
 simp only [Option.bind_some]
 cases hok:okA N a&&okA N b with
 | false =>
  have hp:sayP N sd (a,b,c,d)=(150,sd):=by unfold sayP; simp only [hok]; rfl
  rw [hp]
  exact ⟨H,R,rfl,h,rfl,hm,Fm.refl _ _,fun _ h=>.inl h⟩
 | true =>
  have hp:sayP N sd (a,b,c,d)=(0,sd++[(a,b,c,d)]):=by unfold sayP; simp only [hok]; rfl
  rw [hp]
  obtain ⟨z,H0,s',H1,H2,a1,a2,a3,a4,a5,a6⟩:=RR.pushS h (a,b,c,d) hl hm
  refine ⟨H2,{ R with sS:=s' },?_,a4,rfl,Nat.le_trans hm a5.1,a5.weak fun id _ hid _=>hid.elim (fun e=>.inl e) fun e=>.inr (.inr (.inl e)),fun id hid=>?_⟩
  ·simp only [Bool.not_true,Bool.false_eq_true,if_false]
   rw [RR.q h |>.rd (j:=1) (v:=R.sS.v) rfl deSl]
   simp only [show deSl (Sl3.v R.sS)=some R.sS from rfl,Option.bind_some]
   rw [a1]
   simp only [Option.bind_some]
   rw [a2]
   simp only [Option.bind_some]
   rw [a3]
   rfl
  ·rcases hid with e | e | e | e
   ·exact .inl (.inl e)
   ·exact .inl (.inr (.inl e))
   ·rcases a6 id e with e | e
    ·exact .inl (.inr (.inr (.inl e)))
    ·exact .inr e
   ·exact .inl (.inr (.inr (.inr e)))
end
end Go.Proofs.YtgkhbmoidenjaaaDoor
namespace Go.Proofs.YtgkhbmoidenjaaaDoor
open Go Go.Abs Go.Abs.Eg
set_option maxRecDepth 100000
section
variable {T:Tys} {m:Nat} {H0 H H':AH} {L:GL} {x:Gh} {R:RL} {Tb:AH→Prop} {tx:Key→ByteArray}
abbrev Tb0 (H0:AH):AH→Prop:=fun H=>Ext H0 H
theorem tb0_fr {W:Nat→Prop} (hlo:H0.next≤m) (h:Tb0 H0 H) (hf:Fm W H H') (hw:∀id,W id→m≤id):Tb0 H0 H' :=
 ⟨Nat.le_trans h.1 hf.1,fun id b hid hn hg=>hf.2 id b (Nat.lt_of_lt_of_le hid h.1) (fun hwi=>by have:=hw id hwi; omega) (h.2 id b hid hn hg)⟩
theorem env0 (hT:TyOK T) (hH:HasT H0) (hlo:H0.next≤m):Env T txK m (Tb0 H0):=zmv hT.I (fun H h=>hH.ext h) fun h hf hw=>tb0_fr hlo h hf hw
theorem GS.fr {W:Nat→Prop} (hE:Env T tx m Tb) (h:GS T tx m Tb H L x) (hf:Fm W H H') (hw:∀c id,L.fp c id→¬W id) (hm:∀id,W id→m≤id):GS T tx m Tb H' L x :=
 ⟨⟨h.gr.rep.other hf hw,hE.tb h.gr.tb hf hm,h.gr.mi,h.gr.mx,h.gr.sm,Nat.le_trans h.gr.nm hf.1,h.gr.cll⟩,h.ids,h.sdr⟩
structure PG (T:Tys) (m:Nat) (H0 H:AH) (L:GL) (x:Gh) (R:RL):Prop where
 gs:GS T txK m (Tb0 H0) H L x
 rf:RF m H R x.g.N x.sd
 sep:∀c id,L.fp c id→¬R.fp id
 nok:NOK x.g.N
theorem PG.old (h:PG T m H0 H L x R):Ext H0 H:=h.gs.gr.tb
theorem PG.ext (hE:Env T txK m (Tb0 H0)) (h:PG T m H0 H L x R) (hf:Ext H H'):PG T m H0 H' L x R:=⟨h.gs.ext hE hf,RR.ext h.rf hf,h.sep,h.nok⟩
theorem PG.fr {W:Nat→Prop} (hE:Env T txK m (Tb0 H0)) (h:PG T m H0 H L x R) (hf:Fm W H H') (hw:∀c id,L.fp c id→¬W id) (hw2:∀id,R.fp id→¬W id) (hm:∀id,W id→m≤id):PG T m H0 H' L x R :=
 ⟨h.gs.fr hE hf hw hm,RR.fr h.rf hf hw2,h.sep,h.nok⟩
theorem PG.rf1 (h:PG T m H0 H L x R) {H1:AH} {L1:GL} {x1:Gh} (g:GO T txK m (Tb0 H0) H.next H L H1 L1 x1):RF m H1 R x.g.N x.sd :=
 RR.fr h.rf g.fm fun id hid hw=>by
  obtain ⟨c,hc⟩:=hw (RR.low h.rf hid).2
  exact h.sep c id hc hid
def Wp (L:GL) (R:RL) (n0:Nat) (id:Nat):Prop:=id<n0→(∃c,L.fp c id)∨R.fp id
theorem PG.low (h:PG T m H0 H L x R) {id:Nat} (hw:Wp L R H.next id):m≤id:=by
 by_cases hlt:id<H.next
 ·rcases hw hlt with ⟨c,hc⟩ | hr
  ·exact (h.gs.gr.rep.low hc).1
  ·exact (RR.low h.rf hr).1
 ·have:=h.gs.gr.nm; omega
structure PO (T:Tys) (m:Nat) (H0 H:AH) (L:GL) (R:RL) (H':AH) (L':GL) (x':Gh) (R':RL):Prop where
 pg:PG T m H0 H' L' x' R'
 q:L'.q=L.q
 rq:R'.q=R.q
 fm:Fm (Wp L R H.next) H H'
 fp:∀c id,L'.fp c id→L.fp c id∨H.next≤id
 rfp:∀id,R'.fp id→R.fp id∨H.next≤id
theorem PG.both (hE:Env T txK m (Tb0 H0)) (h:PG T m H0 H L x R) {H1 H2:AH} {L1:GL} {x1:Gh} {R':RL} {N':List Nd} {sd':List Sd} (g:GO T txK m (Tb0 H0) H.next H L H1 L1 x1) (r:RO m H1.next H1 R H2 R' N' sd')
  (hN:x1.g.N=N') (hS:x1.sd=sd') (hk:NOK N'):PO T m H0 H L R H2 L1 x1 R':=by
 subst hN; subst hS
 have hle:=g.fm.1
 have hRlt:∀id,R.fp id→id<H.next:=fun id hid=>(RR.low h.rf hid).2
 refine ⟨⟨g.gs.fr hE r.fm (fun c id hc hw=>?_) (fun id hw=>?_),r.rr,fun c id hc hr=>?_,hk⟩,g.q,r.q,?_,g.fp,fun id hid=>?_⟩
 ·have hr:=hw (g.gs.gr.rep.low hc).2
  rcases g.fp c id hc with h1 | h1
  ·exact h.sep c id h1 hr
  ·have:=hRlt id hr; omega
 ·by_cases hlt:id<H1.next
  ·exact (RR.low h.rf (hw hlt)).1
  ·have:=g.gs.gr.nm; omega
 ·rcases g.fp c id hc with h1 | h1
  ·rcases r.fp id hr with h2 | h2
   ·exact h.sep c id h1 h2
   ·have:=(h.gs.gr.rep.low h1).2; omega
  ·rcases r.fp id hr with h2 | h2
   ·have:=hRlt id h2; omega
   ·have:=(g.gs.gr.rep.low hc).2; omega
 ·refine (g.fm.weak fun id _ hw=>?_).comp (W':=fun id=>id<H1.next→R.fp id) r.fm fun id hid hn hw=>hn ?_
  ·exact fun hlt=>.inl (hw hlt)
  ·exact fun hlt=>.inr (hw (by omega))
 ·rcases r.fp id hid with h1 | h1
  ·exact .inl h1
  ·exact .inr (by omega)
theorem PG.nlen (h:PG T m H0 H L x R):x.g.N.length≤1048576:=h.gs.gr.sm.n
theorem PG.args (h:PG T m H0 H L x R):∀z∈x.g.N,z.args.length≤64:=fun z hz=>by
 obtain ⟨i,hi,rfl⟩:=List.mem_iff_getElem.1 hz
 exact h.gs.gr.sm.args i _ (List.getElem?_eq_getElem hi)
variable {kt e:TypeId}
theorem zko (hE:Env T txK m (Tb0 H0)) (hP:PE T 58 kt e) (hT:TyOK T) (k:Nat) (h:PG T m H0 H L x R) {kd sy:Int} {s:Sl3} {aa:List Int} {a b tg:Int} (hk:1≤kd∧kd≤4)
  (hsy:-9223372036854775808≤sy∧sy<9223372036854775808) (hs:∀H',Fm (Wp L R H.next) H H'→AR H' s aa) (ht:totN x.g.N+aa.length≤1048576) (hl:x.sd.length≤1048576) :
  ∃H' L' x' R',z4t (LCo k) m H (GL.p L) (RL.p R) kd sy s a b tg=some (true,H')∧PO T m H0 H L R H' L' x' R'∧totN x'.g.N≤totN x.g.N+aa.length∧x'.sd.length≤x.sd.length+1:=by
 unfold z4t
 by_cases h1:kd=1
 ·subst h1
  rw [if_pos rfl]
  obtain ⟨H1,L1,x1,a1,a2,a3,a4⟩:=zgm hE hP hT k h.gs hsy (fun H' hx=>hs H' (hx.weak fun _ _ h=>h.elim)) ht
  obtain ⟨H2,R2,b1,b2⟩:=zh6 k (h.rf1 a2) a2.gs.gr.nm (v:=sy) (hs H1 (a2.fm.weak fun _ _ hw hlt=>.inl (hw hlt))) h.args h.nlen
  refine ⟨H2,L1,x1,R2,?_,h.both hE a2 b2 a3 a4 (h.nok.add sy aa),by rw [a3]; exact znh _ _ _,by rw [a4]; omega⟩
  rw [a1]
  simp only [Option.bind_some]
  rw [b1]
  simp only [Option.bind_some,if_true,decide_true]
 rw [if_neg h1]
 by_cases h2:kd=2
 ·subst h2
  rw [if_pos rfl]
  obtain ⟨H1,L1,x1,a1,a2,a3,a4⟩:=zdt hE hP hT k h.gs hsy (by omega)
  obtain ⟨H2,R2,b1,b2⟩:=zfn k (h.rf1 a2) a2.gs.gr.nm sy h.args h.nlen
  refine ⟨H2,L1,x1,R2,?_,h.both hE a2 b2 a3 a4 (h.nok.val sy),by rw [a3]; have:=znv x.g.N sy; omega,by rw [a4]; omega⟩
  rw [a1]
  simp only [Option.bind_some]
  rw [b1]
  simp only [Option.bind_some,if_true,decide_true]
 rw [if_neg h2]
 by_cases h3:kd=3
 ·subst h3
  rw [if_pos rfl]
  obtain ⟨H1,L1,x1,a1,a2,a3,a4⟩:=z9o hE hP hT k h.gs a b tg false hl
  obtain ⟨H2,R2,b1,b2⟩:=zc9 k (h.rf1 a2) a2.gs.gr.nm a b tg false hl
  refine ⟨H2,L1,x1,R2,?_,h.both hE a2 b2 a3 a4 h.nok,by rw [a3]; omega,by rw [a4]; exact zih _ _ _⟩
  unfold z2f
  rw [a1]
  simp only [Option.bind_some]
  rw [b1]
  simp only [Option.bind_some,decide_true]
 rw [if_neg h3]
 have h4:kd=4:=by omega
 subst h4
 rw [if_pos rfl]
 obtain ⟨H1,L1,x1,a1,a2,a3,a4⟩:=z9o hE hP hT k h.gs a b tg true hl
 obtain ⟨H2,R2,b1,b2⟩:=zc9 k (h.rf1 a2) a2.gs.gr.nm a b tg true hl
 refine ⟨H2,L1,x1,R2,?_,h.both hE a2 b2 a3 a4 h.nok,by rw [a3]; omega,by rw [a4]; exact zih _ _ _⟩
 unfold z2g
 rw [a1]
 simp only [Option.bind_some]
 rw [b1]
 simp only [Option.bind_some,decide_true]
theorem new_RF (hm:m≤H.next):RF m (H.push (pubB 32 [Sl3.v Sl3.nil,Sl3.v Sl3.nil,Sl3.v Sl3.nil])) ⟨H.next,Sl3.nil,Sl3.nil,[]⟩ [] []:=RR.new hm
theorem zj7 (hH:HasT H0) (hlo:H0.next≤m) (hP:PE T 58 kt e) (hT:TyOK T) (k:Nat) (hx:Ext H0 H) (hm:m≤H.next) {s:Sl3} {ops:List OpD} (hs:OpsR H0 s ops) (hb:bulkO ops≤1048576) :
  ∃H' L x R,z59 (LCo k) m H s=some (GL.p L,RL.p R,true,H')∧PG T m H0 H' L x R∧totN x.g.N≤1048576∧x.sd.length≤ops.length:=by
 have hE:=env0 (T:=T) (m:=m) hT hH hlo
 obtain ⟨H1,L,a1,a2,a3,a4⟩:=zg6 hE hT k hx hm
 let R:RL:=⟨H1.next,Sl3.nil,Sl3.nil,[]⟩
 let H2:=H1.push (pubB 32 [Sl3.v Sl3.nil,Sl3.v Sl3.nil,Sl3.v Sl3.nil])
 have x2:Ext H1 H2:=Fm.push _ _ _
 have hpg:PG T m H0 H2 L ⟨⟨[],[],[],fun _=>none,[]⟩,fun _=>none,[],[]⟩ R:=by
  refine ⟨a2.ext hE x2,new_RF a2.gr.nm,fun c id hc hr=>?_,NOK.nil⟩
  have h1:=(a2.gr.rep.low hc).2
  rcases hr with e | e | e | ⟨s,hs,e⟩
  ·have e:id=H1.next:=e
   omega
  ·exact zu e
  ·exact zu e
  ·cases hs
 have hsum:∀i,i≤ops.length→((ops.take i).map fun o=>o.aa.length).sum≤(ops.map fun o=>o.aa.length).sum:=fun i hi=>by
  rw [List.map_take]
  generalize ops.map (fun o=>o.aa.length)=l
  have:l.sum=(l.take i).sum+(l.drop i).sum:=by rw [← List.sum_append,List.take_append_drop]
  omega
 unfold bulkO at hb
 obtain ⟨st,b1,b2⟩:=z7u (R:=(Option Addr)×(Option Addr)×Bool×AH) (body:=z2u (LCo k) m s ⟨H1.next,0,none⟩ ⟨L.q,0,none⟩) ops.length
  (fun i (st:AH×Int)=>st.2=(i:Int)∧∃L' x R',PG T m H0 st.1 L' x R'∧L'.q=L.q∧R'.q=H1.next∧totN x.g.N≤((ops.take i).map fun o=>o.aa.length).sum∧x.sd.length≤i)
  (Q:=fun st=>∃L' x R',PG T m H0 st.1 L' x R'∧L'.q=L.q∧R'.q=H1.next∧totN x.g.N≤1048576∧x.sd.length≤ops.length)
  (fun i hi st hst=>by
   obtain ⟨H3,v⟩:=st
   obtain ⟨rfl,L',x,R',c1,c2,c3,c4,c5⟩:=hst
   have c1:PG T m H0 H3 L' x R':=c1
   obtain ⟨p,r1,ro0⟩:=hs.at_ i hi
   have ro:=ro0.ext c1.old
   have hbt:=zl1 ops hi
   unfold z2u
   simp only [hs.n,if_pos (show (i:Int)<(ops.length:Int) by omega),r1,Option.bind_some]
   rw [ro.kd.rd]
   simp only [show deI .i64 (Value.int .i64 ops[i].kd)=some ops[i].kd from rfl,Option.bind_some]
   by_cases hk1:ops[i].kd≥1
   ·by_cases hk2:ops[i].kd≤4
    ·obtain ⟨sl,ra,rb⟩:=ro0.aa
     obtain ⟨H4,L4,x4,R4,d1,d2,d3,d4⟩:=zko hE hP hT k c1 (kd:=ops[i].kd) (s:=sl) (a:=ops[i].a) (b:=ops[i].b) (tg:=ops[i].tg) ⟨hk1,hk2⟩ ro.ok (aa:=ops[i].aa) (fun H' hf=>rb H' (tb0_fr hlo c1.old hf fun id hw=>c1.low hw)) (by omega) (by omega)
     refine ⟨(H4,((i+1:Nat):Int)),?_,rfl,L4,x4,R4,d2.pg,d2.q.trans c2,d2.rq.trans c3,by omega,by omega⟩
     have d1':z4t (LCo k) m H3 (some ⟨L.q,0,none⟩) (some ⟨H1.next,0,none⟩) ops[i].kd ops[i].sy sl ops[i].a ops[i].b ops[i].tg=some (true,H4):=by
      rw [← d1,GL.p,RL.p,c2,c3]
     rw [if_pos hk1,if_pos hk2,ro.sy.rd,(ra.ext c1.old).rd,ro.a.rd,ro.b.rd,ro.tg.rd]
     simp only [show ∀z,deI .i64 (Value.int .i64 z)=some z from fun _=>rfl,show deSl (Sl3.v sl)=some sl from rfl,Option.bind_some]
     rw [d1']
     simp only [Option.bind_some,Bool.not_true,Bool.false_eq_true,if_false]
     rw [zv (n:=ops.length) hi (by rw [z1g]; omega)]
    ·refine ⟨(H3,((i+1:Nat):Int)),?_,rfl,L',x,R',c1,c2,c3,by omega,by omega⟩
     rw [if_pos hk1,if_neg hk2]
     simp only [Option.bind_some,Bool.false_eq_true,if_false]
     rw [zv (n:=ops.length) hi (by rw [z1g]; omega)]
   ·refine ⟨(H3,((i+1:Nat):Int)),?_,rfl,L',x,R',c1,c2,c3,by omega,by omega⟩
    rw [if_neg hk1]
    simp only [Option.bind_some,Bool.false_eq_true,if_false]
    rw [zv (n:=ops.length) hi (by rw [z1g]; omega)])
  (fun st hst=>by
   obtain ⟨H3,v⟩:=st
   obtain ⟨rfl,L',x,R',c1,c2,c3,c4,c5⟩:=hst
   refine ⟨(H3,(ops.length:Int)),?_,L',x,R',c1,c2,c3,?_,c5⟩
   ·unfold z2u
    simp only [hs.n,if_neg (show ¬((ops.length:Int)<(ops.length:Int)) by omega)]
   ·rw [List.take_length] at c4
    omega)
  (s:=(H2,0)) ⟨rfl,L,_,R,hpg,rfl,rfl,Nat.zero_le _,Nat.zero_le _⟩
 obtain ⟨H3,v⟩:=st
 obtain ⟨L',x,R',c1,c2,c3,c4,c5⟩:=b2
 refine ⟨H3,L',x,R',?_,c1,c4,c5⟩
 unfold z59
 rw [a1]
 simp only [Option.bind_some]
 rw [show newB 32 [(Sl3.v Sl3.nil),(Sl3.v Sl3.nil),(Sl3.v Sl3.nil)] H1=some (⟨H1.next,0,none⟩,H2) from rfl]
 simp only [Option.bind_some]
 rw [show (LCo k).run (z2u (LCo k) m s ⟨H1.next,0,none⟩ ⟨L.q,0,none⟩) (H2,0)=some (.inl (H3,v)) from b1]
 simp only [GL.p,RL.p,c2,c3]
 rfl
end
end Go.Proofs.YtgkhbmoidenjaaaDoor
namespace Go.Proofs.YtgkhbmoidenjaaaDoor
open Go Go.Abs Go.Abs.Eg
set_option maxRecDepth 100000
section
variable {T:Tys} {m:Nat} {H0 H H':AH} {L L2:GL} {x y:Gh} {R:RL} {kt e:TypeId}
structure TG (T:Tys) (m:Nat) (H0 H:AH) (L:GL) (x:Gh) (R:RL) (L2:GL) (y:Gh):Prop where
 pg:PG T m H0 H L x R
 gs:GS T txK m (Tb0 H0) H L2 y
 sg:∀c c' id,L2.fp c id→¬L.fp c' id
 sr:∀c id,L2.fp c id→¬R.fp id
theorem TG.next (hE:Env T txK m (Tb0 H0)) (h:TG T m H0 H L x R L2 y) {H1:AH} {L3:GL} {y1:Gh} (g:GO T txK m (Tb0 H0) H.next H L2 H1 L3 y1):TG T m H0 H1 L x R L3 y1:=by
 refine ⟨h.pg.fr hE g.fm (fun c id hc hw=>?_) (fun id hr hw=>?_) (fun id hw=>?_),g.gs,fun c c' id h1 h2=>?_,fun c id h1 h2=>?_⟩
 ·obtain ⟨c',h1⟩:=hw (h.pg.gs.gr.rep.low hc).2
  exact h.sg c' c id h1 hc
 ·obtain ⟨c',h1⟩:=hw (RR.low h.pg.rf hr).2
  exact h.sr c' id h1 hr
 ·by_cases hlt:id<H.next
  ·obtain ⟨c',h1⟩:=hw hlt
   exact (h.gs.gr.rep.low h1).1
  ·have:=h.gs.gr.nm; omega
 ·rcases g.fp c id h1 with h3 | h3
  ·exact h.sg c c' id h3 h2
  ·have:=(h.pg.gs.gr.rep.low h2).2; omega
 ·rcases g.fp c id h1 with h3 | h3
  ·exact h.sr c id h3 h2
  ·have:=(RR.low h.pg.rf h2).2; omega
theorem zhn (hE:Env T txK m (Tb0 H0)) (hP:PE T 58 kt e) (hT:TyOK T) (k:Nat) (x1:Option Addr) (h:TG T m H0 H L x R L2 y) (hN:y.g.N=[]) (hS:y.sd=[]) (ht:totN x.g.N≤1048576) :
  ∃H' L3 y',(LCo k).run (z1q (LCo k) m x1 (RL.p R) (GL.p L2)) (H,0)=some (.inl (H',(x.g.N.length:Int)))∧TG T m H0 H' L x R L3 y'∧L3.q=L2.q∧y'.g.N=x.g.N∧y'.sd=[]:=by
 have hNl:=h.pg.nlen
 obtain ⟨st,b1,b2⟩:=z7u (R:=Bool×AH) (body:=z1q (LCo k) m x1 (RL.p R) (GL.p L2)) x.g.N.length
  (fun i (st:AH×Int)=>st.2=(i:Int)∧∃L3 y',TG T m H0 st.1 L x R L3 y'∧L3.q=L2.q∧y'.g.N=x.g.N.take i∧y'.sd=[])
  (Q:=fun st=>st.2=(x.g.N.length:Int)∧∃L3 y',TG T m H0 st.1 L x R L3 y'∧L3.q=L2.q∧y'.g.N=x.g.N∧y'.sd=[])
  (fun i hi st hst=>by
   obtain ⟨H3,v⟩:=st
   obtain ⟨rfl,L3,y',c1,c2,c3,c4⟩:=hst
   have c1:TG T m H0 H3 L x R L3 y':=c1
   have hcnt:R.sN.n=x.g.N.length:=by rw [c1.pg.rf.hN.cnt,z4g c1.pg.rf.nal]
   obtain ⟨q,s,r1,r2,r3,r4,r5,_⟩:=c1.pg.rf.node hi (v:=(i:Int)) rfl
   have hrd:rd deSl H3 ((⟨R.q,0,none⟩:Addr).add 0)=some R.sN:=c1.pg.rf.q.rd (j:=0) (v:=R.sN.v) rfl deSl
   have htk:=zlb x.g.N hi
   have hsy:=c1.pg.gs.gr.sm.sym i _ (List.getElem?_eq_getElem hi)
   unfold z1q
   simp only [Option.bind_some,hrd,hcnt,if_pos (show (i:Int)<(x.g.N.length:Int) by omega),r1,r2,r3,r4]
   cases hv:x.g.N[i].value with
   | true =>
    simp only [if_true]
    obtain ⟨H4,L4,y4,d1,d2,d3,d4⟩:=zdt hE hP hT k c1.gs (v:=x.g.N[i].sym) hsy (by rw [c3]; omega)
    rw [c3,zkt c1.pg.nok hi hNl hv] at d1 d3
    have d1':z1u (LCo k) m H3 (GL.p L2) x.g.N[i].sym=some ((i:Int),0,H4):=by rw [← d1,GL.p,GL.p,c2]
    refine ⟨(H4,((i+1:Nat):Int)),?_,rfl,L4,y4,c1.next hE d2,d2.q.trans c2,d3,d4.trans c4⟩
    rw [d1']
    simp only [Option.bind_some]
    rw [zv (n:=x.g.N.length) hi (by rw [z1g]; omega)]
   | false =>
    simp only [Bool.false_eq_true,if_false]
    obtain ⟨H4,L4,y4,d1,d2,d3,d4⟩:=zgm hE hP hT k c1.gs (v:=x.g.N[i].sym) hsy (s:=s) (aa:=x.g.N[i].args.map Int.ofNat) (fun H' hx=>SlA.ar (SlA.ext r5 hx)) (by rw [c3,List.length_map]; omega)
    rw [c3,zlo c1.pg.nok hi hNl hv (c1.pg.gs.gr.mi.args i _ (List.getElem?_eq_getElem hi)) (c1.pg.args _ (List.getElem_mem hi))] at d1 d3
    have d1':z1x (LCo k) m H3 (GL.p L2) x.g.N[i].sym s=some ((i:Int),0,H4):=by rw [← d1,GL.p,GL.p,c2]
    refine ⟨(H4,((i+1:Nat):Int)),?_,rfl,L4,y4,c1.next hE d2,d2.q.trans c2,d3,d4.trans c4⟩
    rw [d1']
    simp only [Option.bind_some]
    rw [zv (n:=x.g.N.length) hi (by rw [z1g]; omega)])
  (fun st hst=>by
   obtain ⟨H3,v⟩:=st
   obtain ⟨rfl,L3,y',c1,c2,c3,c4⟩:=hst
   have c1:TG T m H0 H3 L x R L3 y':=c1
   have hcnt:R.sN.n=x.g.N.length:=by rw [c1.pg.rf.hN.cnt,z4g c1.pg.rf.nal]
   have hrd:rd deSl H3 ((⟨R.q,0,none⟩:Addr).add 0)=some R.sN:=c1.pg.rf.q.rd (j:=0) (v:=R.sN.v) rfl deSl
   refine ⟨(H3,(x.g.N.length:Int)),?_,rfl,L3,y',c1,c2,by rw [c3,List.take_length],c4⟩
   unfold z1q
   simp only [Option.bind_some,hrd,hcnt,if_neg (show ¬((x.g.N.length:Int)<(x.g.N.length:Int)) by omega)])
  (s:=(H,0)) ⟨rfl,L2,y,h,rfl,by rw [hN]; simp,hS⟩
 obtain ⟨H3,v⟩:=st
 obtain ⟨e,L3,y',c1,c2,c3,c4⟩:=b2
 have e:v=(x.g.N.length:Int):=e
 subst e
 exact ⟨H3,L3,y',b1,c1,c2,c3,c4⟩
theorem zjh (hE:Env T txK m (Tb0 H0)) (hP:PE T 58 kt e) (hT:TyOK T) (k:Nat) (x1:Option Addr) (h:TG T m H0 H L x R L2 y) (hN:y.g.N=x.g.N) (hS:y.sd=[]) (hl:x.sd.length≤1048576) :
  ∃H' L3 y',(LCo k).run (z1p (LCo k) m x1 (GL.p L2) ⟨R.q,0,none⟩) (H,(x.sd.length:Int) - 1)=some (.inl (H',-1))∧TG T m H0 H' L x R L3 y'∧L3.q=L2.q∧y'.g.N=x.g.N∧y'.sd=back x.sd 0:=by
 obtain ⟨st,b1,b2⟩:=z7u (R:=Bool×AH) (body:=z1p (LCo k) m x1 (GL.p L2) ⟨R.q,0,none⟩) x.sd.length
  (fun i (st:AH×Int)=>st.2=(x.sd.length:Int) - 1 - (i:Int)∧i≤x.sd.length∧∃L3 y',TG T m H0 st.1 L x R L3 y'∧L3.q=L2.q∧y'.g.N=x.g.N∧y'.sd=back x.sd (x.sd.length - i))
  (Q:=fun st=>st.2=-1∧∃L3 y',TG T m H0 st.1 L x R L3 y'∧L3.q=L2.q∧y'.g.N=x.g.N∧y'.sd=back x.sd 0)
  (fun i hi st hst=>by
   obtain ⟨H3,v⟩:=st
   obtain ⟨rfl,_,L3,y',c1,c2,c3,c4⟩:=hst
   have c1:TG T m H0 H3 L x R L3 y':=c1
   have hj:x.sd.length - 1 - i<x.sd.length:=by omega
   have hv:(x.sd.length:Int) - 1 - (i:Int)=((x.sd.length - 1 - i:Nat):Int):=by omega
   obtain ⟨q,r1,r2,r3,r4,r5⟩:=rd_ES c1.pg.rf.hS hj hv
   have hrd:rd deSl H3 ((⟨R.q,0,none⟩:Addr).add 1)=some R.sS:=c1.pg.rf.q.rd (j:=1) (v:=R.sS.v) rfl deSl
   have hsd:=c1.pg.gs.sdr _ (List.getElem_mem hj)
   have hback:=zkh x.sd hj
   rw [show x.sd.length - 1 - i+1=x.sd.length - i by omega] at hback
   have hw:IntKind.i64.wrap ((x.sd.length:Int) - 1 - (i:Int) - 1)=(x.sd.length:Int) - 1 - ((i+1:Nat):Int):=by rw [zbj (by omega) (by omega)]; omega
   have hsay:∀b:Bool,x.sd[x.sd.length - 1 - i].2.2.2=b→(sayP y'.g.N y'.sd (x.sd[x.sd.length - 1 - i].2.1,x.sd[x.sd.length - 1 - i].1,x.sd[x.sd.length - 1 - i].2.2.1,b)).2=back x.sd (x.sd.length - 1 - i):=fun b hb=>by
    unfold sayP
    rw [c3]
    simp only [hsd.1,hsd.2,Bool.and_self,if_true]
    rw [hback,c4,← hb]
    rfl
   have hylen:y'.sd.length≤1048576:=by rw [c4]; unfold back; simp; omega
   unfold z1p
   simp only [if_pos (show (x.sd.length:Int) - 1 - (i:Int)≥0 by omega),hrd,r1,r2,r3,r4,r5,Option.bind_some]
   cases hb:x.sd[x.sd.length - 1 - i].2.2.2 with
   | true =>
    simp only [if_true]
    obtain ⟨H4,L4,y4,d1,d2,d3,d4⟩:=z9o hE hP hT k c1.gs x.sd[x.sd.length - 1 - i].2.1 x.sd[x.sd.length - 1 - i].1 x.sd[x.sd.length - 1 - i].2.2.1 true hylen
    rw [hsay true hb] at d4
    refine ⟨(H4,(x.sd.length:Int) - 1 - ((i+1:Nat):Int)),?_,rfl,by omega,L4,y4,c1.next hE d2,d2.q.trans c2,d3.trans c3,by rw [d4]; congr 1; omega⟩
    unfold z2g
    rw [show GL.p L2=GL.p L3 by rw [GL.p,GL.p,c2],d1]
    simp only [Option.bind_some]
    rw [hw]
   | false =>
    simp only [Bool.false_eq_true,if_false]
    obtain ⟨H4,L4,y4,d1,d2,d3,d4⟩:=z9o hE hP hT k c1.gs x.sd[x.sd.length - 1 - i].2.1 x.sd[x.sd.length - 1 - i].1 x.sd[x.sd.length - 1 - i].2.2.1 false hylen
    rw [hsay false hb] at d4
    refine ⟨(H4,(x.sd.length:Int) - 1 - ((i+1:Nat):Int)),?_,rfl,by omega,L4,y4,c1.next hE d2,d2.q.trans c2,d3.trans c3,by rw [d4]; congr 1; omega⟩
    unfold z2f
    rw [show GL.p L2=GL.p L3 by rw [GL.p,GL.p,c2],d1]
    simp only [Option.bind_some]
    rw [hw])
  (fun st hst=>by
   obtain ⟨H3,v⟩:=st
   obtain ⟨e,_,L3,y',c1,c2,c3,c4⟩:=hst
   have e:v=(x.sd.length:Int) - 1 - (x.sd.length:Int):=e
   have e:v=-1:=by omega
   subst e
   refine ⟨(H3,-1),?_,rfl,L3,y',c1,c2,c3,by rw [c4,Nat.sub_self]⟩
   unfold z1p
   rfl)
  (s:=(H,(x.sd.length:Int) - 1)) ⟨by show (x.sd.length:Int) - 1=_; omega,Nat.zero_le _,L2,y,h,rfl,hN,by rw [Nat.sub_zero,zmt]; exact hS⟩
 obtain ⟨H3,v⟩:=st
 obtain ⟨e,L3,y',c1,c2,c3,c4⟩:=b2
 have e:v=-1:=e
 subst e
 exact ⟨H3,L3,y',b1,c1,c2,c3,c4⟩
end
end Go.Proofs.YtgkhbmoidenjaaaDoor
namespace Go.Proofs.YtgkhbmoidenjaaaDoor
open Go Go.Abs Go.Abs.Eg
set_option maxRecDepth 100000
def ty0:Tys:=⟨63,86,91,3,79,109,78⟩
theorem ty0_ok:TyOK ty0:=⟨rfl,rfl,rfl,rfl,rfl,rfl,rfl⟩
section
variable {m:Nat} {H0 H H':AH} {L L2:GL} {x y:Gh} {R:RL}
theorem zlc {N:List Nd} {sd sd':List Sd} (h1:∀s∈sd,swap s∈sd') (h2:∀s∈sd',swap s∈sd) (i j:Nat):Cong N (Mof sd) i j↔Cong N (Mof sd') i j :=
 ⟨fun h=>h.turn (zh5 h1),fun h=>h.turn (zh5 h2)⟩
theorem b_iff {a b:Bool} {P Q:Prop} (h1:a=true↔P) (h2:b=true↔Q) (h:P↔Q):a=b:=by
 cases a <;> cases b <;> simp_all
theorem b_iff' {a b:Bool} {P Q:Prop} (h1:a=false↔P) (h2:b=false↔Q) (h:P↔Q):a=b:=by
 cases a <;> cases b <;> simp_all
theorem zjt (k:Nat) (hH:HasT H) {s:Sl3} {ops:List OpD} (hs:OpsR H s ops) (hb:bulkO ops≤1048576):∃H',z3o (LCo k) H.next H s=some (true,H'):=by
 have hbo:ops.length≤1048576:=by unfold bulkO at hb; omega
 have hE:=env0 (T:=ty0) (m:=H.next) ty0_ok hH (Nat.le_refl _)
 obtain ⟨H1,L,x,R,a1,a2,a3,a4⟩:=zj7 (m:=H.next) hH (Nat.le_refl _) (pe (T:=ty0)) ty0_ok k (Fm.refl _ _) (Nat.le_refl _) hs hb
 obtain ⟨H2,L2,b1,b2,b3,b4⟩:=zg6 hE ty0_ok k (H:=H1) a2.old a2.gs.gr.nm
 have tg:TG ty0 H.next H H2 L x R L2 ⟨⟨[],[],[],fun _=>none,[]⟩,fun _=>none,[],[]⟩ :=
  ⟨a2.ext hE b3,b2,fun c c' id h1 h2=>by have:=b4 c id h1; have:=(a2.gs.gr.rep.low h2).2; omega,fun c id h1 h2=>by have:=b4 c id h1; have:=(RR.low a2.rf h2).2; omega⟩
 obtain ⟨H3,L3,y3,c1,c2,c3,c4,c5⟩:=zhn hE (pe (T:=ty0)) ty0_ok k (GL.p L) tg rfl rfl a3
 obtain ⟨H4,L4,y,d1,d2,d3,d4,d5⟩:=zjh hE (pe (T:=ty0)) ty0_ok k (GL.p L) c2 c4 c5 (by omega)
 have hq:L4.q=L2.q:=d3.trans c3
 have hp:GL.p L2=GL.p L4:=by rw [GL.p,GL.p,hq]
 have hp3:GL.p L2=GL.p L3:=by rw [GL.p,GL.p,c3]
 have hT4:HasT H4:=hH.ext d2.pg.old
 have hsn:R.sS.n=x.sd.length:=c2.pg.rf.hS.cnt
 have hrd:rd deSl H3 ((⟨R.q,0,none⟩:Addr).add 1)=some R.sS:=c2.pg.rf.q.rd (j:=1) (v:=R.sS.v) rfl deSl
 have hbk:∀s∈x.sd,swap s∈y.sd:=fun s hs=>by rw [d5]; exact zlv hs
 have hbk':∀s∈y.sd,swap s∈x.sd:=fun s hs=>by rw [d5] at hs; exact zl4 hs
 have hC:∀i j,Cong x.g.N (Mof x.sd) i j↔Cong y.g.N (Mof y.sd) i j:=fun i j=>by rw [d4]; exact zlc hbk hbk' i j
 have hylen:y.sd.length≤1048576:=by rw [d5]; unfold back; simp; omega
 obtain ⟨r1,e1,f1⟩:=zdq k d2.pg.gs (by omega)
 obtain ⟨r2,e2,f2⟩:=zdq k d2.gs hylen
 have hsound:r1=r2:=by
  refine b_iff' f1 f2 ⟨fun h=>?_,fun h=>?_⟩
  ·rw [d4]; rw [d4] at hC
   exact zd8 (fun i j=>(hC i j).1) (fun i j h=>h.symm) hbk h
  ·rw [d4] at h hC
   exact zd8 (fun i j=>(hC i j).2) (fun i j h=>h.symm) hbk' h
 have hn:=a2.nlen
 obtain ⟨st,g1,g2⟩:=z7u (R:=Bool×AH) (body:=z1s (LCo k) (GL.p L) (GL.p L2) H4) x.g.N.length (fun i (v:Int)=>v=(i:Int)) (Q:=fun _=>True)
  (fun i hi v hv=>by
   subst hv
   refine ⟨_,?_,rfl⟩
   unfold z1s
   rw [z9w k d2.pg.gs]
   simp only [Option.bind_some,if_pos (show (i:Int)<(x.g.N.length:Int) by omega)]
   rw [zeq k d2.pg.gs (a:=i) hi,hp,zeq k d2.gs (a:=i) (by show i<y.g.N.length; rw [d4]; exact hi)]
   simp only [Option.bind_some]
   rw [zmp d2.pg.gs.gr.mi d2.gs.gr.mi d4.symm hC (i:=i) hi,if_pos rfl]
   obtain ⟨st',h1,_⟩:=z7u (R:=Bool×AH) (body:=z1r (LCo k) (GL.p L) (GL.p L4) H4 (i:Int)) i (fun j (v:Int)=>v=(j:Int)) (Q:=fun _=>True)
    (fun j hj v hv=>by
     subst hv
     refine ⟨_,?_,rfl⟩
     have hjn:j<x.g.n:=by show j<x.g.N.length; omega
     have hin:i<x.g.n:=hi
     have hyn:y.g.n=x.g.n:=by show y.g.N.length=x.g.N.length; rw [d4]
     obtain ⟨u1,v1,w1⟩:=z8n k d2.pg.gs (a:=i) (b:=j) (by omega) hin hjn
     obtain ⟨u2,v2,w2⟩:=z8n k d2.gs (a:=i) (b:=j) hylen (by omega) (by omega)
     obtain ⟨u3,v3,w3⟩:=z8n k d2.pg.gs (a:=j) (b:=i) (by omega) hjn hin
     have e12:u1=u2:=by
      refine b_iff w1 w2 ⟨fun h=>?_,fun h=>?_⟩
      ·rw [d4]; rw [d4] at hC
       exact zcc (fun i j=>(hC i j).1) hbk h
      ·rw [d4] at h hC
       exact zcc (fun i j=>(hC i j).2) hbk' h
     have e13:u1=u3:=b_iff w1 w3 ⟨fun h=>h.symm,fun h=>h.symm⟩
     subst e12; subst e13
     unfold z1r
     rw [if_pos (show (j:Int)<(i:Int) by omega),v1]
     simp only [Option.bind_some]
     rw [v2]
     simp only [Option.bind_some,beq_self_eq_true,if_true]
     rw [v3]
     simp only [Option.bind_some,beq_self_eq_true,Bool.not_true,Bool.false_eq_true,if_false]
     rw [zv (n:=i) hj (by rw [z1g]; omega)])
    (fun v hv=>by
     subst hv
     refine ⟨(i:Int),?_,trivial⟩
     unfold z1r
     rw [if_neg (by omega)])
    (s:=0) rfl
   rw [show (LCo k).run (z1r (LCo k) (GL.p L) (GL.p L4) H4 (i:Int)) 0=some (.inl st') from h1]
   simp only [Option.bind_some]
   rw [zv (n:=x.g.N.length) hi (by rw [z1g]; omega)])
  (fun v hv=>by
   subst hv
   refine ⟨(x.g.N.length:Int),?_,trivial⟩
   unfold z1s
   rw [z9w k d2.pg.gs]
   simp only [Option.bind_some,if_neg (show ¬(x.g.N.length:Int)<(x.g.N.length:Int) by omega)])
  (s:=0) rfl
 refine ⟨H4,?_⟩
 unfold z3o
 rw [a1]
 simp only [Option.bind_some]
 rw [b1]
 simp only [Option.bind_some,if_true,Bool.false_eq_true,if_false]
 rw [c1]
 simp only [Option.bind_some]
 rw [hrd]
 simp only [Option.bind_some]
 rw [hsn,zbj (by omega) (by omega),hp3,d1]
 simp only [Option.bind_some]
 rw [z9w k d2.pg.gs,show GL.p L3=GL.p L4 by rw [← hp3,hp],z9w k d2.gs,d4]
 simp only [Option.bind_some,if_true]
 rw [e1]
 simp only [Option.bind_some]
 rw [e2,hsound]
 simp only [Option.bind_some,beq_self_eq_true,Bool.not_true,Bool.false_eq_true,if_false]
 rw [hp] at g1
 rw [show (LCo k).run (z1s (LCo k) (GL.p L) (GL.p L4) H4) 0=some (.inl st) from g1]
 simp only [Option.bind_some]
 rw [zkx (LCo k) hT4]
 rfl
end
end Go.Proofs.YtgkhbmoidenjaaaDoor
namespace Go.Proofs.YtgkhbmoidenjaaaDoor
open Go Go.Abs Go.Abs.Eg Go.ChangeShapes Go.WideShapes
set_option maxRecDepth 100000
theorem zbz {H:Type} {enc:TypeId×Value→H} {W:World} {base:Nat} {args:Array Value} {ds:List (DataW H)} {ps:List MemPlace} (hg:Tryd.prog.globals.size≤W.heap.size)
  (hval:∀(j:Nat) t v,Tryd.f5.params[j]? = some t→args[j]? = some v→Value.okWide Tryd.prog W .any base t v)
  (hA:DataW.TrodAll enc Tryd.prog W 0 (fun _=>true) true Tryd.f5.params.toList args.toList ds ps) (hL:laidMet Tryd.prog Rows.egraphOrderUptoRow.laid W) (hsh:W.ShapedOpen Tryd.prog)
  (hk:Rows.uptoSmall H ds=true) (hwt:(DataW.weightsEach Tryd.prog (Tryd.f5.params.toList++[]) ds).all (·≤reachBytes)=true) :
  Calls Tryd.prog 5 args W fun e W'=>e=.returned (.bool true)∧RowKit.Below W.heap.size W W':=by
 rw [Tryd.params5] at hA hval hwt
 obtain ⟨v0,vs0,d0,ds0,p0,q0,hargs,rfl,rfl,h0,r0⟩:=trodAll_cons hA
 obtain ⟨rfl,rfl,rfl⟩:=trodAll_nil r0
 obtain rfl:args=#[v0]:=by cases args; simp_all
 simp only [List.append_nil,DataW.weightsEach] at hwt
 have hk:=bulks.bound hk
 simp only [Rows.uptoBulkAll] at hk
 obtain ⟨φ0,H0x,s0,o0,i0,le0,e0,vr0,va0,bk0⟩:=zk1 (zmz hg hL hsh) h0 (hval 0 22 v0 rfl rfl) hwt
 obtain ⟨H',hr⟩:=zjt 1 (zj5.ext e0) va0 (by omega)
 exact zfb (ne:=NE.plain 1000) sane (za7 hr) i0 (ar1 vr0)
theorem zc2 (os:Os) {H:Type} (enc:TypeId×Value→H):∃x,DataW.whole enc Tryd.prog ((laidW2 Tryd.prog Rows.egraphOrderUptoRow.laid os).forCall (fun _ _=>0) ⟨#[],#[.slice none 0 0],[]⟩).memory Tryd.f5.params.toList Rows.egraphOrderSpec.vars false (#[.slice none 0 0]:Array Value).toList 8=some ([.nil],[],x) :=
 ⟨[],by kernel_rfl⟩
theorem zbd (os:Os) (started:os.Started) (H:Type) (enc:TypeId×Value→H) (F:Stop.Interp) :
  ReturnsInHanded {} Tryd.checked os 5 .any ((Rows.OpenSpec.upto Rows.egraphOrderSpec).preRow enc Tryd.prog Tryd.f5 Rows.egraphOrderUptoRow.domain false Rows.egraphOrderUptoRow.laid) (((Rows.OpenSpec.upto Rows.egraphOrderSpec).at F).post enc Tryd.prog Tryd.f5 false true false false):=by
 obtain ⟨x,hx⟩:=zc2 os enc
 exact zdg (C:=Tryd.checked) (s:=Rows.OpenSpec.upto Rows.egraphOrderSpec) (k:=Rows.uptoSmall) rfl own started (by kernel_rfl) Tryd.func5 zjb laidOut (by kernel_rfl) rfl (by kernel_rfl)
  (fun ds hds=>by
   have h1:ds.length=1:=hds
   match ds,h1 with
   | [d0],_=>exact ⟨rfl,rfl,rfl⟩)
  rfl (by kernel_rfl)
  (witness_row_atRef (enc:=enc) (C:=Tryd.checked) false (laidW2 Tryd.prog Rows.egraphOrderUptoRow.laid os) #[.slice none 0 0] rfl (by kernel_rfl) (by kernel_rfl) (by kernel_rfl)
   (OpenSpec.preRow_of_cond 8 hx (by kernel_rfl) (fun k hk=>by cases hk; kernel_rfl) (by kernel_rfl) (zmh os _)))
  (fun W base args ds ps hg hval hA hk hL hsh hwt=>zbz hg hval hA hL hsh hk hwt)
theorem zcu:Rows.EgraphOrderUptoSaid :=
 OpenClaim.holds_of_cond 5 Tryd.f5 rfl rfl rfl rfl rfl rfl rfl ⟨rfl,rfl,rfl,rfl,rfl⟩ rfl rfl rfl rfl rfl (by kernel_rfl) Tryd.func5 (by kernel_rfl)
  (of_decide_eq_true (by kernel_rfl)) (by unfold Func.isWrapper; first | (rw [if_pos (by decide +kernel)]; kernel_rfl) | (rw [if_neg (by decide +kernel)]; exact ⟨rfl,rfl⟩))
  (fun os started H enc _ F=>by rw [OpenClaim.pre_eq_preRow]; exact zbd os started H enc F)
theorem zby (f:FuncId) (fn:Func) (hf:Tryd.pinned.checked.prog.funcNamed "tribunal/tribunallaw15.EgraphOrder"=some f) (hfn:Tryd.pinned.checked.prog.funcs[f]? = some fn) :
  false=Tryd.pinned.checked.prog.looks []∧∀(j:Nat) t,fn.params[j]? = some t→Tryd.pinned.checked.prog.wantsStandIn t=false:=by
 obtain rfl:f=5:=Option.some.inj ((show Tryd.prog.funcNamed "tribunal/tribunallaw15.EgraphOrder"=some 5 by kernel_rfl).symm.trans hf) |>.symm
 obtain rfl:fn=Tryd.f5:=(Option.some.inj (Tryd.func5.symm.trans hfn)).symm
 exact ⟨by kernel_rfl,fun j t ht=>by
  have hall:(Tryd.f5.params.toList.all fun u=>!Tryd.prog.wantsStandIn u)=true:=by kernel_rfl
  have hm:t∈Tryd.f5.params.toList:=by simpa using Array.mem_of_getElem? ht
  exact (show Tryd.prog.wantsStandIn t=false by simpa using List.all_eq_true.1 hall t hm)⟩
theorem egraphOrder_holds:Rows.EgraphOrderUptoCardSaid :=
 Claim7.holds_tied_plain_at .later [] _ _ _ _ zcu (fun _ h=>by cases h) (by kernel_rfl) (fun _ h=>by cases h) egraphOrderUpto_row_tie rfl ⟨rfl,rfl⟩ (by kernel_rfl) rfl zby (by kernel_rfl)
#print axioms egraphOrder_holds
end Go.Proofs.YtgkhbmoidenjaaaDoor
