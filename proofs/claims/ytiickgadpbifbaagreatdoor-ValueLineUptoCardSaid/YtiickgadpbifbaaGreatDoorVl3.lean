/- Parts of the proof: an abstract interpreter of the loaded program and its soundness, printed functions, the law's own texts; part 3. No condition. -/
import Derived.Test.YtiickgadpbifbaaGreatDoorVl2
import Derived.OrdersHeld
import Derived.LaidSub
import Derived.Deep.DeepHandedRow
import Derived.ChangeArms
import Derived.Test.YtiickgadpbifbaaGreatDoorChecked
namespace Go.Abs
variable {P:Program} {ne:NE} {m n:Nat}
def dem (A:List Nat) (bs:List Nat) (j:Nat):Bool:=!(A.all fun i=>Nat.blt i j&&pre bs j i)
def mvAt (ops:Array Oper) (j:Nat):Bool :=
 match ops[j]? with
 | some o=>(match o.op with
  | .move _=>true
  | .assign _=>true
  | .pick ..=>true
  | _=>false)
 | none=>false
def demO (ops:Array Oper) (A:List Nat) (bs:List Nat) (j:Nat):Bool:=dem A bs j&&!mvAt ops j
theorem zki {P:Program} {ops:Array Oper} {Q:Exit→Act→World→Prop} {j:Nat} {K:Act→World→Prop} {a:Act} {w:World} (hm:mvAt ops j=true) (h:wpOp P ops Q j K a w):wpOp P ops Q j (fun a' w'=>w'=w∧K a' w') a w:=by
 unfold wpOp at *;unfold mvAt at hm;cases ho:ops[j]? with
 | none=>rw [ho] at hm; cases hm
 | some o =>
  rw [ho] at h hm;simp only at h hm ⊢;split
  ·rename_i hw;rw [if_pos hw] at h;rcases h with h | h
   ·left;unfold Oper.wp at *;have hr:(∃v,(execOp a.eval o).run P w=.ok (.value v) w)∨∃x,(execOp a.eval o).run P w=.halt x w:=by
     obtain ⟨dst,op,ty,pos,after,guard⟩:=o;cases op with
     | move x=>exact .inl ⟨_,rfl⟩
     | assign x=>exact .inl ⟨_,rfl⟩
     | pick c x y =>
      simp only [execOp];cases hc:a.eval c with
      | bool b=>exact .inl ⟨_,rfl⟩
      | _=>exact .inr ⟨_,rfl⟩
     | _=>cases hm
    rcases hr with ⟨v,hr⟩ | ⟨x,hr⟩
    ·rw [hr] at h ⊢;exact ⟨by first | rfl | trivial,h⟩
    ·rw [hr] at h ⊢;cases x <;> exact h
   ·exact .inr h
  ·rename_i hw;rw [if_neg hw] at h;exact ⟨by first | rfl | trivial,h⟩
def wpAnyD (P:Program) (ops:Array Oper) (Q:Exit→Act→World→Prop) (bs A:List Nat) (w1:World):Nat→Array Bool→Act→World→Prop
 | 0,la,a,w=>Region.ready .any ops la=[]∧Q .normal a w
 | f+1,la,a,w=>(Region.ready .any ops la=[]→Q .normal a w) ∧
  ∀i∈Region.ready .any ops la,wpOp P ops Q i (fun a' w'=>(demO ops A bs i=true→agree w1 w')∧wpAnyD P ops Q bs A w1 f (la.setIfInBounds i true) a' w') a w
variable {ops:Array Oper} {Q:Exit→Act→World→Prop} {bs A:List Nat} {w1:World}
theorem zbw:∀(f:Nat) (la:Array Bool) (a:Act) (w:World),wpAnyD P ops Q bs A w1 f la a w→wpAny P .any ops Q f la a w
 | 0,_,_,_,h=>h
 | f+1,_,_,_,h=>⟨h.1,fun i hi=>wpOp_mono (fun a' w' h'=>zbw f _ a' w' h'.2) (h.2 i hi)⟩
theorem zf5 {i:Nat} {oi:Oper} {v:Value} (hi:ops[i]? = some oi) (hA:A.contains i=true) (hc:closedOk ops.toList bs=true) (hsel:∀(j:Nat) (o:Oper) cs b,ops[j]? = some o→o.op≠.select cs b)
  (hQ:∀c a w,¬Q (.panic c) a w) :
  ∀(fuel:Nat) (la:Array Bool) (a:Act) (w:World),JC ops bs la →
   (∀j oj,ops[j]? = some oj→j≠i→la.getD j true=false→(∀e∈oj.after,Region.binds .any e=true→e.on≠i)→oi.apart ops oj=true) →
   i∈Region.ready .any ops la→YieldsIf P ops (agree w1) oi v a→agree w1 w →
   wpAnyD P ops Q bs A w1 fuel (la.setIfInBounds i true) (a.put oi.dst v) w→wpAnyD P ops Q bs A w1 (fuel+1) la a w:=by
 intro fuel;induction fuel with
 | zero =>
  intro la a w hJ _ hr hy hS H;refine ⟨fun h=>(by rw [h] at hr; cases hr),fun j hj=>?_⟩;by_cases hji:j=i
  ·subst hji; exact hy.wpOp hi hS ⟨fun _=>hS,H⟩
  ·have:=ready_mono hj hji;rw [H.1] at this;cases this
 | succ fuel ih =>
  intro la a w hJ hfree hr hy hS H;refine ⟨fun h=>(by rw [h] at hr; cases hr),fun j hj=>?_⟩;by_cases hji:j=i
  ·subst hji; exact hy.wpOp hi hS ⟨fun _=>hS,H⟩
  ·have h1:=H.2 j (ready_mono hj hji);have r:=rdy_of hc hJ hj;have ri:=rdy_of hc hJ hr;have hd:dem A bs j=true:=by
    cases hq:dem A bs j with
    | true=>rfl
    | false =>
     exfalso;unfold dem at hq;have hq:(A.all fun i=>Nat.blt i j&&pre bs j i)=true:=by simpa using hq
     rw [List.all_eq_true] at hq;have:=hq i (by simpa using hA);simp only [Bool.and_eq_true] at this;exact ri.no (r.all i (blt_lt this.1) this.2)
   have h1:wpOp P ops Q j (fun a' w'=>agree w1 w'∧(demO ops A bs j=true→agree w1 w')∧wpAnyD P ops Q bs A w1 fuel ((la.setIfInBounds i true).setIfInBounds j true) a' w') (a.put oi.dst v) w:=by
    cases hm:mvAt ops j with
    | true=>exact wpOp_mono (fun a' w' hh=>⟨by rw [hh.1]; exact hS,hh.2⟩) (zki hm h1)
    | false=>exact wpOp_mono (fun a' w' hh=>⟨hh.1 (by unfold demO; rw [hd,hm]; rfl),hh⟩) h1
   obtain ⟨hjun,oj,hoj,hall⟩:=mem_ready.1 hj;have hnot:∀e∈oj.after,Region.binds .any e=true→e.on≠i:=fun e he hb heq=>by
    have h1:=hall e he hb;have h0:=(mem_ready.1 hr).1;rw [heq] at h1;rcases Nat.lt_or_ge i la.size with h' | h'
    ·simp [h'] at h0 h1; rw [h0] at h1; cases h1
    ·simp [Array.getElem?_eq_none h'] at h1
   have h2:=wpOp_putIf hoj (hfree j oj hoj hji hjun hnot) (fun cs b=>hsel i oi cs b hi) (fun cs b=>hsel j oj cs b hoj) (fun c a w h=>absurd h (hQ c _ w)) hy h1;have hfree':∀k ok,ops[k]? = some ok→k≠i→(la.setIfInBounds j true).getD k true=false →
     (∀e∈ok.after,Region.binds .any e=true→e.on≠i)→oi.apart ops ok=true:=fun k ok hk hki hun hno=>by
    refine hfree k ok hk hki ?_ hno;by_cases hjk:j=k
    ·subst hjk; exact hjun
    ·rw [getD_set_ne true hjk] at hun; exact hun
   refine wpOp_mono (fun a' w' h3=>⟨fun _=>h3.2.1,ih (la.setIfInBounds j true) a' w' (hJ.next r) hfree' (ready_mono hr (Ne.symm hji)) h3.1 h3.2.1 ?_⟩) h2;rw [Array.setIfInBounds_comm _ _ hji];exact h3.2.2.2
structure DC (P:Program) (H1:AH) (ls1:Lcs) (w1:World) (φ1:Inj) (cs1:List Nat):Prop where
 glob:Glob P φ1
 inv:Inv φ1 H1 w1
 loc:∀(i:Nat) c x,cs1[i]? = some c→ls1[i]? = some (some x)→∃rs,w1.heap[c]? = some (.cells rs x.1 (0,0))∧LR φ1 x.2 rs.toList
 len:cs1.length=ls1.length
structure Agr (m:Nat) (H1:AH) (w1:World) (cs1:List Nat) (φ:Inj) (w:World) (cs:List Nat):Prop where
 ag:agree w1 w
 jn:∀id l,Nat.max m H1.next≤id→φ id=some l→w1.heap.size≤l.blk
 nw:∀(i c:Nat),cs1.length≤i→cs[i]? = some c→w1.heap.size≤c
theorem z7a {w1 w:World} (h:agree w1 w):w1.heap.size≤w.heap.size:=by
 rcases Nat.lt_or_ge w.heap.size w1.heap.size with hlt | h'
 ·have:=h w.heap.size hlt;rw [Array.getElem?_eq_none (Nat.le_refl _),Array.getElem?_eq_getElem hlt] at this;cases this
 ·exact h'
theorem Agr.start {φ:Inj} {H:AH} {w:World} {cs:List Nat} (hi:Inv φ H w):Agr m H w cs φ w cs :=
 ⟨agree.refl _,fun id l h1 h2=>by have:=(hi.dom id l h2).1; have:=Nat.le_max_right m H.next; have h1:max m H.next≤id:=h1; omega,fun i c h1 h2=>by rw [List.getElem?_eq_none h1] at h2; cases h2⟩
def KA (φ1:Inj) (cs1:List Nat) (knA:KN) (a:Act):Prop:=∀t kv,lkV knA t=some kv→KR φ1 cs1 kv (a.tmps.getD t undef)
def DA (P:Program) (ne:NE) (m:Nat) (E:Ent) (n:Nat) (ops:Array Oper) (bs A:List Nat) (H1:AH) (ls1:Lcs) (f:Nat) (la:Array Bool) (ag:Bool) (knA kn:KN) (ls:Lcs) (H:AH) (Q:Exit→Act→World→Prop):Prop :=
 ∀w1 φ1 cs1 a w φ cs,DC P H1 ls1 w1 φ1 cs1→φ1.le φ→SSφ P ne m E n kn ls H a w φ cs→KA φ1 cs1 knA a→(∀(i:Nat) (c:Nat),cs1[i]? = some c→cs[i]? = some c)→JC ops bs la→(ag=true→Agr m H1 w1 cs1 φ w cs)→wpAnyD P ops Q bs A w1 f la a w
def DAk (P:Program) (ne:NE) (m:Nat) (E:Ent) (n:Nat) (ops:Array Oper) (bs A:List Nat) (H1:AH) (ls1:Lcs) (k f:Nat) (la:Array Bool) (ag:Bool) (knA kn:KN) (ls:Lcs) (H:AH) (Q:Exit→Act→World→Prop):Prop :=
 ∀w1 φ1 cs1 a w φ cs,DC P H1 ls1 w1 φ1 cs1→φ1.le φ→SSφ P ne m E n kn ls H a w φ cs→KA φ1 cs1 knA a→(∀(i:Nat) (c:Nat),cs1[i]? = some c→cs[i]? = some c)→JC ops bs la→(ag=true→Agr m H1 w1 cs1 φ w cs) →
  wpOp P ops Q k (fun a' w'=>(demO ops A bs k=true→agree w1 w')∧wpAnyD P ops Q bs A w1 f (la.setIfInBounds k true) a' w') a w
section
variable {E:Ent} {knA kn:KN} {ls ls1:Lcs} {H H1:AH} {a:Act} {w:World} {φ φ1:Inj} {cs cs1:List Nat} {f k:Nat} {la:Array Bool} {ag:Bool}
theorem WS.drawn {c:Code} (ops:Array Oper) (A:List Nat) (hc:regOf c=some (ops,true)) (hB:closedOk ops.toList (befores ops.toList)=true) (h:DA P ne m E n ops (befores ops.toList) A H ls ops.size (Array.replicate ops.size false) true kn kn ls H Q):WS P ne m E n c kn ls H Q:=by
 cases c with
 | region id ops' d =>
  simp only [regOf,Option.some.injEq,Prod.mk.injEq] at hc;obtain ⟨rfl,rfl⟩:=hc;intro a w hs;obtain ⟨φ,cs,hs⟩:=hs;refine wp_region_any hs.sane.mixed ?_;have hs':SSφ P ne m E n kn ls H a { w with drawn:=w.drawn+1 } φ cs :=
   ⟨hs.glob,⟨hs.inv.dom,hs.inv.obj,hs.inv.sep⟩,⟨hs.step.le,hs.step.ext,hs.step.new,hs.step.alv,hs.step.size,hs.step.keep,hs.step.os,hs.step.tape,hs.step.output⟩,hs.len,fun i c x h1 h2=>⟨(hs.loc i c x h1 h2).1,(hs.loc i c x h1 h2).2,(hs.loc i c x h1 h2).3⟩,hs.inj,hs.low,hs.slot,hs.size,hs.defers,hs.sane,hs.inv0⟩
  exact zbw _ _ _ _ (h _ φ cs a _ φ cs ⟨hs'.glob,hs'.inv,fun i c x h1 h2=>(hs'.loc i c x h1 h2).2,hs'.len⟩ (Inj.le_refl φ) hs' (fun t kv hl=>hs'.slot t kv hl) (fun _ _ hc=>hc) ⟨by simp,fun i j hh=>by
   unfold LL at hh;rw [Array.getD_eq_getD_getElem?,Array.getElem?_replicate] at hh;split at hh <;> cases hh⟩ (fun _=>.start hs'.inv))
 | _=>cases hc
theorem DA.done (hr:readyIs ops la []=true) (h:∀a w,SS P ne m E n kn ls H a w→Q .normal a w):DA P ne m E n ops bs A H1 ls1 f la ag knA kn ls H Q:=by
 intro w1 φ1 cs1 a w φ cs _ _ hs _ _ _ _;have hr:=t6 hr;cases f with
 | zero=>exact ⟨hr,h a w ⟨φ,cs,hs⟩⟩
 | succ f=>exact ⟨fun _=>h a w ⟨φ,cs,hs⟩,by rw [hr]; simp⟩
theorem KA.put (h:KA φ1 cs1 knA a) {n:Nat} (hsz:n≤a.tmps.size) {d:Option Nat} (hd:(match d with | some a=>Nat.blt a n | none=>true)=true) {kv:KV} {v':Value} (hv:KR φ1 cs1 kv v'):KA φ1 cs1 (putV knA d kv) (a.put d v'):=by
 cases d with
 | none=>exact h
 | some d =>
  have hlt:d<a.tmps.size:=Nat.lt_of_lt_of_le (blt_lt hd) hsz;intro t kv' hl;simp only [putV,lkV] at hl;simp only [Act.put];rw [Array.getD_eq_getD_getElem?,Array.getElem?_setIfInBounds];cases hb:Nat.beq d t with
  | true =>
   rw [hb] at hl;have:=Nat.eq_of_beq_eq_true hb;subst this;cases hl;rw [if_pos rfl,if_pos hlt];exact hv
  | false =>
   rw [hb] at hl;rw [if_neg (Nat.ne_of_beq_eq_false hb),← Array.getD_eq_getD_getElem?];exact h t kv' hl
def dropV (d:Option Nat) (knA:KN):KN:=match d with
 | some d=>knA.filter fun p=>!(Nat.beq p.1 d)
 | none=>knA
theorem zk8 {d:Nat}:∀{kn:KN} {t:Nat} {kv:KV},lkV (kn.filter fun p=>!(Nat.beq p.1 d)) t=some kv→t≠d∧lkV kn t=some kv:=by
 intro kn;induction kn with
 | nil=>intro t kv h; cases h
 | cons p l ih =>
  obtain ⟨s,v⟩:=p;intro t kv h;rw [List.filter_cons] at h;cases hq:Nat.beq s d with
  | true =>
   rw [hq] at h;obtain ⟨h1,h2⟩:=ih (by simpa using h);refine ⟨h1,?_⟩;simp only [lkV];have e:=Nat.eq_of_beq_eq_true hq;cases hs:Nat.beq s t with
   | true=>exact absurd ((Nat.eq_of_beq_eq_true hs).symm.trans e) h1
   | false=>exact h2
  | false =>
   rw [hq] at h;simp only [Bool.not_false,if_true,lkV] at h;simp only [lkV];cases hs:Nat.beq s t with
   | true =>
    rw [hs] at h;have e:=Nat.eq_of_beq_eq_true hs;subst e;exact ⟨Nat.ne_of_beq_eq_false hq,h⟩
   | false=>rw [hs] at h; exact ih h
theorem KA.drop (h:KA φ1 cs1 knA a) (d:Option Nat) (v':Value):KA φ1 cs1 (dropV d knA) (a.put d v'):=by
 cases d with
 | none=>exact h
 | some d =>
  intro t kv hl;obtain ⟨h1,h2⟩:=zk8 hl;simp only [Act.put];rw [Array.getD_eq_getD_getElem?,Array.getElem?_setIfInBounds,if_neg (fun e=>h1 e.symm),← Array.getD_eq_getD_getElem?];exact h t kv h2
def takeB (P:Program) (n:Nat) (ops:Array Oper) (A:List Nat) (la:Array Bool) (k:Nat) (o:Oper):Bool :=
 A.contains k&&Region.noSelect ops&&Region.free .any ops la k&&(Region.ready .any ops la).contains k&&dstV n o
theorem evalA_ (h:KA φ1 cs1 knA a) (hg:Glob P φ1) {x:Operand} (hk:knownV knA x=true) (hx:okx P x=true):VR φ1 (evV knA x) (a.eval x):=by
 cases x with
 | tmp t =>
  simp only [knownV] at hk;simp only [evV];cases hl:lkV knA t with
  | none=>rw [hl] at hk; cases hk
  | some kv =>
   cases kv with
   | val v=>exact h t _ hl
   | loc i off=>rw [hl] at hk; cases hk
   | sli i n=>rw [hl] at hk; cases hk
 | const v=>exact O2 depth hx
 | global g =>
  have hlt:g<P.globals.size:=blt_lt hx;obtain ⟨l,h1,h2,h3⟩:=hg g hlt;have:=VR.ptr (φ:=φ1) g 0 l h1;rw [h2,h3] at this;exact this
 | func f=>exact .func (.func f) #[] #[] #[] #[] rfl rfl (fun i x y hx=>by simp at hx) (fun i x y hx=>by simp at hx)
theorem z8p (ho:ops[k]? = some (opAt ops k)) (hB:takeB P n ops A la k (opAt ops k)=true) (hc:closedOk ops.toList bs=true) (hQ:∀c a w,¬Q (.panic c) a w) {kv:KV} {w1:World}
  (hd:DC P H1 ls1 w1 φ1 cs1) (hle:φ1.le φ) (hs:SSφ P ne m E n kn ls H a w φ cs) (hka:KA φ1 cs1 knA a) (hpf:∀(i:Nat) (c:Nat),cs1[i]? = some c→cs[i]? = some c) (hJ:JC ops bs la) (hag:Agr m H1 w1 cs1 φ w cs) {v':Value} (hkr:KR φ1 cs1 kv v') (hkr2:KR φ cs kv v') (hy:YieldsIf P ops (agree w1) (opAt ops k) v' a)
  (h:DA P ne m E n ops bs A H1 ls1 f (la.setIfInBounds k true) true (putV knA (opAt ops k).dst kv) (putV kn (opAt ops k).dst kv) ls H Q):wpAnyD P ops Q bs A w1 (f+1) la a w:=by
 unfold takeB at hB;simp only [Bool.and_eq_true] at hB;obtain ⟨⟨⟨⟨b1,b2⟩,b3⟩,b4⟩,b5⟩:=hB;have hr:k∈Region.ready .any ops la:=by simpa using b4
 refine zf5 ho b1 hc (Region.noSelect_spec b2) hQ f la a w hJ (Region.free_spec ho b3) hr hy hag.ag ?_;exact h w1 φ1 cs1 _ w φ cs hd hle (hs.put b5 hkr2) (hka.put hs.size b5 hkr) hpf (hJ.next (rdy_of hc hJ hr)) (fun _=>hag)
theorem DA.take {v:Value} (ho:ops[k]? = some (opAt ops k)) (hB:takeB P n ops A la k (opAt ops k)=true) (hc:closedOk ops.toList bs=true) (hQ:∀c a w,¬Q (.panic c) a w)
  (hw:(wantV ops kn (opAt ops k),(opAt ops k).op.operands.all (okx P),(opAt ops k).op.operands.all (knownV knA))=(some true,true,true)) (hv:detOp P H1 (opAt ops k) (evV knA)=some v)
  (h:DA P ne m E n ops bs A H1 ls1 f (la.setIfInBounds k true) true (putV knA (opAt ops k).dst (.val v)) (putV kn (opAt ops k).dst (.val v)) ls H Q):DA P ne m E n ops bs A H1 ls1 (f+1) la true knA kn ls H Q:=by
 intro w1 φ1 cs1 a w φ cs hd hle hs hka hpf hJ hag;simp only [Prod.mk.injEq] at hw;obtain ⟨hw1,hw2,hw3⟩:=hw;rw [Array.all_eq_true_iff_forall_mem] at hw2 hw3;obtain ⟨v',h1,h2⟩:=zjf (ρ':=a.eval) hd.inv (fun x hx=>evalA_ hka hd.glob (hw3 x hx) (hw2 x hx)) hv;exact z8p ho hB hc hQ hd hle hs hka hpf hJ (hag rfl) (kv:=.val v) h1 (h1.mono hle) (.inl ⟨R4 hs hw1,h2⟩) h
theorem DA.tskip (ho:ops[k]? = some (opAt ops k)) (hB:takeB P n ops A la k (opAt ops k)=true) (hc:closedOk ops.toList bs=true) (hQ:∀c a w,¬Q (.panic c) a w) (hw:wantV ops kn (opAt ops k)=some false)
  (h:DA P ne m E n ops bs A H1 ls1 f (la.setIfInBounds k true) true (putV knA (opAt ops k).dst (.val undef)) (putV kn (opAt ops k).dst (.val undef)) ls H Q):DA P ne m E n ops bs A H1 ls1 (f+1) la true knA kn ls H Q:=by
 intro w1 φ1 cs1 a w φ cs hd hle hs hka hpf hJ hag;exact z8p ho hB hc hQ hd hle hs hka hpf hJ (hag rfl) (kv:=.val undef) (v':=undef) (N5 _) (N5 _) (.inr ⟨R4 hs hw,rfl⟩) h
def locDet (P:Program) (knA:KN) (ls1:Lcs) (o:Oper):Option KV :=
 match o.op with
 | .move _ | .assign _ | .nilCheck _ | .fieldAddr .. | .load ..=>(locOp P knA ls1 o).map (·.1)
 | _=>none
theorem zdc {o:Oper} {kv:KV} (h:locDet P knA ls1 o=some kv) (hd:DC P H1 ls1 w1 φ1 cs1) (hka:KA φ1 cs1 knA a):∃v',KR φ1 cs1 kv v'∧∀w,agree w1 w→(execOp a.eval o).run P w=.ok (.value v') w:=by
 unfold locDet at h;have hl:∃ls',locOp P knA ls1 o=some (kv,ls'):=by
  split at h;all_goals first | (cases hq:locOp P knA ls1 o with | none=>rw [hq] at h; cases h | some p=>obtain ⟨x,y⟩:=p; rw [hq] at h; simp only [Option.map_some,Option.some.injEq] at h; subst h; exact ⟨y,rfl⟩) | cases h
 obtain ⟨ls',hl⟩:=hl;obtain ⟨dst,op,ty,pos,after,guard⟩:=o;unfold locOp at hl;simp only at hl h;split at hl
 ·rename_i t;split at hl
  ·rename_i i off hk;simp only [Option.some.injEq,Prod.mk.injEq] at hl;obtain ⟨rfl,rfl⟩:=hl;exact ⟨a.tmps.getD t undef,hka t _ hk,fun w _=>rfl⟩
  ·cases hl
 ·rename_i t;split at hl
  ·rename_i i off hk;simp only [Option.some.injEq,Prod.mk.injEq] at hl;obtain ⟨rfl,rfl⟩:=hl;exact ⟨a.tmps.getD t undef,hka t _ hk,fun w _=>rfl⟩
  ·cases hl
 ·rename_i t;split at hl
  ·rename_i i off hk;simp only [Option.some.injEq,Prod.mk.injEq] at hl;obtain ⟨rfl,rfl⟩:=hl;refine ⟨a.tmps.getD t undef,hka t _ hk,fun w _=>?_⟩;obtain ⟨c,h1,h2⟩:=hka t _ hk;have:a.eval (.tmp t)=.pointer (some ⟨c,off,none⟩):=h2;simp only [execOp,this];rw [h2]; rfl
  ·cases hl
 ·rename_i s t f;split at hl
  ·rename_i i off fs hk hu;cases hf:fs[f]? with
   | none=>rw [hf] at hl; cases hl
   | some fd =>
    rw [hf] at hl;simp only at hl;cases hi:P.info? fd.type with
    | none=>rw [hi] at hl; cases hl
    | some inf =>
     rw [hi] at hl;simp only at hl;cases hz:Nat.beq inf.size 0 with
     | true=>rw [hz] at hl; cases hl
     | false =>
      rw [hz] at hl;simp only [cond_false,Option.some.injEq,Prod.mk.injEq] at hl;obtain ⟨rfl,rfl⟩:=hl;obtain ⟨c,h1,h2⟩:=hka t _ hk;have he:a.eval (.tmp t)=.pointer (some ⟨c,off,none⟩):=h2;refine ⟨.pointer (some ⟨c,off+fd.offset,none⟩),⟨c,h1,rfl⟩,fun w _=>?_⟩;have hne:=Nat.ne_of_beq_eq_false hz;have hrun:(Instr.fieldAt s (.pointer (some ⟨c,off,none⟩)) f).run P w=.ok (.pointer (some ⟨c,off+fd.offset,none⟩)) w:=by
       simp only [Instr.fieldAt,Sem.run_bind,Z1 hu,Result.andThen_ok,hf,Instr.sureAddr,Sem.run_pure,fieldPlace,P3 hi];rw [if_neg hne];simp only [Sem.run_pure,Result.andThen_ok,Addr.add_lit]
      simp only [execOp,he,Sem.run_bind,hrun,Result.andThen_ok];rfl
  ·cases hl
 ·rename_i t x;split at hl
  ·rename_i i off d inf hk hu hi;split at hl
   ·rename_i e cells hc;obtain ⟨c,h1,h2⟩:=hka x _ hk;obtain ⟨rs,g2,g3⟩:=hd.loc i c _ h1 hc;have he:a.eval (.tmp x)=.pointer (some ⟨c,off,none⟩):=h2;have hlen:=LR.length g3;simp only at hlen g3;have hlt:c<w1.heap.size:=by rw [Array.getElem?_eq_some_iff] at g2; exact g2.1
    have hagg:∀w,(isAgg t).run P w=.ok (isAggD d) w:=by
     intro w;simp only [isAgg,Sem.run_bind,Z1 hu,Result.andThen_ok];cases d <;> rfl
    have hex:∀w v,(loadVar t ⟨c,off,none⟩).run P w=.ok v w→(execOp a.eval ⟨dst,.load t (.tmp x),ty,pos,after,guard⟩).run P w=.ok (.value v) w:=by
     intro w v hr;simp only [execOp,he,Instr.loadAt,Instr.sureAddr,Sem.run_bind,Sem.run_pure,Result.andThen_ok,hr]
    have hcell:∀w,agree w1 w→∀(j:Nat) u,rs[off+j]? = some u→w.cell? ((⟨c,off,none⟩:Addr).add j)=some u:=by
     intro w hag j u hu;rw [Addr.add_lit];simp [World.cell?,hag c hlt,g2,hu]
    cases hda:isAggD d with
    | true =>
     rw [hda] at hl;simp only [cond_true] at hl;cases hb:Nat.ble (off+inf.size) cells.length with
     | false=>rw [hb] at hl; cases hl
     | true =>
      rw [hb] at hl;simp only [cond_true,Option.some.injEq,Prod.mk.injEq] at hl;obtain ⟨rfl,rfl⟩:=hl;have hble:=Nat.le_of_ble_eq_true hb;have hls:((rs.toList.drop off).take inf.size).length=inf.size:=by simp at hlen ⊢; omega
      refine ⟨.agg ((rs.toList.drop off).take inf.size).toArray,?_,fun w hag=>hex w _ ?_⟩
      ·have hpw:AR φ1 ((cells.drop off).take inf.size).toArray ((rs.toList.drop off).take inf.size).toArray:=by
        refine ⟨by simp at hlen ⊢; omega,fun j u v hu hv=>?_⟩;have hA:=AR_iff.2 (show LR φ1 cells.toArray.toList rs.toList by simpa using g3);rw [List.getElem?_toArray,List.getElem?_take] at hu hv;split at hu
        ·rename_i hj;rw [if_pos hj,List.getElem?_drop] at hv;rw [List.getElem?_drop] at hu;exact hA.2 (off+j) u v (by simpa using hu) (by simpa using hv)
        ·cases hu
       exact .agg _ _ hpw.1 hpw.2
      ·have hrun:=run_loadCells_list (P:=P) w ⟨c,off,none⟩ ((rs.toList.drop off).take inf.size) (fun j u hu=>by
        rw [List.getElem?_take] at hu;split at hu
        ·rw [List.getElem?_drop] at hu;exact hcell w hag j u (by simpa using hu)
        ·cases hu)
       rw [hls] at hrun;simp only [loadVar,Sem.run_bind,hagg w,Result.andThen_ok,hda,if_true,P3 hi,hrun,Sem.run_pure]
    | false =>
     rw [hda] at hl;simp only [cond_false] at hl;cases hv:cells[off]? with
     | none=>rw [hv] at hl; cases hl
     | some v =>
      rw [hv] at hl;simp only [Option.some.injEq,Prod.mk.injEq] at hl;obtain ⟨rfl,rfl⟩:=hl;have hA:=AR_iff.2 (show LR φ1 cells.toArray.toList rs.toList by simpa using g3);obtain ⟨v',hv',hvr⟩:=hA.get (show cells.toArray[off]? = some v by simpa using hv);refine ⟨v',hvr,fun w hag=>hex w _ ?_⟩;have h0:=hcell w hag 0 v' (by simpa using hv');have e0:(⟨c,off,none⟩:Addr).add 0=⟨c,off,none⟩:=rfl;rw [e0] at h0;simp only [loadVar,Sem.run_bind,hagg w,hda,Result.andThen_ok,Bool.false_eq_true,if_false];simp [h0]
   ·cases hl
  ·cases hl
 all_goals first | (simp only [reduceCtorEq] at h; done) | (cases hl; done)
theorem KR.pfx {kv:KV} {v':Value} (hle:φ1.le φ) (hpf:∀(i:Nat) (c:Nat),cs1[i]? = some c→cs[i]? = some c) (h:KR φ1 cs1 kv v'):KR φ cs kv v':=by
 cases kv with
 | val v=>exact VR.mono hle h
 | loc i off =>
  obtain ⟨c,h1,h2⟩:=h;exact ⟨c,hpf i c h1,h2⟩
 | sli i n =>
  obtain ⟨⟨c,h1,h2⟩,h3⟩:=h;exact ⟨⟨c,hpf i c h1,h2⟩,h3⟩
theorem DA.takeL {kv:KV} (ho:ops[k]? = some (opAt ops k)) (hB:takeB P n ops A la k (opAt ops k)=true) (hc:closedOk ops.toList bs=true) (hQ:∀c a w,¬Q (.panic c) a w) (hw:wantV ops kn (opAt ops k)=some true) (hv:locDet P knA ls1 (opAt ops k)=some kv)
  (h:DA P ne m E n ops bs A H1 ls1 f (la.setIfInBounds k true) true (putV knA (opAt ops k).dst kv) (putV kn (opAt ops k).dst kv) ls H Q):DA P ne m E n ops bs A H1 ls1 (f+1) la true knA kn ls H Q:=by
 intro w1 φ1 cs1 a w φ cs hd hle hs hka hpf hJ hag;obtain ⟨v',h1,h2⟩:=zdc hv hd hka;exact z8p ho hB hc hQ hd hle hs hka hpf hJ (hag rfl) (kv:=kv) h1 (h1.pfx hle hpf) (.inl ⟨R4 hs hw,h2⟩) h
theorem zj9 {m2:Nat} {g:Nat} {args:Array Value} {v:Value} {H':AH} {o:Oper} (hs:SSφ P ne m E n kn ls H a w φ cs) (hx:o.op.operands.all (okx P)=true) (hkn:o.op.operands.all (knownV kn)=true) (hc:callV kn o=some (g,args)) (hr:CallS P ne m2 g args H v H')
  {K:Act→World→Prop} (hn:∀φ' v' w',VR φ' v v'→Inv φ' H' w'→Step m2 φ H w φ' H' w'→K (a.put o.dst v') w'):o.wp P a w K Q:=by
 rw [Array.all_eq_true_iff_forall_mem] at hkn hx;have hev:∀x∈o.op.operands,VR φ (evV kn x) (a.eval x):=fun x hxm=>hs.eval (hkn x hxm) (hx x hxm);obtain ⟨⟨fn,c,hf,hb⟩,hr⟩:=hr hs.sane;obtain ⟨dst,op,ty,pos,after,guard⟩:=o;unfold callV at hc;simp only at hc hev hn;split at hc
 ·rename_i g args0 ts;have hgv:=hev g (by simp [Op.operands,Call.operands]);have hargs:AR φ (args0.map (evV kn)) (args0.map a.eval):=ar_map args0 fun x hx=>hev x (by simp [Op.operands,Call.operands,hx]);split at hc
  ·rename_i f0 first cap hge
   simp only [Option.some.injEq,Prod.mk.injEq] at hc;obtain ⟨rfl,rfl⟩:=hc;rw [hge] at hgv;generalize hq:a.eval g=q at hgv;cases hgv with
   | func fn' f1 g1 f1' g1' hf1 hg1 i1 i2 =>
    have hall:AR φ (first++args0.map (evV kn)++cap) (f1'++args0.map a.eval++g1'):=((AR.append ⟨hf1,i1⟩ hargs).append ⟨hg1,i2⟩);show Oper.upon P _ a K Q _;have hex:execOp a.eval { dst:=dst,op:=.call { callee:=.value g,args:=args0,argTypes:=ts },type:=ty,pos:=pos,after:=after,guard:=guard }=callFunc f0 (f1'++args0.map a.eval++g1'):=by
     simp only [execOp,resolve,hq]; rfl
    rw [hex,w5 hs.sane hf hb];exact I8 (hr φ w _ hs.glob hall hs.inv) hn
  ·cases hc
 ·cases hc
theorem agree.trans' {w1 w w':World} (h1:agree w1 w) (h2:agree w w'):agree w1 w':=fun c hc=>by
 have hlt:c<w.heap.size:=by
  have:=h1 c hc;rw [Array.getElem?_eq_getElem hc] at this;rw [Array.getElem?_eq_some_iff] at this;exact this.1
 rw [h2 c hlt,h1 c hc]
theorem z77 (ho:ops[k]? = some (opAt ops k)) {w1:World} (hs:SSφ P ne m E n kn ls H a w φ cs) (hw:wantV ops kn (opAt ops k)=some true)
  (h:∀K:Act→World→Prop,(∀a' w',(demO ops A bs k=true→agree w1 w')∧wpAnyD P ops Q bs A w1 f (la.setIfInBounds k true) a' w'→K a' w')→(opAt ops k).wp P a w K Q) :
  wpOp P ops Q k (fun a' w'=>(demO ops A bs k=true→agree w1 w')∧wpAnyD P ops Q bs A w1 f (la.setIfInBounds k true) a' w') a w:=by
 unfold wpOp;rw [ho];simp only [R4 hs hw,if_true];left;exact h _ fun a' w' hh=>hh
theorem z9q (hr:(Region.ready .any ops la).contains k=true) (hc:closedOk ops.toList bs=true) (hJ:JC ops bs la):JC ops bs (la.setIfInBounds k true) :=
 hJ.next (rdy_of hc hJ (by simpa using hr))
theorem DA.one (k:Nat) (hr:readyIs ops la [k]=true) (h:DAk P ne m E n ops bs A H1 ls1 k f la ag knA kn ls H Q):DA P ne m E n ops bs A H1 ls1 (f+1) la ag knA kn ls H Q:=by
 intro w1 φ1 cs1 a w φ cs q1 q2 q3 q4 q5 q6 q7;have hr:=t6 hr;refine ⟨fun h0=>(by rw [hr] at h0; cases h0),fun i hi=>?_⟩;rw [hr] at hi;simp only [List.mem_cons,List.not_mem_nil,or_false] at hi;subst hi;exact h w1 φ1 cs1 a w φ cs q1 q2 q3 q4 q5 q6 q7
theorem R0 (k k2:Nat) (hr:readyIs ops la [k,k2]=true) (h:DAk P ne m E n ops bs A H1 ls1 k f la ag knA kn ls H Q) (h2:DAk P ne m E n ops bs A H1 ls1 k2 f la ag knA kn ls H Q):DA P ne m E n ops bs A H1 ls1 (f+1) la ag knA kn ls H Q:=by
 intro w1 φ1 cs1 a w φ cs q1 q2 q3 q4 q5 q6 q7;have hr:=t6 hr;refine ⟨fun h0=>(by rw [hr] at h0; cases h0),fun i hi=>?_⟩;rw [hr] at hi;simp only [List.mem_cons,List.not_mem_nil,or_false] at hi;rcases hi with rfl | rfl
 ·exact h w1 φ1 cs1 a w φ cs q1 q2 q3 q4 q5 q6 q7
 ·exact h2 w1 φ1 cs1 a w φ cs q1 q2 q3 q4 q5 q6 q7
theorem DA.three (k k2 k3:Nat) (hr:readyIs ops la [k,k2,k3]=true) (h:DAk P ne m E n ops bs A H1 ls1 k f la ag knA kn ls H Q) (h2:DAk P ne m E n ops bs A H1 ls1 k2 f la ag knA kn ls H Q) (h3:DAk P ne m E n ops bs A H1 ls1 k3 f la ag knA kn ls H Q):DA P ne m E n ops bs A H1 ls1 (f+1) la ag knA kn ls H Q:=by
 intro w1 φ1 cs1 a w φ cs q1 q2 q3 q4 q5 q6 q7;have hr:=t6 hr;refine ⟨fun h0=>(by rw [hr] at h0; cases h0),fun i hi=>?_⟩;rw [hr] at hi;simp only [List.mem_cons,List.not_mem_nil,or_false] at hi;rcases hi with rfl | rfl | rfl
 ·exact h w1 φ1 cs1 a w φ cs q1 q2 q3 q4 q5 q6 q7
 ·exact h2 w1 φ1 cs1 a w φ cs q1 q2 q3 q4 q5 q6 q7
 ·exact h3 w1 φ1 cs1 a w φ cs q1 q2 q3 q4 q5 q6 q7
theorem zg2 {w2:World} {A':List Nat} (hA:∀i,la.getD i true=false→demO ops A bs i=true→demO ops A' bs i=true∧agree w1 w2):∀(f:Nat) {la:Array Bool} {a:Act} {w:World},(∀i,la.getD i true=false→demO ops A bs i=true→demO ops A' bs i=true∧agree w1 w2)→wpAnyD P ops Q bs A' w2 f la a w→wpAnyD P ops Q bs A w1 f la a w:=by
 intro f;induction f with
 | zero=>intro la a w _ h; exact h
 | succ f ih =>
  intro la a w hA h;refine ⟨h.1,fun i hi=>wpOp_mono (fun a' w' hh=>⟨fun hd=>?_,ih (fun j hj hd=>hA j ?_ hd) hh.2⟩) (h.2 i hi)⟩
  ·have hun:la.getD i true=false:=by
    have h0:=(mem_ready.1 hi).1;have hlt:i<la.size:=by
     rcases Nat.lt_or_ge i la.size with h' | h'
     ·exact h'
     ·simp [Array.getElem?_eq_none h'] at h0
    simpa [hlt] using h0
   obtain ⟨q1,q2⟩:=hA i hun hd;exact q2.trans' (hh.1 q1)
  ·by_cases e:i=j
   ·subst e;rcases Nat.lt_or_ge i la.size with h' | h'
    ·simp [h'] at hj
    ·have:(la.setIfInBounds i true)=la:=by rw [Array.setIfInBounds]; simp [Nat.not_lt.2 h']
     rw [this] at hj; exact hj
   ·rwa [getD_set_ne true e] at hj
def restB (ops:Array Oper) (A A' bs:List Nat) (la:Array Bool) (ag:Bool):Bool :=
 (List.range la.size).all fun i=>la.getD i true||!demO ops A bs i||(ag&&demO ops A' bs i)
theorem DA.restart (A':List Nat) (hA:restB ops A A' bs la ag=true) (h:DA P ne m E n ops bs A' H ls f la true kn kn ls H Q):DA P ne m E n ops bs A H1 ls1 f la ag knA kn ls H Q:=by
 intro w1 φ1 cs1 a w φ cs q1 q2 q3 q4 q5 q6 q7;have hw:=h w φ cs a w φ cs ⟨q3.glob,q3.inv,fun i c x h1 h2=>(q3.loc i c x h1 h2).2,q3.len⟩ (Inj.le_refl φ) q3 (fun t kv hl=>q3.slot t kv hl) (fun _ _ hc=>hc) q6 (fun _=>.start q3.inv);have hh:∀i,la.getD i true=false→demO ops A bs i=true→demO ops A' bs i=true∧agree w1 w:=by
  intro i hi hd;unfold restB at hA;rw [List.all_eq_true] at hA;have hlt:i<la.size:=by
   rcases Nat.lt_or_ge i la.size with h' | h'
   ·exact h'
   ·simp [Array.getElem?_eq_none h'] at hi
  have:=hA i (by simpa using hlt);rw [hi,hd] at this;simp only [Bool.not_true,Bool.or_false,Bool.false_or,Bool.and_eq_true] at this;exact ⟨this.2,(q7 this.1).ag⟩
 exact zg2 hh f hh hw
theorem DA.actL {kv:KV} {ls':Lcs} (ag':Bool) (ho:ops[k]? = some (opAt ops k)) (hr:(Region.ready .any ops la).contains k=true) (hc:closedOk ops.toList bs=true) (hw:wantV ops kn (opAt ops k)=some true) (hd:dstV n (opAt ops k)=true) (hl:locOp P kn ls (opAt ops k)=some (kv,ls'))
  (ha:((!demO ops A bs k||(ag&&notStore (opAt ops k)))&&(!ag'||(ag&&notStore (opAt ops k))))=true)
  (h:DA P ne m E n ops bs A H1 ls1 f (la.setIfInBounds k true) ag' (dropV (opAt ops k).dst knA) (putV kn (opAt ops k).dst kv) ls' H Q):DAk P ne m E n ops bs A H1 ls1 k f la ag knA kn ls H Q:=by
 intro w1 φ1 cs1 a w φ cs hd1 hle hs hka hpf hJ hag;refine z77 ho hs hw fun K hK=>?_;refine zet hs hl hd fun v' w' cs' hs' hpf' hnw' hag'=>hK _ _ ?_;have hkeep:(ag&&notStore (opAt ops k))=true→Agr m H1 w1 cs1 φ w' cs':=fun hh=>by
  rw [Bool.and_eq_true] at hh;obtain ⟨h1,h2,h3⟩:=hag hh.1;refine ⟨h1.trans' (hag' hh.2),h2,fun i c hi hc=>?_⟩;rcases Nat.lt_or_ge i cs.length with hlt | hge
  ·rw [hpf' i cs[i] (List.getElem?_eq_getElem hlt)] at hc;cases hc;exact h3 i _ hi (List.getElem?_eq_getElem hlt)
  ·exact Nat.le_trans (z7a h1) (hnw' i c hge hc)
 rw [Bool.and_eq_true] at ha;refine ⟨fun hdm=>(hkeep (by have:=ha.1; rw [hdm] at this; simpa using this)).ag,h w1 φ1 cs1 _ _ φ cs' hd1 hle hs' (hka.drop _ _) (fun i c hc=>hpf' i c (hpf i c hc)) (z9q hr hc hJ) fun hag2=>hkeep (by have:=ha.2; rw [hag2] at this; simpa using this)⟩
theorem zcz {φ φ':Inj} {H H':AH} {w w':World} {m m2:Nat} (hm:m≤m2) (h:Step m2 φ H w φ' H' w'):Step m φ H w φ' H' w' :=
 ⟨h.le,h.ext,fun id l h1 h2=>⟨(h.new id l h1 h2).1,(h.new id l h1 h2).2.imp (fun q=>q) fun ⟨id0,l0,q1,q2⟩=>⟨id0,l0,Nat.le_trans hm q1,q2⟩⟩,h.alv,h.size,fun c hc hno=>h.keep c hc fun id l hid=>hno id l (Nat.le_trans hm hid),h.os,h.tape,h.output⟩
theorem Agr.step {w1:World} {φ':Inj} {H':AH} {w':World} {m2:Nat} (h:Agr m H1 w1 cs1 φ w cs) (hi:Inv φ H w) (hm:m≤m2) (hm2:H.next≤m2∨H1.next≤m2) (hst:Step m2 φ H w φ' H' w'):Agr m H1 w1 cs1 φ' w' cs:=by
 have hsz:=z7a h.ag;have key:∀id l,m2≤id→φ id=some l→w1.heap.size≤l.blk:=fun id l h1 h2=>by
  rcases hm2 with h3 | h3
  ·have:=(hi.dom id l h2).1; omega
  ·exact h.jn id l (Nat.max_le.2 ⟨by omega,by omega⟩) h2
 refine ⟨fun c hc=>?_,fun id l h1 h2=>?_,h.nw⟩
 ·rw [hst.keep c (Nat.lt_of_lt_of_le hc hsz) fun id l hid _ hl e=>by have:=key id l hid hl; omega];exact h.ag c hc
 ·cases hq:φ id with
  | some l0 =>
   have:=hst.ext _ _ hq;rw [h2] at this; cases this;exact h.jn id l h1 hq
  | none =>
   rcases (hst.new id l h2 hq).2 with h3 | ⟨id0,l0,h3,_,h4,h5⟩
   ·omega
   ·rw [← h5]; exact key id0 l0 h3 h4
theorem DA.actH (m2:Nat) (ag':Bool) {v:Value} {H':AH} (ho:ops[k]? = some (opAt ops k)) (hr:(Region.ready .any ops la).contains k=true) (hc:closedOk ops.toList bs=true) (hB:opV P n ops kn (opAt ops k)=true) (hv:runOp P (NE.plain 0) ih0 m2 (opAt ops k) (evV kn) H=some (v,H')) (hn:noCall (opAt ops k)=true)
  (hm:m≤m2) (hm2:(demO ops A bs k||ag')=true→H.next≤m2∨H1.next≤m2) (ha:((!demO ops A bs k||ag)&&(!ag'||ag))=true)
  (h:DA P ne m E n ops bs A H1 ls1 f (la.setIfInBounds k true) ag' (dropV (opAt ops k).dst knA) (putV kn (opAt ops k).dst (.val v)) ls H' Q):DAk P ne m E n ops bs A H1 ls1 k f la ag knA kn ls H Q:=by
 intro w1 φ1 cs1 a w φ cs hd1 hle hs hka hpf hJ hag;unfold opV at hB;simp only [Bool.and_eq_true] at hB;obtain ⟨⟨⟨hg,hx⟩,hkn⟩,hd⟩:=hB;rw [Array.all_eq_true_iff_forall_mem] at hkn hx;have hw:wantV ops kn (opAt ops k)=some true:=by
  split at hg
  ·assumption
  ·cases hg
 refine z77 ho hs hw fun K hK=>?_;have hr':runOp P ne ih0 m2 (opAt ops k) (evV kn) H=some (v,H'):=by
  rw [← hv];generalize opAt ops k=o at hn;obtain ⟨dst,op,ty,pos,after,guard⟩:=o;unfold runOp;cases op with
  | call c =>
   obtain ⟨callee,args,ts⟩:=c;cases callee with
   | value g=>cases hn
   | _=>rfl
  | _=>rfl
 refine E9 hs.sane zb1 hr' hs.glob (fun x hxm=>hs.eval (hkn x hxm) (hx x hxm)) hs.inv fun φ' v' w' h1 h2 h3=>?_;have hkeep:(demO ops A bs k||ag')=true→ag=true→Agr m H1 w1 cs1 φ' w' cs:=fun hh hag2=>(hag hag2).step hs.inv hm (hm2 hh) h3;rw [Bool.and_eq_true] at ha;refine hK _ _ ⟨fun hdm=>(hkeep (by rw [hdm]; rfl) (by have:=ha.1; rw [hdm] at this; simpa using this)).ag,h w1 φ1 cs1 _ _ φ' cs hd1 (fun id l hl=>h3.ext _ _ (hle _ _ hl)) ((hs.heap h2 (zcz hm h3)).put hd h1) (hka.drop _ _) hpf (z9q hr hc hJ) fun hag2=>hkeep (by rw [hag2,Bool.or_true]) (by have:=ha.2; rw [hag2] at this; simpa using this)⟩
theorem DA.actC (m2:Nat) (ag':Bool) {v:Value} {H':AH} (g:Nat) (args:Array Value) (ho:ops[k]? = some (opAt ops k)) (hr:(Region.ready .any ops la).contains k=true) (hc:closedOk ops.toList bs=true) (hB:opV P n ops kn (opAt ops k)=true) (hcl:callV kn (opAt ops k)=some (g,args)) (hcs:CallS P ne m2 g args H v H')
  (hm:m≤m2) (hm2:(demO ops A bs k||ag')=true→H.next≤m2∨H1.next≤m2) (ha:((!demO ops A bs k||ag)&&(!ag'||ag))=true)
  (h:DA P ne m E n ops bs A H1 ls1 f (la.setIfInBounds k true) ag' (dropV (opAt ops k).dst knA) (putV kn (opAt ops k).dst (.val v)) ls H' Q):DAk P ne m E n ops bs A H1 ls1 k f la ag knA kn ls H Q:=by
 intro w1 φ1 cs1 a w φ cs hd1 hle hs hka hpf hJ hag;unfold opV at hB;simp only [Bool.and_eq_true] at hB;obtain ⟨⟨⟨hg,hx⟩,hkn⟩,hd⟩:=hB;have hw:wantV ops kn (opAt ops k)=some true:=by
  split at hg
  ·assumption
  ·cases hg
 refine z77 ho hs hw fun K hK=>?_;refine zj9 hs hx hkn hcl hcs fun φ' v' w' h1 h2 h3=>?_;have hkeep:(demO ops A bs k||ag')=true→ag=true→Agr m H1 w1 cs1 φ' w' cs:=fun hh hag2=>(hag hag2).step hs.inv hm (hm2 hh) h3;rw [Bool.and_eq_true] at ha;refine hK _ _ ⟨fun hdm=>(hkeep (by rw [hdm]; rfl) (by have:=ha.1; rw [hdm] at this; simpa using this)).ag,h w1 φ1 cs1 _ _ φ' cs hd1 (fun id l hl=>h3.ext _ _ (hle _ _ hl)) ((hs.heap h2 (zcz hm h3)).put hd h1) (hka.drop _ _) hpf (z9q hr hc hJ) fun hag2=>hkeep (by rw [hag2,Bool.or_true]) (by have:=ha.2; rw [hag2] at this; simpa using this)⟩
theorem DA.fix (t:Nat) {b:Bool} (d:Bool) (hb:b=d) (hl:lkV kn t=some (.val (.bool b))) (h:DA P ne m E n ops bs A H1 ls1 f la ag ((t,.val (.bool d)) :: knA) ((t,.val (.bool d)) :: kn) ls H Q):DA P ne m E n ops bs A H1 ls1 f la ag knA kn ls H Q:=by
 subst hb;intro w1 φ1 cs1 a w φ cs hd1 hle hs hka hpf hJ hag;have hv:VR φ (.bool b) (a.tmps.getD t undef):=hs.slot t _ hl;have hv1:VR φ1 (.bool b) (a.tmps.getD t undef):=by
  generalize a.tmps.getD t undef=u at hv;cases hv; exact .bool b
 refine h w1 φ1 cs1 a w φ cs hd1 hle ⟨hs.glob,hs.inv,hs.step,hs.len,hs.loc,hs.inj,hs.low,fun s kv hh=>?_,hs.size,hs.defers,hs.sane,hs.inv0⟩ (fun s kv hh=>?_) hpf hJ hag
 ·simp only [lkV] at hh;cases hq:Nat.beq t s with
  | true =>
   rw [hq] at hh;have:=Nat.eq_of_beq_eq_true hq;subst this;cases hh;exact hv
  | false=>rw [hq] at hh; exact hs.slot s kv hh
 ·simp only [lkV] at hh;cases hq:Nat.beq t s with
  | true =>
   rw [hq] at hh;have:=Nat.eq_of_beq_eq_true hq;subst this;cases hh;exact hv1
  | false=>rw [hq] at hh; exact hka s kv hh
end
end Go.Abs
namespace Go.Abs
structure LC where
 run:{S R:Type}→(S→Option (Lp S R))→S→Option (S⊕R)
 fuel:Nat
 ok:∀{S R:Type} {body:S→Option (Lp S R)} {s:S} {o:S⊕R},run body s=some o→loopO body s=some o
noncomputable def LCo (k:Nat):LC:=⟨fun b s=>loopO b s,k,fun h=>h⟩
def LCn (k j:Nat):LC:=⟨fun b s=>iterO b k s,j,fun h=>A8.2 ⟨k,h⟩⟩
variable {P:Program} {ne:NE} {m:Nat} {ih:Ex} {ρ:Operand→Value} {o:Oper} {H H':AH}
theorem det_load {t:TypeId} {x:Operand} {a:Addr} {v:Value} (hop:o.op=.load t x) (hu:(P.underlying t).map isAggD=some false) (hi:(P.info? t).isSome=true) (hx:ρ x=.pointer (some a)) (h:H.cell a=some v):detOp P H o ρ=some v:=by
 obtain ⟨dst,op,ty,pos,after,guard⟩:=o;simp only at hop;subst hop;obtain ⟨i,hi⟩:=Option.isSome_iff_exists.1 hi;cases hd:P.underlying t with
 | none=>rw [hd] at hu; cases hu
 | some d =>
  rw [hd] at hu;simp only [Option.map_some,Option.some.injEq] at hu;simp only [detOp,tPure,hx,aLoad,hd,hi,hu,cond_false,h]
theorem det_loadA {t:TypeId} {x:Operand} {a:Addr} {l:List Value} {k:Nat} (hop:o.op=.load t x) (hu:(P.underlying t).map isAggD=some true) (hi:(P.info? t).map (·.size)=some k) (hx:ρ x=.pointer (some a)) (h:rdCells H a 0 k=some l):detOp P H o ρ=some (.agg l.toArray):=by
 obtain ⟨dst,op,ty,pos,after,guard⟩:=o;simp only at hop;subst hop;cases hie:P.info? t with
 | none=>rw [hie] at hi; cases hi
 | some i =>
  rw [hie] at hi;simp only [Option.map_some,Option.some.injEq] at hi;subst hi;cases hd:P.underlying t with
  | none=>rw [hd] at hu; cases hu
  | some d =>
   rw [hd] at hu;simp only [Option.map_some,Option.some.injEq] at hu;simp only [detOp,tPure,hx,aLoad,hd,hie,hu,cond_true,h]
theorem det_idx {t e:TypeId} {x y:Operand} {sz:Nat} {s:Sl3} {k:IntKind} {i:Int} {a:Addr} (hop:o.op=.indexAddr t x y) (hu:P.underlying t=some (.slice e)) (hi:(P.info? e).map (·.size)=some sz)
  (hx:ρ x=s.v) (hy:ρ y=.int k i) (h:idxA sz s i=some a):detOp P H o ρ=some (.pointer (some a)):=by
 obtain ⟨dst,op,ty,pos,after,guard⟩:=o;simp only at hop;subst hop;obtain ⟨p,l,c⟩:=s;cases hie:P.info? e with
 | none=>rw [hie] at hi; cases hi
 | some inf =>
  rw [hie] at hi;simp only [Option.map_some,Option.some.injEq] at hi;subst hi;unfold idxA at h;cases p with
  | none=>cases h
  | some b =>
   simp only at h;split at h
   ·rename_i hb;simp only [Option.some.injEq] at h;subst h;obtain ⟨j,rfl⟩:∃j:Nat,i=(j:Int):=⟨i.toNat,by omega⟩;have hlt:Nat.blt j l=true:=Nat.ble_eq_true_of_le (by omega);have hp:tPure P ⟨dst,.indexAddr t x y,ty,pos,after,guard⟩ ρ=some (.pointer (some (b.add (j*inf.size)))):=by
     simp only [tPure,hu,hx,hy,Sl3.v,hie];show (match (Value.int k (Int.ofNat j)) with | .int _ (.ofNat i)=>_ | _=>none)=_;simp only [hlt,cond_true]
    simp only [detOp,hp];simp
   ·cases h
theorem zh5 {t:TypeId} {x:Operand} {a:Addr} {l:List Value} {k:Nat} (hop:o.op=.load t x) (hu:(P.underlying t).map isAggD=some true) (hi:(P.info? t).map (·.size)=some k) (hx:ρ x=.pointer (some a)) (h:rdCells H a 0 k=some l):runOp P ne ih m o ρ H=some (.agg l.toArray,H):=by
 obtain ⟨dst,op,ty,pos,after,guard⟩:=o;simp only at hop;subst hop;cases hie:P.info? t with
 | none=>rw [hie] at hi; cases hi
 | some i =>
  rw [hie] at hi;simp only [Option.map_some,Option.some.injEq] at hi;subst hi;cases hd:P.underlying t with
  | none=>rw [hd] at hu; cases hu
  | some d =>
   rw [hd] at hu;simp only [Option.map_some,Option.some.injEq] at hu;simp only [runOp,aOp,execOp,hx,bind];have hS:arun P m (Instr.loadAt t (.pointer (some a))) H=some (.agg l.toArray,H):=by
    unfold Instr.loadAt Go.loadVar Go.isAgg;have hl:=z94 (P:=P) (m:=m) a i.size 0 #[] H;rw [h] at hl;simp only [Instr.sureAddr,Go.underlying,Go.program,Go.sizeOf,Go.typeInfo,bind,Pure.pure,Sem.bind,arun,hd];cases d <;> first | (simp only [isAggD] at hu; cases hu; done) | (simp only [Sem.bind,arun,if_true,hie,Go.loadCells]; rw [S2,hl]; simp [arun])
   rw [S2,hS];rfl
def mapB:Blk:={ obj:=.map #[] 0,opn:=false,esz:=0,ro:=false }
theorem G1 {a:Addr} {i k:Nat} {v:Value} {l:List Value} (h1:H.cell (a.add i)=some v) (h2:rdCells H a (i+1) k=some l):rdCells H a i (k+1)=some (v :: l):=by
 simp only [rdCells,h1,h2]
section
variable {E:Ent} {n:Nat} {kn:KN} {ls:Lcs} {ops:Array Oper} {k:Nat} {Q:Exit→Act→World→Prop}
theorem RS.ext {v:Value} (f:Nat) (args:Array Value) (ho:ops[k]? = some (opAt ops k)) (hB:opV P n ops kn (opAt ops k)=true) (hc:callV kn (opAt ops k)=some (f,args)) (ha:args.all (flat depth)=true) (hp:peval P (callFunc f args)=some (.value v)) (hv:flat depth v=true)
  (h:RS P ne m E n ops (k+1) (putV kn (opAt ops k).dst (.val v)) ls H Q):RS P ne m E n ops k kn ls H Q:=by
 intro a w hs;obtain ⟨φ,cs,hs⟩:=hs;unfold opV at hB;simp only [Bool.and_eq_true] at hB;obtain ⟨⟨⟨hg,hx⟩,hkn⟩,hd⟩:=hB;rw [Array.all_eq_true_iff_forall_mem] at hkn hx;have hw:wantV ops kn (opAt ops k)=some true:=by
  split at hg
  ·assumption
  ·cases hg
 rw [O8 ho,wpOps_cons];unfold wpOp;rw [ho];simp only [R4 hs hw,if_true];left;have hev:∀x∈(opAt ops k).op.operands,VR φ (evV kn x) (a.eval x):=fun x hxm=>hs.eval (hkn x hxm) (hx x hxm);have hn:=h (a.put (opAt ops k).dst v) w ⟨φ,cs,hs.put hd (kv:=.val v) (O2 depth hv)⟩
 revert hn hc hev
 generalize opAt ops k=o;intro hc hev hn;obtain ⟨dst,op,ty,pos,after,guard⟩:=o;unfold callV at hc;simp only at hc hev hn;split at hc
 ·rename_i g args0 ts;have hgv:=hev g (by simp [Op.operands,Call.operands]);have hargs:AR φ (args0.map (evV kn)) (args0.map a.eval):=ar_map args0 fun x hx=>hev x (by simp [Op.operands,Call.operands,hx]);split at hc
  ·rename_i f0 first cap hge
   simp only [Option.some.injEq,Prod.mk.injEq] at hc;obtain ⟨rfl,rfl⟩:=hc;rw [hge] at hgv;generalize hq:a.eval g=q at hgv;cases hgv with
   | func fn' f1 g1 f1' g1' hf1 hg1 i1 i2 =>
    have hall:AR φ (first++args0.map (evV kn)++cap) (f1'++args0.map a.eval++g1'):=((AR.append ⟨hf1,i1⟩ hargs).append ⟨hg1,i2⟩);have e:=zem ha hall;show Oper.upon P _ a _ Q _;have hex:execOp a.eval { dst:=dst,op:=.call { callee:=.value g,args:=args0,argTypes:=ts },type:=ty,pos:=pos,after:=after,guard:=guard }=callFunc f0 (f1'++args0.map a.eval++g1'):=by
     simp only [execOp,resolve,hq]; rfl
    rw [hex,← e,F3 P _ _ hp w];exact hn
  ·cases hc
 ·cases hc
end
end Go.Abs
namespace Go.Abs
variable {P:Program} {ne:NE} {m n:Nat}
variable {E:Ent} {kn knA:KN} {ls ls1:Lcs} {H H1 H':AH} {ops:Array Oper} {k:Nat} {Q:Exit→Act→World→Prop} {bs A:List Nat} {f:Nat} {la:Array Bool} {ag:Bool}
def newB (e:TypeId) (cells:List Value) (H:AH):Option (Addr×AH):=some (⟨H.next,0,none⟩,H.push (pubB e cells))
theorem run_newB {ih:Ex} {ρ:Operand→Value} {o:Oper} {e:TypeId} {cells:List Value} {p:Addr} (hr:runOp P ne ih m o ρ H=some (.pointer (some ⟨H.next,0,none⟩),H.push (pubB e cells))) (hx:newB e cells H=some (p,H')):runOp P ne ih m o ρ H=some (.pointer (some p),H'):=by
 cases hx;exact hr
def newM (H:AH):Option (Nat×AH):=some (H.next,H.push mapB)
theorem run_newM {ih:Ex} {ρ:Operand→Value} {o:Oper} {p:Nat} (hr:runOp P ne ih m o ρ H=some (.map (some H.next),H.push mapB)) (hx:newM H=some (p,H')):runOp P ne ih m o ρ H=some (.map (some p),H'):=by
 cases hx;exact hr
theorem RS.atD (d:Option Nat) (v:Value) (ho:ops[k]? = some (opAt ops k)) (hd:(opAt ops k).dst=d) (hB:(opV P n ops kn (opAt ops k)&&noCall (opAt ops k))=true) (hr:runOp P (NE.plain 0) ih0 m (opAt ops k) (evV kn) H=some (v,H'))
  (h:RS P ne m E n ops (k+1) (putV kn d (.val v)) ls H' Q):RS P ne m E n ops k kn ls H Q:=by
 subst hd;exact RS.at v ho hB hr h
theorem RS.callD (d:Option Nat) {v:Value} (f:Nat) (args:Array Value) (ho:ops[k]? = some (opAt ops k)) (hd:(opAt ops k).dst=d) (hB:opV P n ops kn (opAt ops k)=true) (hc:callV kn (opAt ops k)=some (f,args)) (hr:CallS P ne m f args H v H')
  (h:RS P ne m E n ops (k+1) (putV kn d (.val v)) ls H' Q):RS P ne m E n ops k kn ls H Q:=by
 subst hd;exact RS.call f args ho hB hc hr h
theorem RS.extD (d:Option Nat) {v:Value} (f:Nat) (args:Array Value) (ho:ops[k]? = some (opAt ops k)) (hd:(opAt ops k).dst=d) (hB:opV P n ops kn (opAt ops k)=true) (hc:callV kn (opAt ops k)=some (f,args)) (ha:args.all (flat depth)=true) (hp:peval P (callFunc f args)=some (.value v)) (hv:flat depth v=true)
  (h:RS P ne m E n ops (k+1) (putV kn d (.val v)) ls H Q):RS P ne m E n ops k kn ls H Q:=by
 subst hd;exact RS.ext f args ho hB hc ha hp hv h
theorem WS.drawnX {c:Code} (ops:Array Oper) (A:List Nat) (bs:List Nat) (sz:Nat) (hc:regOf c=some (ops,true)) (hb:befores ops.toList=bs) (hs:ops.size=sz) (hB:closedOk ops.toList bs=true) (h:DA P ne m E n ops bs A H ls sz (Array.replicate sz false) true kn kn ls H Q):WS P ne m E n c kn ls H Q:=by
 subst hb hs;exact WS.drawn ops A hc hB h
theorem DA.takeD (k:Nat) (d:Option Nat) (v:Value) (ho:ops[k]? = some (opAt ops k)) (hd:(opAt ops k).dst=d) (hB:takeB P n ops A la k (opAt ops k)=true) (hc:closedOk ops.toList bs=true) (hQ:∀c a w,¬Q (.panic c) a w)
  (hw:(wantV ops kn (opAt ops k),(opAt ops k).op.operands.all (okx P),(opAt ops k).op.operands.all (knownV knA))=(some true,true,true)) (hv:detOp P H1 (opAt ops k) (evV knA)=some v)
  (h:DA P ne m E n ops bs A H1 ls1 f (la.setIfInBounds k true) true (putV knA d (.val v)) (putV kn d (.val v)) ls H Q):DA P ne m E n ops bs A H1 ls1 (f+1) la true knA kn ls H Q:=by
 subst hd;exact DA.take ho hB hc hQ hw hv h
theorem DA.tskipD (k:Nat) (d:Option Nat) (ho:ops[k]? = some (opAt ops k)) (hd:(opAt ops k).dst=d) (hB:takeB P n ops A la k (opAt ops k)=true) (hc:closedOk ops.toList bs=true) (hQ:∀c a w,¬Q (.panic c) a w) (hw:wantV ops kn (opAt ops k)=some false)
  (h:DA P ne m E n ops bs A H1 ls1 f (la.setIfInBounds k true) true (putV knA d (.val undef)) (putV kn d (.val undef)) ls H Q):DA P ne m E n ops bs A H1 ls1 (f+1) la true knA kn ls H Q:=by
 subst hd;exact DA.tskip ho hB hc hQ hw h
theorem DA.takeLD (k:Nat) (d:Option Nat) (kv:KV) (ho:ops[k]? = some (opAt ops k)) (hd:(opAt ops k).dst=d) (hB:takeB P n ops A la k (opAt ops k)=true) (hc:closedOk ops.toList bs=true) (hQ:∀c a w,¬Q (.panic c) a w) (hw:wantV ops kn (opAt ops k)=some true) (hv:locDet P knA ls1 (opAt ops k)=some kv)
  (h:DA P ne m E n ops bs A H1 ls1 f (la.setIfInBounds k true) true (putV knA d kv) (putV kn d kv) ls H Q):DA P ne m E n ops bs A H1 ls1 (f+1) la true knA kn ls H Q:=by
 subst hd;exact DA.takeL ho hB hc hQ hw hv h
theorem DA.actLD (k:Nat) (d:Option Nat) (kv:KV) (ls':Lcs) (ag':Bool) (ho:ops[k]? = some (opAt ops k)) (hdd:(opAt ops k).dst=d) (hr:(Region.ready .any ops la).contains k=true) (hc:closedOk ops.toList bs=true) (hw:wantV ops kn (opAt ops k)=some true) (hd:dstV n (opAt ops k)=true) (hl:locOp P kn ls (opAt ops k)=some (kv,ls'))
  (ha:((!demO ops A bs k||(ag&&notStore (opAt ops k)))&&(!ag'||(ag&&notStore (opAt ops k))))=true)
  (h:DA P ne m E n ops bs A H1 ls1 f (la.setIfInBounds k true) ag' (dropV d knA) (putV kn d kv) ls' H Q):DAk P ne m E n ops bs A H1 ls1 k f la ag knA kn ls H Q:=by
 subst hdd;exact DA.actL ag' ho hr hc hw hd hl ha h
theorem DA.actHD (k:Nat) (d:Option Nat) (m2:Nat) (ag':Bool) (v:Value) (ho:ops[k]? = some (opAt ops k)) (hdd:(opAt ops k).dst=d) (hr:(Region.ready .any ops la).contains k=true) (hc:closedOk ops.toList bs=true) (hB:(opV P n ops kn (opAt ops k)&&noCall (opAt ops k))=true) (hv:runOp P (NE.plain 0) ih0 m2 (opAt ops k) (evV kn) H=some (v,H'))
  (hm:m≤m2) (hm2:(demO ops A bs k||ag')=true→H.next≤m2∨H1.next≤m2) (ha:((!demO ops A bs k||ag)&&(!ag'||ag))=true)
  (h:DA P ne m E n ops bs A H1 ls1 f (la.setIfInBounds k true) ag' (dropV d knA) (putV kn d (.val v)) ls H' Q):DAk P ne m E n ops bs A H1 ls1 k f la ag knA kn ls H Q:=by
 subst hdd;rw [Bool.and_eq_true] at hB;exact DA.actH m2 ag' ho hr hc hB.1 hv hB.2 hm hm2 ha h
theorem DA.actCD (k:Nat) (d:Option Nat) (m2:Nat) (ag':Bool) {v:Value} (g:Nat) (args:Array Value) (ho:ops[k]? = some (opAt ops k)) (hdd:(opAt ops k).dst=d) (hr:(Region.ready .any ops la).contains k=true) (hc:closedOk ops.toList bs=true) (hB:opV P n ops kn (opAt ops k)=true) (hcl:callV kn (opAt ops k)=some (g,args)) (hcs:CallS P ne m2 g args H v H')
  (hm:m≤m2) (hm2:(demO ops A bs k||ag')=true→H.next≤m2∨H1.next≤m2) (ha:((!demO ops A bs k||ag)&&(!ag'||ag))=true)
  (h:DA P ne m E n ops bs A H1 ls1 f (la.setIfInBounds k true) ag' (dropV d knA) (putV kn d (.val v)) ls H' Q):DAk P ne m E n ops bs A H1 ls1 k f la ag knA kn ls H Q:=by
 subst hdd;exact DA.actC m2 ag' g args ho hr hc hB hcl hcs hm hm2 ha h
theorem T2 {a:Addr} {i:Nat}:rdCells H a i 0=some []:=rfl
def deV:Value→Option Value:=some
theorem zcj {x:Value}:∀u,deV u=some x→u=x:=by
 intro u h; cases h; rfl
end Go.Abs
namespace Go.Abs
variable {P:Program} {ne:NE} {m n:Nat}
section
variable {E:Ent} {kn:KN} {ls:Lcs} {H:AH} {a:Act} {w:World} {φ:Inj} {cs:List Nat} {Q:Exit→Act→World→Prop}
def ldO (p:Nat) (t:TypeId):Oper:={ dst:=none,op:=.load t (.tmp p),type:=0,pos:=default,after:=#[],guard:=none }
def cellV (P:Program) (kn:KN) (ls:Lcs) (H:AH) (p:Nat) (t:TypeId):Option Value :=
 match lkV kn p with
 | some (.loc _ _)=>match locDet P kn ls (ldO p t) with
  | some (.val v)=>some v
  | _=>none
 | some (.val (.pointer (some q)))=>aLoad P t q H
 | _=>none
def resL (P:Program) (kn:KN) (ls:Lcs) (H:AH):List ResultVar→Option (List Value)
 | []=>some []
 | .tmp t :: l=>match lkV kn t,resL P kn ls H l with
  | some (.val u),some us=>some (u :: us)
  | _,_=>none
 | .cell p t :: l=>match cellV P kn ls H p t,resL P kn ls H l with
  | some u,some us=>some (u :: us)
  | _,_=>none
def resF (P:Program) (fn:Func) (kn:KN) (ls:Lcs) (H:AH):Option Value :=
 match resL P kn ls H fn.results.toList with
 | some [v]=>some v
 | some l=>some (.tuple l.toArray)
 | none=>none
def RT (P:Program) (ne:NE) (m:Nat) (E:Ent) (fn:Func) (v:Value) (H:AH) (a:Act) (w:World):Prop :=
 ∃n kn ls,SS P ne m E n kn ls H a w∧resF P fn kn ls H=some v
def retS (P:Program) (ne:NE) (m:Nat) (E:Ent) (fn:Func) (v:Value) (H:AH):Exit→Act→World→Prop
 | .normal,a,w | .ret,a,w=>RT P ne m E fn v H a w
 | _,_,_=>False
def argV:Nat→List Value→KN
 | _,[]=>[]
 | i,v :: l=>(i,.val v) :: argV (i+1) l
theorem zka:∀(l:List Value) (i t:Nat) (kv:KV),lkV (argV i l) t=some kv→∃v,kv=.val v∧i≤t∧l[t - i]? = some v:=by
 intro l;induction l with
 | nil=>intro i t kv h; cases h
 | cons v l ih =>
  intro i t kv h;simp only [argV,lkV] at h;cases hb:Nat.beq i t with
  | true =>
   rw [hb] at h;have:=Nat.eq_of_beq_eq_true hb;subst this;cases h;exact ⟨v,rfl,Nat.le_refl _,by simp⟩
  | false =>
   rw [hb] at h;have hne:=Nat.ne_of_beq_eq_false hb;obtain ⟨u,h1,h2,h3⟩:=ih _ _ _ h;refine ⟨u,h1,by omega,?_⟩;rw [show t - i=(t - (i+1))+1 by omega]
   simpa using h3
theorem zj1 (hs:SSφ P ne m E n kn ls H a w φ cs) {p:Nat} {t:TypeId} {v:Value} (h:cellV P kn ls H p t=some v):∃v',(resV a.tmps (.cell p t)).run P w=.ok v' w∧VR φ v v':=by
 unfold cellV at h;split at h
 ·rename_i i off hk;split at h
  ·rename_i u hu;simp only [Option.some.injEq] at h;subst h;obtain ⟨v',h1,h2⟩:=zdc hu (DC.mk hs.glob hs.inv (fun i c x h1 h2=>(hs.loc i c x h1 h2).2) hs.len) (fun t kv hl=>hs.slot t kv hl:KA φ cs kn a);refine ⟨v',?_,h1⟩;have h3:=h2 w (agree.refl w);obtain ⟨c,_,hp⟩:=z65 hs hk;have he:a.eval (.tmp p)=.pointer (some ⟨c,off,none⟩):=hp;simp only [ldO,execOp,he,Instr.loadAt,Instr.sureAddr,Sem.run_bind,Sem.run_pure,Result.andThen_ok] at h3;simp only [resV,hp,asAddr,Sem.run_bind,Sem.run_pure,Result.andThen_ok];generalize (loadVar t ⟨c,off,none⟩).run P w=q at h3 ⊢;cases q <;> simp [Result.andThen,Sem.run_pure] at h3
   obtain ⟨rfl,rfl⟩:=h3;rfl
  ·cases h
 ·rename_i q hk;have hp:=hs.slot p _ hk;obtain ⟨q',hq2,hqa⟩:=VR.ptr_inv hp;obtain ⟨v',h3,h4⟩:=zd2 hs.inv h hqa;refine ⟨v',?_,h4⟩;simp only [resV,Sem.run_bind,hq2];exact h3
 ·cases h
theorem zjg (hs:SSφ P ne m E n kn ls H a w φ cs):∀{l:List ResultVar} {vs:List Value},resL P kn ls H l=some vs→∃vs',(l.mapM (resV a.tmps)).run P w=.ok vs' w∧LR φ vs vs':=by
 intro l;induction l with
 | nil=>intro vs h; simp only [resL,Option.some.injEq] at h; subst h; exact ⟨[],rfl,.nil⟩
 | cons r l ih =>
  intro vs h;cases r with
  | tmp t =>
   simp only [resL] at h;split at h
   ·rename_i u us h1 h2;simp only [Option.some.injEq] at h;subst h;obtain ⟨vs',h3,h4⟩:=ih h2;refine ⟨a.tmps.getD t undef :: vs',?_,.cons (hs.slot t _ h1) h4⟩;rw [List.mapM_cons];have hA:(resV a.tmps (.tmp t)).run P w=.ok (a.tmps.getD t undef) w:=rfl;simp only [Sem.run_bind,hA,Sem.run_pure,Result.andThen_ok,h3]
   ·cases h
  | cell p t =>
   simp only [resL] at h;split at h
   ·rename_i u us h1 h2;simp only [Option.some.injEq] at h;subst h;obtain ⟨vs',h3,h4⟩:=ih h2;obtain ⟨v',h5,h6⟩:=zj1 hs h1;refine ⟨v' :: vs',?_,.cons h6 h4⟩;rw [List.mapM_cons];simp only [Sem.run_bind,h5,Sem.run_pure,Result.andThen_ok,h3]
   ·cases h
theorem CallS.mk {f:Nat} {fn:Func} {B:Code} {args:List Value} {H H':AH} {v:Value} (hf:P.funcs[f]? = some fn) (hb:fn.body=some B) (h:∀E:Ent,E.H=H→WS P ne m E fn.ntmps B (argV 0 args) [] H (retS P ne m E fn v H')):CallS P ne m f args.toArray H v H':=by
 intro hS;refine ⟨⟨fn,B,hf,hb⟩,fun φ w args' hg ha hi=>?_⟩;have hent:SS P ne m ⟨φ,H,w⟩ fn.ntmps (argV 0 args) [] H { tmps:=args'++Array.replicate (fn.ntmps - args'.size) undef,defers:=[] } w:=by
  refine ⟨φ,[],hg,hi,Step.refl _ _ _ _,rfl,fun i c x hc=>(by cases hc),fun i j c hc=>(by cases hc),fun i c hc=>(by cases hc),fun t kv hl=>?_,by simp; omega,rfl,hS,hi⟩;obtain ⟨v,rfl,_,h2⟩:=zka _ _ _ _ hl;rw [Nat.sub_zero] at h2;have:args.toArray[t]? = some v:=by simpa using h2
  obtain ⟨y,hy,hv⟩:=ha.get this;have hlt:t<args'.size:=by rw [Array.getElem?_eq_some_iff] at hy; exact hy.1
  show VR φ v _;rw [Array.getD_eq_getD_getElem?,Array.getElem?_append,if_pos hlt,hy];exact hv
 have hw:=h ⟨φ,H,w⟩ rfl _ _ hent;refine calls_of_wp hf hb (wp_mono hw fun e a w' hpost=>?_);have fin:RT P ne m ⟨φ,H,w⟩ fn v H' a w'→a.defers=[]∧∃v',(results fn a.tmps).run P w'=.ok v' w'∧(∃φ' v'',Ending.returned v'=.returned v''∧VR φ' v v''∧Inv φ' H' w'∧Step m φ H w φ' H' w'):=by
  rintro ⟨n,kn,ls,⟨φ',cs,hs⟩,hr⟩
  refine ⟨hs.defers,?_⟩;have main:∃(vs vs':List Value),(fn.results.toList.mapM (resV a.tmps)).run P w'=.ok vs' w'∧LR φ' vs vs'∧v=(if h:vs.length=1 then vs[0]'(by omega) else .tuple vs.toArray):=by
   unfold resF at hr;cases hl:resL P kn ls H' fn.results.toList with
   | none=>rw [hl] at hr; cases hr
   | some vs =>
    rw [hl] at hr;obtain ⟨vs',h1,h2⟩:=zjg hs hl;refine ⟨vs,vs',h1,h2,?_⟩;split at hr
    ·rename_i u he;cases he;cases hr;rfl
    ·rename_i l hne he;cases he;cases hr;rw [dif_neg ?_];intro h1
     match vs,h1 with
     | [u],_=>exact hne u rfl
    ·cases hr
  obtain ⟨vs,vs',h1,h2,h3⟩:=main;have hm:(fn.results.mapM (resV a.tmps)).run P w'=.ok vs'.toArray w':=by
   rw [Array.mapM_eq_mapM_toList];show Sem.run P (List.toArray <$> _) w'=_;rw [Sem.run_map,h1]; rfl
  have hlen:=LR.length h2;have hres:(results fn a.tmps).run P w'=.ok (if h:vs'.toArray.size=1 then vs'.toArray[0] else .tuple vs'.toArray) w':=by
   rw [zbm,Sem.run_bind,hm,Result.andThen_ok]; rfl
  refine ⟨_,hres,φ',_,rfl,?_,hs.inv,hs.step⟩;rw [h3];by_cases h1':vs.length=1
  ·rw [dif_pos h1',dif_pos (by simpa [← hlen] using h1')];cases h2 with
   | nil=>cases h1'
   | cons hv ht=>exact hv
  ·rw [dif_neg h1',dif_neg (by simpa [← hlen] using h1')];have:=AR_iff.2 (show LR φ' vs.toArray.toList vs'.toArray.toList by simpa using h2);exact .tuple _ _ this.1 this.2
 cases e with
 | normal=>exact fin hpost
 | ret=>exact fin hpost
 | _=>exact hpost.elim
theorem rtR {fn:Func} {v:Value} (h:RT P ne m E fn v H a w):retS P ne m E fn v H .ret a w:=h
theorem rtN {fn:Func} {v:Value} (h:RT P ne m E fn v H a w):retS P ne m E fn v H .normal a w:=h
theorem rtS {fn:Func} {v:Value} (hs:SS P ne m E n kn ls H a w) (h:resF P fn kn ls H=some v):RT P ne m E fn v H a w:=⟨n,kn,ls,hs,h⟩
theorem WS.toone {c:Code} (kn2:KN) (ls2:Lcs) (H2:AH) (h:WS P ne m E n c kn ls H (jnS P ne m E n kn2 ls2 H2 (fun _ _ _=>False))) (hN:∀a w,SS P ne m E n kn2 ls2 H2 a w→Q .normal a w):WS P ne m E n c kn ls H Q:=by
 refine fun a w hs=>wp_mono (h a w hs) fun e a w hq=>?_;cases e with
 | normal=>exact hN a w hq
 | _=>exact hq.elim
end
end Go.Abs
namespace Go.Abs
variable {P:Program} {ne:NE} {m n:Nat}
def pureOp (P:Program) (o:Oper) (ρ:Operand→Value):Option Value :=
 match o.op with
 | .load ..=>none
 | .lookup ..=>none
 | _=>detOp P ⟨0,.nil⟩ o ρ
theorem zi9 {φ:Inj} {o:Oper} {ρ ρ':Operand→Value} {v:Value} (hρ:∀x∈o.op.operands,VR φ (ρ x) (ρ' x)) (h:pureOp P o ρ=some v) :
  ∃v',VR φ v v'∧∀w,(execOp ρ' o).run P w=.ok (.value v') w:=by
 have hnl:(∀t x,o.op≠.load t x)∧(∀t x k ok,o.op≠.lookup t x k ok)∧detOp P ⟨0,.nil⟩ o ρ=some v:=by
  unfold pureOp at h;split at h
  ·cases h
  ·cases h
  ·rename_i q1 q2; exact ⟨fun t x e=>q1 t x e,fun t x k ok e=>q2 t x k ok e,h⟩
 clear h;obtain ⟨n1,n2,h⟩:=hnl;unfold detOp at h;cases ht:tPure P o ρ with
 | some u =>
  rw [ht] at h;simp only [Option.some.injEq] at h;subst h;obtain ⟨v',h1,h2⟩:=z8w hρ ht;exact ⟨v',h1,h2⟩
 | none =>
  rw [ht] at h;simp only at h;have fl:(match flatRun P o ρ ⟨0,.nil⟩ with | some (v,_)=>some v | none=>none)=some v→(∀w,∀nx,(execOp ρ' o).run P w=.ok nx w→nx≠.skip)→∃v',VR φ v v'∧∀w,(execOp ρ' o).run P w=.ok (.value v') w:=by
   intro h hns;cases hf:flatRun P o ρ ⟨0,.nil⟩ with
   | none=>rw [hf] at h; cases h
   | some p =>
    obtain ⟨u,H'⟩:=p;rw [hf] at h;simp only [Option.some.injEq] at h;subst h;obtain ⟨v',h1,h2⟩:=zf6 hρ hf hns;exact ⟨v',h1,h2⟩
  obtain ⟨dst,op,ty,pos,after,guard⟩:=o;simp only at h hρ n1 n2;split at h
  ·exact (n1 _ _ rfl).elim
  ·exact (n2 _ _ _ _ rfl).elim
  ·rename_i x i;have hx:=hρ x (by simp [Op.operands]);split at h
   ·rename_i cs hc;rw [hc] at hx;generalize hq:ρ' x=q at hx;cases hx with
    | tuple f f' hf h1 =>
     have hlt:i<f'.size:=by
      rw [Array.getElem?_eq_some_iff] at h;obtain ⟨h,_⟩:=h;omega
     refine ⟨f'[i],h1 i _ _ h (by simp [hlt]),fun w=>?_⟩;have hrun:(Instr.extract (.tuple f') i).run P w=.ok f'[i] w:=by
      simp only [Instr.extract];simp [hlt]
     simp only [execOp,hq,Sem.run_bind,hrun,Result.andThen_ok];rfl
   ·cases h
  ·rename_i args ts;split at h
   ·rename_i e b k c hu hl;simp only [Option.some.injEq] at h;subst h;have hargs:AR φ (args.map ρ) (args.map ρ'):=ar_map args fun x hx=>hρ x (by simp [Op.operands,Call.operands,hx]);obtain ⟨_,x',hx',hv⟩:=ar_one hargs hl;obtain ⟨b',c',rfl⟩:=Z9 hv;refine ⟨goInt k,.int _ _,fun w=>?_⟩;cases hts:ts[0]? with
    | none=>rw [hts] at hu; cases hu
    | some t =>
     rw [hts] at hu;have hu:P.underlying t=some (.slice e):=hu;have hrun:(Builtin.len_ ts ty (args.map ρ')).run P w=.ok (goInt k) w:=by
      rw [hx'];simp [Builtin.len_,hts,Z1 hu]
     show (do pure (Next.value (← Builtin.len_ ts ty (args.map ρ'))):Sem Next).run P w=_;rw [Sem.run_bind,hrun]; rfl
   ·exact fl h fun w nx hr=>O3 (s:=Builtin.len_ ts ty (args.map ρ')) hr
  ·rename_i bo t x y u;exact fl h fun w nx hr=>O3 (s:=(do eqGuard bo t x y (ρ' x) (ρ' y); binOp bo t (ρ' x) (ρ' y))) hr
  ·rename_i uo t x;exact fl h fun w nx hr=>O3 (s:=Op.unary uo (ρ' x)) hr
  ·rename_i t ps;exact fl h fun w nx hr=>O3 (s:=Instr.build t (ps.map fun (i,x)=>(i,ρ' x))) hr
  ·rename_i c x y;exact fl h fun w nx hr=>by
    simp only [execOp,Sem.run_bind] at hr;cases hb:(asBool (ρ' c)).run P w with
    | ok b w' =>
     rw [hb] at hr;have:Result.ok (Next.value (if b then ρ' x else ρ' y)) w'=Result.ok nx w:=hr;simp only [Result.ok.injEq] at this;rw [← this.1]; intro e; cases e
    | halt z w'=>rw [hb] at hr; cases hr
  ·rename_i t x f;exact fl h fun w nx hr=>O3 (s:=Instr.field t (ρ' x) f) hr
  ·rename_i t x y;exact fl h fun w nx hr=>O3 (s:=Instr.index t (ρ' x) (ρ' y)) hr
  ·rename_i s d x;split at h
   ·exact fl h fun w nx hr=>O3 (s:=convert s d (ρ' x)) hr
   ·exact fl h fun w nx hr=>O3 (s:=convert s d (ρ' x)) hr
   ·cases h
  ·cases h
variable {ops:Array Oper} {Q:Exit→Act→World→Prop} {bs A:List Nat} {w1:World}
theorem z2v {i:Nat} {oi:Oper} {v:Value} (hi:ops[i]? = some oi) (hc:closedOk ops.toList bs=true) (hsel:∀(j:Nat) (o:Oper) cs b,ops[j]? = some o→o.op≠.select cs b)
  (hQ:∀c a w,¬Q (.panic c) a w) :
  ∀(fuel:Nat) (la:Array Bool) (a:Act) (w:World),JC ops bs la →
   (∀j oj,ops[j]? = some oj→j≠i→la.getD j true=false→(∀e∈oj.after,Region.binds .any e=true→e.on≠i)→oi.apart ops oj=true) →
   i∈Region.ready .any ops la→YieldsIf P ops (fun _=>True) oi v a→demO ops A bs i=false →
   wpAnyD P ops Q bs A w1 fuel (la.setIfInBounds i true) (a.put oi.dst v) w→wpAnyD P ops Q bs A w1 (fuel+1) la a w:=by
 intro fuel;induction fuel with
 | zero =>
  intro la a w hJ _ hr hy hS H;refine ⟨fun h=>(by rw [h] at hr; cases hr),fun j hj=>?_⟩;by_cases hji:j=i
  ·subst hji; exact hy.wpOp hi trivial ⟨fun hh=>(by rw [hS] at hh; cases hh),H⟩
  ·have:=ready_mono hj hji;rw [H.1] at this;cases this
 | succ fuel ih =>
  intro la a w hJ hfree hr hy hS H;refine ⟨fun h=>(by rw [h] at hr; cases hr),fun j hj=>?_⟩;by_cases hji:j=i
  ·subst hji; exact hy.wpOp hi trivial ⟨fun hh=>(by rw [hS] at hh; cases hh),H⟩
  ·have h1:=H.2 j (ready_mono hj hji);have r:=rdy_of hc hJ hj;have ri:=rdy_of hc hJ hr;obtain ⟨hjun,oj,hoj,hall⟩:=mem_ready.1 hj;have hnot:∀e∈oj.after,Region.binds .any e=true→e.on≠i:=fun e he hb heq=>by
    have h1:=hall e he hb;have h0:=(mem_ready.1 hr).1;rw [heq] at h1;rcases Nat.lt_or_ge i la.size with h' | h'
    ·simp [h'] at h0 h1; rw [h0] at h1; cases h1
    ·simp [Array.getElem?_eq_none h'] at h1
   have h2:=wpOp_putIf hoj (hfree j oj hoj hji hjun hnot) (fun cs b=>hsel i oi cs b hi) (fun cs b=>hsel j oj cs b hoj) (fun c a w h=>absurd h (hQ c _ w)) hy h1;have hfree':∀k ok,ops[k]? = some ok→k≠i→(la.setIfInBounds j true).getD k true=false →
     (∀e∈ok.after,Region.binds .any e=true→e.on≠i)→oi.apart ops ok=true:=fun k ok hk hki hun hno=>by
    refine hfree k ok hk hki ?_ hno;by_cases hjk:j=k
    ·subst hjk; exact hjun
    ·rw [getD_set_ne true hjk] at hun; exact hun
   refine wpOp_mono (fun a' w' h3=>⟨h3.2.1,ih (la.setIfInBounds j true) a' w' (hJ.next r) hfree' (ready_mono hr (Ne.symm hji)) h3.1 hS ?_⟩) h2;rw [Array.setIfInBounds_comm _ _ hji];exact h3.2.2
theorem zhs {φ1:Inj} {cs1:List Nat} {knA:KN} {ls1:Lcs} {a:Act} {o:Oper} {kv:KV} (hnl:∀t x,o.op≠.load t x) (h:locDet P knA ls1 o=some kv) (hka:KA φ1 cs1 knA a):∃v',KR φ1 cs1 kv v'∧∀w,(execOp a.eval o).run P w=.ok (.value v') w:=by
 unfold locDet at h;have hl:∃ls',locOp P knA ls1 o=some (kv,ls'):=by
  split at h;all_goals first | (cases hq:locOp P knA ls1 o with | none=>rw [hq] at h; cases h | some p=>obtain ⟨x,y⟩:=p; rw [hq] at h; simp only [Option.map_some,Option.some.injEq] at h; subst h; exact ⟨y,rfl⟩) | cases h
 obtain ⟨ls',hl⟩:=hl;obtain ⟨dst,op,ty,pos,after,guard⟩:=o;unfold locOp at hl;simp only at hl h hnl;split at hl
 ·rename_i t;split at hl
  ·rename_i i off hk;simp only [Option.some.injEq,Prod.mk.injEq] at hl;obtain ⟨rfl,rfl⟩:=hl;exact ⟨a.tmps.getD t undef,hka t _ hk,fun w=>rfl⟩
  ·cases hl
 ·rename_i t;split at hl
  ·rename_i i off hk;simp only [Option.some.injEq,Prod.mk.injEq] at hl;obtain ⟨rfl,rfl⟩:=hl;exact ⟨a.tmps.getD t undef,hka t _ hk,fun w=>rfl⟩
  ·cases hl
 ·rename_i t;split at hl
  ·rename_i i off hk;simp only [Option.some.injEq,Prod.mk.injEq] at hl;obtain ⟨rfl,rfl⟩:=hl;refine ⟨a.tmps.getD t undef,hka t _ hk,fun w=>?_⟩;obtain ⟨c,h1,h2⟩:=hka t _ hk;have:a.eval (.tmp t)=.pointer (some ⟨c,off,none⟩):=h2;simp only [execOp,this];rw [h2]; rfl
  ·cases hl
 ·rename_i s t f;split at hl
  ·rename_i i off fs hk hu;cases hf:fs[f]? with
   | none=>rw [hf] at hl; cases hl
   | some fd =>
    rw [hf] at hl;simp only at hl;cases hi:P.info? fd.type with
    | none=>rw [hi] at hl; cases hl
    | some inf =>
     rw [hi] at hl;simp only at hl;cases hz:Nat.beq inf.size 0 with
     | true=>rw [hz] at hl; cases hl
     | false =>
      rw [hz] at hl;simp only [cond_false,Option.some.injEq,Prod.mk.injEq] at hl;obtain ⟨rfl,rfl⟩:=hl;obtain ⟨c,h1,h2⟩:=hka t _ hk;have he:a.eval (.tmp t)=.pointer (some ⟨c,off,none⟩):=h2;refine ⟨.pointer (some ⟨c,off+fd.offset,none⟩),⟨c,h1,rfl⟩,fun w=>?_⟩;have hne:=Nat.ne_of_beq_eq_false hz;have hrun:(Instr.fieldAt s (.pointer (some ⟨c,off,none⟩)) f).run P w=.ok (.pointer (some ⟨c,off+fd.offset,none⟩)) w:=by
       simp only [Instr.fieldAt,Sem.run_bind,Z1 hu,Result.andThen_ok,hf,Instr.sureAddr,Sem.run_pure,fieldPlace,P3 hi];rw [if_neg hne];simp only [Sem.run_pure,Result.andThen_ok,Addr.add_lit]
      simp only [execOp,he,Sem.run_bind,hrun,Result.andThen_ok];rfl
  ·cases hl
 ·exact (hnl _ _ rfl).elim
 all_goals first | (simp only [reduceCtorEq] at h; done) | (cases hl; done)
section
variable {E:Ent} {knA kn:KN} {ls ls1:Lcs} {H H1:AH} {f k:Nat} {la:Array Bool} {ag:Bool}
def takeQ (P:Program) (n:Nat) (ops:Array Oper) (A bs:List Nat) (la:Array Bool) (k:Nat) (o:Oper):Bool :=
 !(demO ops A bs k)&&Region.noSelect ops&&Region.free .any ops la k&&(Region.ready .any ops la).contains k&&dstV n o
theorem DA.takeP (k:Nat) (d:Option Nat) (v:Value) (ho:ops[k]? = some (opAt ops k)) (hd:(opAt ops k).dst=d) (hB:takeQ P n ops A bs la k (opAt ops k)=true) (hc:closedOk ops.toList bs=true) (hQ:∀c a w,¬Q (.panic c) a w)
  (hw:(wantV ops kn (opAt ops k),(opAt ops k).op.operands.all (okx P),(opAt ops k).op.operands.all (knownV kn))=(some true,true,true)) (hv:pureOp P (opAt ops k) (evV kn)=some v)
  (h:DA P ne m E n ops bs A H1 ls1 f (la.setIfInBounds k true) ag (dropV d knA) (putV kn d (.val v)) ls H Q):DA P ne m E n ops bs A H1 ls1 (f+1) la ag knA kn ls H Q:=by
 subst hd;intro w1 φ1 cs1 a w φ cs hd hle hs hka hpf hJ hag;unfold takeQ at hB;simp only [Bool.and_eq_true] at hB;obtain ⟨⟨⟨⟨b1,b2⟩,b3⟩,b4⟩,b5⟩:=hB;have hr:k∈Region.ready .any ops la:=by simpa using b4
 simp only [Prod.mk.injEq] at hw;obtain ⟨hw1,hw2,hw3⟩:=hw;rw [Array.all_eq_true_iff_forall_mem] at hw2 hw3;obtain ⟨v',h1,h2⟩:=zi9 (ρ':=a.eval) (fun x hx=>hs.eval (hw3 x hx) (hw2 x hx)) hv;refine z2v ho hc (Region.noSelect_spec b2) hQ f la a w hJ (Region.free_spec ho b3) hr (.inl ⟨R4 hs hw1,fun w _=>h2 w⟩) (by simpa using b1) ?_;exact h w1 φ1 cs1 _ w φ cs hd hle (hs.put b5 h1) (hka.drop _ _) hpf (hJ.next (rdy_of hc hJ hr)) hag
theorem DA.takePL (k:Nat) (d:Option Nat) (kv:KV) (ho:ops[k]? = some (opAt ops k)) (hd:(opAt ops k).dst=d) (hB:takeQ P n ops A bs la k (opAt ops k)=true) (hc:closedOk ops.toList bs=true) (hQ:∀c a w,¬Q (.panic c) a w)
  (hw:wantV ops kn (opAt ops k)=some true) (hv:(match (opAt ops k).op with | .load ..=>none | _=>locDet P kn ls (opAt ops k))=some kv)
  (h:DA P ne m E n ops bs A H1 ls1 f (la.setIfInBounds k true) ag (dropV d knA) (putV kn d kv) ls H Q):DA P ne m E n ops bs A H1 ls1 (f+1) la ag knA kn ls H Q:=by
 subst hd;intro w1 φ1 cs1 a w φ cs hd hle hs hka hpf hJ hag;unfold takeQ at hB;simp only [Bool.and_eq_true] at hB;obtain ⟨⟨⟨⟨b1,b2⟩,b3⟩,b4⟩,b5⟩:=hB;have hr:k∈Region.ready .any ops la:=by simpa using b4
 have hv2:locDet P kn ls (opAt ops k)=some kv:=by
  split at hv
  ·cases hv
  ·exact hv
 have hnl:∀t x,(opAt ops k).op≠.load t x:=by
  intro t x e;rw [e] at hv;cases hv
 obtain ⟨v',h1,h2⟩:=zhs hnl hv2 (fun t kv hl=>hs.slot t kv hl:KA φ cs kn a);refine z2v ho hc (Region.noSelect_spec b2) hQ f la a w hJ (Region.free_spec ho b3) hr (.inl ⟨R4 hs hw,fun w _=>h2 w⟩) (by simpa using b1) ?_;exact h w1 φ1 cs1 _ w φ cs hd hle (hs.put b5 h1) (hka.drop _ _) hpf (hJ.next (rdy_of hc hJ hr)) hag
theorem DA.tskipP (k:Nat) (d:Option Nat) (ho:ops[k]? = some (opAt ops k)) (hd:(opAt ops k).dst=d) (hB:takeQ P n ops A bs la k (opAt ops k)=true) (hc:closedOk ops.toList bs=true) (hQ:∀c a w,¬Q (.panic c) a w) (hw:wantV ops kn (opAt ops k)=some false)
  (h:DA P ne m E n ops bs A H1 ls1 f (la.setIfInBounds k true) ag (dropV d knA) (putV kn d (.val undef)) ls H Q):DA P ne m E n ops bs A H1 ls1 (f+1) la ag knA kn ls H Q:=by
 subst hd;intro w1 φ1 cs1 a w φ cs hd hle hs hka hpf hJ hag;unfold takeQ at hB;simp only [Bool.and_eq_true] at hB;obtain ⟨⟨⟨⟨b1,b2⟩,b3⟩,b4⟩,b5⟩:=hB;have hr:k∈Region.ready .any ops la:=by simpa using b4
 refine z2v (v:=undef) ho hc (Region.noSelect_spec b2) hQ f la a w hJ (Region.free_spec ho b3) hr (.inr ⟨R4 hs hw,rfl⟩) (by simpa using b1) ?_;exact h w1 φ1 cs1 _ w φ cs hd hle (hs.put b5 (kv:=.val undef) (N5 _)) (hka.drop _ _) hpf (hJ.next (rdy_of hc hJ hr)) hag
end
def notRead (o:Oper):Bool:=match o.op with
 | .load ..=>false
 | .lookup ..=>false
 | _=>true
theorem zj2 {o:Oper} {ρ:Operand→Value} {v:Value} (hn:notRead o=true) (h:detOp P ⟨0,.nil⟩ o ρ=some v):pureOp P o ρ=some v:=by
 unfold pureOp;unfold notRead at hn;split
 ·rename_i e; rw [e] at hn; cases hn
 ·rename_i e; rw [e] at hn; cases hn
 ·exact h
theorem det_strcat {o:Oper} {ρ:Operand→Value} {H:AH} {t u:TypeId} {x y:Operand} {a b c:ByteArray} (hop:o.op=.binOp .add t x y u) (hx:ρ x=.string a) (hy:ρ y=.string b) (h:strcat a b=some c):detOp P H o ρ=some (.string c):=by
 obtain ⟨dst,op,ty,pos,after,guard⟩:=o;simp only at hop;subst hop;unfold strcat at h;rcases J1 h with ⟨_,h⟩ | ⟨hp,h⟩
 ·cases h
 ·cases h;have hp':peval P (execOp ρ { dst,op:=.binOp .add t x y u,type:=ty,pos,after,guard })=some (.value (.string (a++b))):=by
   simp only [execOp,hx,hy,eqGuard,binOp,Op.stringOp,hp,if_false,bind,Pure.pure];rfl
  simp only [detOp,tPure,flatRun,Op.operands,hp',hx,hy];simp [hx,hy,flat,asVal]
end Go.Abs
namespace Go.Abs
variable {P:Program} {ne:NE} {m n:Nat}
variable {E:Ent} {kn knA:KN} {ls ls1:Lcs} {H H1 H':AH} {ops:Array Oper} {k:Nat} {Q:Exit→Act→World→Prop} {bs A:List Nat} {f:Nat} {la:Array Bool} {ag:Bool}
def bsB (P:Program) (t:TypeId) (len:Nat) (ps:Array (Nat×Value)):Option (TypeId×List Value) :=
 match P.underlying t with
 | some (.slice e)=>match P.info? e with
  | some inf=>match inf.zero with
   | some z=>bif Nat.ble (len*inf.size) 1000000&&flat depth z&&!(Nat.beq (len*inf.size) 0)&&Nat.blt len OPEN then
     (Instr.fill (fun i=>some (i*inf.size,inf.size)) ((Array.range (len*inf.size)).map (z.cells[· % z.cells.size]!)) ps.toList).map fun cs=>(e,cs.toList)
    else none
   | none=>none
  | none=>none
 | _=>none
theorem bs_run {φ:Inj} {t:TypeId} {len:Nat} {ps ps':Array (Nat×Value)} {e:TypeId} {l:List Value} (h:bsB P t len ps=some (e,l)) (hp:F2 (PR φ) ps.toList ps'.toList) (w:World) :
  len≠OPEN∧∃cs',(Instr.buildSlice t len ps').run P w=.ok (.slice (some ⟨w.heap.size,0,none⟩) len len) { w with heap:=w.heap.push (.cells cs' e (0,0)) }∧AR φ l.toArray cs':=by
 unfold bsB at h;split at h
 ·rename_i el hu;cases hi:P.info? el with
  | none=>rw [hi] at h; cases h
  | some inf =>
   rw [hi] at h;simp only at h;cases hz:inf.zero with
   | none=>rw [hz] at h; cases h
   | some z =>
    rw [hz] at h;simp only at h;cases hc:(Nat.ble (len*inf.size) 1000000&&flat depth z&&!(Nat.beq (len*inf.size) 0)&&Nat.blt len OPEN) with
    | false=>rw [hc] at h; cases h
    | true =>
     rw [hc] at h;simp only [cond_true] at h;simp only [Bool.and_eq_true] at hc;obtain ⟨⟨⟨c1,c2⟩,c3⟩,c4⟩:=hc;have c1:=Nat.le_of_ble_eq_true c1;have c3:len*inf.size≠0:=by
      intro e0;rw [e0] at c3;cases c3
     have c4:=blt_lt c4;refine ⟨fun e0=>by rw [e0] at c4; exact absurd c4 (Nat.lt_irrefl _),?_⟩;have hzc:AR φ z.cells z.cells:=o6 c2;rcases z9r (φ:=φ) (fun i=>some (i*inf.size,inf.size)) _ _ _ _ hp (z6z hzc (len*inf.size)) with ⟨e1,e2⟩ | ⟨o,o',e1,e2,ho⟩
     ·rw [e1] at h; cases h
     ·rw [e1] at h;simp only [Option.map_some,Option.some.injEq,Prod.mk.injEq] at h;obtain ⟨rfl,rfl⟩:=h;refine ⟨o',?_,by simpa using ho⟩;have hzr:(zeroValue el).run P w=.ok z w:=z1j (by rw [hi]; exact hz) w;unfold Instr.buildSlice;simp only [Sem.run_bind,Z1 hu,Result.andThen_ok,P3 hi];rw [if_neg (by omega),if_neg c3];simp only [Sem.run_bind,hzr,Result.andThen_ok,Sem.run_pure,e2];rfl
 ·cases h
def lsBS (P:Program) (kn:KN) (ls:Lcs) (o:Oper):Option (KV×Lcs) :=
 match o.op with
 | .buildSlice t len ps=>match bsB P t len (ps.map fun (i,x)=>(i,evV kn x)) with
  | some (e,l)=>some (.sli ls.length len,ls++[some (e,l)])
  | none=>none
 | _=>none
theorem L0 (k:Nat) (d:Option Nat) (kv:KV) (ls':Lcs) (ho:ops[k]? = some (opAt ops k)) (hdd:(opAt ops k).dst=d) (hr:(Region.ready .any ops la).contains k=true) (hc:closedOk ops.toList bs=true) (hB:opV P n ops kn (opAt ops k)=true) (hl:lsBS P kn ls (opAt ops k)=some (kv,ls'))
  (ha:(!demO ops A bs k||ag)=true)
  (h:DA P ne m E n ops bs A H1 ls1 f (la.setIfInBounds k true) ag (dropV d knA) (putV kn d kv) ls' H Q):DAk P ne m E n ops bs A H1 ls1 k f la ag knA kn ls H Q:=by
 subst hdd;intro w1 φ1 cs1 a w φ cs hd1 hle hs hka hpf hJ hag;unfold opV at hB;simp only [Bool.and_eq_true] at hB;obtain ⟨⟨⟨hg,hx⟩,hkn⟩,hd⟩:=hB;rw [Array.all_eq_true_iff_forall_mem] at hkn hx;have hw:wantV ops kn (opAt ops k)=some true:=by
  split at hg
  ·assumption
  ·cases hg
 refine z77 ho hs hw fun K hK=>?_;have hev:∀x∈(opAt ops k).op.operands,VR φ (evV kn x) (a.eval x):=fun x hxm=>hs.eval (hkn x hxm) (hx x hxm);have hh:=h w1 φ1 cs1;obtain ⟨oo,hoo⟩:∃oo,opAt ops k=oo:=⟨_,rfl⟩;rw [hoo] at hl hd hev hh ⊢;obtain ⟨dst,op,ty,pos,after,guard⟩:=oo;unfold lsBS at hl;simp only at hl hd;cases op with
 | buildSlice t len ps =>
  simp only at hl;cases hb:bsB P t len (ps.map fun (i,x)=>(i,evV kn x)) with
  | none=>rw [hb] at hl; cases hl
  | some p =>
   obtain ⟨e,l⟩:=p;rw [hb] at hl;simp only [Option.some.injEq,Prod.mk.injEq] at hl;obtain ⟨rfl,rfl⟩:=hl;obtain ⟨hno,cs',hrun,har⟩:=bs_run hb (z9l ps (ρ:=evV kn) (ρ':=a.eval) hev) w;obtain ⟨cs2,hs2,hp2,hq2,hn2⟩:=hs.new (e:=e) (v:=.agg l.toArray) (v':=.agg cs') (.agg _ _ har.1 har.2) (d:=none) rfl;have hs3:=hs2.put (d:=dst) hd (kv:=.sli ls.length len) (v':=.slice (some ⟨w.heap.size,0,none⟩) len len) ⟨⟨_,hq2,rfl⟩,hno⟩;have hex:(execOp a.eval ⟨dst,.buildSlice t len ps,ty,pos,after,guard⟩).run P w=.ok (.value (.slice (some ⟨w.heap.size,0,none⟩) len len)) { w with heap:=w.heap.push (.cells cs' e (0,0)) }:=by
    simp only [execOp,Sem.run_bind,hrun,Result.andThen_ok]; rfl
   unfold Oper.wp;rw [hex];have hag':ag=true→Agr m H1 w1 cs1 φ { w with heap:=w.heap.push (.cells cs' e (0,0)) } cs2:=fun h1=>by
    obtain ⟨q1,q2,q3⟩:=hag h1;refine ⟨q1.trans' (z7h _ _),q2,fun i c hi hc=>?_⟩;rcases Nat.lt_or_ge i cs.length with hlt | hge
    ·rw [hp2 i cs[i] (List.getElem?_eq_getElem hlt)] at hc;cases hc;exact q3 i _ hi (List.getElem?_eq_getElem hlt)
    ·exact Nat.le_trans (z7a q1) (hn2 i c hge hc)
   refine hK _ _ ⟨fun hdm=>(hag' (by rw [hdm] at ha; simpa using ha)).ag,?_⟩;exact hh _ _ φ cs2 hd1 hle (by simpa [putV,Act.put,Value.cells] using hs3) (by simpa using hka.drop dst _) (fun i c hc=>hp2 i c (hpf i c hc)) (z9q hr hc hJ) hag'
 | _=>cases hl
def newS (e:TypeId) (cells:List Value) (H:AH):Option (Nat×AH):=some (H.next,H.push (pubB e cells))
theorem G0 (i:Nat) {e:TypeId} {cells:List Value} {id:Nat} (kn':KN) (ls':Lcs) (hx:newS e cells H=some (id,H')) (hi:ls[i]? = some (some (e,cells))) (hk:pubK i id kn=kn') (hl:ls.set i none=ls')
  (h:DAk P ne m E n ops bs A H1 ls1 k f la ag knA kn' ls' H' Q) (hnw:(!ag||Nat.ble ls1.length i)=true:=by kernel_rfl):DAk P ne m E n ops bs A H1 ls1 k f la ag knA kn ls H Q:=by
 cases hx;subst hk hl;intro w1 φ1 cs1 a w φ cs hd1 hle hs hka hpf hJ hag;obtain ⟨φ',h1,h3,h2⟩:=hs.pub i hi;refine h w1 φ1 cs1 a w φ' cs hd1 (fun id l hl=>h1 _ _ (hle _ _ hl)) h2 hka hpf hJ fun hg=>⟨(hag hg).ag,fun id l hid hl=>?_,(hag hg).nw⟩;rcases h3 id l hl with h4 | h4
 ·exact (hag hg).jn id l hid h4
 ·rw [hg] at hnw;exact (hag hg).nw i _ (by rw [hd1.len]; simpa using hnw) h4
def isScope:Code→Bool | .scope _=>true | _=>false
theorem WS.scope {c:Code} (hc:isScope c=true) (h:WS P ne m E n (cfst c) kn ls H (Exit.noGoto Q)):WS P ne m E n c kn ls H Q:=by
 cases c with
 | scope b=>exact fun a w hs=>wp_scope_straight (h a w hs)
 | _=>cases hc
theorem sgR {a:Act} {w:World} (h:Q .ret a w):Exit.noGoto Q .ret a w:=h
section
variable {S R:Type} {knOf:S→KN} {lsOf:S→Lcs} {hOf:S→AH} {i:Nat} {QR:R→Exit→Act→World→Prop} {a:Act} {w:World}
def lpX (P:Program) (ne:NE) (m:Nat) (E:Ent) (n:Nat) (knOf:S→KN) (lsOf:S→Lcs) (hOf:S→AH) (i:Nat) (QR:R→Exit→Act→World→Prop) (o:Lp S R):Exit→Act→World→Prop
 | .normal,a,w=>∃s,o=.next s∧SS P ne m E n (knOf s) (lsOf s) (hOf s) a w
 | e,a,w=>(∃s,o=.brk s∧e=.exit i∧SS P ne m E n (knOf s) (lsOf s) (hOf s) a w)∨∃r,o=.ret r∧QR r e a w
theorem lxB {o:Lp S R} {s:S} (ho:o=.brk s) (h:SS P ne m E n (knOf s) (lsOf s) (hOf s) a w):lpX P ne m E n knOf lsOf hOf i QR o (.exit i) a w:=.inl ⟨s,ho,rfl,h⟩
theorem zhy {c:Code} {body:S→Option (Lp S R)}
  (hbody:∀s o,body s=some o→WS P ne m E n c (knOf s) (lsOf s) (hOf s) (lpX P ne m E n knOf lsOf hOf i QR o)) :
  ∀(k:Nat) (s:S) (o:S⊕R),iterO body k s=some o→∀{Q:Exit→Act→World→Prop},(∀s',o=.inl s'→∀a w,SS P ne m E n (knOf s') (lsOf s') (hOf s') a w→Q (.exit i) a w)→(∀r,o=.inr r→∀e a w,QR r e a w→Q e a w) →
   ∀a w,SS P ne m E n (knOf s) (lsOf s) (hOf s) a w→Code.rounds P c Q k a w:=by
 intro k;induction k with
 | zero=>intro s o h; cases h
 | succ k ih =>
  intro s o h Q h1 h2 a w hs;rw [rounds_succ];simp only [iterO] at h;cases hb:body s with
  | none=>rw [hb] at h; cases h
  | some l =>
   rw [hb] at h;have other:∀e a' w',((∃s,l=.brk s∧e=.exit i∧SS P ne m E n (knOf s) (lsOf s) (hOf s) a' w')∨∃r,l=.ret r∧QR r e a' w')→Q e a' w':=by
    rintro e a' w' (⟨s',rfl,rfl,hs'⟩ | ⟨r,rfl,hr⟩)
    ·simp only [Option.some.injEq] at h;exact h1 s' h.symm a' w' hs'
    ·simp only [Option.some.injEq] at h;exact h2 r h.symm _ a' w' hr
   refine wp_mono (hbody s l hb a w hs) fun e a' w' hq=>?_;cases e with
   | normal =>
    obtain ⟨s',rfl,hs'⟩:=hq;exact ih s' o h h1 h2 a' w' hs'
   | _=>exact other _ a' w' hq
theorem WS.loopX_ {c:Code} (hc:isLoop c=true) (body:S→Option (Lp S R)) (knOf:S→KN) (lsOf:S→Lcs) (hOf:S→AH) (i:Nat) (QR:R→Exit→Act→World→Prop)
  (hbody:∀s o,body s=some o→WS P ne m E n (cfst c) (knOf s) (lsOf s) (hOf s) (lpX P ne m E n knOf lsOf hOf i QR o)) {s:S} {o:S⊕R} (hl:loopO body s=some o) (k:Nat) (hsub:SubV (knOf s) kn) (hls:ls.take k=lsOf s) (hbl:belowL k (knOf s)=true) (hH:H=hOf s)
  (h1:∀s',o=.inl s'→∀a w,SS P ne m E n (knOf s') (lsOf s') (hOf s') a w→Q (.exit i) a w) (h2:∀r,o=.inr r→∀e a w,QR r e a w→Q e a w):WS P ne m E n c kn ls H Q:=by
 cases c with
 | loop body' =>
  intro a w hs;obtain ⟨k',hk⟩:=A8.1 hl;subst hH;exact wp_loop_rounds k' (zhy hbody k' s o hk h1 h2 a w (hs.sub hsub k hls hbl))
 | _=>cases hc
theorem WS.loopXI {c:Code} (hc:isLoop c=true) (body:S→Option (Lp S R)) (knOf:S→KN) (lsOf:S→Lcs) (hOf:S→AH) (i:Nat) (QR:R→Exit→Act→World→Prop)
  (hbody:∀s o,body s=some o→WS P ne m E n (cfst c) (knOf s) (lsOf s) (hOf s) (lpX P ne m E n knOf lsOf hOf i QR o)) {s s':S} (hl:loopO body s=some (.inl s')) (k:Nat) (hsub:SubV (knOf s) kn) (hls:ls.take k=lsOf s) (hbl:belowL k (knOf s)=true) (hH:H=hOf s)
  (h1:∀a w,SS P ne m E n (knOf s') (lsOf s') (hOf s') a w→Q (.exit i) a w):WS P ne m E n c kn ls H Q :=
 WS.loopX_ hc body knOf lsOf hOf i QR hbody hl k hsub hls hbl hH (fun s2 e=>by cases e; exact h1) (fun r e=>by cases e)
theorem WS.loopXR {c:Code} (hc:isLoop c=true) (body:S→Option (Lp S R)) (knOf:S→KN) (lsOf:S→Lcs) (hOf:S→AH) (i:Nat) (QR:R→Exit→Act→World→Prop)
  (hbody:∀s o,body s=some o→WS P ne m E n (cfst c) (knOf s) (lsOf s) (hOf s) (lpX P ne m E n knOf lsOf hOf i QR o)) {s:S} {r:R} (hl:loopO body s=some (.inr r)) (k:Nat) (hsub:SubV (knOf s) kn) (hls:ls.take k=lsOf s) (hbl:belowL k (knOf s)=true) (hH:H=hOf s)
  (h2:∀e a w,QR r e a w→Q e a w):WS P ne m E n c kn ls H Q :=
 WS.loopX_ hc body knOf lsOf hOf i QR hbody hl k hsub hls hbl hH (fun s2 e=>by cases e) (fun r2 e=>by cases e; exact h2)
end
def gOp {α:Type} (P:Program) (m:Nat) (ops:Array Oper) (k:Nat) (kn:KN) (de:Value→Option α) (H:AH):Option (α×AH) :=
 match runOp P (NE.plain 0) ih0 m (opAt ops k) (evV kn) H with
 | some (v,H')=>(de v).map fun x=>(x,H')
 | none=>none
theorem z61 {α:Type} {knS:KN} {de:Value→Option α} {x:α} {v:Value} (hx:gOp P m ops k knS de H=some (x,H')) (hv:∀u,de u=some x→u=v) (he:runOp P (NE.plain 0) ih0 m (opAt ops k) (evV knS) H=runOp P (NE.plain 0) ih0 m (opAt ops k) (evV kn) H):runOp P (NE.plain 0) ih0 m (opAt ops k) (evV kn) H=some (v,H'):=by
 rw [← he];unfold gOp at hx;split at hx
 ·rename_i u H1 hu;cases hd:de u with
  | none=>rw [hd] at hx; cases hx
  | some y =>
   rw [hd] at hx;simp only [Option.map_some,Option.some.injEq,Prod.mk.injEq] at hx;obtain ⟨rfl,rfl⟩:=hx;rw [hu,hv u hd]
 ·cases hx
def gOp1 {α:Type} (P:Program) (ops:Array Oper) (k:Nat) (kn:KN) (de:Value→Option α) (H:AH):Option α :=
 (gOp P 0 ops k kn de H).map (·.1)
theorem z4r {α:Type} {knS:KN} {de:Value→Option α} {x:α} {v:Value} (hx:gOp1 P ops k knS de H=some x) (hv:∀u,de u=some x→u=v) (hq:quiet P (opAt ops k)=true) (he:runOp P (NE.plain 0) ih0 0 (opAt ops k) (evV knS) H=runOp P (NE.plain 0) ih0 m (opAt ops k) (evV kn) H):runOp P (NE.plain 0) ih0 m (opAt ops k) (evV kn) H=some (v,H):=by
 unfold gOp1 at hx;cases hg:gOp P 0 ops k knS de H with
 | none=>rw [hg] at hx; cases hx
 | some p =>
  obtain ⟨y,H1⟩:=p;rw [hg] at hx;simp only [Option.map_some,Option.some.injEq] at hx;subst hx;rw [← he];have h1:runOp P (NE.plain 0) ih0 0 (opAt ops k) (evV knS) H=some (v,H1):=z61 hg hv rfl;rw [h1,zca hq h1]
theorem RS.esc {f:Nat} (d:Option Nat) (v:Value) (ho:ops[k]? = some (opAt ops k)) (hd:(opAt ops k).dst=d) (hB:opV P n ops kn (opAt ops k)=true) (hr:runOp P (NE.plain f) ih0 m (opAt ops k) (evV kn) H=some (v,H'))
  (h:RS P (NE.plain f) m E n ops (k+1) (putV kn d (.val v)) ls H' Q):RS P (NE.plain f) m E n ops k kn ls H Q:=by
 subst hd;intro a w hs;obtain ⟨φ,cs,hs⟩:=hs;unfold opV at hB;simp only [Bool.and_eq_true] at hB;obtain ⟨⟨⟨hg,hx⟩,hkn⟩,hd⟩:=hB;rw [Array.all_eq_true_iff_forall_mem] at hkn hx;have hw:wantV ops kn (opAt ops k)=some true:=by
  split at hg
  ·assumption
  ·cases hg
 rw [O8 ho,wpOps_cons];unfold wpOp;rw [ho];simp only [R4 hs hw,if_true];left;refine E9 hs.sane zb1 hr hs.glob (fun x hxm=>hs.eval (hkn x hxm) (hx x hxm)) hs.inv fun φ' v' w' h1 h2 h3=>?_;exact h _ _ ⟨φ',cs,(hs.heap h2 h3).put hd h1⟩
end Go.Abs
namespace Go.Abs
variable {P:Program} {m:Nat}
theorem z9p {laid:List (String×DataW Unit)} {W:World} {name:String} {k:IntKind} {zs:List Int} {g:Nat} {e t te:TypeId} {n:Nat} (hL:laidMet P laid W) (hf:laid.filter (fun x=>x.1 == name)=[(name,Lib.tabData k zs)])
  (hg:P.globalNamed name=some g) (hty:(P.globals[g]?).map (·.type)=some t) (ht:P.underlying t=some (.array n te)) (he:P.underlying te=some (.int k)) (hce:P.cellsOf te=1) (hct:P.cellsOf t=n) (hlt:g<P.globals.size)
  (hrow:(((begin P (fun _ _=>0) default).world.heap[g]?).bind Obj.row?).map (·.2)=some e) (hsh:W.ShapedOpen P):∃fr,W.heap[g]? = some (.cells (zs.map fun z=>Value.int k z).toArray e fr):=by
 have h1:=laidMet.filter (fun x=>x.1 == name) hL;rw [hf] at h1;exact ⟨(0,0),zik hg hlt hrow hsh (Lib.tabIs_of_head hg hty ht he hce hct h1)⟩
def zsOf:DataW Unit→List Int
 | .agg l=>l.map fun | .lit (.int _ z)=>z | _=>0
 | _=>[]
end Go.Abs
namespace Go.Abs
variable {P:Program} {ne:NE} {m n:Nat}
variable {E:Ent} {kn knA:KN} {ls ls1:Lcs} {H H1 H':AH} {ops:Array Oper} {k:Nat} {Q:Exit→Act→World→Prop} {bs A:List Nat} {f:Nat} {la:Array Bool} {ag:Bool} {c:Code}
theorem t0 (h:WS P ne m E n (cfst c) kn ls H (Exit.then ((csnd c).wp P Q) Q)) (hc:isSeq c=true:=by kernel_rfl):WS P ne m E n c kn ls H Q:=WS.seq hc h
theorem M0 (h:∀a w,SS P ne m E n kn ls H a w→Q .normal a w) (hc:isSkip c=true:=by kernel_rfl):WS P ne m E n c kn ls H Q:=WS.skip hc h
theorem C0 (h:∀a w,SS P ne m E n kn ls H a w→Q .ret a w) (hc:isRet c=true:=by kernel_rfl):WS P ne m E n c kn ls H Q:=WS.ret hc h
theorem WS.ex (i:Nat) (h:∀a w,SS P ne m E n kn ls H a w→Q (.exit i) a w) (hc:isExit i c=true:=by kernel_rfl):WS P ne m E n c kn ls H Q:=WS.exit i hc h
theorem P0 (i:Nat) (h:WS P ne m E n (cfst c) kn ls H (blkS i Q)) (hc:isBlock i c=true:=by kernel_rfl):WS P ne m E n c kn ls H Q:=WS.blk i hc h
theorem E0 (h:WS P ne m E n (cfst c) kn ls H Q) (hc:(condOf c).map (fun x=>(knownV kn x,evV kn x))=some (true,.bool true):=by kernel_rfl):WS P ne m E n c kn ls H Q:=WS.condT true rfl hc h
theorem D0 (h:WS P ne m E n (csnd c) kn ls H Q) (hc:(condOf c).map (fun x=>(knownV kn x,evV kn x))=some (true,.bool false):=by kernel_rfl):WS P ne m E n c kn ls H Q:=WS.condF false rfl hc h
theorem B0 (t:Nat) {b:Bool} (d:Bool) (hb:b=d) (h:WS P ne m E n c ((t,.val (.bool d)) :: kn) ls H Q) (hl:lkV kn t=some (.val (.bool b)):=by kernel_rfl):WS P ne m E n c kn ls H Q:=WS.fix t d hb hl h
theorem F0 (t:Nat) {b:Bool} (d:Bool) (hb:b=d) (h:RS P ne m E n ops k ((t,.val (.bool d)) :: kn) ls H Q) (hl:lkV kn t=some (.val (.bool b)):=by kernel_rfl):RS P ne m E n ops k kn ls H Q:=RS.fix t d hb hl h
theorem F1 (t:Nat) {b:Bool} (d:Bool) (hb:b=d) (h:DA P ne m E n ops bs A H1 ls1 f la ag ((t,.val (.bool d)) :: knA) ((t,.val (.bool d)) :: kn) ls H Q) (hl:lkV kn t=some (.val (.bool b)):=by kernel_rfl):DA P ne m E n ops bs A H1 ls1 f la ag knA kn ls H Q:=DA.fix t d hb hl h
theorem A0 (h:RS P ne m E n (opsOf c) 0 kn ls H Q) (hc:(regOf c).map (·.2)=some false:=by kernel_rfl):WS P ne m E n c kn ls H Q:=by
 refine WS.region (opsOf c) ?_ h;cases c with
 | region id ops d =>
  simp only [regOf,Option.map_some,Option.some.injEq] at hc;subst hc; rfl
 | _=>cases hc
theorem u0 (h:∀a w,SS P ne m E n kn ls H a w→Q .normal a w) (hk:Nat.ble ops.size k=true:=by kernel_rfl):RS P ne m E n ops k kn ls H Q:=RS.done hk h
theorem g0 (j:Nat) (new:KN) (h:RS P ne m E n ops (k+j) (new++kn) ls H Q) (hr:runLs P m n ops j k kn ls H=some (new++kn,ls,H):=by kernel_rfl):RS P ne m E n ops k kn ls H Q:=RS.many j new ls hr h
theorem O0 (j:Nat) (new:KN) (ls':Lcs) (h:RS P ne m E n ops (k+j) (new++kn) ls' H Q) (hr:runLs P m n ops j k kn ls H=some (new++kn,ls',H):=by kernel_rfl):RS P ne m E n ops k kn ls H Q:=RS.many j new ls' hr h
theorem T0 (d:Option Nat) (v:Value) (hr:runOp P (NE.plain 0) ih0 m (opAt ops k) (evV kn) H=some (v,H')) (h:RS P ne m E n ops (k+1) (putV kn d (.val v)) ls H' Q)
  (ho:ops[k]? = some (opAt ops k):=by kernel_rfl) (hd:(opAt ops k).dst=d:=by kernel_rfl) (hB:(opV P n ops kn (opAt ops k)&&noCall (opAt ops k))=true:=by kernel_rfl):RS P ne m E n ops k kn ls H Q:=RS.atD d v ho hd hB hr h
theorem RS.cl (d:Option Nat) {v:Value} (g:Nat) (args:Array Value) (hr:CallS P ne m g args H v H') (h:RS P ne m E n ops (k+1) (putV kn d (.val v)) ls H' Q)
  (ho:ops[k]? = some (opAt ops k):=by kernel_rfl) (hd:(opAt ops k).dst=d:=by kernel_rfl) (hB:opV P n ops kn (opAt ops k)=true:=by kernel_rfl) (hc:callV kn (opAt ops k)=some (g,args):=by kernel_rfl):RS P ne m E n ops k kn ls H Q:=RS.callD d g args ho hd hB hc hr h
theorem C1 (A:List Nat) (bs:List Nat) (sz:Nat) (h:closedOk (opsOf c).toList bs=true→DA P ne m E n (opsOf c) bs A H ls sz (Array.replicate sz false) true kn kn ls H Q) (hc:regOf c=some (opsOf c,true):=by kernel_rfl) (hb:befores (opsOf c).toList=bs:=by kernel_rfl) (hs:(opsOf c).size=sz:=by kernel_rfl) (hB:closedOk (opsOf c).toList bs=true:=by kernel_rfl):WS P ne m E n c kn ls H Q:=WS.drawnX (opsOf c) A bs sz hc hb hs hB (h hB)
theorem K0 (h:∀a w,SS P ne m E n kn ls H a w→Q .normal a w) (hr:readyIs ops la []=true:=by kernel_rfl):DA P ne m E n ops bs A H1 ls1 f la ag knA kn ls H Q:=DA.done hr h
theorem DA.on (k:Nat) (h:DAk P ne m E n ops bs A H1 ls1 k f la ag knA kn ls H Q) (hr:readyIs ops la [k]=true:=by kernel_rfl):DA P ne m E n ops bs A H1 ls1 (f+1) la ag knA kn ls H Q:=DA.one k hr h
theorem Z0 (k:Nat) (d:Option Nat) (v:Value) (hv:detOp P H1 (opAt ops k) (evV knA)=some v) (h:DA P ne m E n ops bs A H1 ls1 f (la.setIfInBounds k true) true (putV knA d (.val v)) (putV kn d (.val v)) ls H Q)
  (hc:closedOk ops.toList bs=true:=by assumption) (ho:ops[k]? = some (opAt ops k):=by kernel_rfl) (hd:(opAt ops k).dst=d:=by kernel_rfl) (hB:takeB P n ops A la k (opAt ops k)=true:=by kernel_rfl) (hQ:∀c a w,¬Q (.panic c) a w:=by exact fun _ _ _ h=>h)
  (hw:(wantV ops kn (opAt ops k),(opAt ops k).op.operands.all (okx P),(opAt ops k).op.operands.all (knownV knA))=(some true,true,true):=by kernel_rfl):DA P ne m E n ops bs A H1 ls1 (f+1) la true knA kn ls H Q:=DA.takeD k d v ho hd hB hc hQ hw hv h
theorem S0 (k:Nat) (d:Option Nat) (v:Value) (h:DA P ne m E n ops bs A H1 ls1 f (la.setIfInBounds k true) true (putV knA d (.val v)) (putV kn d (.val v)) ls H Q)
  (hc:closedOk ops.toList bs=true:=by assumption) (ho:ops[k]? = some (opAt ops k):=by kernel_rfl) (hd:(opAt ops k).dst=d:=by kernel_rfl) (hB:takeB P n ops A la k (opAt ops k)=true:=by kernel_rfl) (hQ:∀c a w,¬Q (.panic c) a w:=by exact fun _ _ _ h=>h)
  (hw:(wantV ops kn (opAt ops k),(opAt ops k).op.operands.all (okx P),(opAt ops k).op.operands.all (knownV knA))=(some true,true,true):=by kernel_rfl) (hv:detOp P H1 (opAt ops k) (evV knA)=some v:=by kernel_rfl):DA P ne m E n ops bs A H1 ls1 (f+1) la true knA kn ls H Q:=DA.takeD k d v ho hd hB hc hQ hw hv h
theorem Q0 (k:Nat) (d:Option Nat) (kv:KV) (h:DA P ne m E n ops bs A H1 ls1 f (la.setIfInBounds k true) true (putV knA d kv) (putV kn d kv) ls H Q)
  (hc:closedOk ops.toList bs=true:=by assumption) (ho:ops[k]? = some (opAt ops k):=by kernel_rfl) (hd:(opAt ops k).dst=d:=by kernel_rfl) (hB:takeB P n ops A la k (opAt ops k)=true:=by kernel_rfl) (hQ:∀c a w,¬Q (.panic c) a w:=by exact fun _ _ _ h=>h)
  (hw:wantV ops kn (opAt ops k)=some true:=by kernel_rfl) (hv:locDet P knA ls1 (opAt ops k)=some kv:=by kernel_rfl):DA P ne m E n ops bs A H1 ls1 (f+1) la true knA kn ls H Q:=DA.takeLD k d kv ho hd hB hc hQ hw hv h
theorem N0 (k:Nat) (d:Option Nat) (v:Value) (h:DA P ne m E n ops bs A H1 ls1 f (la.setIfInBounds k true) ag (dropV d knA) (putV kn d (.val v)) ls H Q)
  (hc:closedOk ops.toList bs=true:=by assumption) (ho:ops[k]? = some (opAt ops k):=by kernel_rfl) (hd:(opAt ops k).dst=d:=by kernel_rfl) (hB:takeQ P n ops A bs la k (opAt ops k)=true:=by kernel_rfl) (hQ:∀c a w,¬Q (.panic c) a w:=by exact fun _ _ _ h=>h)
  (hw:(wantV ops kn (opAt ops k),(opAt ops k).op.operands.all (okx P),(opAt ops k).op.operands.all (knownV kn))=(some true,true,true):=by kernel_rfl) (hv:pureOp P (opAt ops k) (evV kn)=some v:=by kernel_rfl):DA P ne m E n ops bs A H1 ls1 (f+1) la ag knA kn ls H Q:=DA.takeP k d v ho hd hB hc hQ hw hv h
theorem DA.tPx (k:Nat) (d:Option Nat) (v:Value) (hv:detOp P ⟨0,.nil⟩ (opAt ops k) (evV kn)=some v) (h:DA P ne m E n ops bs A H1 ls1 f (la.setIfInBounds k true) ag (dropV d knA) (putV kn d (.val v)) ls H Q)
  (hc:closedOk ops.toList bs=true:=by assumption) (ho:ops[k]? = some (opAt ops k):=by kernel_rfl) (hd:(opAt ops k).dst=d:=by kernel_rfl) (hB:takeQ P n ops A bs la k (opAt ops k)=true:=by kernel_rfl) (hQ:∀c a w,¬Q (.panic c) a w:=by exact fun _ _ _ h=>h)
  (hw:(wantV ops kn (opAt ops k),(opAt ops k).op.operands.all (okx P),(opAt ops k).op.operands.all (knownV kn))=(some true,true,true):=by kernel_rfl) (hn:notRead (opAt ops k)=true:=by kernel_rfl):DA P ne m E n ops bs A H1 ls1 (f+1) la ag knA kn ls H Q:=DA.takeP k d v ho hd hB hc hQ hw (zj2 hn hv) h
theorem DA.tPL (k:Nat) (d:Option Nat) (kv:KV) (h:DA P ne m E n ops bs A H1 ls1 f (la.setIfInBounds k true) ag (dropV d knA) (putV kn d kv) ls H Q)
  (hc:closedOk ops.toList bs=true:=by assumption) (ho:ops[k]? = some (opAt ops k):=by kernel_rfl) (hd:(opAt ops k).dst=d:=by kernel_rfl) (hB:takeQ P n ops A bs la k (opAt ops k)=true:=by kernel_rfl) (hQ:∀c a w,¬Q (.panic c) a w:=by exact fun _ _ _ h=>h)
  (hw:wantV ops kn (opAt ops k)=some true:=by kernel_rfl) (hv:(match (opAt ops k).op with | .load ..=>none | _=>locDet P kn ls (opAt ops k))=some kv:=by kernel_rfl):DA P ne m E n ops bs A H1 ls1 (f+1) la ag knA kn ls H Q:=DA.takePL k d kv ho hd hB hc hQ hw hv h
theorem I0 (k:Nat) (d:Option Nat) (kv:KV) (ls':Lcs) (ag':Bool) (h:DA P ne m E n ops bs A H1 ls1 f (la.setIfInBounds k true) ag' (dropV d knA) (putV kn d kv) ls' H Q)
  (hc:closedOk ops.toList bs=true:=by assumption) (ho:ops[k]? = some (opAt ops k):=by kernel_rfl) (hdd:(opAt ops k).dst=d:=by kernel_rfl) (hr:(Region.ready .any ops la).contains k=true:=by kernel_rfl) (hw:wantV ops kn (opAt ops k)=some true:=by kernel_rfl) (hd:dstV n (opAt ops k)=true:=by kernel_rfl) (hl:locOp P kn ls (opAt ops k)=some (kv,ls'):=by kernel_rfl)
  (ha:((!demO ops A bs k||(ag&&notStore (opAt ops k)))&&(!ag'||(ag&&notStore (opAt ops k))))=true:=by kernel_rfl):DAk P ne m E n ops bs A H1 ls1 k f la ag knA kn ls H Q:=DA.actLD k d kv ls' ag' ho hdd hr hc hw hd hl ha h
theorem V0 (k:Nat) (d:Option Nat) (v:Value) (hv:runOp P (NE.plain 0) ih0 m (opAt ops k) (evV kn) H=some (v,H')) (h:DA P ne m E n ops bs A H1 ls1 f (la.setIfInBounds k true) false (dropV d knA) (putV kn d (.val v)) ls H' Q)
  (hc:closedOk ops.toList bs=true:=by assumption) (ho:ops[k]? = some (opAt ops k):=by kernel_rfl) (hdd:(opAt ops k).dst=d:=by kernel_rfl) (hr:(Region.ready .any ops la).contains k=true:=by kernel_rfl) (hB:(opV P n ops kn (opAt ops k)&&noCall (opAt ops k))=true:=by kernel_rfl) (hd:demO ops A bs k=false:=by kernel_rfl):DAk P ne m E n ops bs A H1 ls1 k f la ag knA kn ls H Q :=
 DA.actHD k d m false v ho hdd hr hc hB hv (Nat.le_refl _) (fun hh=>by rw [hd] at hh; cases hh) (by rw [hd]; rfl) h
theorem U0 (k:Nat) (d:Option Nat) (ag':Bool) (v:Value) (hv:runOp P (NE.plain 0) ih0 (Nat.max m H.next) (opAt ops k) (evV kn) H=some (v,H')) (h:DA P ne m E n ops bs A H1 ls1 f (la.setIfInBounds k true) ag' (dropV d knA) (putV kn d (.val v)) ls H' Q)
  (hc:closedOk ops.toList bs=true:=by assumption) (ho:ops[k]? = some (opAt ops k):=by kernel_rfl) (hdd:(opAt ops k).dst=d:=by kernel_rfl) (hr:(Region.ready .any ops la).contains k=true:=by kernel_rfl) (hB:(opV P n ops kn (opAt ops k)&&noCall (opAt ops k))=true:=by kernel_rfl) (ha:((!demO ops A bs k||ag)&&(!ag'||ag))=true:=by kernel_rfl):DAk P ne m E n ops bs A H1 ls1 k f la ag knA kn ls H Q :=
 DA.actHD k d (Nat.max m H.next) ag' v ho hdd hr hc hB hv (Nat.le_max_left _ _) (fun _=>.inl (Nat.le_max_right _ _)) ha h
theorem B1 (k:Nat) (d:Option Nat) (ag':Bool) (v:Value) (hv:runOp P (NE.plain 0) ih0 (Nat.max m H1.next) (opAt ops k) (evV kn) H=some (v,H')) (h:DA P ne m E n ops bs A H1 ls1 f (la.setIfInBounds k true) ag' (dropV d knA) (putV kn d (.val v)) ls H' Q)
  (hc:closedOk ops.toList bs=true:=by assumption) (ho:ops[k]? = some (opAt ops k):=by kernel_rfl) (hdd:(opAt ops k).dst=d:=by kernel_rfl) (hr:(Region.ready .any ops la).contains k=true:=by kernel_rfl) (hB:(opV P n ops kn (opAt ops k)&&noCall (opAt ops k))=true:=by kernel_rfl) (ha:((!demO ops A bs k||ag)&&(!ag'||ag))=true:=by kernel_rfl):DAk P ne m E n ops bs A H1 ls1 k f la ag knA kn ls H Q :=
 DA.actHD k d (Nat.max m H1.next) ag' v ho hdd hr hc hB hv (Nat.le_max_left _ _) (fun _=>.inr (Nat.le_max_right _ _)) ha h
theorem J0 (k:Nat) (d:Option Nat) {v:Value} (g:Nat) (args:Array Value) (hcs:CallS P ne m g args H v H') (h:DA P ne m E n ops bs A H1 ls1 f (la.setIfInBounds k true) false (dropV d knA) (putV kn d (.val v)) ls H' Q)
  (hc:closedOk ops.toList bs=true:=by assumption) (ho:ops[k]? = some (opAt ops k):=by kernel_rfl) (hdd:(opAt ops k).dst=d:=by kernel_rfl) (hr:(Region.ready .any ops la).contains k=true:=by kernel_rfl) (hB:opV P n ops kn (opAt ops k)=true:=by kernel_rfl) (hcl:callV kn (opAt ops k)=some (g,args):=by kernel_rfl) (hd:demO ops A bs k=false:=by kernel_rfl):DAk P ne m E n ops bs A H1 ls1 k f la ag knA kn ls H Q :=
 DA.actCD k d m false g args ho hdd hr hc hB hcl hcs (Nat.le_refl _) (fun hh=>by rw [hd] at hh; cases hh) (by rw [hd]; rfl) h
theorem W0 (k:Nat) (d:Option Nat) (ag':Bool) {v:Value} (g:Nat) (args:Array Value) (hcs:CallS P ne (Nat.max m H.next) g args H v H') (h:DA P ne m E n ops bs A H1 ls1 f (la.setIfInBounds k true) ag' (dropV d knA) (putV kn d (.val v)) ls H' Q)
  (hc:closedOk ops.toList bs=true:=by assumption) (ho:ops[k]? = some (opAt ops k):=by kernel_rfl) (hdd:(opAt ops k).dst=d:=by kernel_rfl) (hr:(Region.ready .any ops la).contains k=true:=by kernel_rfl) (hB:opV P n ops kn (opAt ops k)=true:=by kernel_rfl) (hcl:callV kn (opAt ops k)=some (g,args):=by kernel_rfl) (ha:((!demO ops A bs k||ag)&&(!ag'||ag))=true:=by kernel_rfl):DAk P ne m E n ops bs A H1 ls1 k f la ag knA kn ls H Q :=
 DA.actCD k d (Nat.max m H.next) ag' g args ho hdd hr hc hB hcl hcs (Nat.le_max_left _ _) (fun _=>.inl (Nat.le_max_right _ _)) ha h
theorem A1 (k:Nat) (d:Option Nat) (ag':Bool) {v:Value} (g:Nat) (args:Array Value) (hcs:CallS P ne (Nat.max m H1.next) g args H v H') (h:DA P ne m E n ops bs A H1 ls1 f (la.setIfInBounds k true) ag' (dropV d knA) (putV kn d (.val v)) ls H' Q)
  (hc:closedOk ops.toList bs=true:=by assumption) (ho:ops[k]? = some (opAt ops k):=by kernel_rfl) (hdd:(opAt ops k).dst=d:=by kernel_rfl) (hr:(Region.ready .any ops la).contains k=true:=by kernel_rfl) (hB:opV P n ops kn (opAt ops k)=true:=by kernel_rfl) (hcl:callV kn (opAt ops k)=some (g,args):=by kernel_rfl) (ha:((!demO ops A bs k||ag)&&(!ag'||ag))=true:=by kernel_rfl):DAk P ne m E n ops bs A H1 ls1 k f la ag knA kn ls H Q :=
 DA.actCD k d (Nat.max m H1.next) ag' g args ho hdd hr hc hB hcl hcs (Nat.le_max_left _ _) (fun _=>.inr (Nat.le_max_right _ _)) ha h
theorem SubV.of:∀{kn' kn:KN},kn'.map (fun p=>lkV kn p.1)=kn'.map (fun p=>some p.2)→SubV kn' kn:=by
 intro kn';induction kn' with
 | nil=>intro kn _; trivial
 | cons p l ih =>
  intro kn h;obtain ⟨t,v⟩:=p;simp only [List.map_cons,List.cons.injEq] at h;exact ⟨h.1,ih h.2⟩
theorem SS.sb {a:Act} {w:World} (h:SS P ne m E n kn ls H a w) {kn':KN} (k:Nat) {ls':Lcs} (hs:kn'.map (fun p=>lkV kn p.1)=kn'.map (fun p=>some p.2):=by kernel_rfl) (hl:ls.take k=ls':=by kernel_rfl) (hb:belowL k kn'=true:=by kernel_rfl):SS P ne m E n kn' ls' H a w:=h.sub (SubV.of hs) k hl hb
theorem rS {fn:Func} {v:Value} {a:Act} {w:World} (hs:SS P ne m E n kn ls H a w) (h:resF P fn kn ls H=some v:=by kernel_rfl):RT P ne m E fn v H a w:=rtS hs h
section
variable {S R:Type} {body:S→Option (Lp S R)} {knOf:S→KN} {lsOf:S→Lcs} {hOf:S→AH} {i:Nat}
theorem Y0 {QR:R→Act→World→Prop} (hbody:∀s o,body s=some o→WS P ne m E n (cfst c) (knOf s) (lsOf s) (hOf s) (lpS P ne m E n knOf lsOf hOf i QR o)) {s s':S} (hl:loopO body s=some (.inl s')) (k:Nat) (h1:∀a w,SS P ne m E n (knOf s') (lsOf s') (hOf s') a w→Q (.exit i) a w)
  (hc:isLoop c=true:=by kernel_rfl) (hs:(knOf s).map (fun p=>lkV kn p.1)=(knOf s).map (fun p=>some p.2):=by kernel_rfl) (hls:ls.take k=lsOf s:=by kernel_rfl) (hbl:belowL k (knOf s)=true:=by kernel_rfl) (hH:H=hOf s:=by rfl):WS P ne m E n c kn ls H Q :=
 WS.loopI hc body knOf lsOf hOf i QR hbody hl k (SubV.of hs) hls hbl hH h1
theorem X0 {QR:R→Act→World→Prop} (hbody:∀s o,body s=some o→WS P ne m E n (cfst c) (knOf s) (lsOf s) (hOf s) (lpS P ne m E n knOf lsOf hOf i QR o)) {s:S} {r:R} (hl:loopO body s=some (.inr r)) (k:Nat) (h2:∀a w,QR r a w→Q .ret a w)
  (hc:isLoop c=true:=by kernel_rfl) (hs:(knOf s).map (fun p=>lkV kn p.1)=(knOf s).map (fun p=>some p.2):=by kernel_rfl) (hls:ls.take k=lsOf s:=by kernel_rfl) (hbl:belowL k (knOf s)=true:=by kernel_rfl) (hH:H=hOf s:=by rfl):WS P ne m E n c kn ls H Q :=
 WS.loopR hc body knOf lsOf hOf i QR hbody hl k (SubV.of hs) hls hbl hH h2
theorem WS.lXI {QR:R→Exit→Act→World→Prop} (hbody:∀s o,body s=some o→WS P ne m E n (cfst c) (knOf s) (lsOf s) (hOf s) (lpX P ne m E n knOf lsOf hOf i QR o)) {s s':S} (hl:loopO body s=some (.inl s')) (k:Nat) (h1:∀a w,SS P ne m E n (knOf s') (lsOf s') (hOf s') a w→Q (.exit i) a w)
  (hc:isLoop c=true:=by kernel_rfl) (hs:(knOf s).map (fun p=>lkV kn p.1)=(knOf s).map (fun p=>some p.2):=by kernel_rfl) (hls:ls.take k=lsOf s:=by kernel_rfl) (hbl:belowL k (knOf s)=true:=by kernel_rfl) (hH:H=hOf s:=by rfl):WS P ne m E n c kn ls H Q :=
 WS.loopXI hc body knOf lsOf hOf i QR hbody hl k (SubV.of hs) hls hbl hH h1
theorem WS.lXR {QR:R→Exit→Act→World→Prop} (hbody:∀s o,body s=some o→WS P ne m E n (cfst c) (knOf s) (lsOf s) (hOf s) (lpX P ne m E n knOf lsOf hOf i QR o)) {s:S} {r:R} (hl:loopO body s=some (.inr r)) (k:Nat) (h2:∀e a w,QR r e a w→Q e a w)
  (hc:isLoop c=true:=by kernel_rfl) (hs:(knOf s).map (fun p=>lkV kn p.1)=(knOf s).map (fun p=>some p.2):=by kernel_rfl) (hls:ls.take k=lsOf s:=by kernel_rfl) (hbl:belowL k (knOf s)=true:=by kernel_rfl) (hH:H=hOf s:=by rfl):WS P ne m E n c kn ls H Q :=
 WS.loopXR hc body knOf lsOf hOf i QR hbody hl k (SubV.of hs) hls hbl hH h2
end
end Go.Abs
namespace Go.Abs
variable {P:Program} {ne:NE} {m:Nat} {H:AH}
theorem zj4 {φ:Inj} {w:World} {x:Tab} (hg:Glob P φ) (hi:Inv φ H w) (hlt:x.1<P.globals.size) (hfl:x.2.2.all (flat depth)=true) (hx:H.get x.1=some (tabBlk x)) :
  ∃fr,w.heap[x.1]? = some (.cells x.2.2 x.2.1 fr):=by
 obtain ⟨l,h1,h2⟩:=hi.obj x.1 _ hx;obtain ⟨l',g1,g2,g3⟩:=hg x.1 hlt;rw [h1] at g1; cases g1;obtain ⟨c',e',f',k1,k2⟩:=h2;obtain ⟨k3,k4⟩:=k2.exact_ rfl;have k5:=k2.elem;subst k5;rw [g2] at k1;refine ⟨f',?_⟩;rw [k1];have:c'=x.2.2:=by
  refine Array.ext k4 fun i hi1 hi2=>?_;obtain ⟨v',q1,q2⟩:=k2.cell i x.2.2[i] (by simp [hi2]);rw [k3,Nat.zero_add] at q1;have hf:flat depth x.2.2[i]=true:=by
   rw [Array.all_eq_true] at hfl;exact hfl i hi2
  have:=Z5 depth hf q2;rw [← this] at q1;have q3:c'[i]? = some c'[i]:=by simp [hi1]
  rw [q3] at q1;exact Option.some.inj q1
 rw [this]
structure UnderRes (P:Program) (φ:Inj) (H:AH) (w:World) (v:Value) (H1:AH) (v':Value) (w':World) (φ1:Inj):Prop where
 vr:VR φ1 v v'
 inv:Inv φ1 H1 w'
 new:∀l,φ1 P.globals.size=some l→w.heap.size≤l.blk
 size:w.heap.size≤w'.heap.size
 keep:∀c,c<w.heap.size→w'.heap[c]? = w.heap[c]?
 os:w'.os=w.os
 tape:w'.tape=w.tape
 output:w'.output=w.output
theorem zgx {tabs:List Tab} {f:Nat} {args:Array Value} {v:Value} {H1:AH} (hP:0<P.globals.size) (hB:tabsB P tabs=true) (hc:CallS P ne P.globals.size f args (startH P tabs) v H1)
  (ha:args.all (flat depth)=true) (hsub:∀x∈tabs,H.get x.1=some (tabBlk x)) (hS:Sane P ne) :
  (∃fn c,P.funcs[f]? = some fn∧fn.body=some c)∧∀φ w args',Glob P φ→AR φ args args'→Inv φ H w→Calls P f args' w fun e w'=>∃v' φ1,e=.returned v'∧UnderRes P φ H w v H1 v' w' φ1:=by
 obtain ⟨h1,h2⟩:=hc hS;refine ⟨h1,fun φ w args' hg har hi=>?_⟩;have hB':=hB;unfold tabsB at hB';rw [List.all_eq_true] at hB';have hlt:∀x∈tabs,x.1<P.globals.size∧x.2.2.all (flat depth)=true:=fun x hx=>by
  have:=hB' x hx;simp only [Bool.and_eq_true] at this;exact ⟨blt_lt this.1,this.2⟩
 have hsz:P.globals.size≤w.heap.size:=by
  obtain ⟨l,g1,g2,_⟩:=hg (P.globals.size - 1) (by omega);have:=(hi.dom _ l g1).2;omega
 have hinv:Inv (φg P) (startH P tabs) w:=ze7 hsz hB fun x hx=>zj4 hg hi (hlt x hx).1 (hlt x hx).2 (hsub x hx);have har':AR (φg P) args args':=by
  refine ⟨har.1,fun i x y hx hy=>?_⟩;have hf:flat depth x=true:=by
   rw [Array.all_eq_true_iff_forall_mem] at ha;exact ha x (Array.mem_of_getElem? hx)
  have:=Z5 depth hf (har.2 i x y hx hy);subst this;exact O2 depth hf
 refine (h2 (φg P) w args' zgh har' hinv).mono fun e w' ⟨φ1,v',he,hv,hi1,hst⟩=>⟨v',φ1,he,hv,hi1,fun l hl=>?_,hst.size,fun c hc=>?_,hst.os,hst.tape,hst.output⟩
 ·have hno:φg P P.globals.size=none:=by simp [φg]
  rcases (hst.new _ l hl hno).2 with h | ⟨id0,l0,a1,a2,a3,_⟩
  ·exact h
  ·obtain ⟨b,hb⟩:=Option.isSome_iff_exists.1 a2;obtain ⟨x,hx,rfl,_⟩:=z11 hb;have:=(hlt x hx).1;omega
 ·refine hst.keep c hc fun id l hm hs _=>?_;obtain ⟨b,hb⟩:=Option.isSome_iff_exists.1 hs;obtain ⟨x,hx,rfl,_⟩:=z11 hb;have:=(hlt x hx).1;omega
theorem zjq {φ:Inj} {w w':World} (hi:Inv φ H w) (hs:w.heap.size≤w'.heap.size) (hk:∀c,c<w.heap.size→w'.heap[c]? = w.heap[c]?):Inv φ H w':=by
 refine ⟨fun id l hl=>?_,fun id b hb=>?_,hi.sep⟩
 ·have:=hi.dom id l hl;exact ⟨this.1,by omega⟩
 ·obtain ⟨l,q1,q2⟩:=hi.obj id b hb;exact ⟨l,q1,q2.same (hk l.blk (hi.dom id l q1).2)⟩
theorem CallS.under {tabs:List Tab} {f:Nat} {args:Array Value} {v:Value} {H1:AH} (hP:0<P.globals.size) (hB:tabsB P tabs=true) (hc:CallS P ne P.globals.size f args (startH P tabs) v H1)
  (ha:args.all (flat depth)=true) (hv:flat depth v=true) (hsub:∀x∈tabs,H.get x.1=some (tabBlk x)):CallS P ne m f args H v H:=by
 intro hS;obtain ⟨h1,h2⟩:=zgx hP hB hc ha hsub hS;refine ⟨h1,fun φ w args' hg har hi=>(h2 φ w args' hg har hi).mono fun e w' ⟨v',φ1,he,hr⟩=>?_⟩;have hvv:=Z5 depth hv hr.vr;subst hvv;exact ⟨φ,v,he,O2 depth hv,zjq hi hr.size hr.keep,⟨Nat.le_refl _,Inj.le_refl _,fun id l hl hn=>(by rw [hl] at hn; cases hn),fun id hh=>.inl hh,hr.size,fun c hc _=>hr.keep c hc,hr.os,hr.tape,hr.output⟩⟩
end Go.Abs
namespace Go.Abs
instance:DecidableEq Sl3:=fun a b =>
 if h:a.p=b.p∧a.n=b.n∧a.c=b.c then isTrue (by cases a; cases b; obtain ⟨rfl,rfl,rfl⟩:=h; rfl)
 else isFalse fun e=>h (by subst e; exact ⟨rfl,rfl,rfl⟩)
@[reducible] def kI (t:Nat) (x:Int):Nat×KV:=(t,.val (.int .i64 x))
@[reducible] def kB (t:Nat) (x:Bool):Nat×KV:=(t,.val (.bool x))
@[reducible] def kS (t:Nat) (x:Sl3):Nat×KV:=(t,.val x.v)
@[reducible] def kP (t:Nat) (x:Addr):Nat×KV:=(t,.val (.pointer (some x)))
@[reducible] def kT (t:Nat) (x:ByteArray):Nat×KV:=(t,.val (.string x))
@[reducible] def kA (t:Nat) (x:Array Value):Nat×KV:=(t,.val (.agg x))
@[reducible] def kU (t:Nat):Nat×KV:=(t,.val undef)
@[reducible] def kL (t i o:Nat):Nat×KV:=(t,.loc i o)
variable {P:Program} {ne:NE} {m n:Nat}
variable {E:Ent} {kn:KN} {ls:Lcs} {H H':AH} {ops:Array Oper} {k:Nat} {Q:Exit→Act→World→Prop}
def LoopF (P:Program) (ne:NE) (m:Nat) (E:Ent) (fn:Func) (c:Code) {S R:Type} (st:S→KN×Lcs) (hOf:S→AH) (i:Nat) (enc:R→Value) (hp:R→AH) (body:S→Option (Lp S R)):Prop :=
 ∀s o,body s=some o→WS P ne m E fn.ntmps (cfst c) (st s).1 (st s).2 (hOf s) (lpS P ne m E fn.ntmps (fun s=>(st s).1) (fun s=>(st s).2) hOf i (fun r=>RT P ne m E fn (enc r) (hp r)) o)
theorem z9m {c:Prop} [Decidable c] {a x:Int} (h:(if c then none else some a)=some x):¬c∧a=x:=by
 split at h
 ·cases h
 ·cases h; exact ⟨by assumption,rfl⟩
section
variable {ih:Ex} {ρ:Operand→Value} {o:Oper}
theorem run_bquo {t u:TypeId} {x y:Operand} {k:IntKind} {a b r:Int} (hop:o.op=.binOp .quo t x y u) (hx:ρ x=.int k a) (hy:ρ y=.int k b) (h:(if b=0 then none else some (k.wrap (a.tdiv b)))=some r):runOp P ne ih m o ρ H=some (.int k r,H):=by
 rw [← (z9m h).2]; exact zkj hop hx hy (z9m h).1
theorem run_brem {t u:TypeId} {x y:Operand} {k:IntKind} {a b r:Int} (hop:o.op=.binOp .rem t x y u) (hx:ρ x=.int k a) (hy:ρ y=.int k b) (h:(if b=0 then none else some (a.tmod b))=some r):runOp P ne ih m o ρ H=some (.int k r,H):=by
 rw [← (z9m h).2]; exact zkl hop hx hy (z9m h).1
end
theorem RS.ix (d:Nat) (t e:TypeId) (x y:Operand) {sz:Nat} {s:Sl3} {i:Int} {a:Addr} (hx:idxA sz s i=some a) (h:RS P ne m E n ops (k+1) (putV kn (some d) (.val (.pointer (some a)))) ls H Q)
  (hop:(opAt ops k).op=.indexAddr t x y:=by kernel_rfl) (hu:P.underlying t=some (.slice e):=by kernel_rfl) (hi:(P.info? e).map (·.size)=some sz:=by kernel_rfl) (h1:evV kn x=s.v:=by kernel_rfl) (h2:evV kn y=.int .i64 i:=by kernel_rfl)
  (ho:ops[k]? = some (opAt ops k):=by kernel_rfl) (hd:(opAt ops k).dst=some d:=by kernel_rfl) (hB:(opV P n ops kn (opAt ops k)&&noCall (opAt ops k))=true:=by kernel_rfl):RS P ne m E n ops k kn ls H Q :=
 T0 (some d) _ (zk7 hop hu hi h1 h2 hx) h ho hd hB
theorem D1 (d:Nat) (t:TypeId) (x:Operand) {a:Addr} {v:Value} (hx:H.cell a=some v) (h:RS P ne m E n ops (k+1) (putV kn (some d) (.val v)) ls H Q)
  (hop:(opAt ops k).op=.load t x:=by kernel_rfl) (hu:(P.underlying t).map isAggD=some false:=by kernel_rfl) (h1:evV kn x=.pointer (some a):=by kernel_rfl)
  (ho:ops[k]? = some (opAt ops k):=by kernel_rfl) (hd:(opAt ops k).dst=some d:=by kernel_rfl) (hB:(opV P n ops kn (opAt ops k)&&noCall (opAt ops k))=true:=by kernel_rfl):RS P ne m E n ops k kn ls H Q :=
 T0 (some d) _ (run_load hop hu h1 hx) h ho hd hB
theorem E1 (d:Nat) (t:TypeId) (x:Operand) (c:Nat) {a:Addr} {l:List Value} (hx:rdCells H a 0 c=some l) (h:RS P ne m E n ops (k+1) (putV kn (some d) (.val (.agg l.toArray))) ls H Q)
  (hop:(opAt ops k).op=.load t x:=by kernel_rfl) (hu:(P.underlying t).map isAggD=some true:=by kernel_rfl) (hi:(P.info? t).map (·.size)=some c:=by kernel_rfl) (h1:evV kn x=.pointer (some a):=by kernel_rfl)
  (ho:ops[k]? = some (opAt ops k):=by kernel_rfl) (hd:(opAt ops k).dst=some d:=by kernel_rfl) (hB:(opV P n ops kn (opAt ops k)&&noCall (opAt ops k))=true:=by kernel_rfl):RS P ne m E n ops k kn ls H Q :=
 T0 (some d) _ (zh5 hop hu hi h1 hx) h ho hd hB
end Go.Abs
namespace Go.Abs
variable {P:Program} {ne:NE} {m n:Nat}
def swI (i j k:Nat):Nat:=bif Nat.beq k i then j else bif Nat.beq k j then i else k
def swK (i j:Nat):KV→KV
 | .val v=>.val v
 | .loc a o=>.loc (swI i j a) o
 | .sli a n=>.sli (swI i j a) n
def swN (i j:Nat):KN→KN
 | []=>[]
 | (t,v) :: l=>(t,swK i j v) :: swN i j l
def swL {α:Type} (i j:Nat) (l:List α):List α:=match l[i]?,l[j]? with
 | some x,some y=>(l.set i y).set j x
 | _,_=>l
theorem z9n (i j k:Nat):swI i j (swI i j k)=k:=by
 have e:∀a b:Nat,Nat.beq a b=decide (a=b):=fun a b=>by
  cases h:Nat.beq a b
  ·exact (decide_eq_false (Nat.ne_of_beq_eq_false h)).symm
  ·exact (decide_eq_true (Nat.eq_of_beq_eq_true h)).symm
 unfold swI;simp only [e,cond_eq_ite,decide_eq_true_eq];by_cases h1:k=i
 ·subst h1;rw [if_pos rfl];by_cases h2:j=k
  ·rw [if_pos h2]; exact h2
  ·rw [if_neg h2,if_pos rfl]
 ·rw [if_neg h1];by_cases h2:k=j
  ·subst h2; rw [if_pos rfl,if_pos rfl]
  ·rw [if_neg h2,if_neg h1,if_neg h2]
theorem zgj {α:Type} {i j:Nat} {l:List α} (hi:i<l.length) (hj:j<l.length) (k:Nat):(swL i j l)[k]? = l[swI i j k]? := by
 have e:∀a b:Nat,Nat.beq a b=decide (a=b):=fun a b=>by
  cases h:Nat.beq a b
  ·exact (decide_eq_false (Nat.ne_of_beq_eq_false h)).symm
  ·exact (decide_eq_true (Nat.eq_of_beq_eq_true h)).symm
 unfold swL swI;rw [List.getElem?_eq_getElem hi,List.getElem?_eq_getElem hj];simp only [e,cond_eq_ite,decide_eq_true_eq,List.getElem?_set,List.length_set];by_cases h1:k=i
 ·subst h1;by_cases h2:j=k
  ·subst h2; simp [hi]
  ·simp [h2,hi,hj]
 ·by_cases h2:k=j
  ·subst h2; simp [h1,hi,hj]
  ·simp [h1,h2,Ne.symm h1,Ne.symm h2]
theorem zgl {α:Type} (i j:Nat) (l:List α):(swL i j l).length=l.length:=by
 unfold swL;split <;> simp
theorem swN_lk {i j:Nat}:∀{kn:KN} {t:Nat} {kv:KV},lkV (swN i j kn) t=some kv→∃v,lkV kn t=some v∧kv=swK i j v
 | [],_,_,h=>by cases h
 | (k,v) :: l,t,kv,h=>by
  simp only [swN,lkV] at h ⊢;cases hb:Nat.beq k t with
  | true=>rw [hb] at h; cases h; exact ⟨v,rfl,rfl⟩
  | false=>rw [hb] at h; exact swN_lk h
theorem SS.sw {E:Ent} {kn:KN} {ls:Lcs} {H:AH} {a:Act} {w:World} (i j:Nat) (h:SS P ne m E n kn ls H a w) (hi:Nat.blt i ls.length=true:=by kernel_rfl) (hj:Nat.blt j ls.length=true:=by kernel_rfl):SS P ne m E n (swN i j kn) (swL i j ls) H a w:=by
 obtain ⟨φ,cs,h⟩:=h;have hi:=blt_lt hi;have hj:=blt_lt hj;have hl:=h.len;have gc:=zgj (l:=cs) (i:=i) (j:=j) (by omega) (by omega);have gl:=zgj (l:=ls) hi hj;refine ⟨φ,swL i j cs,h.glob,h.inv,h.step,by rw [zgl,zgl]; exact hl,fun k c x hc hx=>?_,fun k k' c hc hc'=>?_,fun k c hc=>?_,fun t kv hk=>?_,h.size,h.defers,h.sane,h.inv0⟩
 ·rw [gc] at hc; rw [gl] at hx; exact h.loc _ c x hc hx
 ·rw [gc] at hc hc';have:=h.inj _ _ c hc hc';rw [← z9n i j k,this,z9n]
 ·rw [gc] at hc; exact h.low _ c hc
 ·obtain ⟨v,h1,rfl⟩:=swN_lk hk;have h2:=h.slot t v h1;cases v with
  | val v=>exact h2
  | loc b o =>
   obtain ⟨c,h3,h4⟩:=h2;exact ⟨c,by rw [gc,z9n]; exact h3,h4⟩
  | sli b o =>
   obtain ⟨⟨c,h3,h4⟩,h5⟩:=h2;exact ⟨⟨c,by rw [gc,z9n]; exact h3,h4⟩,h5⟩
end Go.Abs
namespace Go.Abs
variable {P:Program} {ne:NE}
def OrOK (P:Program) (ne:NE) (o:Nat→FuncId→Array Value→AH→Option (Value×AH)):Prop:=∀m f args H v H',o m f args H=some (v,H')→CallS P ne m f args H v H'
theorem Sane.orcs {o:Nat→FuncId→Array Value→AH→Option (Value×AH)} (h:Sane P ne) (ho:OrOK P ne o):Sane P ⟨ne.esc,o⟩ :=
 ⟨h.mixed,h.noNum,h.esc,fun m f args H v H' hh=>ho m f args H v H' hh h⟩
theorem CallS.ofRun {o:Nat→FuncId→Array Value→AH→Option (Value×AH)} {n m f:Nat} {args:Array Value} {H H':AH} {v:Value} {fn:Func} {c:Code} (ho:OrOK P ne o) (hf:P.funcs[f]? = some fn) (hb:fn.body=some c) (h:acall P ⟨ne.esc,o⟩ n m f args H=some (v,H')):CallS P ne m f args H v H' :=
 fun hs=>⟨⟨fn,c,hf,hb⟩,fun _ _ _ hg ha hi=>zja (hs.orcs ho) hf hb h hg ha hi⟩
structure Dc (α:Type) where
 de:Value→Option α
 en:α→Value
 inv:∀v a,de v=some a→v=en a
structure DcL (α:Type) where
 de:List Value→Option α
 en:α→List Value
 inv:∀v a,de v=some a→v=en a
def dcI (k:IntKind):Dc Int:=⟨deI k,fun a=>.int k a,fun u _ h=>N1 u h⟩
def dcB:Dc Bool:=⟨deB,fun a=>.bool a,fun u _ h=>j2 u h⟩
def dcS:Dc ByteArray:=⟨deS,fun a=>.string a,fun u _ h=>X1 u h⟩
def dcSl:Dc Sl3:=⟨deSl,fun a=>a.v,fun u _ h=>M1 u h⟩
def dcP:Dc (Option Addr):=⟨deP,fun a=>.pointer a,fun u _ h=>Q9 u h⟩
def dcN:DcL Unit:=⟨fun | []=>some () | _=>none,fun _=>[],fun v a h=>by cases v with | nil=>rfl | cons x l=>cases h⟩
def dcC {α β:Type} (x:Dc α) (y:DcL β):DcL (α×β):=⟨fun | []=>none | v :: l=>(x.de v).bind fun a=>(y.de l).map fun b=>(a,b),fun p=>x.en p.1 :: y.en p.2,fun v p h=>by
 cases v with
 | nil=>cases h
 | cons v l =>
  simp only at h;cases hx:x.de v with
  | none=>rw [hx] at h; cases h
  | some a =>
   cases hy:y.de l with
   | none=>rw [hx,hy] at h; cases h
   | some b =>
    rw [hx,hy] at h;cases h;rw [x.inv v a hx,y.inv l b hy]⟩
def dcG {α:Type} (l:DcL α):Dc α:=⟨fun | .agg c=>l.de c.toList | _=>none,fun a=>.agg (l.en a).toArray,fun v a h=>by
 cases v with
 | agg c=>rw [← l.inv _ _ h]
 | _=>cases h⟩
def dcT {α:Type} (l:DcL α):Dc α:=⟨fun | .tuple c=>l.de c.toList | _=>none,fun a=>.tuple (l.en a).toArray,fun v a h=>by
 cases v with
 | tuple c=>rw [← l.inv _ _ h]
 | _=>cases h⟩
def orF {α:Type} (g:FuncId) (d:DcL α) (run:Nat→AH→α→Option (Value×AH)):Nat→FuncId→Array Value→AH→Option (Value×AH):=fun m f args H=>bif Nat.beq f g then (d.de args.toList).bind fun a=>run m H a else none
def orO (o1 o2:Nat→FuncId→Array Value→AH→Option (Value×AH)):Nat→FuncId→Array Value→AH→Option (Value×AH):=fun m f args H=>match o1 m f args H with
 | some r=>some r
 | none=>o2 m f args H
def orN:Nat→FuncId→Array Value→AH→Option (Value×AH):=fun _ _ _ _=>none
theorem orN_ok:OrOK P ne orN:=fun _ _ _ _ _ _ h=>by cases h
theorem orO_ok {o1 o2:Nat→FuncId→Array Value→AH→Option (Value×AH)} (h1:OrOK P ne o1) (h2:OrOK P ne o2):OrOK P ne (orO o1 o2):=fun m f args H v H' h=>by
 unfold orO at h;cases hq:o1 m f args H with
 | some r=>rw [hq] at h; cases h; exact h1 m f args H v H' hq
 | none=>rw [hq] at h; exact h2 m f args H v H' h
theorem orF_ok {α:Type} {g:FuncId} {d:DcL α} {run:Nat→AH→α→Option (Value×AH)} (h:∀m H a v H',run m H a=some (v,H')→CallS P ne m g (d.en a).toArray H v H'):OrOK P ne (orF g d run):=fun m f args H v H' hh=>by
 unfold orF at hh;cases hb:Nat.beq f g with
 | false=>rw [hb] at hh; cases hh
 | true =>
  rw [hb] at hh;simp only [cond_true] at hh;have:=Nat.eq_of_beq_eq_true hb;subst this;cases hq:d.de args.toList with
  | none=>rw [hq] at hh; cases hh
  | some a =>
   rw [hq] at hh;have e:=d.inv _ _ hq;have:=h m H a v H' hh;rw [← e] at this;exact this
theorem j3 {α:Type} {x:Option α} {e:α→Value} {p:α→AH} {v:Value} {H':AH} (h:(x.map fun r=>(e r,p r))=some (v,H')):∃r,x=some r∧e r=v∧p r=H':=by
 cases x with
 | none=>cases h
 | some r=>cases h; exact ⟨r,rfl,rfl,rfl⟩
def byRun {α β:Type} (P:Program) (esc:Nat) (o:Nat→FuncId→Array Value→AH→Option (Value×AH)) (m f:Nat) (args:Array Value) (H:AH) (d:Dc α) (k:α→AH→β):Option β :=
 match acall P ⟨esc,o⟩ 100000 m f args H with
 | some (v,H')=>(d.de v).map fun a=>k a H'
 | none=>none
theorem z4f {α β:Type} {o:Nat→FuncId→Array Value→AH→Option (Value×AH)} {m f:Nat} {args:Array Value} {H:AH} {d:Dc α} {k:α→AH→β} {r:β} {fn:Func} {c:Code} {esc:Nat} (ho:OrOK P (NE.plain esc) o) (hf:P.funcs[f]? = some fn) (hb:fn.body=some c) (h:byRun P esc o m f args H d k=some r):∃a H',k a H'=r∧CallS P (NE.plain esc) m f args H (d.en a) H':=by
 unfold byRun at h;cases hq:acall P ⟨esc,o⟩ 100000 m f args H with
 | none=>rw [hq] at h; cases h
 | some p =>
  obtain ⟨v,H'⟩:=p;rw [hq] at h;simp only at h;cases hd:d.de v with
  | none=>rw [hd] at h; cases h
  | some a =>
   rw [hd] at h;cases h;have:=CallS.ofRun (ne:=NE.plain esc) ho hf hb hq;rw [d.inv v a hd] at this;exact ⟨a,H',rfl,this⟩
end Go.Abs
namespace Go.Abs
open Go
variable {P:Program}
def cmpB (a b:ByteArray):Int:=Extern.BytealgCompare.cmp a b
def cmpStr (a b:ByteArray):Option Int:=some (cmpB a b)
theorem cmpStr_run {a b:ByteArray} {x:Int} (h:cmpStr a b=some x):peval P (do let v ← Extern.BytealgCompare.compare #[.string a,.string b]; pure (Next.value v))=some (.value (.int .i64 x)):=by
 cases h;rfl
end Go.Abs
namespace Go.Abs
def Fm (W:Nat→Prop) (H H':AH):Prop:=H.next≤H'.next∧∀id b,id<H.next→¬W id→H.get id=some b→H'.get id=some b
abbrev Ext (H H':AH):Prop:=Fm (fun _=>False) H H'
theorem Fm.refl (W:Nat→Prop) (H:AH):Fm W H H:=⟨Nat.le_refl _,fun _ _ _ _ h=>h⟩
theorem Fm.comp {W W':Nat→Prop} {H H1 H2:AH} (h:Fm W H H1) (h':Fm W' H1 H2) (hw:∀id,id<H.next→¬W id→¬W' id):Fm W H H2 :=
 ⟨Nat.le_trans h.1 h'.1,fun id b hid hn hb=>h'.2 id b (Nat.lt_of_lt_of_le hid h.1) (hw id hid hn) (h.2 id b hid hn hb)⟩
theorem Ext.trans {H H1 H2:AH} (h:Ext H H1) (h':Ext H1 H2):Ext H H2:=Fm.comp h h' fun _ _ h=>h
theorem Fm.push (W:Nat→Prop) (H:AH) (b:Blk):Fm W H (H.push b) :=
 ⟨by simp,fun id _ hid _ hb=>by rw [AH.get_push_other H _ (by omega)]; exact hb⟩
theorem zjx {H:AH} {a:Addr} {v:Value} (h:H.cell a=some v):∃b c e f,H.get a.block=some b∧b.obj=.cells c e f∧a.spot=none∧c[a.off]? = some v:=by
 unfold AH.cell at h;split at h
 ·rename_i c e f o z r hg hs;exact ⟨_,c,e,f,hg,rfl,hs,h⟩
 ·cases h
theorem zgt {H:AH} {a:Addr} {v:Value} {b:Blk} {c:Array Value} {e:TypeId} {f:Nat×Nat} (hg:H.get a.block=some b) (hb:b.obj=.cells c e f) (hs:a.spot=none) (hv:c[a.off]? = some v):H.cell a=some v:=by
 unfold AH.cell;obtain ⟨obj,o,z,r⟩:=b;simp only at hb;subst hb;rw [hg,hs];exact hv
theorem zdb (a:Addr) (i:Nat):(a.add i).block=a.block:=by unfold Addr.add; split <;> rfl
theorem zkn {W:Nat→Prop} {H H':AH} (h:Fm W H H') {a:Addr} {v:Value} (hlt:a.block<H.next) (hw:¬W a.block) (hc:H.cell a=some v):H'.cell a=some v:=by
 obtain ⟨b,c,e,f,h1,h2,h3,h4⟩:=zjx hc;exact zgt (h.2 _ _ hlt hw h1) h2 h3 h4
structure Ro (k:IntKind) (H:AH) (s:Sl3) (xs:List Nat):Prop where
 len:s.n=xs.length
 cap:s.n≤s.c
 top:s.c≤OPEN
 nil:s.p=none→s.n=0∧s.c=0
 low:∀a,s.p=some a→a.block<H.next
 opn:∀a,s.p=some a→s.c=OPEN→∃b,H.get a.block=some b∧b.opn=true∧b.esz=1∧isCells b.obj=true
 cell:∀a,s.p=some a→∀(i:Nat) (h:i<xs.length),H.cell (a.add i)=some (.int k (xs[i]:Nat))
theorem z58 {x:Int} (h0:-9223372036854775808≤x) (h1:x<9223372036854775808):IntKind.i64.wrap x=x:=by
 rw [IntKind.wrap_i64]; omega
theorem add_zero (a:Addr):a.add 0=a:=rfl
theorem z3u {a:Addr} (ha:a.spot=none) (i j:Nat):(a.add i).add j=a.add (i+j):=by
 obtain ⟨b,o,s⟩:=a;simp only at ha;subst ha;unfold Addr.add;by_cases hi:i=0 <;> by_cases hj:j=0 <;> simp [hi,hj] <;> omega
inductive Vec (k:IntKind) (e:TypeId) (m:Nat) (H:AH) (xs:List Nat):Sl3→Prop
 | nil (hx:xs=[]):Vec k e m H xs Sl3.nil
 | opn (id:Nat) (hm:m≤id) (hid:id<H.next) (hg:H.get id=some { obj:=.cells (xs.map fun (x:Nat)=>Value.int k (x:Int)).toArray e (0,0),opn:=true,esz:=1,ro:=false }):Vec k e m H xs ⟨some ⟨id,0,none⟩,xs.length,OPEN⟩
 | fix (id c:Nat) (cs:Array Value) (hm:m≤id) (hid:id<H.next) (hg:H.get id=some { obj:=.cells cs e (0,0),opn:=false,esz:=0,ro:=false }) (hc:cs.size=c) (ho:c<OPEN) (hl:xs.length≤c)
   (hx:∀(i:Nat) (h:i<xs.length),cs[i]? = some (.int k (xs[i]:Nat))):Vec k e m H xs ⟨some ⟨id,0,none⟩,xs.length,c⟩
theorem zaz (id o i:Nat):(Addr.mk id o none).add i=⟨id,o+i,none⟩:=by
 unfold Addr.add;split
 ·rename_i h; subst h; rfl
 ·rfl
def val (B:Nat):List Nat→Nat
 | []=>0
 | x :: l=>x+B*val B l
variable {B:Nat}
theorem zf0 {x:Int} {n:Nat} (h:x=n) (hn:n<9223372036854775808):IntKind.i64.wrap x=n:=by
 subst h;exact z58 (by omega) (by omega)
end Go.Abs
namespace Go.Abs
def Cel (H:AH) (a:Addr) (v:Value):Prop:=H.cell a=some v∧a.block<H.next
theorem Cel.fr {W:Nat→Prop} {H H':AH} {a:Addr} {v:Value} (h:Cel H a v) (hf:Fm W H H') (hw:¬W a.block):Cel H' a v :=
 ⟨zkn hf h.2 hw h.1,Nat.lt_of_lt_of_le h.2 hf.1⟩
theorem Cel.ext {H H':AH} {a:Addr} {v:Value} (h:Cel H a v) (hf:Ext H H'):Cel H' a v:=h.fr hf fun h=>h
theorem Cel.rd {α:Type} {H:AH} {a:Addr} {v:Value} (h:Cel H a v) (de:Value→Option α):rd de H a=de v:=by
 unfold Abs.rd;rw [h.1];rfl
def LAt {α:Type} (R:AH→Addr→α→Prop) (sz:Nat) (H:AH) (p:Option Addr):Nat→List α→Prop
 | _,[]=>True
 | i,x :: xs=>(∃a,p=some a∧R H (a.add (i*sz)) x)∧LAt R sz H p (i+1) xs
theorem LAt.get {α:Type} {R:AH→Addr→α→Prop} {sz:Nat} {H:AH} {p:Option Addr}:∀{xs:List α} {i:Nat},LAt R sz H p i xs→∀(j:Nat) (h:j<xs.length),∃a,p=some a∧R H (a.add ((i+j)*sz)) xs[j]
 | x :: xs,i,h,0,hj=>h.1
 | x :: xs,i,h,j+1,hj=>by
  obtain ⟨a,h1,h2⟩:=LAt.get h.2 j (by simpa using hj);exact ⟨a,h1,by rw [show i+(j+1)=i+1+j by omega]; exact h2⟩
theorem LAt.imp {α:Type} {R R':AH→Addr→α→Prop} {sz:Nat} {H H':AH} {p:Option Addr} (hr:∀a x,R H a x→R' H' a x):∀{xs:List α} {i:Nat},LAt R sz H p i xs→LAt R' sz H' p i xs
 | [],_,_=>trivial
 | _ :: _,_,h=>⟨let ⟨a,h1,h2⟩:=h.1; ⟨a,h1,hr _ _ h2⟩,LAt.imp hr h.2⟩
theorem LAt.of {α:Type} {R:AH→Addr→α→Prop} {sz:Nat} {H:AH} {p:Option Addr}:∀{xs:List α} {i:Nat},(∀(j:Nat) (h:j<xs.length),∃a,p=some a∧R H (a.add ((i+j)*sz)) xs[j])→LAt R sz H p i xs
 | [],_,_=>trivial
 | x :: xs,i,h=>⟨h 0 (by simp),LAt.of fun j hj=>by
   obtain ⟨a,h1,h2⟩:=h (j+1) (by simpa using hj);exact ⟨a,h1,by rw [show i+1+j=i+(j+1) by omega]; exact h2⟩⟩
def maxN:Nat:=9223372036854775807
structure SlL {α:Type} (R:AH→Addr→α→Prop) (sz:Nat) (H:AH) (s:Sl3) (xs:List α):Prop where
 n:s.n=xs.length
 cap:s.n≤s.c
 top:s.n≤maxN
 low:∀a,s.p=some a→a.block<H.next∧a.spot=none
 at_:LAt R sz H s.p 0 xs
theorem SlL.imp {α:Type} {R R':AH→Addr→α→Prop} {sz:Nat} {H H':AH} {s:Sl3} {xs:List α} (h:SlL R sz H s xs) (hn:H.next≤H'.next) (hr:∀a x,R H a x→R' H' a x):SlL R' sz H' s xs :=
 ⟨h.n,h.cap,h.top,fun a ha=>⟨Nat.lt_of_lt_of_le (h.low a ha).1 hn,(h.low a ha).2⟩,h.at_.imp hr⟩
theorem z24 {sz:Nat} {s:Sl3} {a:Addr} (ha:s.p=some a) {i:Nat} {v:Int} (hv:v=i) (hi:i<s.n):idxA sz s v=some (a.add (i*sz)):=by
 subst hv;unfold idxA;rw [ha];simp only [Int.toNat_natCast];rw [if_pos ⟨by omega,by omega⟩]
theorem SlL.get {α:Type} {R:AH→Addr→α→Prop} {sz:Nat} {H:AH} {s:Sl3} {xs:List α} (h:SlL R sz H s xs) {i:Nat} (hi:i<xs.length) {v:Int} (hv:v=i) :
  ∃q,idxA sz s v=some q∧R H q xs[i]:=by
 obtain ⟨a,h1,h2⟩:=h.at_.get i hi;rw [Nat.zero_add] at h2;exact ⟨_,z24 h1 hv (by rw [h.n]; exact hi),h2⟩
theorem zcx {n i:Nat} (hi:i<n) (hn:n≤maxN):IntKind.i64.wrap ((i:Int)+1)=((i+1:Nat):Int):=by
 refine zf0 (by omega) ?_;have:maxN=9223372036854775807:=rfl;omega
theorem Cel.push {H:AH} {b:Blk} {c:Array Value} {e:TypeId} {f:Nat×Nat} (hb:b.obj=.cells c e f) {i:Nat} {v:Value} (hv:c[i]? = some v):Cel (H.push b) ⟨H.next,i,none⟩ v :=
 ⟨zgt (a:=⟨H.next,i,none⟩) (AH.get_push_same _ _) hb rfl hv,by simp⟩
theorem SlL.ext {α:Type} {R:AH→Addr→α→Prop} {sz:Nat} {H H':AH} {s:Sl3} {xs:List α} (h:SlL R sz H s xs) (hf:Ext H H') (hr:∀a x,R H a x→R H' a x):SlL R sz H' s xs:=h.imp hf.1 hr
structure RoS (H:AH) (s:Sl3) (ss:List Sl3):Prop where
 len:s.n=ss.length
 cap:s.n≤s.c
 nil:s.p=none→s.n=0∧s.c=0
 low:∀a,s.p=some a→a.block<H.next
 cell:∀a,s.p=some a→∀(i:Nat) (h:i<ss.length),H.cell (a.add i)=some ss[i].v
variable {P:Program}
structure Imp (P:Program) (φ:Inj) (H:AH) (W:World):Prop where
 inv:Inv φ H W
 glob:Glob P φ
 ro:∀id b,H.get id=some b→b.ro=true
def viewB (c:Array Value) (e:TypeId):Blk:=⟨.cells c e (0,0),true,1,true⟩
theorem Imp.add {φ:Inj} {H:AH} {W:World} (h:Imp P φ H W) {blk off:Nat} {c c':Array Value} {e:TypeId} {f:Nat×Nat} (hb:W.heap[blk]? = some (.cells c' e f))
  (hc:∀(i:Nat) (v:Value),c[i]? = some v→∃v',c'[off+i]? = some v'∧VR φ v v'):Imp P (φ.upd H.next ⟨blk,off,0,1⟩) (H.push (viewB c e)) W∧φ.le (φ.upd H.next ⟨blk,off,0,1⟩):=by
 have hle:=Inj.le_upd ⟨blk,off,0,1⟩ h.inv.fresh;have hro:∀id b,(H.push (viewB c e)).get id=some b→b.ro=true:=fun id b hg=>by
  by_cases e':id=H.next
  ·subst e';rw [AH.get_push_same] at hg; cases hg; rfl
  ·rw [AH.get_push_other _ _ e'] at hg;exact h.ro id b hg
 refine ⟨⟨⟨fun i l hl=>?_,fun i b hg=>?_,fun i j b b' l l' h1 _ _ hr=>?_⟩,fun g hg=>?_,hro⟩,hle⟩
 ·by_cases e':i=H.next
  ·subst e';rw [Inj.upd_same] at hl; cases hl;exact ⟨by simp,(Array.getElem?_eq_some_iff.1 hb).1⟩
  ·rw [Inj.upd_other _ _ e'] at hl;have:=h.inv.dom i l hl;simp only [AH.next_push];omega
 ·by_cases e':i=H.next
  ·subst e';rw [AH.get_push_same] at hg; cases hg;refine ⟨_,Inj.upd_same _ _ _,c',e,f,hb,fun i v hv=>?_,Nat.zero_le _,fun _=>rfl,fun ho=>(by cases ho),fun hr=>(by cases hr),rfl⟩;obtain ⟨v',h1,h2⟩:=hc i v hv;exact ⟨v',h1,h2.mono hle⟩
  ·rw [AH.get_push_other _ _ e'] at hg;obtain ⟨l,h1,h2⟩:=h.inv.obj i b hg;exact ⟨l,by rw [Inj.upd_other _ _ e']; exact h1,h2.mono hle⟩
 ·rw [hro i b h1] at hr; cases hr
 ·obtain ⟨l,h1,h2,h3⟩:=h.glob g hg;exact ⟨l,hle _ _ h1,h2,h3⟩
theorem z3l {w:World} {a:Addr} {v:Value} (h:w.cell? a=some v):∃c e f,w.heap[a.block]? = some (.cells c e f)∧a.spot=none∧c[a.off]? = some v:=by
 unfold World.cell? at h;split at h
 ·rename_i c e f hc;split at h
  ·cases h
  ·rename_i hs;refine ⟨c,e,f,hc,?_,h⟩;cases hh:a.spot with
   | none=>rfl
   | some x=>rw [hh] at hs; simp at hs
 ·cases h
theorem zgr (a:Addr) (hs:a.spot=none) (i:Nat):a.add i=⟨a.block,a.off+i,none⟩:=by
 obtain ⟨b,o,s⟩:=a;simp only at hs;subst hs;unfold Addr.add;split
 ·rename_i h; subst h; rfl
 ·rfl
theorem zfc (a:Addr) (hs:a.spot=none):(⟨a.block,a.off,none⟩:Addr)=a:=by
 obtain ⟨b,o,s⟩:=a;simp only at hs;subst hs;rfl
theorem Imp.cells {φ:Inj} {H:AH} {W:World} (h:Imp P φ H W) {a:Addr} {c:Array Value} (h0:0<c.size) (hc:∀(i:Nat) (v:Value),c[i]? = some v→∃v',W.cell? (a.add i)=some v'∧VR φ v v') :
  ∃φ' e,Imp P φ' (H.push (viewB c e)) W∧φ.le φ'∧∀n k,k≠OPEN→VR φ' (.slice (some ⟨H.next,0,none⟩) n k) (.slice (some a) n k):=by
 obtain ⟨v',h1,_⟩:=hc 0 c[0] (by simp [h0]);obtain ⟨c',e,f,h2,h3,_⟩:=z3l h1;rw [zdb] at h2;have hsp:a.spot=none:=by
  unfold Addr.add at h3
  simpa using h3
 obtain ⟨h4,h5⟩:=h.add (blk:=a.block) (off:=a.off) (c:=c) (c':=c') (e:=e) (f:=f) h2 (fun i v hv=>by
  obtain ⟨w,g1,g2⟩:=hc i v hv;obtain ⟨c'',e',f',g3,_,g5⟩:=z3l g1;rw [zdb,h2] at g3;simp only [Option.some.injEq,Obj.cells.injEq] at g3;obtain ⟨rfl,_⟩:=g3;rw [zgr a hsp] at g5;exact ⟨w,g5,g2⟩)
 refine ⟨_,e,h4,h5,fun n k hk=>?_⟩;have:=VR.slice H.next 0 n k ⟨a.block,a.off,0,1⟩ (Inj.upd_same φ H.next ⟨a.block,a.off,0,1⟩) hk;rw [show (⟨(⟨a.block,a.off,0,1⟩:Loc).blk,(⟨a.block,a.off,0,1⟩:Loc).off+0,none⟩:Addr)=a from zfc a hsp] at this;exact this
theorem ziz {H:AH} {c:Array Value} {e:TypeId} (i:Nat):(H.push (viewB c e)).cell ((⟨H.next,0,none⟩:Addr).add i)=c[i]? := by
 rw [zgr _ rfl];unfold AH.cell;simp only [AH.get_push_same,viewB,Nat.zero_add]
open Go.ChangeShapes in
theorem zfl {H:Type} {enc:TypeId×Value→H} {W:World} {sp:Nat→Bool} {hd:Bool}:∀(ts:List TypeId) (vs:List Value) (ds:List (DataW H)) (ps:List MemPlace),DataW.TrodAll enc P W 0 sp hd ts vs ds ps→ds.length=ts.length:=by
 intro ts;induction ts with
 | nil=>intro vs ds ps h; obtain ⟨_,rfl,_⟩:=trodAll_nil h; rfl
 | cons t ts ih=>intro vs ds ps h; obtain ⟨v,vs',d,ds',p,q,_,rfl,_,_,h2⟩:=trodAll_cons h; simp [ih _ _ _ h2]
theorem Imp.startT {W:World} {tabs:List Tab} (h:P.globals.size≤W.heap.size) (hB:tabsB P tabs=true) (ht:∀x∈tabs,∃fr,W.heap[x.1]? = some (.cells x.2.2 x.2.1 fr)):Imp P (φg P) (startH P tabs) W :=
 ⟨ze7 h hB ht,zgh,fun id b hb=>by obtain ⟨x,_,_,rfl⟩:=z11 hb; rfl⟩
open Go.RowKit in
theorem zdn {ne:NE} (hS:Sane P ne) {f:Nat} {args args':Array Value} {H H':AH} {φ:Inj} {W:World} (h:CallS P ne H.next f args H (.bool true) H') (hi:Imp P φ H W) (ha:AR φ args args') :
  Calls P f args' W fun e W'=>e=.returned (.bool true)∧Below W.heap.size W W':=by
 refine ((h hS).2 φ W args' hi.glob ha hi.inv).mono fun e W' hpost=>?_;obtain ⟨φ',v',rfl,hv,_,hst⟩:=hpost;cases hv;refine ⟨rfl,hst.os,hst.tape,hst.output,hst.size,fun k hk=>hst.keep k hk fun id l hm hs _=>?_⟩;obtain ⟨b,hb⟩:=Option.isSome_iff_exists.1 hs;obtain ⟨l',h1,_⟩:=hi.inv.obj id b hb;have:=(hi.inv.dom id l' h1).1;omega
theorem zbi {H:Type} {enc:TypeId×Value→H} {C:Checked} {os:Os} {f:FuncId} {fn:Func} {s:OpenSpec} {k:(H:Type)→List (DataW H)→Bool} (hk:s.cond=some k) {F:Stop.Interp} {laid:List (String×DataW Unit)}
  (own:ownKnob C.prog.godebug=none) (started:os.Started) (noInit:C.prog.inits.idxOf? f=none) (hfn:C.prog.funcs[f]? = some fn)
  (hgb:globalsB C.prog=true) (hl:laidOutB C.prog=true) (hts:readB C.prog fn=true) (hv:s.vars=[]) (hres:boolRes C.prog fn=true)
  (hspec:∀ds:List (DataW H),ds.length=fn.params.size→((s.at F).fn H ds).results=[.lit (.bool true)]∧((s.at F).fn H ds).args=ds∧((s.at F).fn H ds).vars=[])
  (hva:(s.at F).vars=s.vars) (hh:(laid.filter fun x=>x.2.handleName?.isSome)=[])
  (witness:∃(w:World) (tape:Tape) (i:Input),w.os=os∧(w.forCall tape i).Shaped C.prog∧i.vars=[]∧Input.okWide C.prog (w.forCall tape i) .any w.heap.size f i ∧
   s.preRow enc C.prog fn [] false laid (w.forCall tape i).memory i.args∧({}:Assume).holds C.prog (lone (Frame.enter C.prog f i.args .normal) [] (w.forCall tape i)))
  (contract:∀(W:World) (base:Nat) (args:Array Value) (ds:List (DataW H)) (ps:List MemPlace),C.prog.globals.size≤W.heap.size →
   (∀(j:Nat) t v,fn.params[j]? = some t→args[j]? = some v→Value.okWide C.prog W .any base t v) →
   DataW.TrodAll enc C.prog W 0 (fun _=>true) true fn.params.toList args.toList ds ps→k H ds=true→laidMet C.prog laid W→W.ShapedOpen C.prog→(DataW.weightsEach C.prog (fn.params.toList++s.bare.plain.varTypes C.prog) ds).all (·≤reachBytes)=true →
   Calls C.prog f args W fun e W'=>e=.returned (.bool true)∧RowKit.Below W.heap.size W W') :
  ReturnsInHanded {} C os f .any (s.preRow enc C.prog fn [] false laid) ((s.at F).post enc C.prog fn false true false false):=by
 obtain ⟨tb,hres,hbool⟩:=zhm hres;have hts:=zjv hts;refine returnsInHanded_of_row own started noInit hfn witness ?_;intro W base args ds gs before hval hW _ hcond hwt hL hsh _;have hL':laidMet C.prog laid W:=by
  unfold laidMetH at hL;rw [hh] at hL;exact hL
 have hW2:=hW;obtain ⟨p,q,hA,hV,_⟩:=hW;rw [hv] at hV;obtain ⟨rfl,rfl⟩:=ChangeShapes.trodVars_none hV;have hkk:=hcond k hk;rw [List.append_nil] at hkk hwt;have hlen:ds.length=fn.params.size:=by simpa using zfl _ _ _ _ hA
 refine (contract W base args ds p (zdm hgb hsh) hval hA hkk hL' hsh hwt).mono fun e W' ⟨he,hb⟩=>?_;subst he;exact ⟨_,rfl,zjp hl hts (hva.trans hv) hres hbool (hva.symm▸hW2) (hspec ds hlen) hb⟩
end Go.Abs
namespace Go.Abs
variable {P:Program} {W:World} {φ:Inj} {H:AH}
def ElemIn {β:Type} (P:Program) (W:World) (sz:Nat) (R:AH→List Value→β→Prop) (cs:List Value):Prop :=
 ∀(φ:Inj) (H:AH),Imp P φ H W→∃φ' H' cs' b,Imp P φ' H' W∧φ.le φ'∧Ext H H'∧cs'.length=sz∧cs.length=sz∧LR φ' cs' cs∧R H' cs' b
theorem lr_get {φ:Inj} {l l':List Value} (h:LR φ l l') {i:Nat} {v v':Value} (h1:l[i]? = some v) (h2:l'[i]? = some v'):VR φ v v':=(R6 h).2 i v v' h1 h2
theorem Imp.elems {β:Type} {sz:Nat} {R:AH→List Value→β→Prop} (hR:∀H H' cs b,Ext H H'→R H cs b→R H' cs b):∀(n:Nat) (C:Nat→List Value),(∀i,i<n→ElemIn P W sz R (C i))→∀(φ:Inj) (H:AH),Imp P φ H W →
  ∃φ' H',∃(C':Nat→List Value) (bs:List β),Imp P φ' H' W∧φ.le φ'∧Ext H H'∧bs.length=n∧∀(i:Nat),i<n→(C' i).length=sz∧(C i).length=sz∧LR φ' (C' i) (C i)∧∀b,bs[i]? = some b→R H' (C' i) b:=by
 intro n;induction n with
 | zero=>intro C _ φ H h; exact ⟨φ,H,fun _=>[],[],h,Inj.le_refl _,Fm.refl _ _,rfl,fun i hi=>absurd hi (Nat.not_lt_zero _)⟩
 | succ n ih =>
  intro C hC φ H h;obtain ⟨φ1,H1,C',bs,h1,h2,h3,h4,h5⟩:=ih C (fun i hi=>hC i (by omega)) φ H h;obtain ⟨φ2,H2,cs',b,g1,g2,g3,g4,g5,g6,g7⟩:=hC n (Nat.lt_succ_self n) φ1 H1 h1;refine ⟨φ2,H2,fun i=>if i=n then cs' else C' i,bs++[b],g1,Inj.le_trans h2 g2,h3.trans g3,by simp [h4],fun i hi=>?_⟩;by_cases e:i=n
  ·subst e;simp only [if_true];refine ⟨g4,g5,g6,fun b' hb'=>?_⟩;rw [List.getElem?_append_right (by omega),h4,Nat.sub_self] at hb';simp at hb';subst hb';exact g7
  ·simp only [if_neg e];obtain ⟨k1,k2,k3,k4⟩:=h5 i (by omega);refine ⟨k1,k2,k3.mono g2,fun b' hb'=>?_⟩;rw [List.getElem?_append_left (by omega)] at hb';exact hR _ _ _ _ g3 (k4 b' hb')
def Stands {β:Type} (sz:Nat) (R:AH→List Value→β→Prop) (H:AH) (q:Addr) (b:β):Prop:=∃cs:List Value,cs.length=sz∧(∀j v,cs[j]? = some v→Cel H (q.add j) v)∧R H cs b
end Go.Abs
namespace Go.Abs
variable {P:Program} {W:World} {φ:Inj} {H:AH}
theorem zd6 {φ:Inj}:∀{a b c d:List Value},LR φ a b→LR φ c d→LR φ (a++c) (b++d)
 | _,_,_,_,.nil,h=>h
 | _,_,_,_,.cons x y,h=>.cons x (zd6 y h)
theorem Imp.sliceC {β:Type} {sz:Nat} (hsz:0<sz) {R:AH→List Value→β→Prop} (hR:∀H H' cs b,Ext H H'→R H cs b→R H' cs b) (h:Imp P φ H W) (hP:0<P.globals.size)
  {A:Option Addr} {n c:Nat} (hn:n≤c) (hc:c≤maxLen) (hnil:A=none→c=0) {C:Nat→List Value} (hC:∀i,i<n→ElemIn P W sz R (C i))
  (hsp:∀a,A=some a→0<c→∃v,W.cell? a=some v)
  (hcell:∀a,A=some a→∀i,i<n→∀j,j<sz→W.cell? (a.add (i*sz+j))=(C i)[j]?) :
  ∃φ' H' s bs,Imp P φ' H' W∧φ.le φ'∧Ext H H'∧VR φ' (Sl3.v s) (.slice A n c)∧SlL (Stands sz R) sz H' s bs∧bs.length=n∧(s.c<OPEN∧(s.p=none→s.c=0)):=by
 have hO:c≠OPEN:=by
  have:OPEN=9223372036854775808:=rfl;have:maxLen=9223372036854775807:=rfl;omega
 have hOc:c<OPEN:=by
  have:OPEN=9223372036854775808:=rfl;have:maxLen=9223372036854775807:=rfl;omega
 have hm:n≤maxN:=by
  have:maxN=9223372036854775807:=rfl;have:maxLen=9223372036854775807:=rfl;omega
 by_cases h0:n=0
 ·subst h0;cases A with
  | none =>
   obtain rfl:c=0:=hnil rfl;exact ⟨φ,H,Sl3.nil,[],h,Inj.le_refl _,Fm.refl _ _,VR.sliceNil 0 0,⟨rfl,Nat.le_refl _,Nat.zero_le _,fun a ha=>(by cases ha),trivial⟩,rfl,by show 0<OPEN; unfold OPEN; omega,fun _=>rfl⟩
  | some a =>
   obtain ⟨l,h1,_,_⟩:=h.glob 0 hP;by_cases hc0:c=0
   ·subst hc0;refine ⟨φ,H,⟨some ⟨0,0,none⟩,0,0⟩,[],h,Inj.le_refl _,Fm.refl _ _,VR.sliceZero 0 0 l a h1,⟨rfl,Nat.le_refl _,Nat.zero_le _,fun a ha=>?_,trivial⟩,rfl,by show 0<OPEN; unfold OPEN; omega,fun _=>rfl⟩;cases ha; exact ⟨(h.inv.dom 0 l h1).1,rfl⟩
   ·obtain ⟨v,hv⟩:=hsp a rfl (by omega);obtain ⟨c',e,f,k1,k2,k3⟩:=z3l hv;obtain ⟨g1,g2⟩:=h.add (blk:=a.block) (off:=a.off) (c:=#[]) (c':=c') (e:=e) (f:=f) k1 (fun i v hv=>by simp at hv);refine ⟨_,_,⟨some ⟨H.next,0,none⟩,0,c⟩,[],g1,g2,Fm.push _ _ _,?_,⟨rfl,Nat.zero_le _,Nat.zero_le _,fun a' ha'=>?_,trivial⟩,rfl,⟨hOc,fun hh=>by cases hh⟩⟩
    ·have:=VR.slice H.next 0 0 c ⟨a.block,a.off,0,1⟩ (Inj.upd_same φ H.next ⟨a.block,a.off,0,1⟩) hO;rw [show (⟨(⟨a.block,a.off,0,1⟩:Loc).blk,(⟨a.block,a.off,0,1⟩:Loc).off+0,none⟩:Addr)=a from zfc a k2] at this;exact this
    ·cases ha'; exact ⟨by simp,rfl⟩
 ·cases A with
  | none=>exact absurd (hnil rfl) (by omega)
  | some a =>
   obtain ⟨φ1,H1,C',bs,h1,h2,h3,h4,h5⟩:=Imp.elems hR n C hC φ H h;have hsize:0<n*sz:=Nat.mul_pos (by omega) hsz;have hdiv:∀x,x<n*sz→x / sz<n:=fun x hx=>Nat.div_lt_of_lt_mul (by rw [Nat.mul_comm]; exact hx)
   let c':Array Value:=Array.ofFn fun x:Fin (n*sz)=>((C' (x.val / sz))[x.val % sz]?).getD undef
   have hget:∀x,x<n*sz→c'[x]? = (C' (x / sz))[x % sz]? := by
    intro x hx;have hl:=(h5 (x / sz) (hdiv x hx)).1;have hmod:=Nat.mod_lt x hsz;have:(C' (x / sz))[x % sz]? = some (C' (x / sz))[x % sz]:=List.getElem?_eq_getElem (by omega);simp only [c',Array.getElem?_ofFn,dif_pos hx,this,Option.getD_some]
   obtain ⟨φ2,e,g1,g2,g3⟩:=h1.cells (a:=a) (c:=c') (by simp [c',hsize]) (fun x v hv=>by
    have hx:x<n*sz:=by
     have:=(Array.getElem?_eq_some_iff.1 hv).1
     simpa [c'] using this
    have hmod:=Nat.mod_lt x hsz;obtain ⟨k1,k2,k3,_⟩:=h5 (x / sz) (hdiv x hx);rw [hget x hx] at hv;have hw:(C (x / sz))[x % sz]? = some ((C (x / sz))[x % sz]'(by omega)):=List.getElem?_eq_getElem (by omega);refine ⟨_,?_,lr_get k3 hv hw⟩;have:=hcell a rfl (x / sz) (hdiv x hx) (x % sz) hmod;rw [show x / sz*sz+x % sz=x by rw [Nat.mul_comm]; exact Nat.div_add_mod x sz] at this;rw [this,hw])
   refine ⟨φ2,_,⟨some ⟨H1.next,0,none⟩,n,c⟩,bs,g1,Inj.le_trans h2 g2,h3.trans (Fm.push _ _ _),g3 n c hO,⟨h4.symm,hn,hm,fun a' ha'=>?_,LAt.of fun j hj=>⟨_,rfl,?_⟩⟩,h4,⟨hOc,fun hh=>by cases hh⟩⟩
   ·cases ha'; exact ⟨by simp,rfl⟩
   ·rw [h4] at hj;obtain ⟨k1,k2,k3,k4⟩:=h5 j hj;have hb:bs[j]? = some bs[j]:=List.getElem?_eq_getElem (by omega);refine ⟨C' j,k1,fun i v hv=>?_,hR _ _ _ _ (Fm.push _ _ _) (k4 _ hb)⟩;have hi:i<sz:=by
     have:=(List.getElem?_eq_some_iff.1 hv).1;omega
    rw [z3u rfl,Nat.zero_add];have hx:j*sz+i<n*sz:=by
     have:(j+1)*sz≤n*sz:=Nat.mul_le_mul_right sz (by omega);rw [Nat.add_mul,Nat.one_mul] at this;omega
    have e1:(j*sz+i) / sz=j:=by
     rw [Nat.mul_comm,Nat.mul_add_div hsz,Nat.div_eq_of_lt hi,Nat.add_zero]
    have e2:(j*sz+i) % sz=i:=by
     rw [Nat.mul_comm,Nat.mul_add_mod,Nat.mod_eq_of_lt hi]
    refine ⟨?_,?_⟩
    ·rw [ziz,hget _ hx,e1,e2];exact hv
    ·rw [zaz]; simp
end Go.Abs
namespace Go.Proofs.YtiickgadpbifbaaGreatDoor.Aw
open Go Go.Abs
open Go.Value renaming int → vI, string → vS, pointer → vP, agg → vA, bool → vB
set_option maxRecDepth 100000
noncomputable def B14:Code:=(Tryz.f14.body).getD .skip
def zdz:(Int×Int×ByteArray×Sl3×AH)→Value
 | (r0,r1,r2,r3,_)=>(vA #[(vI .i64 r0),(vI .i64 r1),(vS r2),(Sl3.v r3)])
def ze9 (_:AH):(Int×Int×ByteArray×Sl3×AH)→AH:=fun r=>r.2.2.2.2
noncomputable def z8z (_L:LC) (_m:Nat) (H:AH) (a0_0 a0_1:Int) (a0_2:ByteArray) (a0_3:Sl3) (a1_0 a1_1:Int) (a1_2:ByteArray) (a1_3:Sl3):Option (Int×Int×ByteArray×Sl3×AH) :=
 (newR 32 2 #[(vI .i64 a0_0),(vI .i64 a0_1),(vS a0_2),(Sl3.v a0_3),(vI .i64 a1_0),(vI .i64 a1_1),(vS a1_2),(Sl3.v a1_3)] H).bind fun (s1,H2) => some (4,0,(⟨#[]⟩:ByteArray),s1,H2)
theorem zev {L:LC} {m:Nat} {H:AH} {a0_0 a0_1:Int} {a0_2:ByteArray} {a0_3:Sl3} {a1_0 a1_1:Int} {a1_2:ByteArray} {a1_3:Sl3} {r:(Int×Int×ByteArray×Sl3×AH)} (h:z8z L m H a0_0 a0_1 a0_2 a0_3 a1_0 a1_1 a1_2 a1_3=some r) :
  CallS Tryz.prog (NE.plain 99) m 14 #[(vA #[(vI .i64 a0_0),(vI .i64 a0_1),(vS a0_2),(Sl3.v a0_3)]),(vA #[(vI .i64 a1_0),(vI .i64 a1_1),(vS a1_2),(Sl3.v a1_3)])] H (zdz r) (ze9 H r):=by
 refine CallS.mk (args:=[(vA #[(vI .i64 a0_0),(vI .i64 a0_1),(vS a0_2),(Sl3.v a0_3)]),(vA #[(vI .i64 a1_0),(vI .i64 a1_1),(vS a1_2),(Sl3.v a1_3)])]) Tryz.func14 (B:=B14) (by kernel_rfl) (fun E _=>?_);unfold z8z at h;refine t0 (A0 (O0 3 [kL 4 2 0,kL 3 1 0,kL 2 0 0] ([some (32,[(vI .i64 a0_0),(vI .i64 a0_1),(vS a0_2),(Sl3.v a0_3)]),some (32,[(vI .i64 a1_0),(vI .i64 a1_1),(vS a1_2),(Sl3.v a1_3)]),some (32,[(vI .i64 0),(vI .i64 0),(vS (⟨#[]⟩:ByteArray)),(Sl3.v Sl3.nil)])]) (u0 (m0 (t0 (A0 (g0 2 [kA 6 #[(vI .i64 a1_0),(vI .i64 a1_1),(vS a1_2),(Sl3.v a1_3)],kA 5 #[(vI .i64 a0_0),(vI .i64 a0_1),(vS a0_2),(Sl3.v a0_3)]] ?_)))))));obtain ⟨⟨s1,H2⟩,hx,h⟩:=bind_some h;try dsimp only at h
 refine T0 (H':=H2) (some 7) (Sl3.v s1) (Abs.run_newR (by kernel_rfl) (by kernel_rfl) hx) (O0 2 [kA 8 #[(vI .i64 4),(vI .i64 0),(vS (⟨#[]⟩:ByteArray)),(Sl3.v s1)]] ([some (32,[(vI .i64 a0_0),(vI .i64 a0_1),(vS a0_2),(Sl3.v a0_3)]),some (32,[(vI .i64 a1_0),(vI .i64 a1_1),(vS a1_2),(Sl3.v a1_3)]),some (32,[(vI .i64 4),(vI .i64 0),(vS (⟨#[]⟩:ByteArray)),(Sl3.v s1)])]) (u0 (m0 (C0 ?_))));cases h;exact fun a w hs=>rtR (rS hs)
noncomputable def B15:Code:=(Tryz.f15.body).getD .skip
def z8s:(Int×Int×ByteArray×Sl3)→Value
 | (r0,r1,r2,r3)=>(vA #[(vI .i64 r0),(vI .i64 r1),(vS r2),(Sl3.v r3)])
def za5 (H:AH):(Int×Int×ByteArray×Sl3)→AH:=fun _=>H
noncomputable def z1v (_L:LC):Option (Int×Int×ByteArray×Sl3) :=
 some (1,0,(⟨#[]⟩:ByteArray),Sl3.nil)
theorem z9t {L:LC} {m:Nat} {H:AH}  {r:(Int×Int×ByteArray×Sl3)} (h:z1v L=some r) :
  CallS Tryz.prog (NE.plain 99) m 15 #[] H (z8s r) (za5 H r):=by
 refine CallS.mk (args:=[]) Tryz.func15 (B:=B15) (by kernel_rfl) (fun E _=>?_);unfold z1v at h;refine t0 (A0 (O0 1 [kL 0 0 0] ([some (32,[(vI .i64 0),(vI .i64 0),(vS (⟨#[]⟩:ByteArray)),(Sl3.v Sl3.nil)])]) (u0 (m0 (t0 (A0 (O0 2 [kA 1 #[(vI .i64 1),(vI .i64 0),(vS (⟨#[]⟩:ByteArray)),(Sl3.v Sl3.nil)]] ([some (32,[(vI .i64 1),(vI .i64 0),(vS (⟨#[]⟩:ByteArray)),(Sl3.v Sl3.nil)])]) (u0 (m0 ?_)))))))));refine C0 ?_;cases h;exact fun a w hs=>rtR (rS hs)
noncomputable def B16:Code:=(Tryz.f16.body).getD .skip
def z9v:(Int×Int×ByteArray×Sl3)→Value
 | (r0,r1,r2,r3)=>(vA #[(vI .i64 r0),(vI .i64 r1),(vS r2),(Sl3.v r3)])
def zb6 (H:AH):(Int×Int×ByteArray×Sl3)→AH:=fun _=>H
noncomputable def z2t (_L:LC):Option (Int×Int×ByteArray×Sl3) :=
 some (2,0,(⟨#[]⟩:ByteArray),Sl3.nil)
theorem zar {L:LC} {m:Nat} {H:AH}  {r:(Int×Int×ByteArray×Sl3)} (h:z2t L=some r) :
  CallS Tryz.prog (NE.plain 99) m 16 #[] H (z9v r) (zb6 H r):=by
 refine CallS.mk (args:=[]) Tryz.func16 (B:=B16) (by kernel_rfl) (fun E _=>?_);unfold z2t at h;refine t0 (A0 (O0 1 [kL 0 0 0] ([some (32,[(vI .i64 0),(vI .i64 0),(vS (⟨#[]⟩:ByteArray)),(Sl3.v Sl3.nil)])]) (u0 (m0 (t0 (A0 (O0 2 [kA 1 #[(vI .i64 2),(vI .i64 0),(vS (⟨#[]⟩:ByteArray)),(Sl3.v Sl3.nil)]] ([some (32,[(vI .i64 2),(vI .i64 0),(vS (⟨#[]⟩:ByteArray)),(Sl3.v Sl3.nil)])]) (u0 (m0 ?_)))))))));refine C0 ?_;cases h;exact fun a w hs=>rtR (rS hs)
noncomputable def B17:Code:=(Tryz.f17.body).getD .skip
def zds:(Int×Bool×Bool×Sl3×Int×Sl3×ByteArray×Int×Int×Int×ByteArray×Sl3×Sl3×Sl3×Sl3×AH)→Value
 | (r0,r1,r2,r3,r4,r5,r6,r7,r8,r9,r10,r11,r12,r13,r14,_)=>(vA #[(vI .i64 r0),(vB r1),(vB r2),(Sl3.v r3),(vI .i64 r4),(Sl3.v r5),(vS r6),(vI .i64 r7),(vI .i64 r8),(vI .i64 r9),(vS r10),(Sl3.v r11),(Sl3.v r12),(Sl3.v r13),(Sl3.v r14)])
def zeu (_:AH):(Int×Bool×Bool×Sl3×Int×Sl3×ByteArray×Int×Int×Int×ByteArray×Sl3×Sl3×Sl3×Sl3×AH)→AH:=fun r=>r.2.2.2.2.2.2.2.2.2.2.2.2.2.2.2
noncomputable def z23 (_L:LC) (_m:Nat) (H:AH) (a0:Int):Option (Int×Bool×Bool×Sl3×Int×Sl3×ByteArray×Int×Int×Int×ByteArray×Sl3×Sl3×Sl3×Sl3×AH) :=
 (newR 53 1 #[(vI .u64 a0)] H).bind fun (s1,H2) => some (2,false,false,s1,0,Sl3.nil,(⟨#[]⟩:ByteArray),0,0,0,(⟨#[]⟩:ByteArray),Sl3.nil,Sl3.nil,Sl3.nil,Sl3.nil,H2)
theorem P2 {L:LC} {m:Nat} {H:AH} {a0:Int} {r:(Int×Bool×Bool×Sl3×Int×Sl3×ByteArray×Int×Int×Int×ByteArray×Sl3×Sl3×Sl3×Sl3×AH)} (h:z23 L m H a0=some r) :
  CallS Tryz.prog (NE.plain 99) m 17 #[(vI .u64 a0)] H (zds r) (zeu H r):=by
 refine CallS.mk (args:=[(vI .u64 a0)]) Tryz.func17 (B:=B17) (by kernel_rfl) (fun E _=>?_);unfold z23 at h;refine t0 (A0 (O0 1 [kL 2 0 0] ([some (36,[(vI .i64 0),(vB false),(vB false),(Sl3.v Sl3.nil),(vI .i64 0),(Sl3.v Sl3.nil),(vS (⟨#[]⟩:ByteArray)),(vI .i64 0),(vI .i64 0),(vI .i64 0),(vS (⟨#[]⟩:ByteArray)),(Sl3.v Sl3.nil),(Sl3.v Sl3.nil),(Sl3.v Sl3.nil),(Sl3.v Sl3.nil)])]) (u0 (m0 (t0 (A0 (g0 1 [(3,.val (vI .u64 a0))] ?_)))))));obtain ⟨⟨s1,H2⟩,hx,h⟩:=bind_some h;try dsimp only at h
 refine T0 (H':=H2) (some 4) (Sl3.v s1) (Abs.run_newR (by kernel_rfl) (by kernel_rfl) hx) (O0 3 [kA 6 #[(vI .i64 2),(vB false),(vB false),(Sl3.v s1),(vI .i64 0),(Sl3.v Sl3.nil),(vS (⟨#[]⟩:ByteArray)),(vI .i64 0),(vI .i64 0),(vI .i64 0),(vS (⟨#[]⟩:ByteArray)),(Sl3.v Sl3.nil),(Sl3.v Sl3.nil),(Sl3.v Sl3.nil),(Sl3.v Sl3.nil)],kA 5 #[(vB false),(Sl3.v s1)]] ([some (36,[(vI .i64 2),(vB false),(vB false),(Sl3.v s1),(vI .i64 0),(Sl3.v Sl3.nil),(vS (⟨#[]⟩:ByteArray)),(vI .i64 0),(vI .i64 0),(vI .i64 0),(vS (⟨#[]⟩:ByteArray)),(Sl3.v Sl3.nil),(Sl3.v Sl3.nil),(Sl3.v Sl3.nil),(Sl3.v Sl3.nil)])]) (u0 (m0 (C0 ?_))));cases h;exact fun a w hs=>rtR (rS hs)
noncomputable def B18:Code:=(Tryz.f18.body).getD .skip
def ze4:(Int×Bool×Bool×Sl3×Int×Sl3×ByteArray×Int×Int×Int×ByteArray×Sl3×Sl3×Sl3×Sl3)→Value
 | (r0,r1,r2,r3,r4,r5,r6,r7,r8,r9,r10,r11,r12,r13,r14)=>(vA #[(vI .i64 r0),(vB r1),(vB r2),(Sl3.v r3),(vI .i64 r4),(Sl3.v r5),(vS r6),(vI .i64 r7),(vI .i64 r8),(vI .i64 r9),(vS r10),(Sl3.v r11),(Sl3.v r12),(Sl3.v r13),(Sl3.v r14)])
def zfi (H:AH):(Int×Bool×Bool×Sl3×Int×Sl3×ByteArray×Int×Int×Int×ByteArray×Sl3×Sl3×Sl3×Sl3)→AH:=fun _=>H
noncomputable def z5h (_L:LC) (a0:Bool):Option (Int×Bool×Bool×Sl3×Int×Sl3×ByteArray×Int×Int×Int×ByteArray×Sl3×Sl3×Sl3×Sl3) :=
 some (1,a0,false,Sl3.nil,0,Sl3.nil,(⟨#[]⟩:ByteArray),0,0,0,(⟨#[]⟩:ByteArray),Sl3.nil,Sl3.nil,Sl3.nil,Sl3.nil)
theorem X4 {L:LC} {m:Nat} {H:AH} {a0:Bool} {r:(Int×Bool×Bool×Sl3×Int×Sl3×ByteArray×Int×Int×Int×ByteArray×Sl3×Sl3×Sl3×Sl3)} (h:z5h L a0=some r) :
  CallS Tryz.prog (NE.plain 99) m 18 #[(vB a0)] H (ze4 r) (zfi H r):=by
 refine CallS.mk (args:=[(vB a0)]) Tryz.func18 (B:=B18) (by kernel_rfl) (fun E _=>?_);unfold z5h at h;refine t0 (A0 (O0 1 [kL 2 0 0] ([some (36,[(vI .i64 0),(vB false),(vB false),(Sl3.v Sl3.nil),(vI .i64 0),(Sl3.v Sl3.nil),(vS (⟨#[]⟩:ByteArray)),(vI .i64 0),(vI .i64 0),(vI .i64 0),(vS (⟨#[]⟩:ByteArray)),(Sl3.v Sl3.nil),(Sl3.v Sl3.nil),(Sl3.v Sl3.nil),(Sl3.v Sl3.nil)])]) (u0 (m0 (t0 (A0 (O0 3 [kA 4 #[(vI .i64 1),(vB a0),(vB false),(Sl3.v Sl3.nil),(vI .i64 0),(Sl3.v Sl3.nil),(vS (⟨#[]⟩:ByteArray)),(vI .i64 0),(vI .i64 0),(vI .i64 0),(vS (⟨#[]⟩:ByteArray)),(Sl3.v Sl3.nil),(Sl3.v Sl3.nil),(Sl3.v Sl3.nil),(Sl3.v Sl3.nil)],kB 3 a0] ([some (36,[(vI .i64 1),(vB a0),(vB false),(Sl3.v Sl3.nil),(vI .i64 0),(Sl3.v Sl3.nil),(vS (⟨#[]⟩:ByteArray)),(vI .i64 0),(vI .i64 0),(vI .i64 0),(vS (⟨#[]⟩:ByteArray)),(Sl3.v Sl3.nil),(Sl3.v Sl3.nil),(Sl3.v Sl3.nil),(Sl3.v Sl3.nil)])]) (u0 (m0 ?_)))))))));refine C0 ?_;cases h;exact fun a w hs=>rtR (rS hs)
noncomputable def B49:Code:=(Tryz.f49.body).getD .skip
def z2k:Bool→Value
 | r0=>(vB r0)
def z3x (H:AH):Bool→AH:=fun _=>H
noncomputable def z4v (_L:LC) (_H:AH) (_a0_0 a0_1 _a0_2:Sl3):(Int×Int)→Option (Lp (Int×Int) Bool):=fun (v3_1,v24_2) =>
 if v24_2<(a0_1.n:Int) then
  none
 else
  some (.brk (v3_1,v24_2))
def zbl (_L:LC) (_H:AH) (a0_0 a0_1 a0_2:Sl3):(Int×Int)→KN×Lcs:=fun (v3_1,v24_2)=>([kI 3 v3_1,kI 24 v24_2,kL 1 0 0,kS 22 a0_1,kI 23 (a0_1.n:Int)],[some (62,[(Sl3.v a0_0),(Sl3.v a0_1),(Sl3.v a0_2)])])
noncomputable def z41 (_L:LC) (_H:AH) (_a0_0 _a0_1 a0_2:Sl3) (_v3_3:Int):Int→Option (Lp Int Bool):=fun v64_5 =>
 if v64_5<(a0_2.n:Int) then
  none
 else
  some (.brk v64_5)
def zbk (_L:LC) (_H:AH) (a0_0 a0_1 a0_2:Sl3) (v3_3:Int):Int→KN×Lcs:=fun v64_5=>([kI 64 v64_5,kI 3 v3_3,kS 62 a0_2,kI 63 (a0_2.n:Int)],[some (62,[(Sl3.v a0_0),(Sl3.v a0_1),(Sl3.v a0_2)])])
noncomputable def z92 (L:LC) (H:AH) (a0_0 a0_1 a0_2:Sl3):Option Bool :=
 Option.bind (L.run (z4v L H a0_0 a0_1 a0_2) ((IntKind.i64.wrap ((IntKind.i64.wrap ((a0_0.n:Int)+(a0_1.n:Int)))+(a0_2.n:Int))),0)) fun o=>match o with
 | .inl (v3_3,_) =>
  (L.run (z41 L H a0_0 a0_1 a0_2 v3_3) 0).bind fun o=>match o with
  | .inl _ =>
   some (decide (v3_3 > 4096))
  | .inr r=>some r
 | .inr r=>some r
theorem z5g {E m L H a0_0 a0_1 a0_2} :LoopF Tryz.prog (NE.plain 99) m E Tryz.f49 ((cfst (csnd (cfst (csnd (csnd B49)))))) (zbl L H a0_0 a0_1 a0_2) (fun _=>H) 0 z2k (z3x H) (z4v L H a0_0 a0_1 a0_2):=by
 rintro ⟨v3_1,v24_2⟩ o h
 unfold z4v at h;try dsimp only at h
 refine t0 (A0 (g0 1 [kB 25 (decide (v24_2<(a0_1.n:Int)))] (u0 (m0 (t0 ?_)))));rcases J1 h with ⟨hp,h⟩ | ⟨hp,h⟩
 ·refine B0 25 true (decide_eq_true hp) (E0 ?_);cases h
 ·refine B0 25 false (decide_eq_false hp) (D0 (WS.ex 0 ?_));cases h;exact fun a w hs=>sqE (lsB rfl (hs.sb 1))
theorem z5b {E m L H a0_0 a0_1 a0_2 v3_3} :LoopF Tryz.prog (NE.plain 99) m E Tryz.f49 ((cfst (csnd (cfst (csnd (csnd (csnd B49))))))) (zbk L H a0_0 a0_1 a0_2 v3_3) (fun _=>H) 4 z2k (z3x H) (z41 L H a0_0 a0_1 a0_2 v3_3):=by
 rintro v64_5 o h
 unfold z41 at h;try dsimp only at h
 refine t0 (A0 (g0 1 [kB 65 (decide (v64_5<(a0_2.n:Int)))] (u0 (m0 (t0 ?_)))));rcases J1 h with ⟨hp,h⟩ | ⟨hp,h⟩
 ·refine B0 65 true (decide_eq_true hp) (E0 ?_);cases h
 ·refine B0 65 false (decide_eq_false hp) (D0 (WS.ex 4 ?_));cases h;exact fun a w hs=>sqE (lsB rfl (hs.sb 1))
theorem zf3 {L:LC} {m:Nat} {H:AH} {a0_0 a0_1 a0_2:Sl3} {r:Bool} (h:z92 L H a0_0 a0_1 a0_2=some r) :
  CallS Tryz.prog (NE.plain 99) m 49 #[(vA #[(Sl3.v a0_0),(Sl3.v a0_1),(Sl3.v a0_2)])] H (z2k r) (z3x H r):=by
 refine CallS.mk (args:=[(vA #[(Sl3.v a0_0),(Sl3.v a0_1),(Sl3.v a0_2)])]) Tryz.func49 (B:=B49) (by kernel_rfl) (fun E _=>?_);unfold z92 at h;refine t0 (A0 (O0 2 [kB 2 false,kL 1 0 0] ([some (62,[(Sl3.v a0_0),(Sl3.v a0_1),(Sl3.v a0_2)])]) (u0 (m0 (t0 (A0 (g0 12 [kI 3 (IntKind.i64.wrap ((IntKind.i64.wrap ((a0_0.n:Int)+(a0_1.n:Int)))+(a0_2.n:Int))),kI 20 (IntKind.i64.wrap ((IntKind.i64.wrap ((a0_0.n:Int)+(a0_1.n:Int)))+(a0_2.n:Int))),kI 19 (a0_2.n:Int),kS 18 a0_2,kL 17 0 2,kI 16 (IntKind.i64.wrap ((a0_0.n:Int)+(a0_1.n:Int))),kI 15 (a0_1.n:Int),kS 14 a0_1,kL 13 0 1,kI 12 (a0_0.n:Int),kS 11 a0_0,kL 10 0 0] (u0 (m0 ?_)))))))));refine t0 (t0 (A0 (g0 4 [kI 24 0,kI 23 (a0_1.n:Int),kS 22 a0_1,kL 21 0 1] (u0 (m0 (P0 0 ?_))))));obtain ⟨o,hl,h⟩:=bind_some h;rcases o with ⟨v3_3,v24_4⟩ | r
 ·try dsimp only at h
  refine Y0 (z5g (L:=L) (E:=E) (m:=m) (H:=H)) (L.ok hl) 1 ?_;clear hl;refine fun a w hs=>bkE ((m0 ?_ a w hs));refine t0 (t0 (A0 (g0 4 [kI 64 0,kI 63 (a0_2.n:Int),kS 62 a0_2,kL 61 0 2] (u0 (m0 (P0 4 ?_))))));obtain ⟨o,hl,h⟩:=bind_some h;rcases o with v64_6 | r
  ·try dsimp only at h
   refine Y0 (z5b (L:=L) (E:=E) (m:=m) (H:=H)) (L.ok hl) 1 ?_;clear hl;refine fun a w hs=>bkE ((m0 ?_ a w hs));refine t0 (A0 (g0 3 [kB 2 (decide (v3_3 > 4096)),kB 74 (decide (v3_3 > 4096)),kI 73 v3_3] (u0 (m0 (C0 ?_)))));cases h;exact fun a w hs=>rtR (rS hs)
  ·try dsimp only at h
   refine X0 (z5b (L:=L) (E:=E) (m:=m) (H:=H)) (L.ok hl) 1 ?_;cases h;exact fun a w hq=>bkR (sqR (rtR hq))
 ·try dsimp only at h
  refine X0 (z5g (L:=L) (E:=E) (m:=m) (H:=H)) (L.ok hl) 1 ?_;cases h;exact fun a w hq=>bkR (sqR (rtR hq))
noncomputable def B51:Code:=(Tryz.f51.body).getD .skip
def zas:(Sl3×AH)→Value
 | (r0,_)=>(Sl3.v r0)
def zc6 (_:AH):(Sl3×AH)→AH:=fun r=>r.2
noncomputable def zo (_L:LC) (_m:Nat) (H:AH) (a0:Sl3):Option (Sl3×AH) :=
 if (isNilS a0)=true then
  some (Sl3.nil,H)
 else
  none
theorem z52 {L:LC} {m:Nat} {H:AH} {a0:Sl3} {r:(Sl3×AH)} (h:zo L m H a0=some r) :
  CallS Tryz.prog (NE.plain 99) m 51 #[(Sl3.v a0)] H (zas r) (zc6 H r):=by
 refine CallS.mk (args:=[(Sl3.v a0)]) Tryz.func51 (B:=B51) (by kernel_rfl) (fun E _=>?_);unfold zo at h;refine t0 (A0 (g0 1 [kS 2 Sl3.nil] (u0 (m0 (t0 (t0 (A0 (g0 1 [kS 3 a0] (T0 (H':=H) (some 4) (vB (isNilS a0)) (zac (t:=58) (e:=9) (u:=58) (x:=.tmp 3) (y:=.const (Sl3.v Sl3.nil)) (s:=a0) (by kernel_rfl) (by kernel_rfl) (by kernel_rfl) (by kernel_rfl)) ?_)))))))));refine u0 (m0 ?_);rcases J1 h with ⟨hp,h⟩ | ⟨hp,h⟩
 ·refine B0 4 true hp (E0 (t0 (A0 (g0 1 [kS 2 Sl3.nil] (u0 (m0 (C0 ?_)))))));cases h;exact fun a w hs=>sqR (rtR (rS hs))
 ·refine B0 4 false (b_not hp) (D0 ?_);cases h
noncomputable def B50:Code:=(Tryz.f50.body).getD .skip
def z1k:(Sl3×Sl3×AH)→Value
 | (r0,r1,_)=>(Value.tuple #[(Sl3.v r0),(Sl3.v r1)])
def z30 (_:AH):(Sl3×Sl3×AH)→AH:=fun r=>r.2.2
noncomputable def z2l (_L:LC) (_a0_0 a0_1 _a0_2:Sl3):(AH×Sl3×Sl3×Int)→Option (Lp (AH×Sl3×Sl3×Int) (Sl3×Sl3×AH)):=fun (H3,v4_4,v5_5,v20_6) =>
 if v20_6<(a0_1.n:Int) then
  none
 else
  some (.brk (H3,v4_4,v5_5,v20_6))
def zbh (_L:LC) (a0_0 a0_1 a0_2:Sl3):(AH×Sl3×Sl3×Int)→KN×Lcs:=fun (_,v4_4,v5_5,v20_6)=>([kS 4 v4_4,kS 5 v5_5,kI 20 v20_6,kL 1 0 0,kS 18 a0_1,kI 19 (a0_1.n:Int)],[some (62,[(Sl3.v a0_0),(Sl3.v a0_1),(Sl3.v a0_2)])])
noncomputable def z2w (_L:LC) (_a0_0 _a0_1:Sl3) (a0_2 _v4_8:Sl3):(AH×Sl3×Int)→Option (Lp (AH×Sl3×Int) (Sl3×Sl3×AH)):=fun (H11,v5_12,v59_13) =>
 if v59_13<(a0_2.n:Int) then
  none
 else
  some (.brk (H11,v5_12,v59_13))
def zbb (_L:LC) (a0_0 a0_1:Sl3) (a0_2 v4_8:Sl3):(AH×Sl3×Int)→KN×Lcs:=fun (_,v5_12,v59_13)=>([kS 5 v5_12,kI 59 v59_13,kS 4 v4_8,kS 57 a0_2,kI 58 (a0_2.n:Int)],[some (62,[(Sl3.v a0_0),(Sl3.v a0_1),(Sl3.v a0_2)])])
noncomputable def z71 (L:LC) (m:Nat) (H:AH) (a0_0 a0_1 a0_2:Sl3):Option (Sl3×Sl3×AH) :=
 (zo L m H a0_0).bind fun (x1,H2) => (L.run (z2l L a0_0 a0_1 a0_2) (H2,x1,Sl3.nil,0)).bind fun o=>match o with
 | .inl (H7,v4_8,v5_9,_) =>
  (L.run (z2w L a0_0 a0_1 a0_2 v4_8) (H7,v5_9,0)).bind fun o=>match o with
  | .inl (H14,v5_15,_) =>
   some (v4_8,v5_15,H14)
  | .inr r=>some r
 | .inr r=>some r
theorem z4e {E m H L a0_0 a0_1 a0_2} :LoopF Tryz.prog (NE.plain 99) m E Tryz.f50 ((cfst (csnd (cfst (csnd (csnd (csnd B50))))))) (zbh L a0_0 a0_1 a0_2) (fun s=>s.1) 0 z1k (z30 H) (z2l L a0_0 a0_1 a0_2):=by
 rintro ⟨H3,v4_4,v5_5,v20_6⟩ o h
 unfold z2l at h;try dsimp only at h
 refine t0 (A0 (g0 1 [kB 21 (decide (v20_6<(a0_1.n:Int)))] (u0 (m0 (t0 ?_)))));rcases J1 h with ⟨hp,h⟩ | ⟨hp,h⟩
 ·refine B0 21 true (decide_eq_true hp) (E0 ?_);cases h
 ·refine B0 21 false (decide_eq_false hp) (D0 (WS.ex 0 ?_));cases h;exact fun a w hs=>sqE (lsB rfl (hs.sb 1))
theorem z42 {E m H L a0_0 a0_1 a0_2 v4_8} :LoopF Tryz.prog (NE.plain 99) m E Tryz.f50 ((cfst (csnd (cfst (csnd (csnd (csnd (csnd B50)))))))) (zbb L a0_0 a0_1 a0_2 v4_8) (fun s=>s.1) 6 z1k (z30 H) (z2w L a0_0 a0_1 a0_2 v4_8):=by
 rintro ⟨H11,v5_12,v59_13⟩ o h
 unfold z2w at h;try dsimp only at h
 refine t0 (A0 (g0 1 [kB 60 (decide (v59_13<(a0_2.n:Int)))] (u0 (m0 (t0 ?_)))));rcases J1 h with ⟨hp,h⟩ | ⟨hp,h⟩
 ·refine B0 60 true (decide_eq_true hp) (E0 ?_);cases h
 ·refine B0 60 false (decide_eq_false hp) (D0 (WS.ex 6 ?_));cases h;exact fun a w hs=>sqE (lsB rfl (hs.sb 1))
theorem zdo {L:LC} {m:Nat} {H:AH} {a0_0 a0_1 a0_2:Sl3} {r:(Sl3×Sl3×AH)} (h:z71 L m H a0_0 a0_1 a0_2=some r) :
  CallS Tryz.prog (NE.plain 99) m 50 #[(vA #[(Sl3.v a0_0),(Sl3.v a0_1),(Sl3.v a0_2)])] H (z1k r) (z30 H r):=by
 refine CallS.mk (args:=[(vA #[(Sl3.v a0_0),(Sl3.v a0_1),(Sl3.v a0_2)])]) Tryz.func50 (B:=B50) (by kernel_rfl) (fun E _=>?_);unfold z71 at h;refine t0 (A0 (O0 3 [kS 3 Sl3.nil,kS 2 Sl3.nil,kL 1 0 0] ([some (62,[(Sl3.v a0_0),(Sl3.v a0_1),(Sl3.v a0_2)])]) (u0 (m0 (t0 (A0 (g0 2 [kS 15 a0_0,kL 14 0 0] ?_)))))));obtain ⟨⟨x1,H2⟩,hx,h⟩:=bind_some h;try dsimp only at h
 refine RS.cl (some 16) (v:=(Sl3.v x1)) 51 _ (z52 hx) (g0 1 [kS 4 x1] (u0 (m0 (t0 (A0 (g0 1 [kS 5 Sl3.nil] (u0 (m0 (t0 ?_)))))))));refine t0 (A0 (g0 4 [kI 20 0,kI 19 (a0_1.n:Int),kS 18 a0_1,kL 17 0 1] (u0 (m0 (P0 0 ?_)))));obtain ⟨o,hl,h⟩:=bind_some h;rcases o with ⟨H7,v4_8,v5_9,v20_10⟩ | r
 ·try dsimp only at h
  refine Y0 (z4e (L:=L) (E:=E) (m:=m) (H:=H)) (L.ok hl) 1 ?_;clear hl;refine fun a w hs=>bkE ((m0 ?_ a w hs));refine t0 (t0 (A0 (g0 4 [kI 59 0,kI 58 (a0_2.n:Int),kS 57 a0_2,kL 56 0 2] (u0 (m0 (P0 6 ?_))))));obtain ⟨o,hl,h⟩:=bind_some h;rcases o with ⟨H14,v5_15,v59_16⟩ | r
  ·try dsimp only at h
   refine Y0 (z42 (L:=L) (E:=E) (m:=m) (H:=H)) (L.ok hl) 1 ?_;clear hl;refine fun a w hs=>bkE ((m0 ?_ a w hs));refine t0 (A0 (g0 4 [kS 3 v5_15,kS 2 v4_8,kS 70 v5_15,kS 69 v4_8] (u0 (m0 (C0 ?_)))));cases h;exact fun a w hs=>rtR (rS hs)
  ·try dsimp only at h
   refine X0 (z42 (L:=L) (E:=E) (m:=m) (H:=H)) (L.ok hl) 1 ?_;cases h;exact fun a w hq=>bkR (sqR (rtR hq))
 ·try dsimp only at h
  refine X0 (z4e (L:=L) (E:=E) (m:=m) (H:=H)) (L.ok hl) 1 ?_;cases h;exact fun a w hq=>bkR (sqR (rtR hq))
noncomputable def B53:Code:=(Tryz.f53.body).getD .skip
def z5y:(Bool×AH)→Value
 | (r0,_)=>(vB r0)
def z7z (_:AH):(Bool×AH)→AH:=fun r=>r.2
noncomputable def z2z (_L:LC) (a0:Sl3) (_p1:Nat):(AH×Int)→Option (Lp (AH×Int) (Bool×AH)):=fun (H3,v9_4) =>
 if v9_4<(a0.n:Int) then
  none
 else
  some (.brk (H3,v9_4))
def zb9 (_L:LC) (a0:Sl3) (p1:Nat):(AH×Int)→KN×Lcs:=fun (_,v9_4)=>([kI 9 v9_4,(3,.val (Value.map (some p1))),kS 7 a0,kI 8 (a0.n:Int)],[])
noncomputable def z3r (L:LC) (_m:Nat) (H:AH) (a0:Sl3):Option (Bool×AH) :=
 (newM H).bind fun (p1,H2) => (L.run (z2z L a0 p1) (H2,0)).bind fun o=>match o with
 | .inl (H5,_) =>
  some (false,H5)
 | .inr r=>some r
theorem z43 {E m H L a0 p1} :LoopF Tryz.prog (NE.plain 99) m E Tryz.f53 ((cfst (csnd (cfst (csnd (csnd B53)))))) (zb9 L a0 p1) (fun s=>s.1) 0 z5y (z7z H) (z2z L a0 p1):=by
 rintro ⟨H3,v9_4⟩ o h
 unfold z2z at h;try dsimp only at h
 refine t0 (A0 (g0 1 [kB 10 (decide (v9_4<(a0.n:Int)))] (u0 (m0 (t0 ?_)))));rcases J1 h with ⟨hp,h⟩ | ⟨hp,h⟩
 ·refine B0 10 true (decide_eq_true hp) (E0 ?_);cases h
 ·refine B0 10 false (decide_eq_false hp) (D0 (WS.ex 0 ?_));cases h;exact fun a w hs=>sqE (lsB rfl (hs.sb 0))
theorem z7o {L:LC} {m:Nat} {H:AH} {a0:Sl3} {r:(Bool×AH)} (h:z3r L m H a0=some r) :
  CallS Tryz.prog (NE.plain 99) m 53 #[(Sl3.v a0)] H (z5y r) (z7z H r):=by
 refine CallS.mk (args:=[(Sl3.v a0)]) Tryz.func53 (B:=B53) (by kernel_rfl) (fun E _=>?_);unfold z3r at h;refine t0 (A0 (g0 1 [kB 2 false] (u0 (m0 (t0 (A0 ?_))))));obtain ⟨⟨p1,H2⟩,hx,h⟩:=bind_some h;try dsimp only at h
 refine T0 (H':=H2) (some 6) (Value.map (some p1)) (Abs.run_newM (by kernel_rfl) hx) (g0 1 [(3,.val (Value.map (some p1)))] (u0 (m0 (t0 (t0 (A0 (g0 3 [kI 9 0,kI 8 (a0.n:Int),kS 7 a0] (u0 (m0 ?_)))))))));refine P0 0 ?_;obtain ⟨o,hl,h⟩:=bind_some h;rcases o with ⟨H5,v9_6⟩ | r
 ·try dsimp only at h
  refine Y0 (z43 (L:=L) (E:=E) (m:=m) (H:=H)) (L.ok hl) 0 ?_;clear hl;refine fun a w hs=>bkE ((m0 ?_ a w hs));refine t0 (A0 (g0 1 [kB 2 false] (u0 (m0 (C0 ?_)))));cases h;exact fun a w hs=>rtR (rS hs)
 ·try dsimp only at h
  refine X0 (z43 (L:=L) (E:=E) (m:=m) (H:=H)) (L.ok hl) 0 ?_;cases h;exact fun a w hq=>bkR (sqR (rtR hq))
noncomputable def B54:Code:=(Tryz.f54.body).getD .skip
def z2n:((Option Addr)×AH)→Value
 | (r0,_)=>(vP r0)
def z4l (_:AH):((Option Addr)×AH)→AH:=fun r=>r.2
noncomputable def z44 (_L:LC) (a0_0 _a0_1 _a0_2:Sl3) (_p3:Addr):(AH×Int)→Option (Lp (AH×Int) ((Option Addr)×AH)):=fun (H5,v17_6) =>
 if v17_6<(a0_0.n:Int) then
  none
 else
  some (.brk (H5,v17_6))
def zbp (_L:LC) (a0_0 a0_1 a0_2:Sl3) (p3:Addr):(AH×Int)→KN×Lcs:=fun (_,v17_6)=>([kI 17 v17_6,kL 1 0 0,kP 3 p3,kS 15 a0_0,kI 16 (a0_0.n:Int)],[some (62,[(Sl3.v a0_0),(Sl3.v a0_1),(Sl3.v a0_2)])])
noncomputable def z4u (_L:LC) (_a0_0 a0_1 _a0_2:Sl3) (_p3:Addr):(AH×Int)→Option (Lp (AH×Int) ((Option Addr)×AH)):=fun (H9,v31_10) =>
 if v31_10<(a0_1.n:Int) then
  none
 else
  some (.brk (H9,v31_10))
def zc2 (_L:LC) (a0_0 a0_1 a0_2:Sl3) (p3:Addr):(AH×Int)→KN×Lcs:=fun (_,v31_10)=>([kI 31 v31_10,kP 3 p3,kS 29 a0_1,kI 30 (a0_1.n:Int)],[some (62,[(Sl3.v a0_0),(Sl3.v a0_1),(Sl3.v a0_2)])])
noncomputable def z28 (L:LC) (_m:Nat) (H:AH) (a0_0 a0_1 a0_2:Sl3):Option ((Option Addr)×AH) :=
 (newM H).bind fun (p1,H2) => (newB 170 [(Sl3.v a0_0),(Sl3.v a0_1),(Sl3.v a0_2),(Value.map (some p1))] H2).bind fun (p3,H4) => (L.run (z44 L a0_0 a0_1 a0_2 p3) (H4,0)).bind fun o=>match o with
 | .inl (H7,_) =>
  (L.run (z4u L a0_0 a0_1 a0_2 p3) (H7,0)).bind fun o=>match o with
  | .inl (H11,_) =>
   some ((some p3),H11)
  | .inr r=>some r
 | .inr r=>some r
theorem z57 {E m H L a0_0 a0_1 a0_2 p3} :LoopF Tryz.prog (NE.plain 99) m E Tryz.f54 ((cfst (csnd (cfst (csnd (csnd B54)))))) (zbp L a0_0 a0_1 a0_2 p3) (fun s=>s.1) 0 z2n (z4l H) (z44 L a0_0 a0_1 a0_2 p3):=by
 rintro ⟨H5,v17_6⟩ o h
 unfold z44 at h;try dsimp only at h
 refine t0 (A0 (g0 1 [kB 18 (decide (v17_6<(a0_0.n:Int)))] (u0 (m0 (t0 ?_)))));rcases J1 h with ⟨hp,h⟩ | ⟨hp,h⟩
 ·refine B0 18 true (decide_eq_true hp) (E0 ?_);cases h
 ·refine B0 18 false (decide_eq_false hp) (D0 (WS.ex 0 ?_));cases h;exact fun a w hs=>sqE (lsB rfl (hs.sb 1))
theorem z59 {E m H L a0_0 a0_1 a0_2 p3} :LoopF Tryz.prog (NE.plain 99) m E Tryz.f54 ((cfst (csnd (cfst (csnd (csnd (csnd B54))))))) (zc2 L a0_0 a0_1 a0_2 p3) (fun s=>s.1) 2 z2n (z4l H) (z4u L a0_0 a0_1 a0_2 p3):=by
 rintro ⟨H9,v31_10⟩ o h
 unfold z4u at h;try dsimp only at h
 refine t0 (A0 (g0 1 [kB 32 (decide (v31_10<(a0_1.n:Int)))] (u0 (m0 (t0 ?_)))));rcases J1 h with ⟨hp,h⟩ | ⟨hp,h⟩
 ·refine B0 32 true (decide_eq_true hp) (E0 ?_);cases h
 ·refine B0 32 false (decide_eq_false hp) (D0 (WS.ex 2 ?_));cases h;exact fun a w hs=>sqE (lsB rfl (hs.sb 1))
theorem z4p {L:LC} {m:Nat} {H:AH} {a0_0 a0_1 a0_2:Sl3} {r:((Option Addr)×AH)} (h:z28 L m H a0_0 a0_1 a0_2=some r) :
  CallS Tryz.prog (NE.plain 99) m 54 #[(vA #[(Sl3.v a0_0),(Sl3.v a0_1),(Sl3.v a0_2)])] H (z2n r) (z4l H r):=by
 refine CallS.mk (args:=[(vA #[(Sl3.v a0_0),(Sl3.v a0_1),(Sl3.v a0_2)])]) Tryz.func54 (B:=B54) (by kernel_rfl) (fun E _=>?_);unfold z28 at h;refine t0 (A0 (O0 2 [(2,.val (vP none)),kL 1 0 0] ([some (62,[(Sl3.v a0_0),(Sl3.v a0_1),(Sl3.v a0_2)])]) (u0 (m0 (t0 (A0 (g0 1 [kA 10 #[(Sl3.v a0_0),(Sl3.v a0_1),(Sl3.v a0_2)]] ?_)))))));obtain ⟨⟨p1,H2⟩,hx,h⟩:=bind_some h;try dsimp only at h
 refine T0 (H':=H2) (some 11) (Value.map (some p1)) (Abs.run_newM (by kernel_rfl) hx) (g0 1 [kA 12 #[(Sl3.v a0_0),(Sl3.v a0_1),(Sl3.v a0_2),(Value.map (some p1))]] ?_);obtain ⟨⟨p3,H4⟩,hx,h⟩:=bind_some h;try dsimp only at h
 refine T0 (H':=H4) (some 13) (vP (some p3)) (Abs.run_newB (by kernel_rfl) hx) (g0 1 [kP 3 p3] (u0 (m0 (t0 (t0 (A0 (g0 4 [kI 17 0,kI 16 (a0_0.n:Int),kS 15 a0_0,kL 14 0 0] (u0 (m0 ?_)))))))));refine P0 0 ?_;obtain ⟨o,hl,h⟩:=bind_some h;rcases o with ⟨H7,v17_8⟩ | r
 ·try dsimp only at h
  refine Y0 (z57 (L:=L) (E:=E) (m:=m) (H:=H)) (L.ok hl) 1 ?_;clear hl;refine fun a w hs=>bkE ((m0 ?_ a w hs));refine t0 (t0 (A0 (g0 4 [kI 31 0,kI 30 (a0_1.n:Int),kS 29 a0_1,kL 28 0 1] (u0 (m0 (P0 2 ?_))))));obtain ⟨o,hl,h⟩:=bind_some h;rcases o with ⟨H11,v31_12⟩ | r
  ·try dsimp only at h
   refine Y0 (z59 (L:=L) (E:=E) (m:=m) (H:=H)) (L.ok hl) 1 ?_;clear hl;refine fun a w hs=>bkE ((m0 ?_ a w hs));refine t0 (A0 (g0 2 [kP 2 p3,kP 58 p3] (u0 (m0 (C0 ?_)))));cases h;exact fun a w hs=>rtR (rS hs)
  ·try dsimp only at h
   refine X0 (z59 (L:=L) (E:=E) (m:=m) (H:=H)) (L.ok hl) 1 ?_;cases h;exact fun a w hq=>bkR (sqR (rtR hq))
 ·try dsimp only at h
  refine X0 (z57 (L:=L) (E:=E) (m:=m) (H:=H)) (L.ok hl) 1 ?_;cases h;exact fun a w hq=>bkR (sqR (rtR hq))
noncomputable def B55:Code:=(Tryz.f55.body).getD .skip
def E6:(Int×AH)→Value
 | (r0,_)=>(vI .i64 r0)
def P6 (_:AH):(Int×AH)→AH:=fun r=>r.2
noncomputable def I6 (_L:LC) (_H:AH) (_q1:Addr) (x2:Sl3):Int→Option (Lp Int (Int×AH)):=fun v21_3 =>
 if v21_3<(x2.n:Int) then
  none
 else
  some (.brk v21_3)
def z4k (_L:LC) (_H:AH) (q1:Addr) (x2:Sl3):Int→KN×Lcs:=fun v21_3=>([kI 21 v21_3,kP 0 q1,kS 19 x2,kI 20 (x2.n:Int)],[])
noncomputable def K6 (_L:LC) (_q1:Addr) (x5:Sl3):(AH×Int)→Option (Lp (AH×Int) (Int×AH)):=fun (H6,v55_7) =>
 if v55_7<(x5.n:Int) then
  none
 else
  some (.brk (H6,v55_7))
def z4o (_L:LC) (q1:Addr) (x5:Sl3):(AH×Int)→KN×Lcs:=fun (_,v55_7)=>([kI 55 v55_7,kP 0 q1,kS 53 x5,kI 54 (x5.n:Int)],[])
noncomputable def Z7 (L:LC) (_m:Nat) (H:AH) (a0:Option Addr):Option (Int×AH) :=
 a0.bind fun q1 => (rd deSl H (Addr.add (Addr.add q1 0) 1)).bind fun x2 => (L.run (I6 L H q1 x2) 0).bind fun o=>match o with
 | .inl _ =>
  (rd deSl H (Addr.add (Addr.add q1 0) 2)).bind fun x5 => (L.run (K6 L q1 x5) (H,0)).bind fun o=>match o with
  | .inl (H8,_) =>
   some (0,H8)
  | .inr r=>some r
 | .inr r=>some r
theorem o8 {E m L H q1 x2} :LoopF Tryz.prog (NE.plain 99) m E Tryz.f55 ((cfst (csnd (cfst (csnd B55))))) (z4k L H q1 x2) (fun _=>H) 0 E6 (P6 H) (I6 L H q1 x2):=by
 rintro v21_3 o h
 unfold I6 at h;try dsimp only at h
 refine t0 (A0 (g0 1 [kB 22 (decide (v21_3<(x2.n:Int)))] (u0 (m0 (t0 ?_)))));rcases J1 h with ⟨hp,h⟩ | ⟨hp,h⟩
 ·refine B0 22 true (decide_eq_true hp) (E0 ?_);cases h
 ·refine B0 22 false (decide_eq_false hp) (D0 (WS.ex 0 ?_));cases h;exact fun a w hs=>sqE (lsB rfl (hs.sb 0))
theorem j8 {E m H L q1 x5} :LoopF Tryz.prog (NE.plain 99) m E Tryz.f55 ((cfst (csnd (cfst (csnd (csnd B55)))))) (z4o L q1 x5) (fun s=>s.1) 6 E6 (P6 H) (K6 L q1 x5):=by
 rintro ⟨H6,v55_7⟩ o h
 unfold K6 at h;try dsimp only at h
 refine t0 (A0 (g0 1 [kB 56 (decide (v55_7<(x5.n:Int)))] (u0 (m0 (t0 ?_)))));rcases J1 h with ⟨hp,h⟩ | ⟨hp,h⟩
 ·refine B0 56 true (decide_eq_true hp) (E0 ?_);cases h
 ·refine B0 56 false (decide_eq_false hp) (D0 (WS.ex 6 ?_));cases h;exact fun a w hs=>sqE (lsB rfl (hs.sb 0))
theorem z6e {L:LC} {m:Nat} {H:AH} {a0:Option Addr} {r:(Int×AH)} (h:Z7 L m H a0=some r) :
  CallS Tryz.prog (NE.plain 99) m 55 #[(vP a0)] H (E6 r) (P6 H r):=by
 refine CallS.mk (args:=[(vP a0)]) Tryz.func55 (B:=B55) (by kernel_rfl) (fun E _=>?_);unfold Z7 at h;refine t0 (A0 (g0 1 [kI 2 0] (u0 (m0 (t0 (t0 (A0 (g0 1 [(15,.val (vP a0))] ?_))))))));obtain ⟨q1,hx,hq1⟩:=bind_some h;subst hx;have h:=hq1;refine g0 3 [(18,.val (vP (some (Addr.add (Addr.add q1 0) 1)))),(17,.val (vP (some (Addr.add q1 0)))),kP 16 q1] ?_;obtain ⟨x2,hx,h⟩:=bind_some h;refine D1 19 59 (.tmp 18) (I1 hx M1) (g0 2 [kI 21 0,kI 20 (x2.n:Int)] (u0 (m0 (P0 0 ?_))));obtain ⟨o,hl,h⟩:=bind_some h;rcases o with v21_4 | r
 ·try dsimp only at h
  refine Y0 (o8 (L:=L) (E:=E) (m:=m) (H:=H)) (L.ok hl) 0 ?_;clear hl;refine fun a w hs=>bkE ((m0 ?_ a w hs));refine t0 (t0 (A0 (g0 4 [(52,.val (vP (some (Addr.add (Addr.add q1 0) 2)))),(51,.val (vP (some (Addr.add q1 0)))),kP 50 q1,kP 49 q1] ?_)));obtain ⟨x5,hx,h⟩:=bind_some h;refine D1 53 60 (.tmp 52) (I1 hx M1) (g0 2 [kI 55 0,kI 54 (x5.n:Int)] (u0 (m0 (P0 6 ?_))));obtain ⟨o,hl,h⟩:=bind_some h;rcases o with ⟨H8,v55_9⟩ | r
  ·try dsimp only at h
   refine Y0 (j8 (L:=L) (E:=E) (m:=m) (H:=H)) (L.ok hl) 0 ?_;clear hl;refine fun a w hs=>bkE ((m0 ?_ a w hs));refine t0 (A0 (g0 1 [kI 2 0] (u0 (m0 (C0 ?_)))));cases h;exact fun a w hs=>rtR (rS hs)
  ·try dsimp only at h
   refine X0 (j8 (L:=L) (E:=E) (m:=m) (H:=H)) (L.ok hl) 0 ?_;cases h;exact fun a w hq=>bkR (sqR (rtR hq))
 ·try dsimp only at h
  refine X0 (o8 (L:=L) (E:=E) (m:=m) (H:=H)) (L.ok hl) 0 ?_;cases h;exact fun a w hq=>bkR (sqR (rtR hq))
noncomputable def B56:Code:=(Tryz.f56.body).getD .skip
def zk:(Bool×AH)→Value
 | (r0,_)=>(vB r0)
def z1a (_:AH):(Bool×AH)→AH:=fun r=>r.2
noncomputable def L7 (_L:LC) (_a1:Sl3) (_q1:Addr) (x2:Sl3):(AH×Int)→Option (Lp (AH×Int) (Bool×AH)):=fun (H3,v19_4) =>
 if v19_4<(x2.n:Int) then
  none
 else
  some (.brk (H3,v19_4))
def z5p (_L:LC) (a1:Sl3) (q1:Addr) (x2:Sl3):(AH×Int)→KN×Lcs:=fun (_,v19_4)=>([kI 19 v19_4,kP 0 q1,kS 1 a1,kS 17 x2,kI 18 (x2.n:Int)],[])
noncomputable def J9 (L:LC) (_m:Nat) (H:AH) (a0:Option Addr) (a1:Sl3):Option (Bool×AH) :=
 a0.bind fun q1 => (rd deSl H (Addr.add (Addr.add q1 0) 1)).bind fun x2 => (L.run (L7 L a1 q1 x2) (H,0)).bind fun o=>match o with
 | .inl (H5,_) =>
  some (false,H5)
 | .inr r=>some r
theorem k9 {E m H L a1 q1 x2} :LoopF Tryz.prog (NE.plain 99) m E Tryz.f56 ((cfst (csnd (cfst (csnd B56))))) (z5p L a1 q1 x2) (fun s=>s.1) 0 zk (z1a H) (L7 L a1 q1 x2):=by
 rintro ⟨H3,v19_4⟩ o h
 unfold L7 at h;try dsimp only at h
 refine t0 (A0 (g0 1 [kB 20 (decide (v19_4<(x2.n:Int)))] (u0 (m0 (t0 ?_)))));rcases J1 h with ⟨hp,h⟩ | ⟨hp,h⟩
 ·refine B0 20 true (decide_eq_true hp) (E0 ?_);cases h
 ·refine B0 20 false (decide_eq_false hp) (D0 (WS.ex 0 ?_));cases h;exact fun a w hs=>sqE (lsB rfl (hs.sb 0))
theorem z8a {L:LC} {m:Nat} {H:AH} {a0:Option Addr} {a1:Sl3} {r:(Bool×AH)} (h:J9 L m H a0 a1=some r) :
  CallS Tryz.prog (NE.plain 99) m 56 #[(vP a0),(Sl3.v a1)] H (zk r) (z1a H r):=by
 refine CallS.mk (args:=[(vP a0),(Sl3.v a1)]) Tryz.func56 (B:=B56) (by kernel_rfl) (fun E _=>?_);unfold J9 at h;refine t0 (A0 (g0 1 [kB 4 false] (u0 (m0 (t0 (t0 (A0 (g0 1 [(13,.val (vP a0))] ?_))))))));obtain ⟨q1,hx,hq1⟩:=bind_some h;subst hx;have h:=hq1;refine g0 3 [(16,.val (vP (some (Addr.add (Addr.add q1 0) 1)))),(15,.val (vP (some (Addr.add q1 0)))),kP 14 q1] ?_;obtain ⟨x2,hx,h⟩:=bind_some h;refine D1 17 59 (.tmp 16) (I1 hx M1) (g0 2 [kI 19 0,kI 18 (x2.n:Int)] (u0 (m0 (P0 0 ?_))));obtain ⟨o,hl,h⟩:=bind_some h;rcases o with ⟨H5,v19_6⟩ | r
 ·try dsimp only at h
  refine Y0 (k9 (L:=L) (E:=E) (m:=m) (H:=H)) (L.ok hl) 0 ?_;clear hl;refine fun a w hs=>bkE ((m0 ?_ a w hs));refine t0 (A0 (g0 1 [kB 4 false] (u0 (m0 (C0 ?_)))));cases h;exact fun a w hs=>rtR (rS hs)
 ·try dsimp only at h
  refine X0 (k9 (L:=L) (E:=E) (m:=m) (H:=H)) (L.ok hl) 0 ?_;cases h;exact fun a w hq=>bkR (sqR (rtR hq))
noncomputable def B57:Code:=(Tryz.f57.body).getD .skip
def z18:(Sl3×AH)→Value
 | (r0,_)=>(Sl3.v r0)
def z2c (_:AH):(Sl3×AH)→AH:=fun r=>r.2
noncomputable def Y7 (_L:LC) (_q1:Addr) (x2 _s3:Sl3):(AH×Int)→Option (Lp (AH×Int) (Sl3×AH)):=fun (H5,v17_6) =>
 if v17_6<(x2.n:Int) then
  none
 else
  some (.brk (H5,v17_6))
def z69 (_L:LC) (q1:Addr) (x2 s3:Sl3):(AH×Int)→KN×Lcs:=fun (_,v17_6)=>([kI 17 v17_6,kP 0 q1,kI 3 (x2.n:Int),kS 4 s3,kI 16 (x2.n:Int)],[])
noncomputable def N7 (L:LC) (_m:Nat) (H:AH) (a0:Option Addr):Option (Sl3×AH) :=
 a0.bind fun q1 => (rd deSl H (Addr.add (Addr.add q1 0) 1)).bind fun x2 => (mkS 136 1 24 #[(Sl3.v Sl3.nil)] H (x2.n:Int) (x2.n:Int)).bind fun (s3,H4) => (L.run (Y7 L q1 x2 s3) (H4,0)).bind fun o=>match o with
 | .inl (H7,_) =>
  some (s3,H7)
 | .inr r=>some r
theorem R9 {E m H L q1 x2 s3} :LoopF Tryz.prog (NE.plain 99) m E Tryz.f57 ((cfst (csnd (cfst (csnd (csnd (csnd B57))))))) (z69 L q1 x2 s3) (fun s=>s.1) 0 z18 (z2c H) (Y7 L q1 x2 s3):=by
 rintro ⟨H5,v17_6⟩ o h
 unfold Y7 at h;try dsimp only at h
 refine t0 (A0 (g0 1 [kB 18 (decide (v17_6<(x2.n:Int)))] (u0 (m0 (t0 ?_)))));rcases J1 h with ⟨hp,h⟩ | ⟨hp,h⟩
 ·refine B0 18 true (decide_eq_true hp) (E0 ?_);cases h
 ·refine B0 18 false (decide_eq_false hp) (D0 (WS.ex 0 ?_));cases h;exact fun a w hs=>sqE (lsB rfl (hs.sb 0))
theorem z2h {L:LC} {m:Nat} {H:AH} {a0:Option Addr} {r:(Sl3×AH)} (h:N7 L m H a0=some r) :
  CallS Tryz.prog (NE.plain 99) m 57 #[(vP a0)] H (z18 r) (z2c H r):=by
 refine CallS.mk (args:=[(vP a0)]) Tryz.func57 (B:=B57) (by kernel_rfl) (fun E _=>?_);unfold N7 at h;refine t0 (A0 (g0 1 [kS 2 Sl3.nil] (u0 (m0 (t0 (A0 (g0 1 [(8,.val (vP a0))] ?_)))))));obtain ⟨q1,hx,hq1⟩:=bind_some h;subst hx;have h:=hq1;refine g0 3 [(11,.val (vP (some (Addr.add (Addr.add q1 0) 1)))),(10,.val (vP (some (Addr.add q1 0)))),kP 9 q1] ?_;obtain ⟨x2,hx,h⟩:=bind_some h;refine D1 12 59 (.tmp 11) (I1 hx M1) (g0 2 [kI 3 (x2.n:Int),kI 13 (x2.n:Int)] (u0 (m0 (t0 (A0 (g0 1 [kI 14 (x2.n:Int)] ?_))))));obtain ⟨⟨s3,H4⟩,hx,h⟩:=bind_some h;try dsimp only at h
 refine T0 (H':=H4) (some 15) (Sl3.v s3) (Abs.run_mk (t:=133) (x:=.tmp 14) (y:=.tmp 14) (k1:=.i64) (k2:=.i64) (by kernel_rfl) (by kernel_rfl) (by kernel_rfl) (by kernel_rfl) hx) (g0 1 [kS 4 s3] (u0 (m0 (t0 (t0 (A0 (g0 2 [kI 17 0,kI 16 (x2.n:Int)] (u0 (m0 ?_)))))))));refine P0 0 ?_;obtain ⟨o,hl,h⟩:=bind_some h;rcases o with ⟨H7,v17_8⟩ | r
 ·try dsimp only at h
  refine Y0 (R9 (L:=L) (E:=E) (m:=m) (H:=H)) (L.ok hl) 0 ?_;clear hl;refine fun a w hs=>bkE ((m0 ?_ a w hs));refine t0 (A0 (g0 2 [kS 2 s3,kS 56 s3] (u0 (m0 (C0 ?_)))));cases h;exact fun a w hs=>rtR (rS hs)
 ·try dsimp only at h
  refine X0 (R9 (L:=L) (E:=E) (m:=m) (H:=H)) (L.ok hl) 0 ?_;cases h;exact fun a w hq=>bkR (sqR (rtR hq))
noncomputable def B88:Code:=(Tryz.f88.body).getD .skip
def z4h:Int→Value
 | r0=>(vI .i64 r0)
def z56 (H:AH):Int→AH:=fun _=>H
noncomputable def zx (_L:LC) (_H:AH) (a0:Sl3) (_a1:Bool):Int→Option (Lp Int Int):=fun v8_1 =>
 if v8_1<(a0.n:Int) then
  none
 else
  some (.brk v8_1)
def z9h (_L:LC) (_H:AH) (a0:Sl3) (a1:Bool):Int→KN×Lcs:=fun v8_1=>([kI 8 v8_1,kS 0 a0,kB 1 a1,kI 7 (a0.n:Int)],[])
noncomputable def z40 (L:LC) (H:AH) (a0:Sl3) (a1:Bool):Option Int :=
 (L.run (zx L H a0 a1) 0).bind fun o=>match o with
 | .inl _ =>
  some (-1)
 | .inr r=>some r
theorem z2d {E m L H a0 a1} :LoopF Tryz.prog (NE.plain 99) m E Tryz.f88 ((cfst (csnd (cfst (csnd B88))))) (z9h L H a0 a1) (fun _=>H) 0 z4h (z56 H) (zx L H a0 a1):=by
 rintro v8_1 o h
 unfold zx at h;try dsimp only at h
 refine t0 (A0 (g0 1 [kB 9 (decide (v8_1<(a0.n:Int)))] (u0 (m0 (t0 ?_)))));rcases J1 h with ⟨hp,h⟩ | ⟨hp,h⟩
 ·refine B0 9 true (decide_eq_true hp) (E0 ?_);cases h
 ·refine B0 9 false (decide_eq_false hp) (D0 (WS.ex 0 ?_));cases h;exact fun a w hs=>sqE (lsB rfl (hs.sb 0))
theorem zc0 {L:LC} {m:Nat} {H:AH} {a0:Sl3} {a1:Bool} {r:Int} (h:z40 L H a0 a1=some r) :
  CallS Tryz.prog (NE.plain 99) m 88 #[(Sl3.v a0),(vB a1)] H (z4h r) (z56 H r):=by
 refine CallS.mk (args:=[(Sl3.v a0),(vB a1)]) Tryz.func88 (B:=B88) (by kernel_rfl) (fun E _=>?_);unfold z40 at h;refine t0 (A0 (g0 1 [kI 4 0] (u0 (m0 (t0 (t0 (A0 (g0 3 [kI 8 0,kI 7 (a0.n:Int),kS 6 a0] (u0 ?_)))))))));refine m0 (P0 0 ?_);obtain ⟨o,hl,h⟩:=bind_some h;rcases o with v8_2 | r
 ·try dsimp only at h
  refine Y0 (z2d (L:=L) (E:=E) (m:=m) (H:=H)) (L.ok hl) 0 ?_;clear hl;refine fun a w hs=>bkE ((m0 ?_ a w hs));refine t0 (A0 (g0 1 [kI 4 (-1)] (u0 (m0 (C0 ?_)))));cases h;exact fun a w hs=>rtR (rS hs)
 ·try dsimp only at h
  refine X0 (z2d (L:=L) (E:=E) (m:=m) (H:=H)) (L.ok hl) 0 ?_;cases h;exact fun a w hq=>bkR (sqR (rtR hq))
noncomputable def B58:Code:=(Tryz.f58.body).getD .skip
def z89:Bool→Value
 | r0=>(vB r0)
def z8n (H:AH):Bool→AH:=fun _=>H
noncomputable def zj (L:LC) (H:AH) (a0:Sl3) (a1:Bool):Option Bool :=
 (z40 L H a0 a1).bind fun x1 => some (decide (x1≥0))
theorem z9k {L:LC} {m:Nat} {H:AH} {a0:Sl3} {a1 r:Bool} (h:zj L H a0 a1=some r) :
  CallS Tryz.prog (NE.plain 99) m 58 #[(Sl3.v a0),(vB a1)] H (z89 r) (z8n H r):=by
 refine CallS.mk (args:=[(Sl3.v a0),(vB a1)]) Tryz.func58 (B:=B58) (by kernel_rfl) (fun E _=>?_);unfold zj at h;refine t0 (A0 (g0 1 [kB 4 false] (u0 (m0 (t0 (A0 (g0 2 [kB 6 a1,kS 5 a0] ?_)))))));obtain ⟨x1,hx,h⟩:=bind_some h;refine RS.cl (some 7) (v:=(vI .i64 x1)) 88 _ (zc0 hx) (g0 2 [kB 4 (decide (x1≥0)),kB 8 (decide (x1≥0))] (u0 (m0 (C0 ?_))));cases h;exact fun a w hs=>rtR (rS hs)
noncomputable def B59:Code:=(Tryz.f59.body).getD .skip
def W6:(Sl3×AH)→Value
 | (r0,_)=>(Sl3.v r0)
def C7 (_:AH):(Sl3×AH)→AH:=fun r=>r.2
noncomputable def A7 (_L:LC) (_p1 _p8:Addr) (x14:Sl3):(AH×Int)→Option (Lp (AH×Int) ((Sl3×AH)⊕AH)):=fun (H16,v21_17) =>
 if v21_17<(x14.n:Int) then
  none
 else
  some (.brk (H16,v21_17))
def p9 (_L:LC) (p1 p8:Addr) (x14:Sl3):(AH×Int)→KN:=fun (_,v21_17)=>[kI 21 v21_17,kP 1 p1,kP 3 p8,kS 19 x14,kI 20 (x14.n:Int)]
def t9 (_L:LC) (_p1 _p8:Addr) (_x14:Sl3):(AH×Int)→Lcs:=fun (_,_)=>[]
def z50 (_L:LC) (p1 p8:Addr) (_x14:Sl3):AH→KN:=fun _=>[kP 1 p1,kP 3 p8]
def z51 (_L:LC) (_p1 _p8:Addr) (_x14:Sl3):AH→Lcs:=fun _=>[]
noncomputable def E7 (L:LC) (p1 p8:Addr):AH→Option (Lp AH (Sl3×AH)):=fun H11 =>
 (rd deP H11 p1).bind fun x12 => x12.bind fun q13 => (rd deSl H11 (Addr.add (Addr.add q13 0) 1)).bind fun x14 => (L.run (A7 L p1 p8 x14) (H11,0)).bind fun o=>match o with
 | .inl (H18,_) =>
  some (.brk H18)
 | .inr (.inl r)=>some (.ret r)
 | .inr (.inr H20) =>
  some (.next H20)
def z5r (_L:LC) (p1 p8:Addr):AH→KN×Lcs:=fun _=>([kP 1 p1,kP 3 p8],[])
noncomputable def I9 (L:LC) (m:Nat) (H:AH) (a0:Option Addr):Option (Sl3×AH) :=
 (newB 129 [(vP a0)] H).bind fun (p1,H2) => (rd deP H2 p1).bind fun x3 => x3.bind fun q4 => (rd deSl H2 (Addr.add (Addr.add q4 0) 1)).bind fun x5 => (mkS 4 1 1 #[(vB false)] H2 (x5.n:Int) (x5.n:Int)).bind fun (s6,H7) => (newB 136 [(Sl3.v Sl3.nil)] H7).bind fun (p8,H9) => (H9.setCell m p8 (Sl3.v s6)).bind fun H10 => (L.run (E7 L p1 p8) H10).bind fun o=>match o with
 | .inl H21 =>
  (rd deSl H21 p8).bind fun x22 => some (x22,H21)
 | .inr r=>some r
theorem A6 {E:Ent} {m:Nat} {H:AH} {L:LC} {p1 p8:Addr} {x14:Sl3} :∀s o,A7 L p1 p8 x14 s=some o →
  WS Tryz.prog (NE.plain 99) m E Tryz.f59.ntmps (cfst (cfst (csnd (cfst (cfst (cfst (cfst (cfst (csnd (csnd (cfst (csnd B59)))))))))))) (p9 L p1 p8 x14 s) (t9 L p1 p8 x14 s) ((fun s=>s.1) s) (lpX Tryz.prog (NE.plain 99) m E Tryz.f59.ntmps (p9 L p1 p8 x14) (t9 L p1 p8 x14) (fun s=>s.1) 2 (fun r e a w=>match r with | .inl r=>e=.ret∧RT Tryz.prog (NE.plain 99) m E Tryz.f59 (W6 r) (C7 H r) a w | .inr x=>e=.exit 1∧SS Tryz.prog (NE.plain 99) m E Tryz.f59.ntmps (z50 L p1 p8 x14 x) (z51 L p1 p8 x14 x) ((fun s=>s) x) a w) o):=by
 rintro ⟨H16,v21_17⟩ o h
 unfold A7 at h;try dsimp only at h
 refine t0 (A0 (g0 1 [kB 22 (decide (v21_17<(x14.n:Int)))] (u0 (m0 (t0 ?_)))));rcases J1 h with ⟨hp,h⟩ | ⟨hp,h⟩
 ·refine B0 22 true (decide_eq_true hp) (E0 ?_);cases h
 ·refine B0 22 false (decide_eq_false hp) (D0 (WS.ex 2 ?_));cases h;exact fun a w hs=>sqE (lxB rfl (hs.sb 0))
theorem d9 {E m H L p1 p8} :LoopF Tryz.prog (NE.plain 99) m E Tryz.f59 ((cfst (cfst (csnd (csnd (cfst (csnd B59))))))) (z5r L p1 p8) (fun s=>s) 0 W6 (C7 H) (E7 L p1 p8):=by
 rintro H11 o h
 unfold E7 at h;try dsimp only at h
 refine P0 1 (t0 (t0 (A0 ?_)));obtain ⟨x12,hx,h⟩:=bind_some h;refine D1 15 129 (.tmp 1) (I1 hx Q9) ?_;obtain ⟨q13,hx,hq13⟩:=bind_some h;subst hx;have h:=hq13;refine g0 3 [(18,.val (vP (some (Addr.add (Addr.add q13 0) 1)))),(17,.val (vP (some (Addr.add q13 0)))),kP 16 q13] ?_;obtain ⟨x14,hx,h⟩:=bind_some h;refine D1 19 59 (.tmp 18) (I1 hx M1) (g0 2 [kI 21 0,kI 20 (x14.n:Int)] (u0 (m0 (P0 2 ?_))));obtain ⟨o,hl,h⟩:=bind_some h;rcases o with ⟨H18,v21_19⟩ | (r | H20)
 ·try dsimp only at h
  refine WS.lXI (A6 (L:=L) (E:=E) (m:=m) (H:=H)) (L.ok hl) 0 ?_;clear hl;refine fun a w hs=>bkE ((m0 ?_ a w hs));refine WS.ex 0 ?_;cases h;exact fun a w hs=>bkX (by kernel_rfl) (lsB rfl (hs.sb 0))
 ·try dsimp only at h
  refine WS.lXR (A6 (L:=L) (E:=E) (m:=m) (H:=H)) (L.ok hl) 0 ?_;cases h;refine fun e a w hq=>?_;obtain ⟨rfl,hq⟩:=hq;exact bkR (sqR (bkR (lsR rfl hq)))
 ·try dsimp only at h
  refine WS.lXR (A6 (L:=L) (E:=E) (m:=m) (H:=H)) (L.ok hl) 0 ?_;clear hl;refine fun e a w hs=>?_;obtain ⟨rfl,hs⟩:=hs
  revert hs
  revert w
  revert a
  cases h;exact fun a w hs=>bkX (by kernel_rfl) (sqE (bkE (lsN rfl (hs.sb 0))))
theorem z86 {L:LC} {m:Nat} {H:AH} {a0:Option Addr} {r:(Sl3×AH)} (h:I9 L m H a0=some r) :
  CallS Tryz.prog (NE.plain 99) m 59 #[(vP a0)] H (W6 r) (C7 H r):=by
 refine CallS.mk (args:=[(vP a0)]) Tryz.func59 (B:=B59) (by kernel_rfl) (fun E _=>?_);unfold I9 at h;refine t0 (A0 ?_);obtain ⟨⟨p1,H2⟩,hx,h⟩:=bind_some h;try dsimp only at h
 refine T0 (H':=H2) (some 1) (vP (some p1)) (Abs.run_newB (by kernel_rfl) hx) (g0 1 [kS 2 Sl3.nil] (u0 (m0 (WS.scope (by kernel_rfl) (t0 (A0 ?_))))));obtain ⟨x3,hx,h⟩:=bind_some h;refine D1 8 129 (.tmp 1) (I1 hx Q9) ?_;obtain ⟨q4,hx,hq4⟩:=bind_some h;subst hx;have h:=hq4;refine g0 3 [(11,.val (vP (some (Addr.add (Addr.add q4 0) 1)))),(10,.val (vP (some (Addr.add q4 0)))),kP 9 q4] ?_;obtain ⟨x5,hx,h⟩:=bind_some h;refine D1 12 59 (.tmp 11) (I1 hx M1) (g0 1 [kI 13 (x5.n:Int)] ?_);obtain ⟨⟨s6,H7⟩,hx,h⟩:=bind_some h;try dsimp only at h
 refine T0 (H':=H7) (some 14) (Sl3.v s6) (Abs.run_mk (t:=136) (x:=.tmp 13) (y:=.tmp 13) (k1:=.i64) (k2:=.i64) (by kernel_rfl) (by kernel_rfl) (by kernel_rfl) (by kernel_rfl) hx) ?_;obtain ⟨⟨p8,H9⟩,hx,h⟩:=bind_some h;try dsimp only at h
 refine T0 (H':=H9) (some 3) (vP (some p8)) (Abs.run_newB (by kernel_rfl) hx) ?_;obtain ⟨H10,hx,h⟩:=bind_some h;refine T0 (H':=H10) none undef (Abs.run_store1 (t:=136) (x:=.tmp 3) (y:=.tmp 14) (a:=p8) (v:=(Sl3.v s6)) (by kernel_rfl) (by kernel_rfl) (by kernel_rfl) (by kernel_rfl) (by kernel_rfl) hx) (u0 (m0 (t0 (M0 (m0 (t0 (P0 0 ?_)))))));obtain ⟨o,hl,h⟩:=bind_some h;rcases o with H21 | r
 ·try dsimp only at h
  refine Y0 (d9 (L:=L) (E:=E) (m:=m) (H:=H)) (L.ok hl) 0 ?_;clear hl;refine fun a w hs=>bkE ((m0 ?_ a w hs));refine t0 (A0 ?_);obtain ⟨x22,hx,h⟩:=bind_some h;refine D1 47 136 (.tmp 3) (I1 hx M1) (g0 1 [kS 2 x22] (u0 (m0 (C0 ?_))));cases h;exact fun a w hs=>sgR (rtR (rS hs))
 ·try dsimp only at h
  refine X0 (d9 (L:=L) (E:=E) (m:=m) (H:=H)) (L.ok hl) 0 ?_;cases h;exact fun a w hq=>bkR (sqR (sgR (rtR hq)))
noncomputable def B35:Code:=(Tryz.f35.body).getD .skip
def z36:(Int×AH)→Value
 | (r0,_)=>(vI .i64 r0)
def z3w (_:AH):(Int×AH)→AH:=fun r=>r.2
noncomputable def F9 (_L:LC) (_a0_0 _a0_1:Sl3) (_a0_2 _x2:Sl3) (_x3 s7:Sl3) (_H8:AH):Int→Option (Lp Int (Int×AH)):=fun v21_9 =>
 if v21_9<(s7.n:Int) then
  none
 else
  some (.brk v21_9)
def z87 (_L:LC) (a0_0 a0_1:Sl3) (a0_2 x2:Sl3) (x3 s7:Sl3) (_H8:AH):Int→KN×Lcs:=fun v21_9=>([kI 21 v21_9,kL 1 0 0,kS 3 x2,kS 4 x3,kS 19 s7,kI 20 (s7.n:Int)],[some (62,[(Sl3.v a0_0),(Sl3.v a0_1),(Sl3.v a0_2)])])
noncomputable def C9 (L:LC) (m:Nat) (H:AH) (a0_0 a0_1 a0_2:Sl3):Option (Int×AH) :=
 (z92 L H a0_0 a0_1 a0_2).bind fun x1 => if x1=true then
  none
 else
  (z71 L m H a0_0 a0_1 a0_2).bind fun (x2,x3,H4) => (zo L m H4 x2).bind fun (x5,H6) => (appS m 9 1 16 H6 x5 x3).bind fun (s7,H8) => (L.run (F9 L a0_0 a0_1 a0_2 x2 x3 s7 H8) 0).bind fun o=>match o with
  | .inl _ =>
   (z3r L m H8 x2).bind fun (x11,H12) => if x11=true then
    none
   else
    (z3r L m H12 x3).bind fun (x13,H14) => if x13=true then
     none
    else
     (z28 L m H14 a0_0 a0_1 a0_2).bind fun (x15,H16) => (Z7 L m H16 x15).bind fun (x17,H18) => if x17=0 then
      (N7 L m H18 x15).bind fun (x19,H20) => (J9 L m H20 x15 x19).bind fun (x21,H22) => if x21=true then
       none
      else
       (I9 L m H22 x15).bind fun (x23,H24) => (zj L H24 x23 false).bind fun x25 => if x25=true then
        none
       else
        some (0,H24)
     else
      none
  | .inr r=>some r
theorem z15 {E m H L a0_0 a0_1 a0_2 x2 x3 s7 H8} :LoopF Tryz.prog (NE.plain 99) m E Tryz.f35 ((cfst (csnd (cfst (csnd (csnd (csnd B35))))))) (z87 L a0_0 a0_1 a0_2 x2 x3 s7 H8) (fun _=>H8) 0 z36 (z3w H) (F9 L a0_0 a0_1 a0_2 x2 x3 s7 H8):=by
 rintro v21_9 o h
 unfold F9 at h;try dsimp only at h
 refine t0 (A0 (g0 1 [kB 22 (decide (v21_9<(s7.n:Int)))] (u0 (m0 (t0 ?_)))));rcases J1 h with ⟨hp,h⟩ | ⟨hp,h⟩
 ·refine B0 22 true (decide_eq_true hp) (E0 ?_);cases h
 ·refine B0 22 false (decide_eq_false hp) (D0 (WS.ex 0 ?_));cases h;exact fun a w hs=>sqE (lsB rfl (hs.sb 1))
theorem z4d {L:LC} {m:Nat} {H:AH} {a0_0 a0_1 a0_2:Sl3} {r:(Int×AH)} (h:C9 L m H a0_0 a0_1 a0_2=some r) :
  CallS Tryz.prog (NE.plain 99) m 35 #[(vA #[(Sl3.v a0_0),(Sl3.v a0_1),(Sl3.v a0_2)])] H (z36 r) (z3w H r):=by
 refine CallS.mk (args:=[(vA #[(Sl3.v a0_0),(Sl3.v a0_1),(Sl3.v a0_2)])]) Tryz.func35 (B:=B35) (by kernel_rfl) (fun E _=>?_);unfold C9 at h;refine t0 (A0 (O0 2 [kI 2 0,kL 1 0 0] ([some (62,[(Sl3.v a0_0),(Sl3.v a0_1),(Sl3.v a0_2)])]) (u0 (m0 (t0 (t0 (A0 (g0 1 [kA 9 #[(Sl3.v a0_0),(Sl3.v a0_1),(Sl3.v a0_2)]] ?_))))))));obtain ⟨x1,hx,h⟩:=bind_some h;refine RS.cl (some 10) (v:=(vB x1)) 49 _ (zf3 hx) (u0 (m0 ?_));rcases J1 h with ⟨hp,h⟩ | ⟨hp,h⟩
 ·refine B0 10 true hp (E0 ?_);cases h
 ·refine B0 10 false (b_not hp) (D0 (M0 (m0 (t0 (A0 (g0 1 [kA 12 #[(Sl3.v a0_0),(Sl3.v a0_1),(Sl3.v a0_2)]] ?_))))));obtain ⟨⟨x2,x3,H4⟩,hx,h⟩:=bind_some h;try dsimp only at h
  refine RS.cl (some 13) (v:=(Value.tuple #[(Sl3.v x2),(Sl3.v x3)])) 50 _ (zdo hx) (g0 5 [kS 4 x3,kS 3 x2,kS 15 x3,kS 14 x2,(11,.val (Value.tuple #[(Sl3.v x2),(Sl3.v x3)]))] (u0 (m0 (t0 (t0 (A0 (g0 1 [kS 16 x2] ?_)))))));obtain ⟨⟨x5,H6⟩,hx,h⟩:=bind_some h;try dsimp only at h
  refine RS.cl (some 17) (v:=(Sl3.v x5)) 51 _ (z52 hx) (g0 1 [kS 18 x3] ?_);obtain ⟨⟨s7,H8⟩,hx,h⟩:=bind_some h;try dsimp only at h
  refine T0 (H':=H8) (some 19) (Sl3.v s7) (Abs.run_app (x:=.tmp 17) (y:=.tmp 18) (ts:=#[58,58]) (s:=x5) (z:=x3) (by kernel_rfl) (by kernel_rfl) (by kernel_rfl) (by kernel_rfl) hx) (g0 2 [kI 21 0,kI 20 (s7.n:Int)] (u0 (m0 (P0 0 ?_))));obtain ⟨o,hl,h⟩:=bind_some h;rcases o with v21_10 | r
  ·try dsimp only at h
   refine Y0 (z15 (L:=L) (E:=E) (m:=m) (H:=H)) (L.ok hl) 1 ?_;clear hl;refine fun a w hs=>bkE ((m0 ?_ a w hs));refine t0 (t0 (A0 (g0 1 [kS 29 x2] ?_)));obtain ⟨⟨x11,H12⟩,hx,h⟩:=bind_some h;try dsimp only at h
   refine RS.cl (some 30) (v:=(vB x11)) 53 _ (z7o hx) (g0 1 [kB 31 x11] ?_);rcases J1 h with ⟨hp,h⟩ | ⟨hp,h⟩
   ·refine F0 31 true hp ?_;cases h
   ·refine F0 31 false (b_not hp) (g0 1 [kS 32 x3] ?_);obtain ⟨⟨x13,H14⟩,hx,h⟩:=bind_some h;try dsimp only at h
    refine RS.cl (some 33) (v:=(vB x13)) 53 _ (z7o hx) (g0 1 [kB 34 x13] (u0 (m0 ?_)));rcases J1 h with ⟨hp,h⟩ | ⟨hp,h⟩
    ·refine B0 34 true hp (E0 ?_);cases h
    ·refine B0 34 false (b_not hp) (D0 (M0 (m0 (t0 (A0 (g0 1 [kA 35 #[(Sl3.v a0_0),(Sl3.v a0_1),(Sl3.v a0_2)]] ?_))))));obtain ⟨⟨x15,H16⟩,hx,h⟩:=bind_some h;try dsimp only at h
     refine RS.cl (some 36) (v:=(vP x15)) 54 _ (z4p hx) (g0 1 [(7,.val (vP x15))] (u0 (m0 (t0 (t0 (A0 (g0 1 [(37,.val (vP x15))] ?_)))))));obtain ⟨⟨x17,H18⟩,hx,h⟩:=bind_some h;try dsimp only at h
     refine RS.cl (some 38) (v:=(vI .i64 x17)) 55 _ (z6e hx) (g0 1 [kI 8 x17] (u0 (m0 (t0 (A0 (g0 2 [kB 40 (!decide (x17=0)),kI 39 x17] (u0 (m0 ?_))))))));rcases J1 h with ⟨hp,h⟩ | ⟨hp,h⟩
     ·refine B0 40 false (C2 hp) (D0 (M0 (m0 (t0 (t0 (A0 (g0 2 [(43,.val (vP x15)),(42,.val (vP x15))] ?_)))))));obtain ⟨⟨x19,H20⟩,hx,h⟩:=bind_some h;try dsimp only at h
      refine RS.cl (some 44) (v:=(Sl3.v x19)) 57 _ (z2h hx) ?_;obtain ⟨⟨x21,H22⟩,hx,h⟩:=bind_some h;try dsimp only at h
      refine RS.cl (some 45) (v:=(vB x21)) 56 _ (z8a hx) (u0 (m0 ?_));rcases J1 h with ⟨hp,h⟩ | ⟨hp,h⟩
      ·refine B0 45 true hp (E0 ?_);cases h
      ·refine B0 45 false (b_not hp) (D0 (M0 (m0 (t0 (t0 (A0 (g0 1 [(46,.val (vP x15))] ?_)))))));obtain ⟨⟨x23,H24⟩,hx,h⟩:=bind_some h;try dsimp only at h
       refine RS.cl (some 47) (v:=(Sl3.v x23)) 59 _ (z86 hx) ?_;obtain ⟨x25,hx,h⟩:=bind_some h;refine RS.cl (some 48) (v:=(vB x25)) 58 _ (z9k hx) (u0 (m0 ?_));rcases J1 h with ⟨hp,h⟩ | ⟨hp,h⟩
       ·refine B0 48 true hp (E0 ?_);cases h
       ·refine B0 48 false (b_not hp) (D0 (M0 (m0 (t0 (A0 (g0 1 [kI 2 0] (u0 (m0 (C0 ?_)))))))));cases h;exact fun a w hs=>rtR (rS hs)
     ·refine B0 40 true (A2 hp) (E0 ?_);cases h
  ·try dsimp only at h
   refine X0 (z15 (L:=L) (E:=E) (m:=m) (H:=H)) (L.ok hl) 1 ?_;cases h;exact fun a w hq=>bkR (sqR (rtR hq))
noncomputable def B113:Code:=(Tryz.f113.body).getD .skip
def L5:(Int×Bool)→Value
 | (r0,r1)=>(Value.tuple #[(vI .i64 r0),(vB r1)])
def Y5 (H:AH):(Int×Bool)→AH:=fun _=>H
noncomputable def z34 (_L:LC) (rec_sort_parts:AH→Int→Int→ByteArray→Sl3→Int→Option (Int×Bool)) (H:AH) (_a0_0 _a0_1:Int) (_a0_2:ByteArray) (a0_3:Sl3) (a1:Int):(Int×Int)→Option (Lp (Int×Int) (Int×Bool)):=fun (v6_1,v16_2) =>
 if v16_2<(a0_3.n:Int) then
  (idxA 4 a0_3 v16_2).bind fun p3 => (rd (deI .i64) H (Addr.add p3 0)).bind fun x4_0 => (rd (deI .i64) H (Addr.add p3 1)).bind fun x4_1 => (rd deS H (Addr.add p3 2)).bind fun x4_2 => (rd deSl H (Addr.add p3 3)).bind fun x4_3 => (rec_sort_parts H x4_0 x4_1 x4_2 x4_3 (IntKind.i64.wrap (a1+1))).bind fun (x5,x6) => if x6=true then
   if (IntKind.i64.wrap (v6_1+x5)) > 256 then
    none
   else
    some (.next ((IntKind.i64.wrap (v6_1+x5)),(IntKind.i64.wrap (v16_2+1))))
  else
   none
 else
  some (.brk (v6_1,v16_2))
def zav (_L:LC) (_rec_sort_parts:AH→Int→Int→ByteArray→Sl3→Int→Option (Int×Bool)) (_H:AH) (a0_0 a0_1:Int) (a0_2:ByteArray) (a0_3:Sl3) (a1:Int):(Int×Int)→KN×Lcs:=fun (v6_1,v16_2)=>([kI 6 v6_1,kI 16 v16_2,kI 1 a1,kS 14 a0_3,kI 15 (a0_3.n:Int)],[some (32,[(vI .i64 a0_0),(vI .i64 a0_1),(vS a0_2),(Sl3.v a0_3)])])
noncomputable def z10 (L:LC) (rec_sort_parts:AH→Int→Int→ByteArray→Sl3→Int→Option (Int×Bool)) (H:AH) (a0_0 a0_1:Int) (a0_2:ByteArray) (a0_3:Sl3) (a1:Int):Option (Int×Bool) :=
 if a1 > 16 then
  none
 else
  (L.run (z34 L rec_sort_parts H a0_0 a0_1 a0_2 a0_3 a1) (1,0)).bind fun o=>match o with
  | .inl (v6_7,_) =>
   some (v6_7,true)
  | .inr r=>some r
noncomputable def z67 (L:LC) (n:Nat):(AH→Int→Int→ByteArray→Sl3→Int→Option (Int×Bool)):=Nat.rec (motive:=fun _=>(AH→Int→Int→ByteArray→Sl3→Int→Option (Int×Bool))) (fun _ _ _ _ _ _=>none) (fun _ p=>z10 L p) n
noncomputable def zc3 (L:LC) (H:AH) (a0_0 a0_1:Int) (a0_2:ByteArray) (a0_3:Sl3) (a1:Int):Option (Int×Bool):=(z67 L L.fuel) H a0_0 a0_1 a0_2 a0_3 a1
theorem z46 {E m L rec_sort_parts H a0_0 a0_1 a0_2 a0_3 a1} (hrec_sort_parts:∀(m:Nat) (H:AH) (a0_0 a0_1:Int) (a0_2:ByteArray) (a0_3:Sl3) (a1:Int) (r:(Int×Bool)),rec_sort_parts H a0_0 a0_1 a0_2 a0_3 a1=some r→CallS Tryz.prog (NE.plain 99) m 113 #[(vA #[(vI .i64 a0_0),(vI .i64 a0_1),(vS a0_2),(Sl3.v a0_3)]),(vI .i64 a1)] H (L5 r) (Y5 H r)):LoopF Tryz.prog (NE.plain 99) m E Tryz.f113 ((cfst (csnd (cfst (csnd (csnd (csnd B113))))))) (zav L rec_sort_parts H a0_0 a0_1 a0_2 a0_3 a1) (fun _=>H) 0 L5 (Y5 H) (z34 L rec_sort_parts H a0_0 a0_1 a0_2 a0_3 a1):=by
 rintro ⟨v6_1,v16_2⟩ o h
 unfold z34 at h;try dsimp only at h
 refine t0 (A0 (g0 1 [kB 17 (decide (v16_2<(a0_3.n:Int)))] (u0 (m0 (t0 ?_)))));rcases J1 h with ⟨hp,h⟩ | ⟨hp,h⟩
 ·refine B0 17 true (decide_eq_true hp) (E0 (M0 (m0 (t0 (P0 1 (t0 (A0 ?_)))))));obtain ⟨p3,hx,h⟩:=bind_some h;refine RS.ix 18 30 32 (.tmp 14) (.tmp 16) hx ?_;obtain ⟨x4_0,hx0,h⟩:=bind_some h;obtain ⟨x4_1,hx1,h⟩:=bind_some h;obtain ⟨x4_2,hx2,h⟩:=bind_some h;obtain ⟨x4_3,hx3,h⟩:=bind_some h;refine E1 19 32 (.tmp 18) 4 (G1 (I1 hx0 N1) (G1 (I1 hx1 N1) (G1 (I1 hx2 X1) (G1 (I1 hx3 M1) T2)))) (O0 2 [kL 8 1 0] ([some (32,[(vI .i64 a0_0),(vI .i64 a0_1),(vS a0_2),(Sl3.v a0_3)]),some (32,[(vI .i64 x4_0),(vI .i64 x4_1),(vS x4_2),(Sl3.v x4_3)])]) (u0 (m0 (t0 (A0 (g0 3 [kI 23 (IntKind.i64.wrap (a1+1)),kI 22 a1,kA 21 #[(vI .i64 x4_0),(vI .i64 x4_1),(vS x4_2),(Sl3.v x4_3)]] ?_))))));obtain ⟨⟨x5,x6⟩,hx,h⟩:=bind_some h;try dsimp only at h
  refine RS.cl (some 24) (v:=(Value.tuple #[(vI .i64 x5),(vB x6)])) 113 _ (hrec_sort_parts _ _ _ _ _ _ _ _ hx) (g0 5 [kB 10 x6,kI 9 x5,kB 26 x6,kI 25 x5,(20,.val (Value.tuple #[(vI .i64 x5),(vB x6)]))] (u0 (m0 (t0 (A0 (g0 4 [kI 6 (IntKind.i64.wrap (v6_1+x5)),kI 29 (IntKind.i64.wrap (v6_1+x5)),kI 28 x5,kI 27 v6_1] (u0 (m0 (t0 ?_)))))))));refine A0 (g0 3 [kB 32 (!x6),kB 31 (!x6),kB 30 x6] ?_);rcases J1 h with ⟨hp,h⟩ | ⟨hp,h⟩
  ·refine F0 32 false (nb_not hp) (g0 3 [kB 35 (decide ((IntKind.i64.wrap (v6_1+x5)) > 256)),kB 34 (decide ((IntKind.i64.wrap (v6_1+x5)) > 256)),kI 33 (IntKind.i64.wrap (v6_1+x5))] (u0 (m0 ?_)));rcases J1 h with ⟨hp,h⟩ | ⟨hp,h⟩
   ·refine B0 35 true (decide_eq_true hp) (E0 ?_);cases h
   ·refine B0 35 false (decide_eq_false hp) (D0 (M0 ?_));refine fun a w hs=>bkN ((m0 ?_ a w hs));refine A0 (g0 2 [kI 16 (IntKind.i64.wrap (v16_2+1)),kI 37 (IntKind.i64.wrap (v16_2+1))] (u0 ?_));cases h;exact fun a w hs=>lsN rfl (hs.sb 1)
  ·refine F0 32 true (Q4 hp) ?_;cases h
 ·refine B0 17 false (decide_eq_false hp) (D0 (WS.ex 0 ?_));cases h;exact fun a w hs=>sqE (lsB rfl (hs.sb 1))
theorem z8y {L:LC} {rec_sort_parts:AH→Int→Int→ByteArray→Sl3→Int→Option (Int×Bool)} (hrec_sort_parts:∀(m:Nat) (H:AH) (a0_0 a0_1:Int) (a0_2:ByteArray) (a0_3:Sl3) (a1:Int) (r:(Int×Bool)),rec_sort_parts H a0_0 a0_1 a0_2 a0_3 a1=some r→CallS Tryz.prog (NE.plain 99) m 113 #[(vA #[(vI .i64 a0_0),(vI .i64 a0_1),(vS a0_2),(Sl3.v a0_3)]),(vI .i64 a1)] H (L5 r) (Y5 H r)) {m:Nat} {H:AH} {a0_0 a0_1:Int} {a0_2:ByteArray} {a0_3:Sl3} {a1:Int} {r:(Int×Bool)} (h:z10 L rec_sort_parts H a0_0 a0_1 a0_2 a0_3 a1=some r) :
  CallS Tryz.prog (NE.plain 99) m 113 #[(vA #[(vI .i64 a0_0),(vI .i64 a0_1),(vS a0_2),(Sl3.v a0_3)]),(vI .i64 a1)] H (L5 r) (Y5 H r):=by
 refine CallS.mk (args:=[(vA #[(vI .i64 a0_0),(vI .i64 a0_1),(vS a0_2),(Sl3.v a0_3)]),(vI .i64 a1)]) Tryz.func113 (B:=B113) (by kernel_rfl) (fun E _=>?_);unfold z10 at h;refine t0 (A0 (O0 3 [kB 5 false,kI 4 0,kL 2 0 0] ([some (32,[(vI .i64 a0_0),(vI .i64 a0_1),(vS a0_2),(Sl3.v a0_3)])]) (u0 (m0 (t0 (t0 (A0 (g0 2 [kB 12 (decide (a1 > 16)),kI 11 a1] (u0 ?_)))))))));refine m0 ?_;rcases J1 h with ⟨hp,h⟩ | ⟨hp,h⟩
 ·refine B0 12 true (decide_eq_true hp) (E0 ?_);cases h
 ·refine B0 12 false (decide_eq_false hp) (D0 (M0 (m0 (t0 (A0 (g0 1 [kI 6 1] (u0 (m0 (t0 ?_)))))))));refine t0 (A0 (g0 4 [kI 16 0,kI 15 (a0_3.n:Int),kS 14 a0_3,kL 13 0 3] (u0 (m0 (P0 0 ?_)))));obtain ⟨o,hl,h⟩:=bind_some h;rcases o with ⟨v6_7,v16_8⟩ | r
  ·try dsimp only at h
   refine Y0 (z46 (L:=L) (E:=E) (m:=m) (H:=H) hrec_sort_parts) (L.ok hl) 1 ?_;clear hl;refine fun a w hs=>bkE ((m0 ?_ a w hs));refine t0 (A0 (g0 3 [kB 5 true,kI 4 v6_7,kI 38 v6_7] (u0 (m0 (C0 ?_)))));cases h;exact fun a w hs=>rtR (rS hs)
  ·try dsimp only at h
   refine X0 (z46 (L:=L) (E:=E) (m:=m) (H:=H) hrec_sort_parts) (L.ok hl) 1 ?_;cases h;exact fun a w hq=>bkR (sqR (rtR hq))
theorem za3 {L:LC}:∀n,(∀(m:Nat) (H:AH) (a0_0 a0_1:Int) (a0_2:ByteArray) (a0_3:Sl3) (a1:Int) (r:(Int×Bool)),((z67 L n)) H a0_0 a0_1 a0_2 a0_3 a1=some r→CallS Tryz.prog (NE.plain 99) m 113 #[(vA #[(vI .i64 a0_0),(vI .i64 a0_1),(vS a0_2),(Sl3.v a0_3)]),(vI .i64 a1)] H (L5 r) (Y5 H r)):=by
 intro n;induction n with
 | zero=>exact (fun _ _ _ _ _ _ _ _ h=>(Option.some_ne_none _ h.symm).elim)
 | succ n ih=>exact (fun _ _ _ _ _ _ _ _ h=>z8y (L:=L) ih h)
theorem zdl {L:LC} {m:Nat} {H:AH} {a0_0 a0_1:Int} {a0_2:ByteArray} {a0_3:Sl3} {a1:Int} {r:(Int×Bool)} (h:zc3 L H a0_0 a0_1 a0_2 a0_3 a1=some r) :
  CallS Tryz.prog (NE.plain 99) m 113 #[(vA #[(vI .i64 a0_0),(vI .i64 a0_1),(vS a0_2),(Sl3.v a0_3)]),(vI .i64 a1)] H (L5 r) (Y5 H r) :=
 (za3 _) _ _ _ _ _ _ _ _ h
noncomputable def B114:Code:=(Tryz.f114.body).getD .skip
def a5:Bool→Value
 | r0=>(vB r0)
def J5 (H:AH):Bool→AH:=fun _=>H
noncomputable def z1q (_L:LC) (rec_sort_shaped:AH→Int→Int→ByteArray→Sl3→Option Bool) (H:AH) (_a0_0 _a0_1:Int) (_a0_2:ByteArray) (a0_3:Sl3):(Bool×Int)→Option (Lp (Bool×Int) Bool):=fun (v3_3,v82_4) =>
 if v82_4<(a0_3.n:Int) then
  (idxA 4 a0_3 v82_4).bind fun p5 => (rd (deI .i64) H (Addr.add p5 0)).bind fun x6_0 => (rd (deI .i64) H (Addr.add p5 1)).bind fun x6_1 => (rd deS H (Addr.add p5 2)).bind fun x6_2 => (rd deSl H (Addr.add p5 3)).bind fun x6_3 => if v3_3=true then
   (rec_sort_shaped H x6_0 x6_1 x6_2 x6_3).bind fun x7 => some (.next (x7,(IntKind.i64.wrap (v82_4+1))))
  else
   none
 else
  some (.brk (v3_3,v82_4))
def z9z (_L:LC) (_rec_sort_shaped:AH→Int→Int→ByteArray→Sl3→Option Bool) (_H:AH) (a0_0 a0_1:Int) (a0_2:ByteArray) (a0_3:Sl3):(Bool×Int)→KN×Lcs:=fun (v3_3,v82_4)=>([kB 3 v3_3,kI 82 v82_4,kS 80 a0_3,kI 81 (a0_3.n:Int)],[some (32,[(vI .i64 a0_0),(vI .i64 a0_1),(vS a0_2),(Sl3.v a0_3)])])
noncomputable def L9 (L:LC) (rec_sort_shaped:AH→Int→Int→ByteArray→Sl3→Option Bool) (H:AH) (a0_0 a0_1:Int) (a0_2:ByteArray) (a0_3:Sl3):Option Bool :=
 Option.bind (α:=Bool) (
  Option.bind (α:=Bool) (
   if a0_0=1 then
    some true
   else
    some (decide (a0_0=2))) fun v8_2 =>
  if v8_2=true then
   if a0_1=0 then
    if (a0_2.toList == (⟨#[]⟩:ByteArray).toList)=true then
     some (decide ((a0_3.n:Int)=0))
    else
     none
   else
    none
  else
   if a0_0=3 then
    none
   else
    if a0_0=4 then
     if a0_1=0 then
      if (a0_2.toList == (⟨#[]⟩:ByteArray).toList)=true then
       some (decide ((a0_3.n:Int)=2))
      else
       none
     else
      none
    else
     none) fun v3_1 =>
 (L.run (z1q L rec_sort_shaped H a0_0 a0_1 a0_2 a0_3) (v3_1,0)).bind fun o=>match o with
 | .inl (v3_8,_) =>
  some v3_8
 | .inr r=>some r
noncomputable def z55 (L:LC) (n:Nat):(AH→Int→Int→ByteArray→Sl3→Option Bool):=Nat.rec (motive:=fun _=>(AH→Int→Int→ByteArray→Sl3→Option Bool)) (fun _ _ _ _ _=>none) (fun _ p=>L9 L p) n
noncomputable def zak (L:LC) (H:AH) (a0_0 a0_1:Int) (a0_2:ByteArray) (a0_3:Sl3):Option Bool:=(z55 L L.fuel) H a0_0 a0_1 a0_2 a0_3
theorem z39 {E m L rec_sort_shaped H a0_0 a0_1 a0_2 a0_3} (hrec_sort_shaped:∀(m:Nat) (H:AH) (a0_0 a0_1:Int) (a0_2:ByteArray) (a0_3:Sl3) (r:Bool),rec_sort_shaped H a0_0 a0_1 a0_2 a0_3=some r→CallS Tryz.prog (NE.plain 99) m 114 #[(vA #[(vI .i64 a0_0),(vI .i64 a0_1),(vS a0_2),(Sl3.v a0_3)])] H (a5 r) (J5 H r)):LoopF Tryz.prog (NE.plain 99) m E Tryz.f114 ((cfst (csnd (cfst (csnd (csnd (csnd B114))))))) (z9z L rec_sort_shaped H a0_0 a0_1 a0_2 a0_3) (fun _=>H) 1 a5 (J5 H) (z1q L rec_sort_shaped H a0_0 a0_1 a0_2 a0_3):=by
 rintro ⟨v3_3,v82_4⟩ o h
 unfold z1q at h;try dsimp only at h
 refine t0 (A0 (g0 1 [kB 83 (decide (v82_4<(a0_3.n:Int)))] (u0 (m0 (t0 ?_)))));rcases J1 h with ⟨hp,h⟩ | ⟨hp,h⟩
 ·refine B0 83 true (decide_eq_true hp) (E0 (M0 (m0 (t0 (P0 2 (t0 (A0 ?_)))))));obtain ⟨p5,hx,h⟩:=bind_some h;refine RS.ix 84 30 32 (.tmp 80) (.tmp 82) hx ?_;obtain ⟨x6_0,hx0,h⟩:=bind_some h;obtain ⟨x6_1,hx1,h⟩:=bind_some h;obtain ⟨x6_2,hx2,h⟩:=bind_some h;obtain ⟨x6_3,hx3,h⟩:=bind_some h;refine E1 85 32 (.tmp 84) 4 (G1 (I1 hx0 N1) (G1 (I1 hx1 N1) (G1 (I1 hx2 X1) (G1 (I1 hx3 M1) T2)))) (O0 2 [kL 5 1 0] ([some (32,[(vI .i64 a0_0),(vI .i64 a0_1),(vS a0_2),(Sl3.v a0_3)]),some (32,[(vI .i64 x6_0),(vI .i64 x6_1),(vS x6_2),(Sl3.v x6_3)])]) (u0 (m0 (A0 (g0 2 [kB 87 v3_3,kB 86 v3_3] ?_)))));rcases J1 h with ⟨hp,h⟩ | ⟨hp,h⟩
  ·refine F0 87 true hp (g0 1 [kA 88 #[(vI .i64 x6_0),(vI .i64 x6_1),(vS x6_2),(Sl3.v x6_3)]] ?_);obtain ⟨x7,hx,h⟩:=bind_some h;refine RS.cl (some 89) (v:=(vB x7)) 114 _ (hrec_sort_shaped _ _ _ _ _ _ _ hx) (g0 2 [kB 3 x7,kB 90 x7] (u0 ?_));refine fun a w hs=>bkN ((m0 ?_ a w hs));refine A0 (g0 2 [kI 82 (IntKind.i64.wrap (v82_4+1)),kI 91 (IntKind.i64.wrap (v82_4+1))] (u0 ?_));cases h;exact fun a w hs=>lsN rfl (hs.sb 1)
  ·refine F0 87 false (b_not hp) ?_;cases h
 ·refine B0 83 false (decide_eq_false hp) (D0 (WS.ex 1 ?_));cases h;exact fun a w hs=>sqE (lsB rfl (hs.sb 1))
theorem z8d {L:LC} {rec_sort_shaped:AH→Int→Int→ByteArray→Sl3→Option Bool} (hrec_sort_shaped:∀(m:Nat) (H:AH) (a0_0 a0_1:Int) (a0_2:ByteArray) (a0_3:Sl3) (r:Bool),rec_sort_shaped H a0_0 a0_1 a0_2 a0_3=some r→CallS Tryz.prog (NE.plain 99) m 114 #[(vA #[(vI .i64 a0_0),(vI .i64 a0_1),(vS a0_2),(Sl3.v a0_3)])] H (a5 r) (J5 H r)) {m:Nat} {H:AH} {a0_0 a0_1:Int} {a0_2:ByteArray} {a0_3:Sl3} {r:Bool} (h:L9 L rec_sort_shaped H a0_0 a0_1 a0_2 a0_3=some r) :
  CallS Tryz.prog (NE.plain 99) m 114 #[(vA #[(vI .i64 a0_0),(vI .i64 a0_1),(vS a0_2),(Sl3.v a0_3)])] H (a5 r) (J5 H r):=by
 refine CallS.mk (args:=[(vA #[(vI .i64 a0_0),(vI .i64 a0_1),(vS a0_2),(Sl3.v a0_3)])]) Tryz.func114 (B:=B114) (by kernel_rfl) (fun E _=>?_);unfold L9 at h;refine t0 (A0 (O0 2 [kB 2 false,kL 1 0 0] ([some (32,[(vI .i64 a0_0),(vI .i64 a0_1),(vS a0_2),(Sl3.v a0_3)])]) (u0 (m0 (t0 (A0 (g0 1 [kB 3 false] (u0 (m0 ?_)))))))));obtain ⟨v3_1,hx,h⟩:=bind_some h;refine t0 ?_;refine WS.join ([kB 3 v3_1,kL 1 0 0]) ([some (32,[(vI .i64 a0_0),(vI .i64 a0_1),(vS a0_2),(Sl3.v a0_3)])]) H ?_ (fun a w hs=>m0 ?_ a w hs)
 ·clear h; rename _=>h;refine t0 (A0 (g0 2 [kI 7 a0_0,kL 6 0 0] (u0 (m0 (P0 0 ?_)))));obtain ⟨v8_2,hx,h⟩:=bind_some h;refine t0 ?_;refine WS.join ([kB 8 v8_2,kL 1 0 0,kB 3 false,kI 7 a0_0]) ([some (32,[(vI .i64 a0_0),(vI .i64 a0_1),(vS a0_2),(Sl3.v a0_3)])]) H ?_ (fun a w hs=>m0 ?_ a w hs)
  ·clear h; rename _=>h;refine t0 (A0 (g0 2 [kB 8 (decide (a0_0=1)),kB 9 (decide (a0_0=1))] (u0 (m0 ?_))));rcases J1 h with ⟨hp,h⟩ | ⟨hp,h⟩
   ·refine B0 8 true (decide_eq_true hp) (E0 (M0 ?_));cases h;exact fun a w hs=>(jsN (hs.sb 1))
   ·refine B0 8 false (decide_eq_false hp) (D0 (A0 (g0 2 [kB 8 (decide (a0_0=2)),kB 10 (decide (a0_0=2))] (u0 ?_))));cases h;exact fun a w hs=>(jsN (hs.sb 1))
  ·clear hx;rcases J1 h with ⟨hp,h⟩ | ⟨hp,h⟩
   ·refine B0 8 true hp (E0 (A0 (g0 4 [kB 14 (decide (a0_1=0)),kB 13 (decide (a0_1=0)),kI 12 a0_1,kL 11 0 1] ?_)));rcases J1 h with ⟨hp,h⟩ | ⟨hp,h⟩
    ·refine F0 14 true (decide_eq_true hp) (g0 5 [kB 19 (a0_2.toList == (⟨#[]⟩:ByteArray).toList),kB 18 (a0_2.toList == (⟨#[]⟩:ByteArray).toList),kB 17 (a0_2.toList == (⟨#[]⟩:ByteArray).toList),kT 16 a0_2,kL 15 0 2] ?_);rcases J1 h with ⟨hp,h⟩ | ⟨hp,h⟩
     ·refine F0 19 true hp (g0 6 [kB 3 (decide ((a0_3.n:Int)=0)),kB 24 (decide ((a0_3.n:Int)=0)),kB 23 (decide ((a0_3.n:Int)=0)),kI 22 (a0_3.n:Int),kS 21 a0_3,kL 20 0 3] (u0 ?_));cases h;exact fun a w hs=>bkN ((jsN (hs.sb 1)))
     ·refine F0 19 false (b_not hp) ?_;cases h
    ·refine F0 14 false (decide_eq_false hp) ?_;cases h
   ·refine B0 8 false (b_not hp) (D0 (t0 (A0 (g0 2 [kB 25 (decide (a0_0=3)),kB 26 (decide (a0_0=3))] (u0 (m0 ?_))))));rcases J1 h with ⟨hp,h⟩ | ⟨hp,h⟩
    ·refine B0 25 true (decide_eq_true hp) (E0 ?_);cases h
    ·refine B0 25 false (decide_eq_false hp) (D0 (t0 (A0 (g0 2 [kB 46 (decide (a0_0=4)),kB 47 (decide (a0_0=4))] (u0 (m0 ?_))))));rcases J1 h with ⟨hp,h⟩ | ⟨hp,h⟩
     ·refine B0 46 true (decide_eq_true hp) (E0 (A0 (g0 4 [kB 51 (decide (a0_1=0)),kB 50 (decide (a0_1=0)),kI 49 a0_1,kL 48 0 1] ?_)));rcases J1 h with ⟨hp,h⟩ | ⟨hp,h⟩
      ·refine F0 51 true (decide_eq_true hp) (g0 5 [kB 56 (a0_2.toList == (⟨#[]⟩:ByteArray).toList),kB 55 (a0_2.toList == (⟨#[]⟩:ByteArray).toList),kB 54 (a0_2.toList == (⟨#[]⟩:ByteArray).toList),kT 53 a0_2,kL 52 0 2] ?_);rcases J1 h with ⟨hp,h⟩ | ⟨hp,h⟩
       ·refine F0 56 true hp (g0 6 [kB 3 (decide ((a0_3.n:Int)=2)),kB 61 (decide ((a0_3.n:Int)=2)),kB 60 (decide ((a0_3.n:Int)=2)),kI 59 (a0_3.n:Int),kS 58 a0_3,kL 57 0 3] (u0 ?_));cases h;exact fun a w hs=>bkN ((jsN (hs.sb 1)))
       ·refine F0 56 false (b_not hp) ?_;cases h
      ·refine F0 51 false (decide_eq_false hp) ?_;cases h
     ·refine B0 46 false (decide_eq_false hp) (D0 ?_);cases h
 ·clear hx;refine t0 (t0 (A0 (g0 4 [kI 82 0,kI 81 (a0_3.n:Int),kS 80 a0_3,kL 79 0 3] (u0 (m0 (P0 1 ?_))))));obtain ⟨o,hl,h⟩:=bind_some h;rcases o with ⟨v3_8,v82_9⟩ | r
  ·try dsimp only at h
   refine Y0 (z39 (L:=L) (E:=E) (m:=m) (H:=H) hrec_sort_shaped) (L.ok hl) 1 ?_;clear hl;refine fun a w hs=>bkE ((m0 ?_ a w hs));refine t0 (A0 (g0 2 [kB 2 v3_8,kB 92 v3_8] (u0 (m0 (C0 ?_)))));cases h;exact fun a w hs=>rtR (rS hs)
  ·try dsimp only at h
   refine X0 (z39 (L:=L) (E:=E) (m:=m) (H:=H) hrec_sort_shaped) (L.ok hl) 1 ?_;cases h;exact fun a w hq=>bkR (sqR (rtR hq))
theorem z8q {L:LC}:∀n,(∀(m:Nat) (H:AH) (a0_0 a0_1:Int) (a0_2:ByteArray) (a0_3:Sl3) (r:Bool),((z55 L n)) H a0_0 a0_1 a0_2 a0_3=some r→CallS Tryz.prog (NE.plain 99) m 114 #[(vA #[(vI .i64 a0_0),(vI .i64 a0_1),(vS a0_2),(Sl3.v a0_3)])] H (a5 r) (J5 H r)):=by
 intro n;induction n with
 | zero=>exact (fun _ _ _ _ _ _ _ h=>(Option.some_ne_none _ h.symm).elim)
 | succ n ih=>exact (fun _ _ _ _ _ _ _ h=>z8d (L:=L) ih h)
theorem zcr {L:LC} {m:Nat} {H:AH} {a0_0 a0_1:Int} {a0_2:ByteArray} {a0_3:Sl3} {r:Bool} (h:zak L H a0_0 a0_1 a0_2 a0_3=some r) :
  CallS Tryz.prog (NE.plain 99) m 114 #[(vA #[(vI .i64 a0_0),(vI .i64 a0_1),(vS a0_2),(Sl3.v a0_3)])] H (a5 r) (J5 H r) :=
 (z8q _) _ _ _ _ _ _ _ h
noncomputable def B80:Code:=(Tryz.f80.body).getD .skip
def zcp:Int→Value
 | r0=>(vI .i64 r0)
def zdi (H:AH):Int→AH:=fun _=>H
noncomputable def z3m (L:LC) (H:AH) (a0_0 a0_1:Int) (a0_2:ByteArray) (a0_3:Sl3):Option Int :=
 (zc3 L H a0_0 a0_1 a0_2 a0_3 1).bind fun (_,x2) => if x2=true then
  (zak L H a0_0 a0_1 a0_2 a0_3).bind fun x3 => if x3=true then
   some 0
  else
   none
 else
  none
theorem z7s {L:LC} {m:Nat} {H:AH} {a0_0 a0_1:Int} {a0_2:ByteArray} {a0_3:Sl3} {r:Int} (h:z3m L H a0_0 a0_1 a0_2 a0_3=some r) :
  CallS Tryz.prog (NE.plain 99) m 80 #[(vA #[(vI .i64 a0_0),(vI .i64 a0_1),(vS a0_2),(Sl3.v a0_3)])] H (zcp r) (zdi H r):=by
 refine CallS.mk (args:=[(vA #[(vI .i64 a0_0),(vI .i64 a0_1),(vS a0_2),(Sl3.v a0_3)])]) Tryz.func80 (B:=B80) (by kernel_rfl) (fun E _=>?_);unfold z3m at h;refine t0 (A0 (O0 2 [kI 2 0,kL 1 0 0] ([some (32,[(vI .i64 a0_0),(vI .i64 a0_1),(vS a0_2),(Sl3.v a0_3)])]) (u0 (m0 (t0 (t0 (A0 (g0 1 [kA 6 #[(vI .i64 a0_0),(vI .i64 a0_1),(vS a0_2),(Sl3.v a0_3)]] ?_))))))));obtain ⟨⟨x1,x2⟩,hx,h⟩:=bind_some h;try dsimp only at h
 refine RS.cl (some 7) (v:=(Value.tuple #[(vI .i64 x1),(vB x2)])) 113 _ (zdl hx) (g0 5 [kB 4 x2,kI 3 x1,kB 9 x2,kI 8 x1,(5,.val (Value.tuple #[(vI .i64 x1),(vB x2)]))] (u0 (m0 (t0 (A0 (g0 2 [kB 11 (!x2),kB 10 x2] (u0 (m0 ?_))))))));rcases J1 h with ⟨hp,h⟩ | ⟨hp,h⟩
 ·refine B0 11 false (nb_not hp) (D0 (M0 (m0 (t0 (t0 (A0 (g0 1 [kA 12 #[(vI .i64 a0_0),(vI .i64 a0_1),(vS a0_2),(Sl3.v a0_3)]] ?_)))))));obtain ⟨x3,hx,h⟩:=bind_some h;refine RS.cl (some 13) (v:=(vB x3)) 114 _ (zcr hx) (g0 1 [kB 14 (!x3)] (u0 (m0 ?_)));rcases J1 h with ⟨hp,h⟩ | ⟨hp,h⟩
  ·refine B0 14 false (nb_not hp) (D0 (M0 (m0 (t0 (A0 (g0 1 [kI 2 0] (u0 (m0 (C0 ?_)))))))));cases h;exact fun a w hs=>rtR (rS hs)
  ·refine B0 14 true (Q4 hp) (E0 ?_);cases h
 ·refine B0 11 true (Q4 hp) (E0 ?_);cases h
noncomputable def B92:Code:=(Tryz.f92.body).getD .skip
def S3:Bool→Value
 | r0=>(vB r0)
def n4 (H:AH):Bool→AH:=fun _=>H
noncomputable def v8 (_L:LC) (rec_sort_book_known:AH→(Option Addr)→Int→Int→ByteArray→Sl3→Option Bool) (H:AH) (a0:Option Addr) (_a1_0 _a1_1:Int) (_a1_2:ByteArray) (a1_3:Sl3):Int→Option (Lp Int Bool):=fun v34_1 =>
 if v34_1<(a1_3.n:Int) then
  (idxA 4 a1_3 v34_1).bind fun p2 => (rd (deI .i64) H (Addr.add p2 0)).bind fun x3_0 => (rd (deI .i64) H (Addr.add p2 1)).bind fun x3_1 => (rd deS H (Addr.add p2 2)).bind fun x3_2 => (rd deSl H (Addr.add p2 3)).bind fun x3_3 => (rec_sort_book_known H a0 x3_0 x3_1 x3_2 x3_3).bind fun x4 => if x4=true then
   some (.next (IntKind.i64.wrap (v34_1+1)))
  else
   none
 else
  some (.brk v34_1)
def z63 (_L:LC) (_rec_sort_book_known:AH→(Option Addr)→Int→Int→ByteArray→Sl3→Option Bool) (_H:AH) (a0:Option Addr) (a1_0 a1_1:Int) (a1_2:ByteArray) (a1_3:Sl3):Int→KN×Lcs:=fun v34_1=>([kI 34 v34_1,(0,.val (vP a0)),kS 32 a1_3,kI 33 (a1_3.n:Int)],[some (32,[(vI .i64 a1_0),(vI .i64 a1_1),(vS a1_2),(Sl3.v a1_3)])])
noncomputable def a7 (L:LC) (rec_sort_book_known:AH→(Option Addr)→Int→Int→ByteArray→Sl3→Option Bool) (H:AH) (a0:Option Addr) (a1_0 a1_1:Int) (a1_2:ByteArray) (a1_3:Sl3):Option Bool :=
 if a1_0=5 then
  none
 else
  if a1_0=6 then
   none
  else
   (L.run (v8 L rec_sort_book_known H a0 a1_0 a1_1 a1_2 a1_3) 0).bind fun o=>match o with
   | .inl _ =>
    some true
   | .inr r=>some r
noncomputable def z19 (L:LC) (n:Nat):(AH→(Option Addr)→Int→Int→ByteArray→Sl3→Option Bool):=Nat.rec (motive:=fun _=>(AH→(Option Addr)→Int→Int→ByteArray→Sl3→Option Bool)) (fun _ _ _ _ _ _=>none) (fun _ p=>a7 L p) n
noncomputable def z5i (L:LC) (H:AH) (a0:Option Addr) (a1_0 a1_1:Int) (a1_2:ByteArray) (a1_3:Sl3):Option Bool:=(z19 L L.fuel) H a0 a1_0 a1_1 a1_2 a1_3
theorem z0 {E m L rec_sort_book_known H a0 a1_0 a1_1 a1_2 a1_3} (hrec_sort_book_known:∀(m:Nat) (H:AH) (a0:Option Addr) (a1_0 a1_1:Int) (a1_2:ByteArray) (a1_3:Sl3) (r:Bool),rec_sort_book_known H a0 a1_0 a1_1 a1_2 a1_3=some r→CallS Tryz.prog (NE.plain 99) m 92 #[(vP a0),(vA #[(vI .i64 a1_0),(vI .i64 a1_1),(vS a1_2),(Sl3.v a1_3)])] H (S3 r) (n4 H r)):LoopF Tryz.prog (NE.plain 99) m E Tryz.f92 ((cfst (csnd (cfst (csnd (csnd B92)))))) (z63 L rec_sort_book_known H a0 a1_0 a1_1 a1_2 a1_3) (fun _=>H) 0 S3 (n4 H) (v8 L rec_sort_book_known H a0 a1_0 a1_1 a1_2 a1_3):=by
 rintro v34_1 o h
 unfold v8 at h;try dsimp only at h
 refine t0 (A0 (g0 1 [kB 35 (decide (v34_1<(a1_3.n:Int)))] (u0 (m0 (t0 ?_)))));rcases J1 h with ⟨hp,h⟩ | ⟨hp,h⟩
 ·refine B0 35 true (decide_eq_true hp) (E0 (M0 (m0 (t0 (P0 1 (t0 (A0 ?_)))))));obtain ⟨p2,hx,h⟩:=bind_some h;refine RS.ix 36 30 32 (.tmp 32) (.tmp 34) hx ?_;obtain ⟨x3_0,hx0,h⟩:=bind_some h;obtain ⟨x3_1,hx1,h⟩:=bind_some h;obtain ⟨x3_2,hx2,h⟩:=bind_some h;obtain ⟨x3_3,hx3,h⟩:=bind_some h;refine E1 37 32 (.tmp 36) 4 (G1 (I1 hx0 N1) (G1 (I1 hx1 N1) (G1 (I1 hx2 X1) (G1 (I1 hx3 M1) T2)))) (O0 2 [kL 8 1 0] ([some (32,[(vI .i64 a1_0),(vI .i64 a1_1),(vS a1_2),(Sl3.v a1_3)]),some (32,[(vI .i64 x3_0),(vI .i64 x3_1),(vS x3_2),(Sl3.v x3_3)])]) (u0 (m0 (t0 (A0 (g0 2 [kA 39 #[(vI .i64 x3_0),(vI .i64 x3_1),(vS x3_2),(Sl3.v x3_3)],(38,.val (vP a0))] ?_))))));obtain ⟨x4,hx,h⟩:=bind_some h;refine RS.cl (some 40) (v:=(vB x4)) 92 _ (hrec_sort_book_known _ _ _ _ _ _ _ _ hx) (g0 1 [kB 41 (!x4)] (u0 (m0 ?_)));rcases J1 h with ⟨hp,h⟩ | ⟨hp,h⟩
  ·refine B0 41 false (nb_not hp) (D0 (M0 ?_));refine fun a w hs=>bkN ((m0 ?_ a w hs));refine A0 (g0 2 [kI 34 (IntKind.i64.wrap (v34_1+1)),kI 42 (IntKind.i64.wrap (v34_1+1))] (u0 ?_));cases h;exact fun a w hs=>lsN rfl (hs.sb 1)
  ·refine B0 41 true (Q4 hp) (E0 ?_);cases h
 ·refine B0 35 false (decide_eq_false hp) (D0 (WS.ex 0 ?_));cases h;exact fun a w hs=>sqE (lsB rfl (hs.sb 1))
theorem z4z {L:LC} {rec_sort_book_known:AH→(Option Addr)→Int→Int→ByteArray→Sl3→Option Bool} (hrec_sort_book_known:∀(m:Nat) (H:AH) (a0:Option Addr) (a1_0 a1_1:Int) (a1_2:ByteArray) (a1_3:Sl3) (r:Bool),rec_sort_book_known H a0 a1_0 a1_1 a1_2 a1_3=some r→CallS Tryz.prog (NE.plain 99) m 92 #[(vP a0),(vA #[(vI .i64 a1_0),(vI .i64 a1_1),(vS a1_2),(Sl3.v a1_3)])] H (S3 r) (n4 H r)) {m:Nat} {H:AH} {a0:Option Addr} {a1_0 a1_1:Int} {a1_2:ByteArray} {a1_3:Sl3} {r:Bool} (h:a7 L rec_sort_book_known H a0 a1_0 a1_1 a1_2 a1_3=some r) :
  CallS Tryz.prog (NE.plain 99) m 92 #[(vP a0),(vA #[(vI .i64 a1_0),(vI .i64 a1_1),(vS a1_2),(Sl3.v a1_3)])] H (S3 r) (n4 H r):=by
 refine CallS.mk (args:=[(vP a0),(vA #[(vI .i64 a1_0),(vI .i64 a1_1),(vS a1_2),(Sl3.v a1_3)])]) Tryz.func92 (B:=B92) (by kernel_rfl) (fun E _=>?_);unfold a7 at h;refine t0 (A0 (O0 2 [kB 4 false,kL 3 0 0] ([some (32,[(vI .i64 a1_0),(vI .i64 a1_1),(vS a1_2),(Sl3.v a1_3)])]) (u0 (m0 (t0 (t0 (A0 (g0 4 [kB 12 (decide (a1_0=5)),kB 11 (decide (a1_0=5)),kI 10 a1_0,kL 9 0 0] ?_))))))));rcases J1 h with ⟨hp,h⟩ | ⟨hp,h⟩
 ·refine F0 12 true (decide_eq_true hp) ?_;cases h
 ·refine F0 12 false (decide_eq_false hp) (g0 4 [kB 16 (decide (a1_0=6)),kB 15 (decide (a1_0=6)),kI 14 a1_0,kL 13 0 0] (u0 (m0 ?_)));rcases J1 h with ⟨hp,h⟩ | ⟨hp,h⟩
  ·refine B0 16 true (decide_eq_true hp) (E0 ?_);cases h
  ·refine B0 16 false (decide_eq_false hp) (D0 (M0 (m0 (t0 (t0 (A0 (g0 4 [kI 34 0,kI 33 (a1_3.n:Int),kS 32 a1_3,kL 31 0 3] (u0 (m0 ?_)))))))));refine P0 0 ?_;obtain ⟨o,hl,h⟩:=bind_some h;rcases o with v34_5 | r
   ·try dsimp only at h
    refine Y0 (z0 (L:=L) (E:=E) (m:=m) (H:=H) hrec_sort_book_known) (L.ok hl) 1 ?_;clear hl;refine fun a w hs=>bkE ((m0 ?_ a w hs));refine t0 (A0 (g0 1 [kB 4 true] (u0 (m0 (C0 ?_)))));cases h;exact fun a w hs=>rtR (rS hs)
   ·try dsimp only at h
    refine X0 (z0 (L:=L) (E:=E) (m:=m) (H:=H) hrec_sort_book_known) (L.ok hl) 1 ?_;cases h;exact fun a w hq=>bkR (sqR (rtR hq))
theorem z5n {L:LC}:∀n,(∀(m:Nat) (H:AH) (a0:Option Addr) (a1_0 a1_1:Int) (a1_2:ByteArray) (a1_3:Sl3) (r:Bool),((z19 L n)) H a0 a1_0 a1_1 a1_2 a1_3=some r→CallS Tryz.prog (NE.plain 99) m 92 #[(vP a0),(vA #[(vI .i64 a1_0),(vI .i64 a1_1),(vS a1_2),(Sl3.v a1_3)])] H (S3 r) (n4 H r)):=by
 intro n;induction n with
 | zero=>exact (fun _ _ _ _ _ _ _ _ h=>(Option.some_ne_none _ h.symm).elim)
 | succ n ih=>exact (fun _ _ _ _ _ _ _ _ h=>z4z (L:=L) ih h)
theorem z93 {L:LC} {m:Nat} {H:AH} {a0:Option Addr} {a1_0 a1_1:Int} {a1_2:ByteArray} {a1_3:Sl3} {r:Bool} (h:z5i L H a0 a1_0 a1_1 a1_2 a1_3=some r) :
  CallS Tryz.prog (NE.plain 99) m 92 #[(vP a0),(vA #[(vI .i64 a1_0),(vI .i64 a1_1),(vS a1_2),(Sl3.v a1_3)])] H (S3 r) (n4 H r) :=
 (z5n _) _ _ _ _ _ _ _ _ h
noncomputable def B60:Code:=(Tryz.f60.body).getD .skip
def z88:Int→Value
 | r0=>(vI .i64 r0)
def z9j (H:AH):Int→AH:=fun _=>H
noncomputable def z8 (L:LC) (H:AH) (a0:Option Addr) (a1_0 a1_1:Int) (a1_2:ByteArray) (a1_3:Sl3):Option Int :=
 (z3m L H a1_0 a1_1 a1_2 a1_3).bind fun x1 => if x1=0 then
  (z5i L H a0 a1_0 a1_1 a1_2 a1_3).bind fun x2 => if x2=true then
   some 0
  else
   none
 else
  none
theorem z97 {L:LC} {m:Nat} {H:AH} {a0:Option Addr} {a1_0 a1_1:Int} {a1_2:ByteArray} {a1_3:Sl3} {r:Int} (h:z8 L H a0 a1_0 a1_1 a1_2 a1_3=some r) :
  CallS Tryz.prog (NE.plain 99) m 60 #[(vP a0),(vA #[(vI .i64 a1_0),(vI .i64 a1_1),(vS a1_2),(Sl3.v a1_3)])] H (z88 r) (z9j H r):=by
 refine CallS.mk (args:=[(vP a0),(vA #[(vI .i64 a1_0),(vI .i64 a1_1),(vS a1_2),(Sl3.v a1_3)])]) Tryz.func60 (B:=B60) (by kernel_rfl) (fun E _=>?_);unfold z8 at h;refine t0 (A0 (O0 2 [kI 4 0,kL 3 0 0] ([some (32,[(vI .i64 a1_0),(vI .i64 a1_1),(vS a1_2),(Sl3.v a1_3)])]) (u0 (m0 (t0 (t0 (A0 (g0 1 [kA 6 #[(vI .i64 a1_0),(vI .i64 a1_1),(vS a1_2),(Sl3.v a1_3)]] ?_))))))));obtain ⟨x1,hx,h⟩:=bind_some h;refine RS.cl (some 7) (v:=(vI .i64 x1)) 80 _ (z7s hx) (g0 1 [kI 5 x1] (u0 (m0 (t0 (A0 (g0 2 [kB 9 (!decide (x1=0)),kI 8 x1] (u0 (m0 ?_))))))));rcases J1 h with ⟨hp,h⟩ | ⟨hp,h⟩
 ·refine B0 9 false (C2 hp) (D0 (M0 (m0 (t0 (t0 (A0 (g0 2 [kA 12 #[(vI .i64 a1_0),(vI .i64 a1_1),(vS a1_2),(Sl3.v a1_3)],(11,.val (vP a0))] ?_)))))));obtain ⟨x2,hx,h⟩:=bind_some h;refine RS.cl (some 13) (v:=(vB x2)) 92 _ (z93 hx) (g0 1 [kB 14 (!x2)] (u0 (m0 ?_)));rcases J1 h with ⟨hp,h⟩ | ⟨hp,h⟩
  ·refine B0 14 false (nb_not hp) (D0 (M0 (m0 (t0 (A0 (g0 1 [kI 4 0] (u0 (m0 (C0 ?_)))))))));cases h;exact fun a w hs=>rtR (rS hs)
  ·refine B0 14 true (Q4 hp) (E0 ?_);cases h
 ·refine B0 9 true (A2 hp) (E0 ?_);cases h
noncomputable def B36:Code:=(Tryz.f36.body).getD .skip
def zch:(Int×AH)→Value
 | (r0,_)=>(vI .i64 r0)
def zdx (_:AH):(Int×AH)→AH:=fun r=>r.2
noncomputable def z3q (L:LC) (m:Nat) (H:AH) (a0_0 a0_1:Int) (a0_2:ByteArray) (a0_3 a1_0:Sl3) (a1_1 a1_2:Sl3):Option (Int×AH) :=
 (z28 L (Nat.max m H.next) H a1_0 a1_1 a1_2).bind fun (x1,H2) => (z8 L H2 x1 a0_0 a0_1 a0_2 a0_3).bind fun x3 => some (x3,H2)
theorem z7r {L:LC} {m:Nat} {H:AH} {a0_0 a0_1:Int} {a0_2:ByteArray} {a0_3 a1_0:Sl3} {a1_1 a1_2:Sl3} {r:(Int×AH)} (h:z3q L m H a0_0 a0_1 a0_2 a0_3 a1_0 a1_1 a1_2=some r) :
  CallS Tryz.prog (NE.plain 99) m 36 #[(vA #[(vI .i64 a0_0),(vI .i64 a0_1),(vS a0_2),(Sl3.v a0_3)]),(vA #[(Sl3.v a1_0),(Sl3.v a1_1),(Sl3.v a1_2)])] H (zch r) (zdx H r):=by
 refine CallS.mk (args:=[(vA #[(vI .i64 a0_0),(vI .i64 a0_1),(vS a0_2),(Sl3.v a0_3)]),(vA #[(Sl3.v a1_0),(Sl3.v a1_1),(Sl3.v a1_2)])]) Tryz.func36 (B:=B36) (by kernel_rfl) (fun E _=>?_);unfold z3q at h;refine t0 (A0 (O0 3 [kI 4 0,kL 3 1 0,kL 2 0 0] ([some (32,[(vI .i64 a0_0),(vI .i64 a0_1),(vS a0_2),(Sl3.v a0_3)]),some (62,[(Sl3.v a1_0),(Sl3.v a1_1),(Sl3.v a1_2)])]) (u0 (m0 (t0 ?_)))));refine C1 [0,2] [0,1,0,7,15] 5 (fun hcl=>?_);refine Q0 0 (some 5) (.val (vA #[(Sl3.v a1_0),(Sl3.v a1_1),(Sl3.v a1_2)])) (Q0 2 (some 7) (.val (vA #[(vI .i64 a0_0),(vI .i64 a0_1),(vS a0_2),(Sl3.v a0_3)])) ?_);obtain ⟨⟨x1,H2⟩,hx,h⟩:=bind_some h;try dsimp only at h
 refine DA.on 1 (A1 1 (some 6) false (v:=(vP x1)) 54 #[(vA #[(Sl3.v a1_0),(Sl3.v a1_1),(Sl3.v a1_2)])] (z4p hx) ?_);obtain ⟨x3,hx,h⟩:=bind_some h;refine DA.on 3 (J0 3 (some 8) (v:=(vI .i64 x3)) 60 #[(vP x1),(vA #[(vI .i64 a0_0),(vI .i64 a0_1),(vS a0_2),(Sl3.v a0_3)])] (z97 hx) (N0 4 (some 4) (vI .i64 x3) (K0 (m0 (C0 ?_)))));cases h;exact fun a w hs=>rtR (rS hs)
noncomputable def B26:Code:=(Tryz.f26.body).getD .skip
def z6g:((Option Addr)×Int×AH)→Value
 | (r0,r1,_)=>(Value.tuple #[(vP r0),(vI .i64 r1)])
def z7w (_:AH):((Option Addr)×Int×AH)→AH:=fun r=>r.2.2
noncomputable def z31 (_L:LC) (_a0_0 _a0_1:Int) (_a0_2:ByteArray) (_a0_3 _a1_0:Sl3) (a1_1 _a1_2:Sl3) (_p7:Addr):(AH×Int)→Option (Lp (AH×Int) ((Option Addr)×Int×AH)):=fun (H9,v29_10) =>
 if v29_10<(a1_1.n:Int) then
  none
 else
  some (.brk (H9,v29_10))
def zat (_L:LC) (a0_0 a0_1:Int) (a0_2:ByteArray) (a0_3 a1_0:Sl3) (a1_1 a1_2:Sl3) (p7:Addr):(AH×Int)→KN×Lcs:=fun (_,v29_10)=>([kI 29 v29_10,kP 8 p7,kS 27 a1_1,kI 28 (a1_1.n:Int)],[some (32,[(vI .i64 a0_0),(vI .i64 a0_1),(vS a0_2),(Sl3.v a0_3)]),some (62,[(Sl3.v a1_0),(Sl3.v a1_1),(Sl3.v a1_2)])])
noncomputable def z6s (L:LC) (m:Nat) (H:AH) (a0_0 a0_1:Int) (a0_2:ByteArray) (a0_3 a1_0:Sl3) (a1_1 a1_2:Sl3):Option ((Option Addr)×Int×AH) :=
 (C9 L m H a1_0 a1_1 a1_2).bind fun (x1,H2) => if x1=0 then
  (z3q L m H2 a0_0 a0_1 a0_2 a0_3 a1_0 a1_1 a1_2).bind fun (x3,H4) => if x3=0 then
   (newM H4).bind fun (p5,H6) => (newB 90 [(Sl3.v a1_0),(Sl3.v a1_1),(Sl3.v a1_2),(Value.map (some p5))] H6).bind fun (p7,H8) => (L.run (z31 L a0_0 a0_1 a0_2 a0_3 a1_0 a1_1 a1_2 p7) (H8,0)).bind fun o=>match o with
   | .inl (H11,_) =>
    some ((some p7),0,H11)
   | .inr r=>some r
  else
   none
 else
  none
theorem z4y {E m H L a0_0 a0_1 a0_2 a0_3 a1_0 a1_1 a1_2 p7} :LoopF Tryz.prog (NE.plain 99) m E Tryz.f26 ((cfst (csnd (cfst (csnd (csnd (csnd (csnd B26)))))))) (zat L a0_0 a0_1 a0_2 a0_3 a1_0 a1_1 a1_2 p7) (fun s=>s.1) 0 z6g (z7w H) (z31 L a0_0 a0_1 a0_2 a0_3 a1_0 a1_1 a1_2 p7):=by
 rintro ⟨H9,v29_10⟩ o h
 unfold z31 at h;try dsimp only at h
 refine t0 (A0 (g0 1 [kB 30 (decide (v29_10<(a1_1.n:Int)))] (u0 (m0 (t0 ?_)))));rcases J1 h with ⟨hp,h⟩ | ⟨hp,h⟩
 ·refine B0 30 true (decide_eq_true hp) (E0 ?_);cases h
 ·refine B0 30 false (decide_eq_false hp) (D0 (WS.ex 0 ?_));cases h;exact fun a w hs=>sqE (lsB rfl (hs.sb 2))
theorem zdh {L:LC} {m:Nat} {H:AH} {a0_0 a0_1:Int} {a0_2:ByteArray} {a0_3 a1_0:Sl3} {a1_1 a1_2:Sl3} {r:((Option Addr)×Int×AH)} (h:z6s L m H a0_0 a0_1 a0_2 a0_3 a1_0 a1_1 a1_2=some r) :
  CallS Tryz.prog (NE.plain 99) m 26 #[(vA #[(vI .i64 a0_0),(vI .i64 a0_1),(vS a0_2),(Sl3.v a0_3)]),(vA #[(Sl3.v a1_0),(Sl3.v a1_1),(Sl3.v a1_2)])] H (z6g r) (z7w H r):=by
 refine CallS.mk (args:=[(vA #[(vI .i64 a0_0),(vI .i64 a0_1),(vS a0_2),(Sl3.v a0_3)]),(vA #[(Sl3.v a1_0),(Sl3.v a1_1),(Sl3.v a1_2)])]) Tryz.func26 (B:=B26) (by kernel_rfl) (fun E _=>?_);unfold z6s at h;refine t0 (A0 (O0 4 [kI 5 0,(4,.val (vP none)),kL 3 1 0,kL 2 0 0] ([some (32,[(vI .i64 a0_0),(vI .i64 a0_1),(vS a0_2),(Sl3.v a0_3)]),some (62,[(Sl3.v a1_0),(Sl3.v a1_1),(Sl3.v a1_2)])]) (u0 (m0 (t0 (t0 (A0 (g0 1 [kA 11 #[(Sl3.v a1_0),(Sl3.v a1_1),(Sl3.v a1_2)]] ?_))))))));obtain ⟨⟨x1,H2⟩,hx,h⟩:=bind_some h;try dsimp only at h
 refine RS.cl (some 12) (v:=(vI .i64 x1)) 35 _ (z4d hx) (g0 1 [kI 6 x1] (u0 (m0 (t0 (A0 (g0 2 [kB 14 (!decide (x1=0)),kI 13 x1] (u0 (m0 ?_))))))));rcases J1 h with ⟨hp,h⟩ | ⟨hp,h⟩
 ·refine B0 14 false (C2 hp) (D0 (M0 (m0 (t0 (t0 (A0 (g0 2 [kA 17 #[(Sl3.v a1_0),(Sl3.v a1_1),(Sl3.v a1_2)],kA 16 #[(vI .i64 a0_0),(vI .i64 a0_1),(vS a0_2),(Sl3.v a0_3)]] ?_)))))));obtain ⟨⟨x3,H4⟩,hx,h⟩:=bind_some h;try dsimp only at h
  refine RS.cl (some 18) (v:=(vI .i64 x3)) 36 _ (z7r hx) (g0 1 [kI 7 x3] (u0 (m0 (t0 (A0 (g0 2 [kB 20 (!decide (x3=0)),kI 19 x3] (u0 (m0 ?_))))))));rcases J1 h with ⟨hp,h⟩ | ⟨hp,h⟩
  ·refine B0 20 false (C2 hp) (D0 (M0 (m0 (t0 (A0 (g0 1 [kA 22 #[(Sl3.v a1_0),(Sl3.v a1_1),(Sl3.v a1_2)]] ?_))))));obtain ⟨⟨p5,H6⟩,hx,h⟩:=bind_some h;try dsimp only at h
   refine T0 (H':=H6) (some 23) (Value.map (some p5)) (Abs.run_newM (by kernel_rfl) hx) (g0 1 [kA 24 #[(Sl3.v a1_0),(Sl3.v a1_1),(Sl3.v a1_2),(Value.map (some p5))]] ?_);obtain ⟨⟨p7,H8⟩,hx,h⟩:=bind_some h;try dsimp only at h
   refine T0 (H':=H8) (some 25) (vP (some p7)) (Abs.run_newB (by kernel_rfl) hx) (g0 1 [kP 8 p7] (u0 (m0 (t0 (t0 (A0 (g0 4 [kI 29 0,kI 28 (a1_1.n:Int),kS 27 a1_1,kL 26 1 1] (u0 (m0 ?_)))))))));refine P0 0 ?_;obtain ⟨o,hl,h⟩:=bind_some h;rcases o with ⟨H11,v29_12⟩ | r
   ·try dsimp only at h
    refine Y0 (z4y (L:=L) (E:=E) (m:=m) (H:=H)) (L.ok hl) 2 ?_;clear hl;refine fun a w hs=>bkE ((m0 ?_ a w hs));refine t0 (A0 (g0 3 [kI 5 0,kP 4 p7,kP 41 p7] (u0 (m0 (C0 ?_)))));cases h;exact fun a w hs=>rtR (rS hs)
   ·try dsimp only at h
    refine X0 (z4y (L:=L) (E:=E) (m:=m) (H:=H)) (L.ok hl) 2 ?_;cases h;exact fun a w hq=>bkR (sqR (rtR hq))
  ·refine B0 20 true (A2 hp) (E0 ?_);cases h
 ·refine B0 14 true (A2 hp) (E0 ?_);cases h
noncomputable def B61:Code:=(Tryz.f61.body).getD .skip
def n3:Int→Value
 | r0=>(vI .i64 r0)
def D3 (H:AH):Int→AH:=fun _=>H
noncomputable def z1w (_L:LC) (_H:AH) (_a0_0:Int) (_a0_1 _a0_2:Bool) (_a0_3:Sl3) (_a0_4:Int) (_a0_5:Sl3) (_a0_6:ByteArray) (_a0_7 _a0_8 _a0_9:Int) (_a0_10:ByteArray) (_a0_11 a0_12:Sl3) (_a0_13 _a0_14:Sl3):(Int×Int)→Option (Lp (Int×Int) Int):=fun (v3_1,v13_2) =>
 if v13_2<(a0_12.n:Int) then
  none
 else
  some (.brk (v3_1,v13_2))
def z9w (_L:LC) (_H:AH) (a0_0:Int) (a0_1 a0_2:Bool) (a0_3:Sl3) (a0_4:Int) (a0_5:Sl3) (a0_6:ByteArray) (a0_7 a0_8 a0_9:Int) (a0_10:ByteArray) (a0_11 a0_12:Sl3) (a0_13 a0_14:Sl3):(Int×Int)→KN×Lcs:=fun (v3_1,v13_2)=>([kI 3 v3_1,kI 13 v13_2,kL 1 0 0,kS 11 a0_12,kI 12 (a0_12.n:Int)],[some (36,[(vI .i64 a0_0),(vB a0_1),(vB a0_2),(Sl3.v a0_3),(vI .i64 a0_4),(Sl3.v a0_5),(vS a0_6),(vI .i64 a0_7),(vI .i64 a0_8),(vI .i64 a0_9),(vS a0_10),(Sl3.v a0_11),(Sl3.v a0_12),(Sl3.v a0_13),(Sl3.v a0_14)])])
noncomputable def z1m (_L:LC) (rec_value_parts:AH→Int→Bool→Bool→Sl3→Int→Sl3→ByteArray→Int→Int→Int→ByteArray→Sl3→Sl3→Sl3→Sl3→Option Int) (H:AH) (_a0_0:Int) (_a0_1 _a0_2:Bool) (_a0_3:Sl3) (_a0_4:Int) (_a0_5:Sl3) (_a0_6:ByteArray) (_a0_7 _a0_8 _a0_9:Int) (_a0_10:ByteArray) (_a0_11 _a0_12:Sl3) (a0_13 _a0_14:Sl3):(Int×Int)→Option (Lp (Int×Int) Int):=fun (v3_5,v28_6) =>
 if v28_6<(a0_13.n:Int) then
  (idxA 30 a0_13 v28_6).bind fun p7 => (rd (deI .i64) H (Addr.add p7 0)).bind fun x8_0 => (rd deB H (Addr.add p7 1)).bind fun x8_1 => (rd deB H (Addr.add p7 2)).bind fun x8_2 => (rd deSl H (Addr.add p7 3)).bind fun x8_3 => (rd (deI .i64) H (Addr.add p7 4)).bind fun x8_4 => (rd deSl H (Addr.add p7 5)).bind fun x8_5 => (rd deS H (Addr.add p7 6)).bind fun x8_6 => (rd (deI .i64) H (Addr.add p7 7)).bind fun x8_7 => (rd (deI .i64) H (Addr.add p7 8)).bind fun x8_8 => (rd (deI .i64) H (Addr.add p7 9)).bind fun x8_9 => (rd deS H (Addr.add p7 10)).bind fun x8_10 => (rd deSl H (Addr.add p7 11)).bind fun x8_11 => (rd deSl H (Addr.add p7 12)).bind fun x8_12 => (rd deSl H (Addr.add p7 13)).bind fun x8_13 => (rd deSl H (Addr.add p7 14)).bind fun x8_14 => (rd (deI .i64) H (Addr.add p7 15)).bind fun x8_15 => (rd deB H (Addr.add p7 16)).bind fun x8_16 => (rd deB H (Addr.add p7 17)).bind fun x8_17 => (rd deSl H (Addr.add p7 18)).bind fun x8_18 => (rd (deI .i64) H (Addr.add p7 19)).bind fun x8_19 => (rd deSl H (Addr.add p7 20)).bind fun x8_20 => (rd deS H (Addr.add p7 21)).bind fun x8_21 => (rd (deI .i64) H (Addr.add p7 22)).bind fun x8_22 => (rd (deI .i64) H (Addr.add p7 23)).bind fun x8_23 => (rd (deI .i64) H (Addr.add p7 24)).bind fun x8_24 => (rd deS H (Addr.add p7 25)).bind fun x8_25 => (rd deSl H (Addr.add p7 26)).bind fun x8_26 => (rd deSl H (Addr.add p7 27)).bind fun x8_27 => (rd deSl H (Addr.add p7 28)).bind fun x8_28 => (rd deSl H (Addr.add p7 29)).bind fun x8_29 => (rec_value_parts H x8_0 x8_1 x8_2 x8_3 x8_4 x8_5 x8_6 x8_7 x8_8 x8_9 x8_10 x8_11 x8_12 x8_13 x8_14).bind fun x9 => if (IntKind.i64.wrap (v3_5+x9)) > 65536 then
   none
  else
   (rec_value_parts H x8_15 x8_16 x8_17 x8_18 x8_19 x8_20 x8_21 x8_22 x8_23 x8_24 x8_25 x8_26 x8_27 x8_28 x8_29).bind fun x10 => if (IntKind.i64.wrap ((IntKind.i64.wrap (v3_5+x9))+x10)) > 65536 then
    none
   else
    some (.next ((IntKind.i64.wrap ((IntKind.i64.wrap (v3_5+x9))+x10)),(IntKind.i64.wrap (v28_6+1))))
 else
  some (.brk (v3_5,v28_6))
def z9u (_L:LC) (_rec_value_parts:AH→Int→Bool→Bool→Sl3→Int→Sl3→ByteArray→Int→Int→Int→ByteArray→Sl3→Sl3→Sl3→Sl3→Option Int) (_H:AH) (a0_0:Int) (a0_1 a0_2:Bool) (a0_3:Sl3) (a0_4:Int) (a0_5:Sl3) (a0_6:ByteArray) (a0_7 a0_8 a0_9:Int) (a0_10:ByteArray) (a0_11 a0_12:Sl3) (a0_13 a0_14:Sl3):(Int×Int)→KN×Lcs:=fun (v3_5,v28_6)=>([kI 3 v3_5,kI 28 v28_6,kL 1 0 0,kS 26 a0_13,kI 27 (a0_13.n:Int)],[some (36,[(vI .i64 a0_0),(vB a0_1),(vB a0_2),(Sl3.v a0_3),(vI .i64 a0_4),(Sl3.v a0_5),(vS a0_6),(vI .i64 a0_7),(vI .i64 a0_8),(vI .i64 a0_9),(vS a0_10),(Sl3.v a0_11),(Sl3.v a0_12),(Sl3.v a0_13),(Sl3.v a0_14)])])
noncomputable def z1g (_L:LC) (rec_value_parts:AH→Int→Bool→Bool→Sl3→Int→Sl3→ByteArray→Int→Int→Int→ByteArray→Sl3→Sl3→Sl3→Sl3→Option Int) (H:AH) (_a0_0:Int) (_a0_1 _a0_2:Bool) (_a0_3:Sl3) (_a0_4:Int) (_a0_5:Sl3) (_a0_6:ByteArray) (_a0_7 _a0_8 _a0_9:Int) (_a0_10:ByteArray) (_a0_11 _a0_12:Sl3) (_a0_13 a0_14:Sl3):(Int×Int)→Option (Lp (Int×Int) Int):=fun (v3_13,v52_14) =>
 if v52_14<(a0_14.n:Int) then
  (idxA 15 a0_14 v52_14).bind fun p15 => (rd (deI .i64) H (Addr.add p15 0)).bind fun x16_0 => (rd deB H (Addr.add p15 1)).bind fun x16_1 => (rd deB H (Addr.add p15 2)).bind fun x16_2 => (rd deSl H (Addr.add p15 3)).bind fun x16_3 => (rd (deI .i64) H (Addr.add p15 4)).bind fun x16_4 => (rd deSl H (Addr.add p15 5)).bind fun x16_5 => (rd deS H (Addr.add p15 6)).bind fun x16_6 => (rd (deI .i64) H (Addr.add p15 7)).bind fun x16_7 => (rd (deI .i64) H (Addr.add p15 8)).bind fun x16_8 => (rd (deI .i64) H (Addr.add p15 9)).bind fun x16_9 => (rd deS H (Addr.add p15 10)).bind fun x16_10 => (rd deSl H (Addr.add p15 11)).bind fun x16_11 => (rd deSl H (Addr.add p15 12)).bind fun x16_12 => (rd deSl H (Addr.add p15 13)).bind fun x16_13 => (rd deSl H (Addr.add p15 14)).bind fun x16_14 => (rec_value_parts H x16_0 x16_1 x16_2 x16_3 x16_4 x16_5 x16_6 x16_7 x16_8 x16_9 x16_10 x16_11 x16_12 x16_13 x16_14).bind fun x17 => if (IntKind.i64.wrap (v3_13+x17)) > 65536 then
   none
  else
   some (.next ((IntKind.i64.wrap (v3_13+x17)),(IntKind.i64.wrap (v52_14+1))))
 else
  some (.brk (v3_13,v52_14))
def z9x (_L:LC) (_rec_value_parts:AH→Int→Bool→Bool→Sl3→Int→Sl3→ByteArray→Int→Int→Int→ByteArray→Sl3→Sl3→Sl3→Sl3→Option Int) (_H:AH) (a0_0:Int) (a0_1 a0_2:Bool) (a0_3:Sl3) (a0_4:Int) (a0_5:Sl3) (a0_6:ByteArray) (a0_7 a0_8 a0_9:Int) (a0_10:ByteArray) (a0_11 a0_12:Sl3) (a0_13 a0_14:Sl3):(Int×Int)→KN×Lcs:=fun (v3_13,v52_14)=>([kI 3 v3_13,kI 52 v52_14,kS 50 a0_14,kI 51 (a0_14.n:Int)],[some (36,[(vI .i64 a0_0),(vB a0_1),(vB a0_2),(Sl3.v a0_3),(vI .i64 a0_4),(Sl3.v a0_5),(vS a0_6),(vI .i64 a0_7),(vI .i64 a0_8),(vI .i64 a0_9),(vS a0_10),(Sl3.v a0_11),(Sl3.v a0_12),(Sl3.v a0_13),(Sl3.v a0_14)])])
noncomputable def M9 (L:LC) (rec_value_parts:AH→Int→Bool→Bool→Sl3→Int→Sl3→ByteArray→Int→Int→Int→ByteArray→Sl3→Sl3→Sl3→Sl3→Option Int) (H:AH) (a0_0:Int) (a0_1 a0_2:Bool) (a0_3:Sl3) (a0_4:Int) (a0_5:Sl3) (a0_6:ByteArray) (a0_7 a0_8 a0_9:Int) (a0_10:ByteArray) (a0_11 a0_12:Sl3) (a0_13 a0_14:Sl3):Option Int :=
 (L.run (z1w L H a0_0 a0_1 a0_2 a0_3 a0_4 a0_5 a0_6 a0_7 a0_8 a0_9 a0_10 a0_11 a0_12 a0_13 a0_14) (1,0)).bind fun o=>match o with
 | .inl (v3_3,_) =>
  (L.run (z1m L rec_value_parts H a0_0 a0_1 a0_2 a0_3 a0_4 a0_5 a0_6 a0_7 a0_8 a0_9 a0_10 a0_11 a0_12 a0_13 a0_14) (v3_3,0)).bind fun o=>match o with
  | .inl (v3_11,_) =>
   (L.run (z1g L rec_value_parts H a0_0 a0_1 a0_2 a0_3 a0_4 a0_5 a0_6 a0_7 a0_8 a0_9 a0_10 a0_11 a0_12 a0_13 a0_14) (v3_11,0)).bind fun o=>match o with
   | .inl (v3_18,_) =>
    some v3_18
   | .inr r=>some r
  | .inr r=>some r
 | .inr r=>some r
noncomputable def z5a (L:LC) (n:Nat):(AH→Int→Bool→Bool→Sl3→Int→Sl3→ByteArray→Int→Int→Int→ByteArray→Sl3→Sl3→Sl3→Sl3→Option Int):=Nat.rec (motive:=fun _=>(AH→Int→Bool→Bool→Sl3→Int→Sl3→ByteArray→Int→Int→Int→ByteArray→Sl3→Sl3→Sl3→Sl3→Option Int)) (fun _ _ _ _ _ _ _ _ _ _ _ _ _ _ _ _=>none) (fun _ p=>M9 L p) n
noncomputable def z1y (L:LC) (H:AH) (a0_0:Int) (a0_1 a0_2:Bool) (a0_3:Sl3) (a0_4:Int) (a0_5:Sl3) (a0_6:ByteArray) (a0_7 a0_8 a0_9:Int) (a0_10:ByteArray) (a0_11 a0_12:Sl3) (a0_13 a0_14:Sl3):Option Int:=(z5a L L.fuel) H a0_0 a0_1 a0_2 a0_3 a0_4 a0_5 a0_6 a0_7 a0_8 a0_9 a0_10 a0_11 a0_12 a0_13 a0_14
theorem z3e {E m L H a0_0 a0_1 a0_2 a0_3 a0_4 a0_5 a0_6 a0_7 a0_8 a0_9 a0_10 a0_11 a0_12 a0_13 a0_14} :LoopF Tryz.prog (NE.plain 99) m E Tryz.f61 ((cfst (csnd (cfst (csnd (csnd B61)))))) (z9w L H a0_0 a0_1 a0_2 a0_3 a0_4 a0_5 a0_6 a0_7 a0_8 a0_9 a0_10 a0_11 a0_12 a0_13 a0_14) (fun _=>H) 0 n3 (D3 H) (z1w L H a0_0 a0_1 a0_2 a0_3 a0_4 a0_5 a0_6 a0_7 a0_8 a0_9 a0_10 a0_11 a0_12 a0_13 a0_14):=by
 rintro ⟨v3_1,v13_2⟩ o h
 unfold z1w at h;try dsimp only at h
 refine t0 (A0 (g0 1 [kB 14 (decide (v13_2<(a0_12.n:Int)))] (u0 (m0 (t0 ?_)))));rcases J1 h with ⟨hp,h⟩ | ⟨hp,h⟩
 ·refine B0 14 true (decide_eq_true hp) (E0 ?_);cases h
 ·refine B0 14 false (decide_eq_false hp) (D0 (WS.ex 0 ?_));cases h;exact fun a w hs=>sqE (lsB rfl (hs.sb 1))
theorem z37 {E m L rec_value_parts H a0_0 a0_1 a0_2 a0_3 a0_4 a0_5 a0_6 a0_7 a0_8 a0_9 a0_10 a0_11 a0_12 a0_13 a0_14} (hrec_value_parts:∀(m:Nat) (H:AH) (a0_0:Int) (a0_1 a0_2:Bool) (a0_3:Sl3) (a0_4:Int) (a0_5:Sl3) (a0_6:ByteArray) (a0_7 a0_8 a0_9:Int) (a0_10:ByteArray) (a0_11 a0_12:Sl3) (a0_13 a0_14:Sl3) (r:Int),rec_value_parts H a0_0 a0_1 a0_2 a0_3 a0_4 a0_5 a0_6 a0_7 a0_8 a0_9 a0_10 a0_11 a0_12 a0_13 a0_14=some r→CallS Tryz.prog (NE.plain 99) m 61 #[(vA #[(vI .i64 a0_0),(vB a0_1),(vB a0_2),(Sl3.v a0_3),(vI .i64 a0_4),(Sl3.v a0_5),(vS a0_6),(vI .i64 a0_7),(vI .i64 a0_8),(vI .i64 a0_9),(vS a0_10),(Sl3.v a0_11),(Sl3.v a0_12),(Sl3.v a0_13),(Sl3.v a0_14)])] H (n3 r) (D3 H r)):LoopF Tryz.prog (NE.plain 99) m E Tryz.f61 ((cfst (csnd (cfst (csnd (csnd (csnd B61))))))) (z9u L rec_value_parts H a0_0 a0_1 a0_2 a0_3 a0_4 a0_5 a0_6 a0_7 a0_8 a0_9 a0_10 a0_11 a0_12 a0_13 a0_14) (fun _=>H) 2 n3 (D3 H) (z1m L rec_value_parts H a0_0 a0_1 a0_2 a0_3 a0_4 a0_5 a0_6 a0_7 a0_8 a0_9 a0_10 a0_11 a0_12 a0_13 a0_14):=by
 rintro ⟨v3_5,v28_6⟩ o h
 unfold z1m at h;try dsimp only at h
 refine t0 (A0 (g0 1 [kB 29 (decide (v28_6<(a0_13.n:Int)))] (u0 (m0 (t0 ?_)))));rcases J1 h with ⟨hp,h⟩ | ⟨hp,h⟩
 ·refine B0 29 true (decide_eq_true hp) (E0 (M0 (m0 (t0 (P0 3 (t0 (A0 ?_)))))));obtain ⟨p7,hx,h⟩:=bind_some h;refine RS.ix 30 34 48 (.tmp 26) (.tmp 28) hx ?_;obtain ⟨x8_0,hx0,h⟩:=bind_some h;obtain ⟨x8_1,hx1,h⟩:=bind_some h;obtain ⟨x8_2,hx2,h⟩:=bind_some h;obtain ⟨x8_3,hx3,h⟩:=bind_some h;obtain ⟨x8_4,hx4,h⟩:=bind_some h;obtain ⟨x8_5,hx5,h⟩:=bind_some h;obtain ⟨x8_6,hx6,h⟩:=bind_some h;obtain ⟨x8_7,hx7,h⟩:=bind_some h;obtain ⟨x8_8,hx8,h⟩:=bind_some h;obtain ⟨x8_9,hx9,h⟩:=bind_some h;obtain ⟨x8_10,hx10,h⟩:=bind_some h;obtain ⟨x8_11,hx11,h⟩:=bind_some h;obtain ⟨x8_12,hx12,h⟩:=bind_some h;obtain ⟨x8_13,hx13,h⟩:=bind_some h;obtain ⟨x8_14,hx14,h⟩:=bind_some h;obtain ⟨x8_15,hx15,h⟩:=bind_some h;obtain ⟨x8_16,hx16,h⟩:=bind_some h;obtain ⟨x8_17,hx17,h⟩:=bind_some h;obtain ⟨x8_18,hx18,h⟩:=bind_some h;obtain ⟨x8_19,hx19,h⟩:=bind_some h;obtain ⟨x8_20,hx20,h⟩:=bind_some h;obtain ⟨x8_21,hx21,h⟩:=bind_some h;obtain ⟨x8_22,hx22,h⟩:=bind_some h;obtain ⟨x8_23,hx23,h⟩:=bind_some h;obtain ⟨x8_24,hx24,h⟩:=bind_some h;obtain ⟨x8_25,hx25,h⟩:=bind_some h;obtain ⟨x8_26,hx26,h⟩:=bind_some h;obtain ⟨x8_27,hx27,h⟩:=bind_some h;obtain ⟨x8_28,hx28,h⟩:=bind_some h;obtain ⟨x8_29,hx29,h⟩:=bind_some h;refine E1 31 48 (.tmp 30) 30 (G1 (I1 hx0 N1) (G1 (I1 hx1 j2) (G1 (I1 hx2 j2) (G1 (I1 hx3 M1) (G1 (I1 hx4 N1) (G1 (I1 hx5 M1) (G1 (I1 hx6 X1) (G1 (I1 hx7 N1) (G1 (I1 hx8 N1) (G1 (I1 hx9 N1) (G1 (I1 hx10 X1) (G1 (I1 hx11 M1) (G1 (I1 hx12 M1) (G1 (I1 hx13 M1) (G1 (I1 hx14 M1) (G1 (I1 hx15 N1) (G1 (I1 hx16 j2) (G1 (I1 hx17 j2) (G1 (I1 hx18 M1) (G1 (I1 hx19 N1) (G1 (I1 hx20 M1) (G1 (I1 hx21 X1) (G1 (I1 hx22 N1) (G1 (I1 hx23 N1) (G1 (I1 hx24 N1) (G1 (I1 hx25 X1) (G1 (I1 hx26 M1) (G1 (I1 hx27 M1) (G1 (I1 hx28 M1) (G1 (I1 hx29 M1) T2)))))))))))))))))))))))))))))) (O0 2 [kL 7 1 0] ([some (36,[(vI .i64 a0_0),(vB a0_1),(vB a0_2),(Sl3.v a0_3),(vI .i64 a0_4),(Sl3.v a0_5),(vS a0_6),(vI .i64 a0_7),(vI .i64 a0_8),(vI .i64 a0_9),(vS a0_10),(Sl3.v a0_11),(Sl3.v a0_12),(Sl3.v a0_13),(Sl3.v a0_14)]),some (48,[(vI .i64 x8_0),(vB x8_1),(vB x8_2),(Sl3.v x8_3),(vI .i64 x8_4),(Sl3.v x8_5),(vS x8_6),(vI .i64 x8_7),(vI .i64 x8_8),(vI .i64 x8_9),(vS x8_10),(Sl3.v x8_11),(Sl3.v x8_12),(Sl3.v x8_13),(Sl3.v x8_14),(vI .i64 x8_15),(vB x8_16),(vB x8_17),(Sl3.v x8_18),(vI .i64 x8_19),(Sl3.v x8_20),(vS x8_21),(vI .i64 x8_22),(vI .i64 x8_23),(vI .i64 x8_24),(vS x8_25),(Sl3.v x8_26),(Sl3.v x8_27),(Sl3.v x8_28),(Sl3.v x8_29)])]) (u0 (m0 (t0 (t0 (A0 (g0 3 [kA 34 #[(vI .i64 x8_0),(vB x8_1),(vB x8_2),(Sl3.v x8_3),(vI .i64 x8_4),(Sl3.v x8_5),(vS x8_6),(vI .i64 x8_7),(vI .i64 x8_8),(vI .i64 x8_9),(vS x8_10),(Sl3.v x8_11),(Sl3.v x8_12),(Sl3.v x8_13),(Sl3.v x8_14)],kL 33 1 0,kI 32 v3_5] ?_)))))));obtain ⟨x9,hx,h⟩:=bind_some h;refine RS.cl (some 35) (v:=(vI .i64 x9)) 61 _ (hrec_value_parts _ _ _ _ _ _ _ _ _ _ _ _ _ _ _ _ _ _ hx) (g0 2 [kI 3 (IntKind.i64.wrap (v3_5+x9)),kI 36 (IntKind.i64.wrap (v3_5+x9))] (u0 (m0 (t0 (A0 (g0 2 [kB 38 (decide ((IntKind.i64.wrap (v3_5+x9)) > 65536)),kI 37 (IntKind.i64.wrap (v3_5+x9))] (u0 (m0 ?_))))))));rcases J1 h with ⟨hp,h⟩ | ⟨hp,h⟩
  ·refine B0 38 true (decide_eq_true hp) (E0 ?_);cases h
  ·refine B0 38 false (decide_eq_false hp) (D0 (M0 (m0 (t0 (A0 (g0 3 [kA 42 #[(vI .i64 x8_15),(vB x8_16),(vB x8_17),(Sl3.v x8_18),(vI .i64 x8_19),(Sl3.v x8_20),(vS x8_21),(vI .i64 x8_22),(vI .i64 x8_23),(vI .i64 x8_24),(vS x8_25),(Sl3.v x8_26),(Sl3.v x8_27),(Sl3.v x8_28),(Sl3.v x8_29)],kL 41 1 15,kI 40 (IntKind.i64.wrap (v3_5+x9))] ?_))))));obtain ⟨x10,hx,h⟩:=bind_some h;refine RS.cl (some 43) (v:=(vI .i64 x10)) 61 _ (hrec_value_parts _ _ _ _ _ _ _ _ _ _ _ _ _ _ _ _ _ _ hx) (g0 2 [kI 3 (IntKind.i64.wrap ((IntKind.i64.wrap (v3_5+x9))+x10)),kI 44 (IntKind.i64.wrap ((IntKind.i64.wrap (v3_5+x9))+x10))] (u0 (m0 (t0 (A0 (g0 2 [kB 46 (decide ((IntKind.i64.wrap ((IntKind.i64.wrap (v3_5+x9))+x10)) > 65536)),kI 45 (IntKind.i64.wrap ((IntKind.i64.wrap (v3_5+x9))+x10))] (u0 (m0 ?_))))))));rcases J1 h with ⟨hp,h⟩ | ⟨hp,h⟩
   ·refine B0 46 true (decide_eq_true hp) (E0 ?_);cases h
   ·refine B0 46 false (decide_eq_false hp) (D0 (M0 ?_));refine fun a w hs=>bkN ((m0 ?_ a w hs));refine A0 (g0 2 [kI 28 (IntKind.i64.wrap (v28_6+1)),kI 48 (IntKind.i64.wrap (v28_6+1))] (u0 ?_));cases h;exact fun a w hs=>lsN rfl (hs.sb 1)
 ·refine B0 29 false (decide_eq_false hp) (D0 (WS.ex 2 ?_));cases h;exact fun a w hs=>sqE (lsB rfl (hs.sb 1))
theorem z3c {E m L rec_value_parts H a0_0 a0_1 a0_2 a0_3 a0_4 a0_5 a0_6 a0_7 a0_8 a0_9 a0_10 a0_11 a0_12 a0_13 a0_14} (hrec_value_parts:∀(m:Nat) (H:AH) (a0_0:Int) (a0_1 a0_2:Bool) (a0_3:Sl3) (a0_4:Int) (a0_5:Sl3) (a0_6:ByteArray) (a0_7 a0_8 a0_9:Int) (a0_10:ByteArray) (a0_11 a0_12:Sl3) (a0_13 a0_14:Sl3) (r:Int),rec_value_parts H a0_0 a0_1 a0_2 a0_3 a0_4 a0_5 a0_6 a0_7 a0_8 a0_9 a0_10 a0_11 a0_12 a0_13 a0_14=some r→CallS Tryz.prog (NE.plain 99) m 61 #[(vA #[(vI .i64 a0_0),(vB a0_1),(vB a0_2),(Sl3.v a0_3),(vI .i64 a0_4),(Sl3.v a0_5),(vS a0_6),(vI .i64 a0_7),(vI .i64 a0_8),(vI .i64 a0_9),(vS a0_10),(Sl3.v a0_11),(Sl3.v a0_12),(Sl3.v a0_13),(Sl3.v a0_14)])] H (n3 r) (D3 H r)):LoopF Tryz.prog (NE.plain 99) m E Tryz.f61 ((cfst (csnd (cfst (csnd (csnd (csnd (csnd B61)))))))) (z9x L rec_value_parts H a0_0 a0_1 a0_2 a0_3 a0_4 a0_5 a0_6 a0_7 a0_8 a0_9 a0_10 a0_11 a0_12 a0_13 a0_14) (fun _=>H) 4 n3 (D3 H) (z1g L rec_value_parts H a0_0 a0_1 a0_2 a0_3 a0_4 a0_5 a0_6 a0_7 a0_8 a0_9 a0_10 a0_11 a0_12 a0_13 a0_14):=by
 rintro ⟨v3_13,v52_14⟩ o h
 unfold z1g at h;try dsimp only at h
 refine t0 (A0 (g0 1 [kB 53 (decide (v52_14<(a0_14.n:Int)))] (u0 (m0 (t0 ?_)))));rcases J1 h with ⟨hp,h⟩ | ⟨hp,h⟩
 ·refine B0 53 true (decide_eq_true hp) (E0 (M0 (m0 (t0 (P0 5 (t0 (A0 ?_)))))));obtain ⟨p15,hx,h⟩:=bind_some h;refine RS.ix 54 33 36 (.tmp 50) (.tmp 52) hx ?_;obtain ⟨x16_0,hx0,h⟩:=bind_some h;obtain ⟨x16_1,hx1,h⟩:=bind_some h;obtain ⟨x16_2,hx2,h⟩:=bind_some h;obtain ⟨x16_3,hx3,h⟩:=bind_some h;obtain ⟨x16_4,hx4,h⟩:=bind_some h;obtain ⟨x16_5,hx5,h⟩:=bind_some h;obtain ⟨x16_6,hx6,h⟩:=bind_some h;obtain ⟨x16_7,hx7,h⟩:=bind_some h;obtain ⟨x16_8,hx8,h⟩:=bind_some h;obtain ⟨x16_9,hx9,h⟩:=bind_some h;obtain ⟨x16_10,hx10,h⟩:=bind_some h;obtain ⟨x16_11,hx11,h⟩:=bind_some h;obtain ⟨x16_12,hx12,h⟩:=bind_some h;obtain ⟨x16_13,hx13,h⟩:=bind_some h;obtain ⟨x16_14,hx14,h⟩:=bind_some h;refine E1 55 36 (.tmp 54) 15 (G1 (I1 hx0 N1) (G1 (I1 hx1 j2) (G1 (I1 hx2 j2) (G1 (I1 hx3 M1) (G1 (I1 hx4 N1) (G1 (I1 hx5 M1) (G1 (I1 hx6 X1) (G1 (I1 hx7 N1) (G1 (I1 hx8 N1) (G1 (I1 hx9 N1) (G1 (I1 hx10 X1) (G1 (I1 hx11 M1) (G1 (I1 hx12 M1) (G1 (I1 hx13 M1) (G1 (I1 hx14 M1) T2))))))))))))))) (O0 2 [kL 9 1 0] ([some (36,[(vI .i64 a0_0),(vB a0_1),(vB a0_2),(Sl3.v a0_3),(vI .i64 a0_4),(Sl3.v a0_5),(vS a0_6),(vI .i64 a0_7),(vI .i64 a0_8),(vI .i64 a0_9),(vS a0_10),(Sl3.v a0_11),(Sl3.v a0_12),(Sl3.v a0_13),(Sl3.v a0_14)]),some (36,[(vI .i64 x16_0),(vB x16_1),(vB x16_2),(Sl3.v x16_3),(vI .i64 x16_4),(Sl3.v x16_5),(vS x16_6),(vI .i64 x16_7),(vI .i64 x16_8),(vI .i64 x16_9),(vS x16_10),(Sl3.v x16_11),(Sl3.v x16_12),(Sl3.v x16_13),(Sl3.v x16_14)])]) (u0 (m0 (t0 (A0 (g0 2 [kA 57 #[(vI .i64 x16_0),(vB x16_1),(vB x16_2),(Sl3.v x16_3),(vI .i64 x16_4),(Sl3.v x16_5),(vS x16_6),(vI .i64 x16_7),(vI .i64 x16_8),(vI .i64 x16_9),(vS x16_10),(Sl3.v x16_11),(Sl3.v x16_12),(Sl3.v x16_13),(Sl3.v x16_14)],kI 56 v3_13] ?_))))));obtain ⟨x17,hx,h⟩:=bind_some h;refine RS.cl (some 58) (v:=(vI .i64 x17)) 61 _ (hrec_value_parts _ _ _ _ _ _ _ _ _ _ _ _ _ _ _ _ _ _ hx) (g0 2 [kI 3 (IntKind.i64.wrap (v3_13+x17)),kI 59 (IntKind.i64.wrap (v3_13+x17))] (u0 (m0 (t0 (A0 (g0 2 [kB 61 (decide ((IntKind.i64.wrap (v3_13+x17)) > 65536)),kI 60 (IntKind.i64.wrap (v3_13+x17))] (u0 (m0 ?_))))))));rcases J1 h with ⟨hp,h⟩ | ⟨hp,h⟩
  ·refine B0 61 true (decide_eq_true hp) (E0 ?_);cases h
  ·refine B0 61 false (decide_eq_false hp) (D0 (M0 ?_));refine fun a w hs=>bkN ((m0 ?_ a w hs));refine A0 (g0 2 [kI 52 (IntKind.i64.wrap (v52_14+1)),kI 63 (IntKind.i64.wrap (v52_14+1))] (u0 ?_));cases h;exact fun a w hs=>lsN rfl (hs.sb 1)
 ·refine B0 53 false (decide_eq_false hp) (D0 (WS.ex 4 ?_));cases h;exact fun a w hs=>sqE (lsB rfl (hs.sb 1))
theorem z8e {L:LC} {rec_value_parts:AH→Int→Bool→Bool→Sl3→Int→Sl3→ByteArray→Int→Int→Int→ByteArray→Sl3→Sl3→Sl3→Sl3→Option Int} (hrec_value_parts:∀(m:Nat) (H:AH) (a0_0:Int) (a0_1 a0_2:Bool) (a0_3:Sl3) (a0_4:Int) (a0_5:Sl3) (a0_6:ByteArray) (a0_7 a0_8 a0_9:Int) (a0_10:ByteArray) (a0_11 a0_12:Sl3) (a0_13 a0_14:Sl3) (r:Int),rec_value_parts H a0_0 a0_1 a0_2 a0_3 a0_4 a0_5 a0_6 a0_7 a0_8 a0_9 a0_10 a0_11 a0_12 a0_13 a0_14=some r→CallS Tryz.prog (NE.plain 99) m 61 #[(vA #[(vI .i64 a0_0),(vB a0_1),(vB a0_2),(Sl3.v a0_3),(vI .i64 a0_4),(Sl3.v a0_5),(vS a0_6),(vI .i64 a0_7),(vI .i64 a0_8),(vI .i64 a0_9),(vS a0_10),(Sl3.v a0_11),(Sl3.v a0_12),(Sl3.v a0_13),(Sl3.v a0_14)])] H (n3 r) (D3 H r)) {m:Nat} {H:AH} {a0_0:Int} {a0_1 a0_2:Bool} {a0_3:Sl3} {a0_4:Int} {a0_5:Sl3} {a0_6:ByteArray} {a0_7 a0_8 a0_9:Int} {a0_10:ByteArray} {a0_11 a0_12:Sl3} {a0_13 a0_14:Sl3} {r:Int} (h:M9 L rec_value_parts H a0_0 a0_1 a0_2 a0_3 a0_4 a0_5 a0_6 a0_7 a0_8 a0_9 a0_10 a0_11 a0_12 a0_13 a0_14=some r) :
  CallS Tryz.prog (NE.plain 99) m 61 #[(vA #[(vI .i64 a0_0),(vB a0_1),(vB a0_2),(Sl3.v a0_3),(vI .i64 a0_4),(Sl3.v a0_5),(vS a0_6),(vI .i64 a0_7),(vI .i64 a0_8),(vI .i64 a0_9),(vS a0_10),(Sl3.v a0_11),(Sl3.v a0_12),(Sl3.v a0_13),(Sl3.v a0_14)])] H (n3 r) (D3 H r):=by
 refine CallS.mk (args:=[(vA #[(vI .i64 a0_0),(vB a0_1),(vB a0_2),(Sl3.v a0_3),(vI .i64 a0_4),(Sl3.v a0_5),(vS a0_6),(vI .i64 a0_7),(vI .i64 a0_8),(vI .i64 a0_9),(vS a0_10),(Sl3.v a0_11),(Sl3.v a0_12),(Sl3.v a0_13),(Sl3.v a0_14)])]) Tryz.func61 (B:=B61) (by kernel_rfl) (fun E _=>?_);unfold M9 at h;refine t0 (A0 (O0 2 [kI 2 0,kL 1 0 0] ([some (36,[(vI .i64 a0_0),(vB a0_1),(vB a0_2),(Sl3.v a0_3),(vI .i64 a0_4),(Sl3.v a0_5),(vS a0_6),(vI .i64 a0_7),(vI .i64 a0_8),(vI .i64 a0_9),(vS a0_10),(Sl3.v a0_11),(Sl3.v a0_12),(Sl3.v a0_13),(Sl3.v a0_14)])]) (u0 (m0 (t0 (A0 (g0 1 [kI 3 1] (u0 (m0 ?_)))))))));refine t0 (t0 (A0 (g0 4 [kI 13 0,kI 12 (a0_12.n:Int),kS 11 a0_12,kL 10 0 12] (u0 (m0 (P0 0 ?_))))));obtain ⟨o,hl,h⟩:=bind_some h;rcases o with ⟨v3_3,v13_4⟩ | r
 ·try dsimp only at h
  refine Y0 (z3e (L:=L) (E:=E) (m:=m) (H:=H)) (L.ok hl) 1 ?_;clear hl;refine fun a w hs=>bkE ((m0 ?_ a w hs));refine t0 (t0 (A0 (g0 4 [kI 28 0,kI 27 (a0_13.n:Int),kS 26 a0_13,kL 25 0 13] (u0 (m0 (P0 2 ?_))))));obtain ⟨o,hl,h⟩:=bind_some h;rcases o with ⟨v3_11,v28_12⟩ | r
  ·try dsimp only at h
   refine Y0 (z37 (L:=L) (E:=E) (m:=m) (H:=H) hrec_value_parts) (L.ok hl) 1 ?_;clear hl;refine fun a w hs=>bkE ((m0 ?_ a w hs));refine t0 (t0 (A0 (g0 4 [kI 52 0,kI 51 (a0_14.n:Int),kS 50 a0_14,kL 49 0 14] (u0 (m0 (P0 4 ?_))))));obtain ⟨o,hl,h⟩:=bind_some h;rcases o with ⟨v3_18,v52_19⟩ | r
   ·try dsimp only at h
    refine Y0 (z3c (L:=L) (E:=E) (m:=m) (H:=H) hrec_value_parts) (L.ok hl) 1 ?_;clear hl;refine fun a w hs=>bkE ((m0 ?_ a w hs));refine t0 (A0 (g0 2 [kI 2 v3_18,kI 64 v3_18] (u0 (m0 (C0 ?_)))));cases h;exact fun a w hs=>rtR (rS hs)
   ·try dsimp only at h
    refine X0 (z3c (L:=L) (E:=E) (m:=m) (H:=H) hrec_value_parts) (L.ok hl) 1 ?_;cases h;exact fun a w hq=>bkR (sqR (rtR hq))
  ·try dsimp only at h
   refine X0 (z37 (L:=L) (E:=E) (m:=m) (H:=H) hrec_value_parts) (L.ok hl) 1 ?_;cases h;exact fun a w hq=>bkR (sqR (rtR hq))
 ·try dsimp only at h
  refine X0 (z3e (L:=L) (E:=E) (m:=m) (H:=H)) (L.ok hl) 1 ?_;cases h;exact fun a w hq=>bkR (sqR (rtR hq))
theorem z9a {L:LC}:∀n,(∀(m:Nat) (H:AH) (a0_0:Int) (a0_1 a0_2:Bool) (a0_3:Sl3) (a0_4:Int) (a0_5:Sl3) (a0_6:ByteArray) (a0_7 a0_8 a0_9:Int) (a0_10:ByteArray) (a0_11 a0_12:Sl3) (a0_13 a0_14:Sl3) (r:Int),((z5a L n)) H a0_0 a0_1 a0_2 a0_3 a0_4 a0_5 a0_6 a0_7 a0_8 a0_9 a0_10 a0_11 a0_12 a0_13 a0_14=some r→CallS Tryz.prog (NE.plain 99) m 61 #[(vA #[(vI .i64 a0_0),(vB a0_1),(vB a0_2),(Sl3.v a0_3),(vI .i64 a0_4),(Sl3.v a0_5),(vS a0_6),(vI .i64 a0_7),(vI .i64 a0_8),(vI .i64 a0_9),(vS a0_10),(Sl3.v a0_11),(Sl3.v a0_12),(Sl3.v a0_13),(Sl3.v a0_14)])] H (n3 r) (D3 H r)):=by
 intro n;induction n with
 | zero=>exact (fun _ _ _ _ _ _ _ _ _ _ _ _ _ _ _ _ _ _ h=>(Option.some_ne_none _ h.symm).elim)
 | succ n ih=>exact (fun _ _ _ _ _ _ _ _ _ _ _ _ _ _ _ _ _ _ h=>z8e (L:=L) ih h)
theorem z1e {L:LC} {m:Nat} {H:AH} {a0_0:Int} {a0_1 a0_2:Bool} {a0_3:Sl3} {a0_4:Int} {a0_5:Sl3} {a0_6:ByteArray} {a0_7 a0_8 a0_9:Int} {a0_10:ByteArray} {a0_11 a0_12:Sl3} {a0_13 a0_14:Sl3} {r:Int} (h:z1y L H a0_0 a0_1 a0_2 a0_3 a0_4 a0_5 a0_6 a0_7 a0_8 a0_9 a0_10 a0_11 a0_12 a0_13 a0_14=some r) :
  CallS Tryz.prog (NE.plain 99) m 61 #[(vA #[(vI .i64 a0_0),(vB a0_1),(vB a0_2),(Sl3.v a0_3),(vI .i64 a0_4),(Sl3.v a0_5),(vS a0_6),(vI .i64 a0_7),(vI .i64 a0_8),(vI .i64 a0_9),(vS a0_10),(Sl3.v a0_11),(Sl3.v a0_12),(Sl3.v a0_13),(Sl3.v a0_14)])] H (n3 r) (D3 H r) :=
 (z9a _) _ _ _ _ _ _ _ _ _ _ _ _ _ _ _ _ _ _ h
noncomputable def B66:Code:=(Tryz.f66.body).getD .skip
noncomputable def B98:Code:=(Tryz.f98.body).getD .skip
def a6:Bool→Value
 | r0=>(vB r0)
def J6 (H:AH):Bool→AH:=fun _=>H
def A4:Bool→Value
 | r0=>(vB r0)
def L4 (H:AH):Bool→AH:=fun _=>H
noncomputable def z1p (_L:LC) (rec_slices_EqualFunc__66:AH→Sl3→Sl3→Option Bool) (H:AH) (a0_0 a0_1:Int) (a0_2:ByteArray) (a0_3:Sl3) (a1_0 a1_1:Int) (a1_2:ByteArray) (a1_3:Sl3):Option Bool :=
 if a0_0=a1_0 then
  if a0_1=a1_1 then
   if (a0_2.toList == a1_2.toList)=true then
    (rec_slices_EqualFunc__66 H a0_3 a1_3).bind fun x1 => some x1
   else
    none
  else
   none
 else
  none
noncomputable def U5 (_L:LC) (rec_sort_Same:AH→Int→Int→ByteArray→Sl3→Int→Int→ByteArray→Sl3→Option Bool) (H:AH) (a0 a1:Sl3):Int→Option (Lp Int Bool):=fun v17_1 =>
 if v17_1<(a0.n:Int) then
  (idxA 4 a0 v17_1).bind fun p2 => (rd (deI .i64) H (Addr.add p2 0)).bind fun x3_0 => (rd (deI .i64) H (Addr.add p2 1)).bind fun x3_1 => (rd deS H (Addr.add p2 2)).bind fun x3_2 => (rd deSl H (Addr.add p2 3)).bind fun x3_3 => (idxA 4 a1 v17_1).bind fun p4 => (rd (deI .i64) H (Addr.add p4 0)).bind fun x5_0 => (rd (deI .i64) H (Addr.add p4 1)).bind fun x5_1 => (rd deS H (Addr.add p4 2)).bind fun x5_2 => (rd deSl H (Addr.add p4 3)).bind fun x5_3 => (rec_sort_Same H x3_0 x3_1 x3_2 x3_3 x5_0 x5_1 x5_2 x5_3).bind fun x6 => if x6=true then
   some (.next (IntKind.i64.wrap (v17_1+1)))
  else
   none
 else
  some (.brk v17_1)
def z2r (_L:LC) (_rec_sort_Same:AH→Int→Int→ByteArray→Sl3→Int→Int→ByteArray→Sl3→Option Bool) (_H:AH) (a0 a1:Sl3):Int→KN×Lcs:=fun v17_1=>([kI 17 v17_1,kS 1 a1,(2,.val (Value.func (.func 66) #[] #[])),kS 15 a0,kI 16 (a0.n:Int)],[])
noncomputable def F5 (L:LC) (rec_sort_Same:AH→Int→Int→ByteArray→Sl3→Int→Int→ByteArray→Sl3→Option Bool) (H:AH) (a0 a1:Sl3):Option Bool :=
 if (a0.n:Int)=(a1.n:Int) then
  (L.run (U5 L rec_sort_Same H a0 a1) 0).bind fun o=>match o with
  | .inl _ =>
   some true
  | .inr r=>some r
 else
  none
noncomputable def z2s (L:LC) (n:Nat):(AH→Int→Int→ByteArray→Sl3→Int→Int→ByteArray→Sl3→Option Bool)×(AH→Sl3→Sl3→Option Bool):=Nat.rec (motive:=fun _=>(AH→Int→Int→ByteArray→Sl3→Int→Int→ByteArray→Sl3→Option Bool)×(AH→Sl3→Sl3→Option Bool)) ((fun _ _ _ _ _ _ _ _ _=>none),(fun _ _ _=>none)) (fun _ p=>(z1p L p.2,F5 L p.1)) n
noncomputable def z8k (L:LC) (H:AH) (a0_0 a0_1:Int) (a0_2:ByteArray) (a0_3:Sl3) (a1_0 a1_1:Int) (a1_2:ByteArray) (a1_3:Sl3):Option Bool:=((z2s L L.fuel).1) H a0_0 a0_1 a0_2 a0_3 a1_0 a1_1 a1_2 a1_3
theorem za9 {L:LC} {rec_slices_EqualFunc__66:AH→Sl3→Sl3→Option Bool} (hrec_slices_EqualFunc__66:∀(m:Nat) (H:AH) (a0 a1:Sl3) (r:Bool),rec_slices_EqualFunc__66 H a0 a1=some r→CallS Tryz.prog (NE.plain 99) m 98 #[(Sl3.v a0),(Sl3.v a1),(Value.func (.func 66) #[] #[])] H (A4 r) (L4 H r)) {m:Nat} {H:AH} {a0_0 a0_1:Int} {a0_2:ByteArray} {a0_3:Sl3} {a1_0 a1_1:Int} {a1_2:ByteArray} {a1_3:Sl3} {r:Bool} (h:z1p L rec_slices_EqualFunc__66 H a0_0 a0_1 a0_2 a0_3 a1_0 a1_1 a1_2 a1_3=some r) :
  CallS Tryz.prog (NE.plain 99) m 66 #[(vA #[(vI .i64 a0_0),(vI .i64 a0_1),(vS a0_2),(Sl3.v a0_3)]),(vA #[(vI .i64 a1_0),(vI .i64 a1_1),(vS a1_2),(Sl3.v a1_3)])] H (a6 r) (J6 H r):=by
 refine CallS.mk (args:=[(vA #[(vI .i64 a0_0),(vI .i64 a0_1),(vS a0_2),(Sl3.v a0_3)]),(vA #[(vI .i64 a1_0),(vI .i64 a1_1),(vS a1_2),(Sl3.v a1_3)])]) Tryz.func66 (B:=B66) (by kernel_rfl) (fun E _=>?_);unfold z1p at h;refine t0 (A0 (O0 3 [kB 4 false,kL 3 1 0,kL 2 0 0] ([some (32,[(vI .i64 a0_0),(vI .i64 a0_1),(vS a0_2),(Sl3.v a0_3)]),some (32,[(vI .i64 a1_0),(vI .i64 a1_1),(vS a1_2),(Sl3.v a1_3)])]) (u0 (m0 (t0 (A0 (g0 6 [kB 10 (decide (a0_0=a1_0)),kB 9 (decide (a0_0=a1_0)),kI 8 a1_0,kL 7 1 0,kI 6 a0_0,kL 5 0 0] ?_)))))));rcases J1 h with ⟨hp,h⟩ | ⟨hp,h⟩
 ·refine F0 10 true (decide_eq_true hp) (g0 7 [kB 17 (decide (a0_1=a1_1)),kB 16 (decide (a0_1=a1_1)),kB 15 (decide (a0_1=a1_1)),kI 14 a1_1,kL 13 1 1,kI 12 a0_1,kL 11 0 1] ?_);rcases J1 h with ⟨hp,h⟩ | ⟨hp,h⟩
  ·refine F0 17 true (decide_eq_true hp) (g0 7 [kB 24 (a0_2.toList == a1_2.toList),kB 23 (a0_2.toList == a1_2.toList),kB 22 (a0_2.toList == a1_2.toList),kT 21 a1_2,kL 20 1 2,kT 19 a0_2,kL 18 0 2] ?_);rcases J1 h with ⟨hp,h⟩ | ⟨hp,h⟩
   ·refine F0 24 true hp (g0 4 [kS 28 a1_3,kL 27 1 3,kS 26 a0_3,kL 25 0 3] ?_);obtain ⟨x1,hx,h⟩:=bind_some h;refine RS.cl (some 29) (v:=(vB x1)) 98 _ (hrec_slices_EqualFunc__66 _ _ _ _ _ hx) (g0 2 [kB 4 x1,kB 30 x1] (u0 (m0 (C0 ?_))));cases h;exact fun a w hs=>rtR (rS hs)
   ·refine F0 24 false (b_not hp) ?_;cases h
  ·refine F0 17 false (decide_eq_false hp) ?_;cases h
 ·refine F0 10 false (decide_eq_false hp) ?_;cases h
theorem n7 {E m L rec_sort_Same H a0 a1} (hrec_sort_Same:∀(m:Nat) (H:AH) (a0_0 a0_1:Int) (a0_2:ByteArray) (a0_3:Sl3) (a1_0 a1_1:Int) (a1_2:ByteArray) (a1_3:Sl3) (r:Bool),rec_sort_Same H a0_0 a0_1 a0_2 a0_3 a1_0 a1_1 a1_2 a1_3=some r→CallS Tryz.prog (NE.plain 99) m 66 #[(vA #[(vI .i64 a0_0),(vI .i64 a0_1),(vS a0_2),(Sl3.v a0_3)]),(vA #[(vI .i64 a1_0),(vI .i64 a1_1),(vS a1_2),(Sl3.v a1_3)])] H (a6 r) (J6 H r)):LoopF Tryz.prog (NE.plain 99) m E Tryz.f98 ((cfst (csnd (cfst (csnd (csnd B98)))))) (z2r L rec_sort_Same H a0 a1) (fun _=>H) 0 A4 (L4 H) (U5 L rec_sort_Same H a0 a1):=by
 rintro v17_1 o h
 unfold U5 at h;try dsimp only at h
 refine t0 (A0 (g0 1 [kB 18 (decide (v17_1<(a0.n:Int)))] (u0 (m0 (t0 ?_)))));rcases J1 h with ⟨hp,h⟩ | ⟨hp,h⟩
 ·refine B0 18 true (decide_eq_true hp) (E0 (M0 (m0 (t0 (P0 1 (t0 (A0 (g0 1 [kI 19 v17_1] ?_))))))));obtain ⟨p2,hx,h⟩:=bind_some h;refine RS.ix 20 30 32 (.tmp 15) (.tmp 17) hx ?_;obtain ⟨x3_0,hx0,h⟩:=bind_some h;obtain ⟨x3_1,hx1,h⟩:=bind_some h;obtain ⟨x3_2,hx2,h⟩:=bind_some h;obtain ⟨x3_3,hx3,h⟩:=bind_some h;refine E1 21 32 (.tmp 20) 4 (G1 (I1 hx0 N1) (G1 (I1 hx1 N1) (G1 (I1 hx2 X1) (G1 (I1 hx3 M1) T2)))) (O0 3 [kI 7 v17_1,kL 8 0 0] ([some (32,[(vI .i64 x3_0),(vI .i64 x3_1),(vS x3_2),(Sl3.v x3_3)])]) (u0 (m0 (t0 (A0 (g0 2 [kI 23 v17_1,kS 22 a1] ?_))))));obtain ⟨p4,hx,h⟩:=bind_some h;refine RS.ix 24 30 32 (.tmp 22) (.tmp 23) hx ?_;obtain ⟨x5_0,hx0,h⟩:=bind_some h;obtain ⟨x5_1,hx1,h⟩:=bind_some h;obtain ⟨x5_2,hx2,h⟩:=bind_some h;obtain ⟨x5_3,hx3,h⟩:=bind_some h;refine E1 25 32 (.tmp 24) 4 (G1 (I1 hx0 N1) (G1 (I1 hx1 N1) (G1 (I1 hx2 X1) (G1 (I1 hx3 M1) T2)))) (O0 2 [kL 9 1 0] ([some (32,[(vI .i64 x3_0),(vI .i64 x3_1),(vS x3_2),(Sl3.v x3_3)]),some (32,[(vI .i64 x5_0),(vI .i64 x5_1),(vS x5_2),(Sl3.v x5_3)])]) (u0 (m0 (t0 (A0 (g0 3 [kA 28 #[(vI .i64 x5_0),(vI .i64 x5_1),(vS x5_2),(Sl3.v x5_3)],kA 27 #[(vI .i64 x3_0),(vI .i64 x3_1),(vS x3_2),(Sl3.v x3_3)],(26,.val (Value.func (.func 66) #[] #[]))] ?_))))));obtain ⟨x6,hx,h⟩:=bind_some h;refine RS.cl (some 29) (v:=(vB x6)) 66 _ (hrec_sort_Same _ _ _ _ _ _ _ _ _ _ _ hx) (g0 1 [kB 30 (!x6)] (u0 (m0 ?_)));rcases J1 h with ⟨hp,h⟩ | ⟨hp,h⟩
  ·refine B0 30 false (nb_not hp) (D0 (M0 ?_));refine fun a w hs=>bkN ((m0 ?_ a w hs));refine A0 (g0 2 [kI 17 (IntKind.i64.wrap (v17_1+1)),kI 31 (IntKind.i64.wrap (v17_1+1))] (u0 ?_));cases h;exact fun a w hs=>lsN rfl (hs.sb 0)
  ·refine B0 30 true (Q4 hp) (E0 ?_);cases h
 ·refine B0 18 false (decide_eq_false hp) (D0 (WS.ex 0 ?_));cases h;exact fun a w hs=>sqE (lsB rfl (hs.sb 0))
theorem z1r {L:LC} {rec_sort_Same:AH→Int→Int→ByteArray→Sl3→Int→Int→ByteArray→Sl3→Option Bool} (hrec_sort_Same:∀(m:Nat) (H:AH) (a0_0 a0_1:Int) (a0_2:ByteArray) (a0_3:Sl3) (a1_0 a1_1:Int) (a1_2:ByteArray) (a1_3:Sl3) (r:Bool),rec_sort_Same H a0_0 a0_1 a0_2 a0_3 a1_0 a1_1 a1_2 a1_3=some r→CallS Tryz.prog (NE.plain 99) m 66 #[(vA #[(vI .i64 a0_0),(vI .i64 a0_1),(vS a0_2),(Sl3.v a0_3)]),(vA #[(vI .i64 a1_0),(vI .i64 a1_1),(vS a1_2),(Sl3.v a1_3)])] H (a6 r) (J6 H r)) {m:Nat} {H:AH} {a0 a1:Sl3} {r:Bool} (h:F5 L rec_sort_Same H a0 a1=some r) :
  CallS Tryz.prog (NE.plain 99) m 98 #[(Sl3.v a0),(Sl3.v a1),(Value.func (.func 66) #[] #[])] H (A4 r) (L4 H r):=by
 refine CallS.mk (args:=[(Sl3.v a0),(Sl3.v a1),(Value.func (.func 66) #[] #[])]) Tryz.func98 (B:=B98) (by kernel_rfl) (fun E _=>?_);unfold F5 at h;refine t0 (A0 (g0 1 [kB 6 false] (u0 (m0 (t0 (t0 (A0 (g0 5 [kB 14 (!decide ((a0.n:Int)=(a1.n:Int))),kI 13 (a1.n:Int),kS 12 a1,kI 11 (a0.n:Int),kS 10 a0] (u0 ?_)))))))));refine m0 ?_;rcases J1 h with ⟨hp,h⟩ | ⟨hp,h⟩
 ·refine B0 14 false (C2 hp) (D0 (M0 (m0 (t0 (t0 (A0 (g0 3 [kI 17 0,kI 16 (a0.n:Int),kS 15 a0] (u0 (m0 ?_)))))))));refine P0 0 ?_;obtain ⟨o,hl,h⟩:=bind_some h;rcases o with v17_7 | r
  ·try dsimp only at h
   refine Y0 (n7 (L:=L) (E:=E) (m:=m) (H:=H) hrec_sort_Same) (L.ok hl) 0 ?_;clear hl;refine fun a w hs=>bkE ((m0 ?_ a w hs));refine t0 (A0 (g0 1 [kB 6 true] (u0 (m0 (C0 ?_)))));cases h;exact fun a w hs=>rtR (rS hs)
  ·try dsimp only at h
   refine X0 (n7 (L:=L) (E:=E) (m:=m) (H:=H) hrec_sort_Same) (L.ok hl) 0 ?_;cases h;exact fun a w hq=>bkR (sqR (rtR hq))
 ·refine B0 14 true (A2 hp) (E0 ?_);cases h
theorem zba {L:LC}:∀n,(∀(m:Nat) (H:AH) (a0_0 a0_1:Int) (a0_2:ByteArray) (a0_3:Sl3) (a1_0 a1_1:Int) (a1_2:ByteArray) (a1_3:Sl3) (r:Bool),((z2s L n).1) H a0_0 a0_1 a0_2 a0_3 a1_0 a1_1 a1_2 a1_3=some r→CallS Tryz.prog (NE.plain 99) m 66 #[(vA #[(vI .i64 a0_0),(vI .i64 a0_1),(vS a0_2),(Sl3.v a0_3)]),(vA #[(vI .i64 a1_0),(vI .i64 a1_1),(vS a1_2),(Sl3.v a1_3)])] H (a6 r) (J6 H r))∧(∀(m:Nat) (H:AH) (a0 a1:Sl3) (r:Bool),((z2s L n).2) H a0 a1=some r→CallS Tryz.prog (NE.plain 99) m 98 #[(Sl3.v a0),(Sl3.v a1),(Value.func (.func 66) #[] #[])] H (A4 r) (L4 H r)):=by
 intro n;induction n with
 | zero=>exact ⟨(fun _ _ _ _ _ _ _ _ _ _ _ h=>(Option.some_ne_none _ h.symm).elim),(fun _ _ _ _ _ h=>(Option.some_ne_none _ h.symm).elim)⟩
 | succ n ih=>exact ⟨(fun _ _ _ _ _ _ _ _ _ _ _ h=>za9 (L:=L) ih.2 h),(fun _ _ _ _ _ h=>z1r (L:=L) ih.1 h)⟩
theorem z9e {L:LC} {m:Nat} {H:AH} {a0_0 a0_1:Int} {a0_2:ByteArray} {a0_3:Sl3} {a1_0 a1_1:Int} {a1_2:ByteArray} {a1_3:Sl3} {r:Bool} (h:z8k L H a0_0 a0_1 a0_2 a0_3 a1_0 a1_1 a1_2 a1_3=some r) :
  CallS Tryz.prog (NE.plain 99) m 66 #[(vA #[(vI .i64 a0_0),(vI .i64 a0_1),(vS a0_2),(Sl3.v a0_3)]),(vA #[(vI .i64 a1_0),(vI .i64 a1_1),(vS a1_2),(Sl3.v a1_3)])] H (a6 r) (J6 H r) :=
 ((zba _).1) _ _ _ _ _ _ _ _ _ _ _ h
end Go.Proofs.YtiickgadpbifbaaGreatDoor.Aw
