/- Parts of the proof: an abstract interpreter of the loaded program and its soundness, printed functions, the law's own texts; part 3. No condition. -/
import Derived.Test.YtfbinmgldpnjhaaGreatDoorNb2
import Derived.OrdersHeld
import Derived.LaidSub
import Derived.Test.YtfbinmgldpnjhaaGreatDoorChecked
namespace Go.Abs
variable {P:Program} {ne:NE} {m n:Nat}
def dem (A:List Nat) (bs:List Nat) (j:Nat):Bool:=!(A.all fun i=>Nat.blt i j&&pre bs j i)
def mvAt (ops:Array Oper) (j:Nat):Bool :=
 match ops[j]? with
 | some o=>(match o.op with
  | .move _=>true
  | .assign _=>true
  | .pick ..=>true
  | _=>false)
 | none=>false
def demO (ops:Array Oper) (A:List Nat) (bs:List Nat) (j:Nat):Bool:=dem A bs j&&!mvAt ops j
theorem zs6 {P:Program} {ops:Array Oper} {Q:Exit→Act→World→Prop} {j:Nat} {K:Act→World→Prop} {a:Act} {w:World} (hm:mvAt ops j=true) (h:wpOp P ops Q j K a w):wpOp P ops Q j (fun a' w'=>w'=w∧K a' w') a w:=by
 unfold wpOp at *
 unfold mvAt at hm
 cases ho:ops[j]? with
 | none=>rw [ho] at hm; cases hm
 | some o =>
  rw [ho] at h hm
  simp only at h hm ⊢
  split
  ·rename_i hw
   rw [if_pos hw] at h
   rcases h with h | h
   ·left
    unfold Oper.wp at *
    have hr:(∃v,(execOp a.eval o).run P w=.ok (.value v) w)∨∃x,(execOp a.eval o).run P w=.halt x w:=by
     obtain ⟨dst,op,ty,pos,after,guard⟩:=o
     cases op with
     | move x=>exact .inl ⟨_,rfl⟩
     | assign x=>exact .inl ⟨_,rfl⟩
     | pick c x y =>
      simp only [execOp]
      cases hc:a.eval c with
      | bool b=>exact .inl ⟨_,rfl⟩
      | _=>exact .inr ⟨_,rfl⟩
     | _=>cases hm
    rcases hr with ⟨v,hr⟩ | ⟨x,hr⟩
    ·rw [hr] at h ⊢
     exact ⟨by first | rfl | trivial,h⟩
    ·rw [hr] at h ⊢
     cases x <;> exact h
   ·exact .inr h
  ·rename_i hw
   rw [if_neg hw] at h
   exact ⟨by first | rfl | trivial,h⟩
def wpAnyD (P:Program) (ops:Array Oper) (Q:Exit→Act→World→Prop) (bs A:List Nat) (w1:World):Nat→Array Bool→Act→World→Prop
 | 0,la,a,w=>Region.ready .any ops la=[]∧Q .normal a w
 | f+1,la,a,w=>(Region.ready .any ops la=[]→Q .normal a w) ∧
  ∀i∈Region.ready .any ops la,wpOp P ops Q i (fun a' w'=>(demO ops A bs i=true→agree w1 w')∧wpAnyD P ops Q bs A w1 f (la.setIfInBounds i true) a' w') a w
variable {ops:Array Oper} {Q:Exit→Act→World→Prop} {bs A:List Nat} {w1:World}
theorem zka:∀(f:Nat) (la:Array Bool) (a:Act) (w:World),wpAnyD P ops Q bs A w1 f la a w→wpAny P .any ops Q f la a w
 | 0,_,_,_,h=>h
 | f+1,_,_,_,h=>⟨h.1,fun i hi=>wpOp_mono (fun a' w' h'=>zka f _ a' w' h'.2) (h.2 i hi)⟩
theorem zmz {i:Nat} {oi:Oper} {v:Value} (hi:ops[i]? = some oi) (hA:A.contains i=true) (hc:closedOk ops.toList bs=true) (hsel:∀(j:Nat) (o:Oper) cs b,ops[j]? = some o→o.op≠.select cs b)
  (hQ:∀c a w,¬Q (.panic c) a w) :
  ∀(fuel:Nat) (la:Array Bool) (a:Act) (w:World),JC ops bs la →
   (∀j oj,ops[j]? = some oj→j≠i→la.getD j true=false→(∀e∈oj.after,Region.binds .any e=true→e.on≠i)→oi.apart ops oj=true) →
   i∈Region.ready .any ops la→YieldsIf P ops (agree w1) oi v a→agree w1 w →
   wpAnyD P ops Q bs A w1 fuel (la.setIfInBounds i true) (a.put oi.dst v) w→wpAnyD P ops Q bs A w1 (fuel+1) la a w:=by
 intro fuel
 induction fuel with
 | zero =>
  intro la a w hJ _ hr hy hS H
  refine ⟨fun h=>(by rw [h] at hr; cases hr),fun j hj=>?_⟩
  by_cases hji:j=i
  ·subst hji; exact hy.wpOp hi hS ⟨fun _=>hS,H⟩
  ·have:=ready_mono hj hji
   rw [H.1] at this
   cases this
 | succ fuel ih =>
  intro la a w hJ hfree hr hy hS H
  refine ⟨fun h=>(by rw [h] at hr; cases hr),fun j hj=>?_⟩
  by_cases hji:j=i
  ·subst hji; exact hy.wpOp hi hS ⟨fun _=>hS,H⟩
  ·have h1:=H.2 j (ready_mono hj hji)
   have r:=rdy_of hc hJ hj
   have ri:=rdy_of hc hJ hr
   have hd:dem A bs j=true:=by
    cases hq:dem A bs j with
    | true=>rfl
    | false =>
     exfalso
     unfold dem at hq
     have hq:(A.all fun i=>Nat.blt i j&&pre bs j i)=true:=by simpa using hq
     rw [List.all_eq_true] at hq
     have:=hq i (by simpa using hA)
     simp only [Bool.and_eq_true] at this
     exact ri.no (r.all i (blt_lt this.1) this.2)
   have h1:wpOp P ops Q j (fun a' w'=>agree w1 w'∧(demO ops A bs j=true→agree w1 w')∧wpAnyD P ops Q bs A w1 fuel ((la.setIfInBounds i true).setIfInBounds j true) a' w') (a.put oi.dst v) w:=by
    cases hm:mvAt ops j with
    | true=>exact wpOp_mono (fun a' w' hh=>⟨by rw [hh.1]; exact hS,hh.2⟩) (zs6 hm h1)
    | false=>exact wpOp_mono (fun a' w' hh=>⟨hh.1 (by unfold demO; rw [hd,hm]; rfl),hh⟩) h1
   obtain ⟨hjun,oj,hoj,hall⟩:=mem_ready.1 hj
   have hnot:∀e∈oj.after,Region.binds .any e=true→e.on≠i:=fun e he hb heq=>by
    have h1:=hall e he hb
    have h0:=(mem_ready.1 hr).1
    rw [heq] at h1
    rcases Nat.lt_or_ge i la.size with h' | h'
    ·simp [h'] at h0 h1; rw [h0] at h1; cases h1
    ·simp [Array.getElem?_eq_none h'] at h1
   have h2:=wpOp_putIf hoj (hfree j oj hoj hji hjun hnot) (fun cs b=>hsel i oi cs b hi) (fun cs b=>hsel j oj cs b hoj) (fun c a w h=>absurd h (hQ c _ w)) hy h1
   have hfree':∀k ok,ops[k]? = some ok→k≠i→(la.setIfInBounds j true).getD k true=false →
     (∀e∈ok.after,Region.binds .any e=true→e.on≠i)→oi.apart ops ok=true:=fun k ok hk hki hun hno=>by
    refine hfree k ok hk hki ?_ hno
    by_cases hjk:j=k
    ·subst hjk; exact hjun
    ·rw [getD_set_ne true hjk] at hun; exact hun
   refine wpOp_mono (fun a' w' h3=>⟨fun _=>h3.2.1,ih (la.setIfInBounds j true) a' w' (hJ.next r) hfree' (ready_mono hr (Ne.symm hji)) h3.1 h3.2.1 ?_⟩) h2
   rw [Array.setIfInBounds_comm _ _ hji]
   exact h3.2.2.2
structure DC (P:Program) (H1:AH) (ls1:Lcs) (w1:World) (φ1:Inj) (cs1:List Nat):Prop where
 glob:Glob P φ1
 inv:Inv φ1 H1 w1
 loc:∀(i:Nat) c x,cs1[i]? = some c→ls1[i]? = some (some x)→∃rs,w1.heap[c]? = some (.cells rs x.1 (0,0))∧LR φ1 x.2 rs.toList
 len:cs1.length=ls1.length
structure Agr (m:Nat) (H1:AH) (w1:World) (cs1:List Nat) (φ:Inj) (w:World) (cs:List Nat):Prop where
 ag:agree w1 w
 jn:∀id l,Nat.max m H1.next≤id→φ id=some l→w1.heap.size≤l.blk
 nw:∀(i c:Nat),cs1.length≤i→cs[i]? = some c→w1.heap.size≤c
theorem zge {w1 w:World} (h:agree w1 w):w1.heap.size≤w.heap.size:=by
 rcases Nat.lt_or_ge w.heap.size w1.heap.size with hlt | h'
 ·have:=h w.heap.size hlt
  rw [Array.getElem?_eq_none (Nat.le_refl _),Array.getElem?_eq_getElem hlt] at this
  cases this
 ·exact h'
theorem Agr.start {φ:Inj} {H:AH} {w:World} {cs:List Nat} (hi:Inv φ H w):Agr m H w cs φ w cs :=
 ⟨agree.refl _,fun id l h1 h2=>by have:=(hi.dom id l h2).1; have:=Nat.le_max_right m H.next; have h1:max m H.next≤id:=h1; omega,fun i c h1 h2=>by rw [List.getElem?_eq_none h1] at h2; cases h2⟩
def KA (φ1:Inj) (cs1:List Nat) (knA:KN) (a:Act):Prop:=∀t kv,lkV knA t=some kv→KR φ1 cs1 kv (a.tmps.getD t undef)
def DA (P:Program) (ne:NE) (m:Nat) (E:Ent) (n:Nat) (ops:Array Oper) (bs A:List Nat) (H1:AH) (ls1:Lcs) (f:Nat) (la:Array Bool) (ag:Bool) (knA kn:KN) (ls:Lcs) (H:AH) (Q:Exit→Act→World→Prop):Prop :=
 ∀w1 φ1 cs1 a w φ cs,DC P H1 ls1 w1 φ1 cs1→φ1.le φ→SSφ P ne m E n kn ls H a w φ cs→KA φ1 cs1 knA a→(∀(i:Nat) (c:Nat),cs1[i]? = some c→cs[i]? = some c)→JC ops bs la→(ag=true→Agr m H1 w1 cs1 φ w cs)→wpAnyD P ops Q bs A w1 f la a w
def DAk (P:Program) (ne:NE) (m:Nat) (E:Ent) (n:Nat) (ops:Array Oper) (bs A:List Nat) (H1:AH) (ls1:Lcs) (k f:Nat) (la:Array Bool) (ag:Bool) (knA kn:KN) (ls:Lcs) (H:AH) (Q:Exit→Act→World→Prop):Prop :=
 ∀w1 φ1 cs1 a w φ cs,DC P H1 ls1 w1 φ1 cs1→φ1.le φ→SSφ P ne m E n kn ls H a w φ cs→KA φ1 cs1 knA a→(∀(i:Nat) (c:Nat),cs1[i]? = some c→cs[i]? = some c)→JC ops bs la→(ag=true→Agr m H1 w1 cs1 φ w cs) →
  wpOp P ops Q k (fun a' w'=>(demO ops A bs k=true→agree w1 w')∧wpAnyD P ops Q bs A w1 f (la.setIfInBounds k true) a' w') a w
section
variable {E:Ent} {knA kn:KN} {ls ls1:Lcs} {H H1:AH} {a:Act} {w:World} {φ φ1:Inj} {cs cs1:List Nat} {f k:Nat} {la:Array Bool} {ag:Bool}
theorem WS.drawn {c:Code} (ops:Array Oper) (A:List Nat) (hc:regOf c=some (ops,true)) (hB:closedOk ops.toList (befores ops.toList)=true) (h:DA P ne m E n ops (befores ops.toList) A H ls ops.size (Array.replicate ops.size false) true kn kn ls H Q):WS P ne m E n c kn ls H Q:=by
 cases c with
 | region id ops' d =>
  simp only [regOf,Option.some.injEq,Prod.mk.injEq] at hc
  obtain ⟨rfl,rfl⟩:=hc
  intro a w hs
  obtain ⟨φ,cs,hs⟩:=hs
  refine wp_region_any hs.sane.mixed ?_
  have hs':SSφ P ne m E n kn ls H a { w with drawn:=w.drawn+1 } φ cs :=
   ⟨hs.glob,⟨hs.inv.dom,hs.inv.obj,hs.inv.sep⟩,⟨hs.step.le,hs.step.ext,hs.step.new,hs.step.alv,hs.step.size,hs.step.keep,hs.step.os,hs.step.tape,hs.step.output⟩,hs.len,fun i c x h1 h2=>⟨(hs.loc i c x h1 h2).1,(hs.loc i c x h1 h2).2,(hs.loc i c x h1 h2).3⟩,hs.inj,hs.low,hs.slot,hs.size,hs.defers,hs.sane,hs.inv0⟩
  exact zka _ _ _ _ (h _ φ cs a _ φ cs ⟨hs'.glob,hs'.inv,fun i c x h1 h2=>(hs'.loc i c x h1 h2).2,hs'.len⟩ (Inj.le_refl φ) hs' (fun t kv hl=>hs'.slot t kv hl) (fun _ _ hc=>hc) ⟨by simp,fun i j hh=>by
   unfold LL at hh
   rw [Array.getD_eq_getD_getElem?,Array.getElem?_replicate] at hh
   split at hh <;> cases hh⟩ (fun _=>.start hs'.inv))
 | _=>cases hc
theorem DA.done (hr:readyIs ops la []=true) (h:∀a w,SS P ne m E n kn ls H a w→Q .normal a w):DA P ne m E n ops bs A H1 ls1 f la ag knA kn ls H Q:=by
 intro w1 φ1 cs1 a w φ cs _ _ hs _ _ _ _
 have hr:=z35 hr
 cases f with
 | zero=>exact ⟨hr,h a w ⟨φ,cs,hs⟩⟩
 | succ f=>exact ⟨fun _=>h a w ⟨φ,cs,hs⟩,by rw [hr]; simp⟩
theorem KA.put (h:KA φ1 cs1 knA a) {n:Nat} (hsz:n≤a.tmps.size) {d:Option Nat} (hd:(match d with | some a=>Nat.blt a n | none=>true)=true) {kv:KV} {v':Value} (hv:KR φ1 cs1 kv v'):KA φ1 cs1 (putV knA d kv) (a.put d v'):=by
 cases d with
 | none=>exact h
 | some d =>
  have hlt:d<a.tmps.size:=Nat.lt_of_lt_of_le (blt_lt hd) hsz
  intro t kv' hl
  simp only [putV,lkV] at hl
  simp only [Act.put]
  rw [Array.getD_eq_getD_getElem?,Array.getElem?_setIfInBounds]
  cases hb:Nat.beq d t with
  | true =>
   rw [hb] at hl
   have:=Nat.eq_of_beq_eq_true hb
   subst this
   cases hl
   rw [if_pos rfl,if_pos hlt]
   exact hv
  | false =>
   rw [hb] at hl
   rw [if_neg (Nat.ne_of_beq_eq_false hb),← Array.getD_eq_getD_getElem?]
   exact h t kv' hl
def dropV (d:Option Nat) (knA:KN):KN:=match d with
 | some d=>knA.filter fun p=>!(Nat.beq p.1 d)
 | none=>knA
theorem zrv {d:Nat}:∀{kn:KN} {t:Nat} {kv:KV},lkV (kn.filter fun p=>!(Nat.beq p.1 d)) t=some kv→t≠d∧lkV kn t=some kv:=by
 intro kn
 induction kn with
 | nil=>intro t kv h; cases h
 | cons p l ih =>
  obtain ⟨s,v⟩:=p
  intro t kv h
  rw [List.filter_cons] at h
  cases hq:Nat.beq s d with
  | true =>
   rw [hq] at h
   obtain ⟨h1,h2⟩:=ih (by simpa using h)
   refine ⟨h1,?_⟩
   simp only [lkV]
   have e:=Nat.eq_of_beq_eq_true hq
   cases hs:Nat.beq s t with
   | true=>exact absurd ((Nat.eq_of_beq_eq_true hs).symm.trans e) h1
   | false=>exact h2
  | false =>
   rw [hq] at h
   simp only [Bool.not_false,if_true,lkV] at h
   simp only [lkV]
   cases hs:Nat.beq s t with
   | true =>
    rw [hs] at h
    have e:=Nat.eq_of_beq_eq_true hs
    subst e
    exact ⟨Nat.ne_of_beq_eq_false hq,h⟩
   | false=>rw [hs] at h; exact ih h
theorem KA.drop (h:KA φ1 cs1 knA a) (d:Option Nat) (v':Value):KA φ1 cs1 (dropV d knA) (a.put d v'):=by
 cases d with
 | none=>exact h
 | some d =>
  intro t kv hl
  obtain ⟨h1,h2⟩:=zrv hl
  simp only [Act.put]
  rw [Array.getD_eq_getD_getElem?,Array.getElem?_setIfInBounds,if_neg (fun e=>h1 e.symm),← Array.getD_eq_getD_getElem?]
  exact h t kv h2
def takeB (P:Program) (n:Nat) (ops:Array Oper) (A:List Nat) (la:Array Bool) (k:Nat) (o:Oper):Bool :=
 A.contains k&&Region.noSelect ops&&Region.free .any ops la k&&(Region.ready .any ops la).contains k&&dstV n o
theorem evalA_ (h:KA φ1 cs1 knA a) (hg:Glob P φ1) {x:Operand} (hk:knownV knA x=true) (hx:okx P x=true):VR φ1 (evV knA x) (a.eval x):=by
 cases x with
 | tmp t =>
  simp only [knownV] at hk
  simp only [evV]
  cases hl:lkV knA t with
  | none=>rw [hl] at hk; cases hk
  | some kv =>
   cases kv with
   | val v=>exact h t _ hl
   | loc i off=>rw [hl] at hk; cases hk
   | sli i n=>rw [hl] at hk; cases hk
 | const v=>exact zi depth hx
 | global g =>
  have hlt:g<P.globals.size:=blt_lt hx
  obtain ⟨l,h1,h2,h3⟩:=hg g hlt
  have:=VR.ptr (φ:=φ1) g 0 l h1
  rw [h2,h3] at this
  exact this
 | func f=>exact .func (.func f) #[] #[] #[] #[] rfl rfl (fun i x y hx=>by simp at hx) (fun i x y hx=>by simp at hx)
theorem zib (ho:ops[k]? = some (opAt ops k)) (hB:takeB P n ops A la k (opAt ops k)=true) (hc:closedOk ops.toList bs=true) (hQ:∀c a w,¬Q (.panic c) a w) {kv:KV} {w1:World}
  (hd:DC P H1 ls1 w1 φ1 cs1) (hle:φ1.le φ) (hs:SSφ P ne m E n kn ls H a w φ cs) (hka:KA φ1 cs1 knA a) (hpf:∀(i:Nat) (c:Nat),cs1[i]? = some c→cs[i]? = some c) (hJ:JC ops bs la) (hag:Agr m H1 w1 cs1 φ w cs) {v':Value} (hkr:KR φ1 cs1 kv v') (hkr2:KR φ cs kv v') (hy:YieldsIf P ops (agree w1) (opAt ops k) v' a)
  (h:DA P ne m E n ops bs A H1 ls1 f (la.setIfInBounds k true) true (putV knA (opAt ops k).dst kv) (putV kn (opAt ops k).dst kv) ls H Q):wpAnyD P ops Q bs A w1 (f+1) la a w:=by
 unfold takeB at hB
 simp only [Bool.and_eq_true] at hB
 obtain ⟨⟨⟨⟨b1,b2⟩,b3⟩,b4⟩,b5⟩:=hB
 have hr:k∈Region.ready .any ops la:=by simpa using b4
 refine zmz ho b1 hc (Region.noSelect_spec b2) hQ f la a w hJ (Region.free_spec ho b3) hr hy hag.ag ?_
 exact h w1 φ1 cs1 _ w φ cs hd hle (hs.put b5 hkr2) (hka.put hs.size b5 hkr) hpf (hJ.next (rdy_of hc hJ hr)) (fun _=>hag)
theorem DA.take {v:Value} (ho:ops[k]? = some (opAt ops k)) (hB:takeB P n ops A la k (opAt ops k)=true) (hc:closedOk ops.toList bs=true) (hQ:∀c a w,¬Q (.panic c) a w)
  (hw:(wantV ops kn (opAt ops k),(opAt ops k).op.operands.all (okx P),(opAt ops k).op.operands.all (knownV knA))=(some true,true,true)) (hv:detOp P H1 (opAt ops k) (evV knA)=some v)
  (h:DA P ne m E n ops bs A H1 ls1 f (la.setIfInBounds k true) true (putV knA (opAt ops k).dst (.val v)) (putV kn (opAt ops k).dst (.val v)) ls H Q):DA P ne m E n ops bs A H1 ls1 (f+1) la true knA kn ls H Q:=by
 intro w1 φ1 cs1 a w φ cs hd hle hs hka hpf hJ hag
 simp only [Prod.mk.injEq] at hw
 obtain ⟨hw1,hw2,hw3⟩:=hw
 rw [Array.all_eq_true_iff_forall_mem] at hw2 hw3
 obtain ⟨v',h1,h2⟩:=zrb (ρ':=a.eval) hd.inv (fun x hx=>evalA_ hka hd.glob (hw3 x hx) (hw2 x hx)) hv
 exact zib ho hB hc hQ hd hle hs hka hpf hJ (hag rfl) (kv:=.val v) h1 (h1.mono hle) (.inl ⟨z29 hs hw1,h2⟩) h
theorem DA.tskip (ho:ops[k]? = some (opAt ops k)) (hB:takeB P n ops A la k (opAt ops k)=true) (hc:closedOk ops.toList bs=true) (hQ:∀c a w,¬Q (.panic c) a w) (hw:wantV ops kn (opAt ops k)=some false)
  (h:DA P ne m E n ops bs A H1 ls1 f (la.setIfInBounds k true) true (putV knA (opAt ops k).dst (.val undef)) (putV kn (opAt ops k).dst (.val undef)) ls H Q):DA P ne m E n ops bs A H1 ls1 (f+1) la true knA kn ls H Q:=by
 intro w1 φ1 cs1 a w φ cs hd hle hs hka hpf hJ hag
 exact zib ho hB hc hQ hd hle hs hka hpf hJ (hag rfl) (kv:=.val undef) (v':=undef) (z2o _) (z2o _) (.inr ⟨z29 hs hw,rfl⟩) h
def locDet (P:Program) (knA:KN) (ls1:Lcs) (o:Oper):Option KV :=
 match o.op with
 | .move _ | .assign _ | .nilCheck _ | .fieldAddr .. | .load ..=>(locOp P knA ls1 o).map (·.1)
 | _=>none
theorem zlx {o:Oper} {kv:KV} (h:locDet P knA ls1 o=some kv) (hd:DC P H1 ls1 w1 φ1 cs1) (hka:KA φ1 cs1 knA a):∃v',KR φ1 cs1 kv v'∧∀w,agree w1 w→(execOp a.eval o).run P w=.ok (.value v') w:=by
 unfold locDet at h
 have hl:∃ls',locOp P knA ls1 o=some (kv,ls'):=by
  split at h
  all_goals first | (cases hq:locOp P knA ls1 o with | none=>rw [hq] at h; cases h | some p=>obtain ⟨x,y⟩:=p; rw [hq] at h; simp only [Option.map_some,Option.some.injEq] at h; subst h; exact ⟨y,rfl⟩) | cases h
 obtain ⟨ls',hl⟩:=hl
 obtain ⟨dst,op,ty,pos,after,guard⟩:=o
 unfold locOp at hl
 simp only at hl h
 split at hl
 ·rename_i t
  split at hl
  ·rename_i i off hk
   simp only [Option.some.injEq,Prod.mk.injEq] at hl
   obtain ⟨rfl,rfl⟩:=hl
   exact ⟨a.tmps.getD t undef,hka t _ hk,fun w _=>rfl⟩
  ·cases hl
 ·rename_i t
  split at hl
  ·rename_i i off hk
   simp only [Option.some.injEq,Prod.mk.injEq] at hl
   obtain ⟨rfl,rfl⟩:=hl
   exact ⟨a.tmps.getD t undef,hka t _ hk,fun w _=>rfl⟩
  ·cases hl
 ·rename_i t
  split at hl
  ·rename_i i off hk
   simp only [Option.some.injEq,Prod.mk.injEq] at hl
   obtain ⟨rfl,rfl⟩:=hl
   refine ⟨a.tmps.getD t undef,hka t _ hk,fun w _=>?_⟩
   obtain ⟨c,h1,h2⟩:=hka t _ hk
   have:a.eval (.tmp t)=.pointer (some ⟨c,off,none⟩):=h2
   simp only [execOp,this]
   rw [h2]; rfl
  ·cases hl
 ·rename_i s t f
  split at hl
  ·rename_i i off fs hk hu
   cases hf:fs[f]? with
   | none=>rw [hf] at hl; cases hl
   | some fd =>
    rw [hf] at hl
    simp only at hl
    cases hi:P.info? fd.type with
    | none=>rw [hi] at hl; cases hl
    | some inf =>
     rw [hi] at hl
     simp only at hl
     cases hz:Nat.beq inf.size 0 with
     | true=>rw [hz] at hl; cases hl
     | false =>
      rw [hz] at hl
      simp only [cond_false,Option.some.injEq,Prod.mk.injEq] at hl
      obtain ⟨rfl,rfl⟩:=hl
      obtain ⟨c,h1,h2⟩:=hka t _ hk
      have he:a.eval (.tmp t)=.pointer (some ⟨c,off,none⟩):=h2
      refine ⟨.pointer (some ⟨c,off+fd.offset,none⟩),⟨c,h1,rfl⟩,fun w _=>?_⟩
      have hne:=Nat.ne_of_beq_eq_false hz
      have hrun:(Instr.fieldAt s (.pointer (some ⟨c,off,none⟩)) f).run P w=.ok (.pointer (some ⟨c,off+fd.offset,none⟩)) w:=by
       simp only [Instr.fieldAt,Sem.run_bind,z7 hu,Result.andThen_ok,hf,Instr.sureAddr,Sem.run_pure,fieldPlace,z14 hi]
       rw [if_neg hne]
       simp only [Sem.run_pure,Result.andThen_ok,Addr.add_lit]
      simp only [execOp,he,Sem.run_bind,hrun,Result.andThen_ok]
      rfl
  ·cases hl
 ·rename_i t x
  split at hl
  ·rename_i i off d inf hk hu hi
   split at hl
   ·rename_i e cells hc
    obtain ⟨c,h1,h2⟩:=hka x _ hk
    obtain ⟨rs,g2,g3⟩:=hd.loc i c _ h1 hc
    have he:a.eval (.tmp x)=.pointer (some ⟨c,off,none⟩):=h2
    have hlen:=LR.length g3
    simp only at hlen g3
    have hlt:c<w1.heap.size:=by rw [Array.getElem?_eq_some_iff] at g2; exact g2.1
    have hagg:∀w,(isAgg t).run P w=.ok (isAggD d) w:=by
     intro w
     simp only [isAgg,Sem.run_bind,z7 hu,Result.andThen_ok]
     cases d <;> rfl
    have hex:∀w v,(loadVar t ⟨c,off,none⟩).run P w=.ok v w→(execOp a.eval ⟨dst,.load t (.tmp x),ty,pos,after,guard⟩).run P w=.ok (.value v) w:=by
     intro w v hr
     simp only [execOp,he,Instr.loadAt,Instr.sureAddr,Sem.run_bind,Sem.run_pure,Result.andThen_ok,hr]
    have hcell:∀w,agree w1 w→∀(j:Nat) u,rs[off+j]? = some u→w.cell? ((⟨c,off,none⟩:Addr).add j)=some u:=by
     intro w hag j u hu
     rw [Addr.add_lit]
     simp [World.cell?,hag c hlt,g2,hu]
    cases hda:isAggD d with
    | true =>
     rw [hda] at hl
     simp only [cond_true] at hl
     cases hb:Nat.ble (off+inf.size) cells.length with
     | false=>rw [hb] at hl; cases hl
     | true =>
      rw [hb] at hl
      simp only [cond_true,Option.some.injEq,Prod.mk.injEq] at hl
      obtain ⟨rfl,rfl⟩:=hl
      have hble:=Nat.le_of_ble_eq_true hb
      have hls:((rs.toList.drop off).take inf.size).length=inf.size:=by simp at hlen ⊢; omega
      refine ⟨.agg ((rs.toList.drop off).take inf.size).toArray,?_,fun w hag=>hex w _ ?_⟩
      ·have hpw:AR φ1 ((cells.drop off).take inf.size).toArray ((rs.toList.drop off).take inf.size).toArray:=by
        refine ⟨by simp at hlen ⊢; omega,fun j u v hu hv=>?_⟩
        have hA:=AR_iff.2 (show LR φ1 cells.toArray.toList rs.toList by simpa using g3)
        rw [List.getElem?_toArray,List.getElem?_take] at hu hv
        split at hu
        ·rename_i hj
         rw [if_pos hj,List.getElem?_drop] at hv
         rw [List.getElem?_drop] at hu
         exact hA.2 (off+j) u v (by simpa using hu) (by simpa using hv)
        ·cases hu
       exact .agg _ _ hpw.1 hpw.2
      ·have hrun:=run_loadCells_list (P:=P) w ⟨c,off,none⟩ ((rs.toList.drop off).take inf.size) (fun j u hu=>by
        rw [List.getElem?_take] at hu
        split at hu
        ·rw [List.getElem?_drop] at hu
         exact hcell w hag j u (by simpa using hu)
        ·cases hu)
       rw [hls] at hrun
       simp only [loadVar,Sem.run_bind,hagg w,Result.andThen_ok,hda,if_true,z14 hi,hrun,Sem.run_pure]
    | false =>
     rw [hda] at hl
     simp only [cond_false] at hl
     cases hv:cells[off]? with
     | none=>rw [hv] at hl; cases hl
     | some v =>
      rw [hv] at hl
      simp only [Option.some.injEq,Prod.mk.injEq] at hl
      obtain ⟨rfl,rfl⟩:=hl
      have hA:=AR_iff.2 (show LR φ1 cells.toArray.toList rs.toList by simpa using g3)
      obtain ⟨v',hv',hvr⟩:=hA.get (show cells.toArray[off]? = some v by simpa using hv)
      refine ⟨v',hvr,fun w hag=>hex w _ ?_⟩
      have h0:=hcell w hag 0 v' (by simpa using hv')
      have e0:(⟨c,off,none⟩:Addr).add 0=⟨c,off,none⟩:=rfl
      rw [e0] at h0
      simp only [loadVar,Sem.run_bind,hagg w,hda,Result.andThen_ok,Bool.false_eq_true,if_false]
      simp [h0]
   ·cases hl
  ·cases hl
 all_goals first | (simp only [reduceCtorEq] at h; done) | (cases hl; done)
theorem KR.pfx {kv:KV} {v':Value} (hle:φ1.le φ) (hpf:∀(i:Nat) (c:Nat),cs1[i]? = some c→cs[i]? = some c) (h:KR φ1 cs1 kv v'):KR φ cs kv v':=by
 cases kv with
 | val v=>exact VR.mono hle h
 | loc i off =>
  obtain ⟨c,h1,h2⟩:=h
  exact ⟨c,hpf i c h1,h2⟩
 | sli i n =>
  obtain ⟨⟨c,h1,h2⟩,h3⟩:=h
  exact ⟨⟨c,hpf i c h1,h2⟩,h3⟩
theorem DA.takeL {kv:KV} (ho:ops[k]? = some (opAt ops k)) (hB:takeB P n ops A la k (opAt ops k)=true) (hc:closedOk ops.toList bs=true) (hQ:∀c a w,¬Q (.panic c) a w) (hw:wantV ops kn (opAt ops k)=some true) (hv:locDet P knA ls1 (opAt ops k)=some kv)
  (h:DA P ne m E n ops bs A H1 ls1 f (la.setIfInBounds k true) true (putV knA (opAt ops k).dst kv) (putV kn (opAt ops k).dst kv) ls H Q):DA P ne m E n ops bs A H1 ls1 (f+1) la true knA kn ls H Q:=by
 intro w1 φ1 cs1 a w φ cs hd hle hs hka hpf hJ hag
 obtain ⟨v',h1,h2⟩:=zlx hv hd hka
 exact zib ho hB hc hQ hd hle hs hka hpf hJ (hag rfl) (kv:=kv) h1 (h1.pfx hle hpf) (.inl ⟨z29 hs hw,h2⟩) h
theorem zr9 {m2:Nat} {g:Nat} {args:Array Value} {v:Value} {H':AH} {o:Oper} (hs:SSφ P ne m E n kn ls H a w φ cs) (hx:o.op.operands.all (okx P)=true) (hkn:o.op.operands.all (knownV kn)=true) (hc:callV kn o=some (g,args)) (hr:CallS P ne m2 g args H v H')
  {K:Act→World→Prop} (hn:∀φ' v' w',VR φ' v v'→Inv φ' H' w'→Step m2 φ H w φ' H' w'→K (a.put o.dst v') w'):o.wp P a w K Q:=by
 rw [Array.all_eq_true_iff_forall_mem] at hkn hx
 have hev:∀x∈o.op.operands,VR φ (evV kn x) (a.eval x):=fun x hxm=>hs.eval (hkn x hxm) (hx x hxm)
 obtain ⟨⟨fn,c,hf,hb⟩,hr⟩:=hr hs.sane
 obtain ⟨dst,op,ty,pos,after,guard⟩:=o
 unfold callV at hc
 simp only at hc hev hn
 split at hc
 ·rename_i g args0 ts
  have hgv:=hev g (by simp [Op.operands,Call.operands])
  have hargs:AR φ (args0.map (evV kn)) (args0.map a.eval):=ar_map args0 fun x hx=>hev x (by simp [Op.operands,Call.operands,hx])
  split at hc
  ·rename_i f0 first cap hge
   simp only [Option.some.injEq,Prod.mk.injEq] at hc
   obtain ⟨rfl,rfl⟩:=hc
   rw [hge] at hgv
   generalize hq:a.eval g=q at hgv
   cases hgv with
   | func fn' f1 g1 f1' g1' hf1 hg1 i1 i2 =>
    have hall:AR φ (first++args0.map (evV kn)++cap) (f1'++args0.map a.eval++g1'):=((AR.append ⟨hf1,i1⟩ hargs).append ⟨hg1,i2⟩)
    show Oper.upon P _ a K Q _
    have hex:execOp a.eval { dst:=dst,op:=.call { callee:=.value g,args:=args0,argTypes:=ts },type:=ty,pos:=pos,after:=after,guard:=guard }=callFunc f0 (f1'++args0.map a.eval++g1'):=by
     simp only [execOp,resolve,hq]; rfl
    rw [hex,z2c hs.sane hf hb]
    exact z64 (hr φ w _ hs.glob hall hs.inv) hn
  ·cases hc
 ·cases hc
theorem agree.trans' {w1 w w':World} (h1:agree w1 w) (h2:agree w w'):agree w1 w':=fun c hc=>by
 have hlt:c<w.heap.size:=by
  have:=h1 c hc
  rw [Array.getElem?_eq_getElem hc] at this
  rw [Array.getElem?_eq_some_iff] at this
  exact this.1
 rw [h2 c hlt,h1 c hc]
theorem zg6 (ho:ops[k]? = some (opAt ops k)) {w1:World} (hs:SSφ P ne m E n kn ls H a w φ cs) (hw:wantV ops kn (opAt ops k)=some true)
  (h:∀K:Act→World→Prop,(∀a' w',(demO ops A bs k=true→agree w1 w')∧wpAnyD P ops Q bs A w1 f (la.setIfInBounds k true) a' w'→K a' w')→(opAt ops k).wp P a w K Q) :
  wpOp P ops Q k (fun a' w'=>(demO ops A bs k=true→agree w1 w')∧wpAnyD P ops Q bs A w1 f (la.setIfInBounds k true) a' w') a w:=by
 unfold wpOp
 rw [ho]
 simp only [z29 hs hw,if_true]
 left
 exact h _ fun a' w' hh=>hh
theorem zis (hr:(Region.ready .any ops la).contains k=true) (hc:closedOk ops.toList bs=true) (hJ:JC ops bs la):JC ops bs (la.setIfInBounds k true) :=
 hJ.next (rdy_of hc hJ (by simpa using hr))
theorem DA.one (k:Nat) (hr:readyIs ops la [k]=true) (h:DAk P ne m E n ops bs A H1 ls1 k f la ag knA kn ls H Q):DA P ne m E n ops bs A H1 ls1 (f+1) la ag knA kn ls H Q:=by
 intro w1 φ1 cs1 a w φ cs q1 q2 q3 q4 q5 q6 q7
 have hr:=z35 hr
 refine ⟨fun h0=>(by rw [hr] at h0; cases h0),fun i hi=>?_⟩
 rw [hr] at hi
 simp only [List.mem_cons,List.not_mem_nil,or_false] at hi
 subst hi
 exact h w1 φ1 cs1 a w φ cs q1 q2 q3 q4 q5 q6 q7
theorem DA.two (k k2:Nat) (hr:readyIs ops la [k,k2]=true) (h:DAk P ne m E n ops bs A H1 ls1 k f la ag knA kn ls H Q) (h2:DAk P ne m E n ops bs A H1 ls1 k2 f la ag knA kn ls H Q):DA P ne m E n ops bs A H1 ls1 (f+1) la ag knA kn ls H Q:=by
 intro w1 φ1 cs1 a w φ cs q1 q2 q3 q4 q5 q6 q7
 have hr:=z35 hr
 refine ⟨fun h0=>(by rw [hr] at h0; cases h0),fun i hi=>?_⟩
 rw [hr] at hi
 simp only [List.mem_cons,List.not_mem_nil,or_false] at hi
 rcases hi with rfl | rfl
 ·exact h w1 φ1 cs1 a w φ cs q1 q2 q3 q4 q5 q6 q7
 ·exact h2 w1 φ1 cs1 a w φ cs q1 q2 q3 q4 q5 q6 q7
theorem DA.three (k k2 k3:Nat) (hr:readyIs ops la [k,k2,k3]=true) (h:DAk P ne m E n ops bs A H1 ls1 k f la ag knA kn ls H Q) (h2:DAk P ne m E n ops bs A H1 ls1 k2 f la ag knA kn ls H Q) (h3:DAk P ne m E n ops bs A H1 ls1 k3 f la ag knA kn ls H Q):DA P ne m E n ops bs A H1 ls1 (f+1) la ag knA kn ls H Q:=by
 intro w1 φ1 cs1 a w φ cs q1 q2 q3 q4 q5 q6 q7
 have hr:=z35 hr
 refine ⟨fun h0=>(by rw [hr] at h0; cases h0),fun i hi=>?_⟩
 rw [hr] at hi
 simp only [List.mem_cons,List.not_mem_nil,or_false] at hi
 rcases hi with rfl | rfl | rfl
 ·exact h w1 φ1 cs1 a w φ cs q1 q2 q3 q4 q5 q6 q7
 ·exact h2 w1 φ1 cs1 a w φ cs q1 q2 q3 q4 q5 q6 q7
 ·exact h3 w1 φ1 cs1 a w φ cs q1 q2 q3 q4 q5 q6 q7
theorem zoh {w2:World} {A':List Nat} (hA:∀i,la.getD i true=false→demO ops A bs i=true→demO ops A' bs i=true∧agree w1 w2):∀(f:Nat) {la:Array Bool} {a:Act} {w:World},(∀i,la.getD i true=false→demO ops A bs i=true→demO ops A' bs i=true∧agree w1 w2)→wpAnyD P ops Q bs A' w2 f la a w→wpAnyD P ops Q bs A w1 f la a w:=by
 intro f
 induction f with
 | zero=>intro la a w _ h; exact h
 | succ f ih =>
  intro la a w hA h
  refine ⟨h.1,fun i hi=>wpOp_mono (fun a' w' hh=>⟨fun hd=>?_,ih (fun j hj hd=>hA j ?_ hd) hh.2⟩) (h.2 i hi)⟩
  ·have hun:la.getD i true=false:=by
    have h0:=(mem_ready.1 hi).1
    have hlt:i<la.size:=by
     rcases Nat.lt_or_ge i la.size with h' | h'
     ·exact h'
     ·simp [Array.getElem?_eq_none h'] at h0
    simpa [hlt] using h0
   obtain ⟨q1,q2⟩:=hA i hun hd
   exact q2.trans' (hh.1 q1)
  ·by_cases e:i=j
   ·subst e
    rcases Nat.lt_or_ge i la.size with h' | h'
    ·simp [h'] at hj
    ·have:(la.setIfInBounds i true)=la:=by rw [Array.setIfInBounds]; simp [Nat.not_lt.2 h']
     rw [this] at hj; exact hj
   ·rwa [getD_set_ne true e] at hj
def restB (ops:Array Oper) (A A' bs:List Nat) (la:Array Bool) (ag:Bool):Bool :=
 (List.range la.size).all fun i=>la.getD i true||!demO ops A bs i||(ag&&demO ops A' bs i)
theorem DA.restart (A':List Nat) (hA:restB ops A A' bs la ag=true) (h:DA P ne m E n ops bs A' H ls f la true kn kn ls H Q):DA P ne m E n ops bs A H1 ls1 f la ag knA kn ls H Q:=by
 intro w1 φ1 cs1 a w φ cs q1 q2 q3 q4 q5 q6 q7
 have hw:=h w φ cs a w φ cs ⟨q3.glob,q3.inv,fun i c x h1 h2=>(q3.loc i c x h1 h2).2,q3.len⟩ (Inj.le_refl φ) q3 (fun t kv hl=>q3.slot t kv hl) (fun _ _ hc=>hc) q6 (fun _=>.start q3.inv)
 have hh:∀i,la.getD i true=false→demO ops A bs i=true→demO ops A' bs i=true∧agree w1 w:=by
  intro i hi hd
  unfold restB at hA
  rw [List.all_eq_true] at hA
  have hlt:i<la.size:=by
   rcases Nat.lt_or_ge i la.size with h' | h'
   ·exact h'
   ·simp [Array.getElem?_eq_none h'] at hi
  have:=hA i (by simpa using hlt)
  rw [hi,hd] at this
  simp only [Bool.not_true,Bool.or_false,Bool.false_or,Bool.and_eq_true] at this
  exact ⟨this.2,(q7 this.1).ag⟩
 exact zoh hh f hh hw
theorem DA.actL {kv:KV} {ls':Lcs} (ag':Bool) (ho:ops[k]? = some (opAt ops k)) (hr:(Region.ready .any ops la).contains k=true) (hc:closedOk ops.toList bs=true) (hw:wantV ops kn (opAt ops k)=some true) (hd:dstV n (opAt ops k)=true) (hl:locOp P kn ls (opAt ops k)=some (kv,ls'))
  (ha:((!demO ops A bs k||(ag&&notStore (opAt ops k)))&&(!ag'||(ag&&notStore (opAt ops k))))=true)
  (h:DA P ne m E n ops bs A H1 ls1 f (la.setIfInBounds k true) ag' (dropV (opAt ops k).dst knA) (putV kn (opAt ops k).dst kv) ls' H Q):DAk P ne m E n ops bs A H1 ls1 k f la ag knA kn ls H Q:=by
 intro w1 φ1 cs1 a w φ cs hd1 hle hs hka hpf hJ hag
 refine zg6 ho hs hw fun K hK=>?_
 refine zn0 hs hl hd fun v' w' cs' hs' hpf' hnw' hag'=>hK _ _ ?_
 have hkeep:(ag&&notStore (opAt ops k))=true→Agr m H1 w1 cs1 φ w' cs':=fun hh=>by
  rw [Bool.and_eq_true] at hh
  obtain ⟨h1,h2,h3⟩:=hag hh.1
  refine ⟨h1.trans' (hag' hh.2),h2,fun i c hi hc=>?_⟩
  rcases Nat.lt_or_ge i cs.length with hlt | hge
  ·rw [hpf' i cs[i] (List.getElem?_eq_getElem hlt)] at hc
   cases hc
   exact h3 i _ hi (List.getElem?_eq_getElem hlt)
  ·exact Nat.le_trans (zge h1) (hnw' i c hge hc)
 rw [Bool.and_eq_true] at ha
 refine ⟨fun hdm=>(hkeep (by have:=ha.1; rw [hdm] at this; simpa using this)).ag,h w1 φ1 cs1 _ _ φ cs' hd1 hle hs' (hka.drop _ _) (fun i c hc=>hpf' i c (hpf i c hc)) (zis hr hc hJ) fun hag2=>hkeep (by have:=ha.2; rw [hag2] at this; simpa using this)⟩
theorem zly {φ φ':Inj} {H H':AH} {w w':World} {m m2:Nat} (hm:m≤m2) (h:Step m2 φ H w φ' H' w'):Step m φ H w φ' H' w' :=
 ⟨h.le,h.ext,fun id l h1 h2=>⟨(h.new id l h1 h2).1,(h.new id l h1 h2).2.imp (fun q=>q) fun ⟨id0,l0,q1,q2⟩=>⟨id0,l0,Nat.le_trans hm q1,q2⟩⟩,h.alv,h.size,fun c hc hno=>h.keep c hc fun id l hid=>hno id l (Nat.le_trans hm hid),h.os,h.tape,h.output⟩
theorem Agr.step {w1:World} {φ':Inj} {H':AH} {w':World} {m2:Nat} (h:Agr m H1 w1 cs1 φ w cs) (hi:Inv φ H w) (hm:m≤m2) (hm2:H.next≤m2∨H1.next≤m2) (hst:Step m2 φ H w φ' H' w'):Agr m H1 w1 cs1 φ' w' cs:=by
 have hsz:=zge h.ag
 have key:∀id l,m2≤id→φ id=some l→w1.heap.size≤l.blk:=fun id l h1 h2=>by
  rcases hm2 with h3 | h3
  ·have:=(hi.dom id l h2).1; omega
  ·exact h.jn id l (Nat.max_le.2 ⟨by omega,by omega⟩) h2
 refine ⟨fun c hc=>?_,fun id l h1 h2=>?_,h.nw⟩
 ·rw [hst.keep c (Nat.lt_of_lt_of_le hc hsz) fun id l hid _ hl e=>by have:=key id l hid hl; omega]
  exact h.ag c hc
 ·cases hq:φ id with
  | some l0 =>
   have:=hst.ext _ _ hq
   rw [h2] at this; cases this
   exact h.jn id l h1 hq
  | none =>
   rcases (hst.new id l h2 hq).2 with h3 | ⟨id0,l0,h3,_,h4,h5⟩
   ·omega
   ·rw [← h5]; exact key id0 l0 h3 h4
theorem DA.actH (m2:Nat) (ag':Bool) {v:Value} {H':AH} (ho:ops[k]? = some (opAt ops k)) (hr:(Region.ready .any ops la).contains k=true) (hc:closedOk ops.toList bs=true) (hB:opV P n ops kn (opAt ops k)=true) (hv:runOp P (NE.plain 0) ih0 m2 (opAt ops k) (evV kn) H=some (v,H')) (hn:noCall (opAt ops k)=true)
  (hm:m≤m2) (hm2:(demO ops A bs k||ag')=true→H.next≤m2∨H1.next≤m2) (ha:((!demO ops A bs k||ag)&&(!ag'||ag))=true)
  (h:DA P ne m E n ops bs A H1 ls1 f (la.setIfInBounds k true) ag' (dropV (opAt ops k).dst knA) (putV kn (opAt ops k).dst (.val v)) ls H' Q):DAk P ne m E n ops bs A H1 ls1 k f la ag knA kn ls H Q:=by
 intro w1 φ1 cs1 a w φ cs hd1 hle hs hka hpf hJ hag
 unfold opV at hB
 simp only [Bool.and_eq_true] at hB
 obtain ⟨⟨⟨hg,hx⟩,hkn⟩,hd⟩:=hB
 rw [Array.all_eq_true_iff_forall_mem] at hkn hx
 have hw:wantV ops kn (opAt ops k)=some true:=by
  split at hg
  ·assumption
  ·cases hg
 refine zg6 ho hs hw fun K hK=>?_
 have hr':runOp P ne ih0 m2 (opAt ops k) (evV kn) H=some (v,H'):=by
  rw [← hv]
  generalize opAt ops k=o at hn
  obtain ⟨dst,op,ty,pos,after,guard⟩:=o
  unfold runOp
  cases op with
  | call c =>
   obtain ⟨callee,args,ts⟩:=c
   cases callee with
   | value g=>cases hn
   | _=>rfl
  | _=>rfl
 refine z7l hs.sane zjs hr' hs.glob (fun x hxm=>hs.eval (hkn x hxm) (hx x hxm)) hs.inv fun φ' v' w' h1 h2 h3=>?_
 have hkeep:(demO ops A bs k||ag')=true→ag=true→Agr m H1 w1 cs1 φ' w' cs:=fun hh hag2=>(hag hag2).step hs.inv hm (hm2 hh) h3
 rw [Bool.and_eq_true] at ha
 refine hK _ _ ⟨fun hdm=>(hkeep (by rw [hdm]; rfl) (by have:=ha.1; rw [hdm] at this; simpa using this)).ag,h w1 φ1 cs1 _ _ φ' cs hd1 (fun id l hl=>h3.ext _ _ (hle _ _ hl)) ((hs.heap h2 (zly hm h3)).put hd h1) (hka.drop _ _) hpf (zis hr hc hJ) fun hag2=>hkeep (by rw [hag2,Bool.or_true]) (by have:=ha.2; rw [hag2] at this; simpa using this)⟩
theorem DA.actC (m2:Nat) (ag':Bool) {v:Value} {H':AH} (g:Nat) (args:Array Value) (ho:ops[k]? = some (opAt ops k)) (hr:(Region.ready .any ops la).contains k=true) (hc:closedOk ops.toList bs=true) (hB:opV P n ops kn (opAt ops k)=true) (hcl:callV kn (opAt ops k)=some (g,args)) (hcs:CallS P ne m2 g args H v H')
  (hm:m≤m2) (hm2:(demO ops A bs k||ag')=true→H.next≤m2∨H1.next≤m2) (ha:((!demO ops A bs k||ag)&&(!ag'||ag))=true)
  (h:DA P ne m E n ops bs A H1 ls1 f (la.setIfInBounds k true) ag' (dropV (opAt ops k).dst knA) (putV kn (opAt ops k).dst (.val v)) ls H' Q):DAk P ne m E n ops bs A H1 ls1 k f la ag knA kn ls H Q:=by
 intro w1 φ1 cs1 a w φ cs hd1 hle hs hka hpf hJ hag
 unfold opV at hB
 simp only [Bool.and_eq_true] at hB
 obtain ⟨⟨⟨hg,hx⟩,hkn⟩,hd⟩:=hB
 have hw:wantV ops kn (opAt ops k)=some true:=by
  split at hg
  ·assumption
  ·cases hg
 refine zg6 ho hs hw fun K hK=>?_
 refine zr9 hs hx hkn hcl hcs fun φ' v' w' h1 h2 h3=>?_
 have hkeep:(demO ops A bs k||ag')=true→ag=true→Agr m H1 w1 cs1 φ' w' cs:=fun hh hag2=>(hag hag2).step hs.inv hm (hm2 hh) h3
 rw [Bool.and_eq_true] at ha
 refine hK _ _ ⟨fun hdm=>(hkeep (by rw [hdm]; rfl) (by have:=ha.1; rw [hdm] at this; simpa using this)).ag,h w1 φ1 cs1 _ _ φ' cs hd1 (fun id l hl=>h3.ext _ _ (hle _ _ hl)) ((hs.heap h2 (zly hm h3)).put hd h1) (hka.drop _ _) hpf (zis hr hc hJ) fun hag2=>hkeep (by rw [hag2,Bool.or_true]) (by have:=ha.2; rw [hag2] at this; simpa using this)⟩
theorem DA.fix (t:Nat) {b:Bool} (d:Bool) (hb:b=d) (hl:lkV kn t=some (.val (.bool b))) (h:DA P ne m E n ops bs A H1 ls1 f la ag ((t,.val (.bool d)) :: knA) ((t,.val (.bool d)) :: kn) ls H Q):DA P ne m E n ops bs A H1 ls1 f la ag knA kn ls H Q:=by
 subst hb
 intro w1 φ1 cs1 a w φ cs hd1 hle hs hka hpf hJ hag
 have hv:VR φ (.bool b) (a.tmps.getD t undef):=hs.slot t _ hl
 have hv1:VR φ1 (.bool b) (a.tmps.getD t undef):=by
  generalize a.tmps.getD t undef=u at hv
  cases hv; exact .bool b
 refine h w1 φ1 cs1 a w φ cs hd1 hle ⟨hs.glob,hs.inv,hs.step,hs.len,hs.loc,hs.inj,hs.low,fun s kv hh=>?_,hs.size,hs.defers,hs.sane,hs.inv0⟩ (fun s kv hh=>?_) hpf hJ hag
 ·simp only [lkV] at hh
  cases hq:Nat.beq t s with
  | true =>
   rw [hq] at hh
   have:=Nat.eq_of_beq_eq_true hq
   subst this
   cases hh
   exact hv
  | false=>rw [hq] at hh; exact hs.slot s kv hh
 ·simp only [lkV] at hh
  cases hq:Nat.beq t s with
  | true =>
   rw [hq] at hh
   have:=Nat.eq_of_beq_eq_true hq
   subst this
   cases hh
   exact hv1
  | false=>rw [hq] at hh; exact hka s kv hh
end
end Go.Abs
namespace Go.Abs
structure LC where
 run:{S R:Type}→(S→Option (Lp S R))→S→Option (S⊕R)
 fuel:Nat
 ok:∀{S R:Type} {body:S→Option (Lp S R)} {s:S} {o:S⊕R},run body s=some o→loopO body s=some o
def LCn (k j:Nat):LC:=⟨fun b s=>iterO b k s,j,fun h=>zhv.2 ⟨k,h⟩⟩
variable {P:Program} {ne:NE} {m:Nat} {ih:Ex} {ρ:Operand→Value} {o:Oper} {H H':AH}
theorem det_load {t:TypeId} {x:Operand} {a:Addr} {v:Value} (hop:o.op=.load t x) (hu:(P.underlying t).map isAggD=some false) (hi:(P.info? t).isSome=true) (hx:ρ x=.pointer (some a)) (h:H.cell a=some v):detOp P H o ρ=some v:=by
 obtain ⟨dst,op,ty,pos,after,guard⟩:=o
 simp only at hop
 subst hop
 obtain ⟨i,hi⟩:=Option.isSome_iff_exists.1 hi
 cases hd:P.underlying t with
 | none=>rw [hd] at hu; cases hu
 | some d =>
  rw [hd] at hu
  simp only [Option.map_some,Option.some.injEq] at hu
  simp only [detOp,tPure,hx,aLoad,hd,hi,hu,cond_false,h]
theorem det_loadA {t:TypeId} {x:Operand} {a:Addr} {l:List Value} {k:Nat} (hop:o.op=.load t x) (hu:(P.underlying t).map isAggD=some true) (hi:(P.info? t).map (·.size)=some k) (hx:ρ x=.pointer (some a)) (h:rdCells H a 0 k=some l):detOp P H o ρ=some (.agg l.toArray):=by
 obtain ⟨dst,op,ty,pos,after,guard⟩:=o
 simp only at hop
 subst hop
 cases hie:P.info? t with
 | none=>rw [hie] at hi; cases hi
 | some i =>
  rw [hie] at hi
  simp only [Option.map_some,Option.some.injEq] at hi
  subst hi
  cases hd:P.underlying t with
  | none=>rw [hd] at hu; cases hu
  | some d =>
   rw [hd] at hu
   simp only [Option.map_some,Option.some.injEq] at hu
   simp only [detOp,tPure,hx,aLoad,hd,hie,hu,cond_true,h]
theorem det_idx {t e:TypeId} {x y:Operand} {sz:Nat} {s:Sl3} {k:IntKind} {i:Int} {a:Addr} (hop:o.op=.indexAddr t x y) (hu:P.underlying t=some (.slice e)) (hi:(P.info? e).map (·.size)=some sz)
  (hx:ρ x=s.v) (hy:ρ y=.int k i) (h:idxA sz s i=some a):detOp P H o ρ=some (.pointer (some a)):=by
 obtain ⟨dst,op,ty,pos,after,guard⟩:=o
 simp only at hop
 subst hop
 obtain ⟨p,l,c⟩:=s
 cases hie:P.info? e with
 | none=>rw [hie] at hi; cases hi
 | some inf =>
  rw [hie] at hi
  simp only [Option.map_some,Option.some.injEq] at hi
  subst hi
  unfold idxA at h
  cases p with
  | none=>cases h
  | some b =>
   simp only at h
   split at h
   ·rename_i hb
    simp only [Option.some.injEq] at h
    subst h
    obtain ⟨j,rfl⟩:∃j:Nat,i=(j:Int):=⟨i.toNat,by omega⟩
    have hlt:Nat.blt j l=true:=Nat.ble_eq_true_of_le (by omega)
    have hp:tPure P ⟨dst,.indexAddr t x y,ty,pos,after,guard⟩ ρ=some (.pointer (some (b.add (j*inf.size)))):=by
     simp only [tPure,hu,hx,hy,Sl3.v,hie]
     show (match (Value.int k (Int.ofNat j)) with | .int _ (.ofNat i)=>_ | _=>none)=_
     simp only [hlt,cond_true]
    simp only [detOp,hp]
    simp
   ·cases h
theorem zpr {t:TypeId} {x:Operand} {a:Addr} {l:List Value} {k:Nat} (hop:o.op=.load t x) (hu:(P.underlying t).map isAggD=some true) (hi:(P.info? t).map (·.size)=some k) (hx:ρ x=.pointer (some a)) (h:rdCells H a 0 k=some l):runOp P ne ih m o ρ H=some (.agg l.toArray,H):=by
 obtain ⟨dst,op,ty,pos,after,guard⟩:=o
 simp only at hop
 subst hop
 cases hie:P.info? t with
 | none=>rw [hie] at hi; cases hi
 | some i =>
  rw [hie] at hi
  simp only [Option.map_some,Option.some.injEq] at hi
  subst hi
  cases hd:P.underlying t with
  | none=>rw [hd] at hu; cases hu
  | some d =>
   rw [hd] at hu
   simp only [Option.map_some,Option.some.injEq] at hu
   simp only [runOp,aOp,execOp,hx,bind]
   have hS:arun P m (Instr.loadAt t (.pointer (some a))) H=some (.agg l.toArray,H):=by
    unfold Instr.loadAt Go.loadVar Go.isAgg
    have hl:=zin (P:=P) (m:=m) a i.size 0 #[] H
    rw [h] at hl
    simp only [Instr.sureAddr,Go.underlying,Go.program,Go.sizeOf,Go.typeInfo,bind,Pure.pure,Sem.bind,arun,hd]
    cases d <;> first | (simp only [isAggD] at hu; cases hu; done) | (simp only [Sem.bind,arun,if_true,hie,Go.loadCells]; rw [zg,hl]; simp [arun])
   rw [zg,hS]
   rfl
def idxR (sz n:Nat) (a:Addr) (i:Int):Option Addr:=if 0≤i∧i<n then some (a.add (i.toNat*sz)) else none
theorem run_idxR {t e:TypeId} {x y:Operand} {sz n:Nat} {a a':Addr} {k:IntKind} {i:Int} (hop:o.op=.indexAddr t x y) (hu:P.underlying t=some (.array n e)) (hi:(P.info? e).map (·.size)=some sz)
  (hx:ρ x=.pointer (some a)) (hy:ρ y=.int k i) (h:idxR sz n a i=some a'):runOp P ne ih m o ρ H=some (.pointer (some a'),H):=by
 obtain ⟨dst,op,ty,pos,after,guard⟩:=o
 simp only at hop
 subst hop
 cases hie:P.info? e with
 | none=>rw [hie] at hi; cases hi
 | some inf =>
  rw [hie] at hi
  simp only [Option.map_some,Option.some.injEq] at hi
  subst hi
  unfold idxR at h
  split at h
  ·rename_i hb
   simp only [Option.some.injEq] at h
   subst h
   simp only [runOp,aOp,execOp,hx,hy]
   have hS:arun P m (Instr.indexAt t (.pointer (some a)) (.int k i)) H=some (.pointer (some (a.add (i.toNat*inf.size))),H):=by
    unfold Instr.indexAt
    simp only [asIntOf,Go.underlying,Go.sizeOf,Go.typeInfo,Go.program,bind,Pure.pure,Sem.bind,arun,hu,hie,Instr.sureAddr]
    rw [if_pos hb]
    simp only [Sem.bind,arun,hie]
   simp only [bind]
   rw [zg,hS]
   rfl
  ·cases h
def mapB:Blk:={ obj:=.map #[] 0,opn:=false,esz:=0,ro:=false }
def lkM {α:Type} (P:Program) (t:TypeId) (de:Value→Option α) (H:AH) (m:Option Nat) (k:Value):Option (α×Bool) :=
 match aLookup P t (.map m) k true H with
 | some (.tuple cs)=>match cs.toList with
  | [x,.bool b]=>(de x).map (·,b)
  | _=>none
 | _=>none
def lk1 {α:Type} (P:Program) (t:TypeId) (de:Value→Option α) (H:AH) (m:Option Nat) (k:Value):Option α:=(aLookup P t (.map m) k false H).bind de
theorem lkM_eq {α:Type} {t:TypeId} {de:Value→Option α} {mm:Option Nat} {k:Value} {x:α} {b:Bool} {v:Value} (h:lkM P t de H mm k=some (x,b)) (hv:∀u,de u=some x→u=v):aLookup P t (.map mm) k true H=some (.tuple #[v,.bool b]):=by
 unfold lkM at h
 split at h
 ·rename_i cs hc
  split at h
  ·rename_i y c hl
   cases hd:de y with
   | none=>rw [hd] at h; cases h
   | some z =>
    rw [hd] at h
    simp only [Option.map_some,Option.some.injEq,Prod.mk.injEq] at h
    obtain ⟨rfl,rfl⟩:=h
    rw [hc,← hv y hd,z9t hl]
  ·cases h
 ·cases h
theorem lk1_eq {α:Type} {t:TypeId} {de:Value→Option α} {mm:Option Nat} {k:Value} {x:α} {v:Value} (h:lk1 P t de H mm k=some x) (hv:∀u,de u=some x→u=v):aLookup P t (.map mm) k false H=some v:=by
 obtain ⟨u,h1,h2⟩:=bind_some h
 rw [h1,hv u h2]
theorem run_look {t:TypeId} {x y:Operand} {ok:Bool} {mm:Option Nat} {k v:Value} (hop:o.op=.lookup t x y ok) (hx:ρ x=.map mm) (hy:ρ y=k) (hf:flat depth k=true) (h:aLookup P t (.map mm) k ok H=some v):runOp P ne ih m o ρ H=some (v,H):=by
 obtain ⟨dst,op,ty,pos,after,guard⟩:=o
 simp only at hop
 subst hop
 simp only [runOp,aOp,hx,hy,hf,cond_true,h]
def upM (P:Program) (m:Nat) (t:TypeId) (H:AH) (mm:Option Nat) (k v:Value):Option AH :=
 match aUpdate P m t (.map mm) k v H with
 | some (.tuple cs,H')=>if cs.size=0 then some H' else none
 | _=>none
theorem run_upM {t:TypeId} {x y z:Operand} {mm:Option Nat} {k v:Value} (hop:o.op=.mapUpdate t x y z) (hx:ρ x=.map mm) (hy:ρ y=k) (hz:ρ z=v) (hf:flat depth k=true) (h:upM P m t H mm k v=some H'):runOp P ne ih m o ρ H=some (undef,H'):=by
 obtain ⟨dst,op,ty,pos,after,guard⟩:=o
 simp only at hop
 subst hop
 unfold upM at h
 split at h
 ·rename_i cs H1 hu
  split at h
  ·rename_i hs
   simp only [Option.some.injEq] at h
   subst h
   have e:cs=#[]:=Array.eq_empty_of_size_eq_zero hs
   subst e
   simp only [runOp,aOp,hx,hy,hz,hf,cond_true,hu]
   rfl
  ·cases h
 ·cases h
def deM:Value→Option (Option Nat)
 | .map r=>some r
 | _=>none
theorem zlg {x:Option Nat}:∀u,deM u=some x→u=.map x:=by
 intro u h
 cases u <;> simp only [deM] at h <;> cases h
 rfl
theorem z3 {a:Addr} {i k:Nat} {v:Value} {l:List Value} (h1:H.cell (a.add i)=some v) (h2:rdCells H a (i+1) k=some l):rdCells H a i (k+1)=some (v :: l):=by
 simp only [rdCells,h1,h2]
section
variable {E:Ent} {n:Nat} {kn:KN} {ls:Lcs} {ops:Array Oper} {k:Nat} {Q:Exit→Act→World→Prop}
end
end Go.Abs
namespace Go.Abs
variable {P:Program} {ne:NE} {m n:Nat}
variable {E:Ent} {kn knA:KN} {ls ls1:Lcs} {H H1 H':AH} {ops:Array Oper} {k:Nat} {Q:Exit→Act→World→Prop} {bs A:List Nat} {f:Nat} {la:Array Bool} {ag:Bool}
def newB (e:TypeId) (cells:List Value) (H:AH):Option (Addr×AH):=some (⟨H.next,0,none⟩,H.push (pubB e cells))
theorem run_newB {ih:Ex} {ρ:Operand→Value} {o:Oper} {e:TypeId} {cells:List Value} {p:Addr} (hr:runOp P ne ih m o ρ H=some (.pointer (some ⟨H.next,0,none⟩),H.push (pubB e cells))) (hx:newB e cells H=some (p,H')):runOp P ne ih m o ρ H=some (.pointer (some p),H'):=by
 cases hx
 exact hr
def newM (H:AH):Option (Nat×AH):=some (H.next,H.push mapB)
theorem run_newM {ih:Ex} {ρ:Operand→Value} {o:Oper} {p:Nat} (hr:runOp P ne ih m o ρ H=some (.map (some H.next),H.push mapB)) (hx:newM H=some (p,H')):runOp P ne ih m o ρ H=some (.map (some p),H'):=by
 cases hx
 exact hr
theorem RS.atD (d:Option Nat) (v:Value) (ho:ops[k]? = some (opAt ops k)) (hd:(opAt ops k).dst=d) (hB:(opV P n ops kn (opAt ops k)&&noCall (opAt ops k))=true) (hr:runOp P (NE.plain 0) ih0 m (opAt ops k) (evV kn) H=some (v,H'))
  (h:RS P ne m E n ops (k+1) (putV kn d (.val v)) ls H' Q):RS P ne m E n ops k kn ls H Q:=by
 subst hd
 exact RS.at v ho hB hr h
theorem RS.callD (d:Option Nat) {v:Value} (f:Nat) (args:Array Value) (ho:ops[k]? = some (opAt ops k)) (hd:(opAt ops k).dst=d) (hB:opV P n ops kn (opAt ops k)=true) (hc:callV kn (opAt ops k)=some (f,args)) (hr:CallS P ne m f args H v H')
  (h:RS P ne m E n ops (k+1) (putV kn d (.val v)) ls H' Q):RS P ne m E n ops k kn ls H Q:=by
 subst hd
 exact RS.call f args ho hB hc hr h
theorem WS.drawnX {c:Code} (ops:Array Oper) (A:List Nat) (bs:List Nat) (sz:Nat) (hc:regOf c=some (ops,true)) (hb:befores ops.toList=bs) (hs:ops.size=sz) (hB:closedOk ops.toList bs=true) (h:DA P ne m E n ops bs A H ls sz (Array.replicate sz false) true kn kn ls H Q):WS P ne m E n c kn ls H Q:=by
 subst hb hs
 exact WS.drawn ops A hc hB h
theorem DA.takeD (k:Nat) (d:Option Nat) (v:Value) (ho:ops[k]? = some (opAt ops k)) (hd:(opAt ops k).dst=d) (hB:takeB P n ops A la k (opAt ops k)=true) (hc:closedOk ops.toList bs=true) (hQ:∀c a w,¬Q (.panic c) a w)
  (hw:(wantV ops kn (opAt ops k),(opAt ops k).op.operands.all (okx P),(opAt ops k).op.operands.all (knownV knA))=(some true,true,true)) (hv:detOp P H1 (opAt ops k) (evV knA)=some v)
  (h:DA P ne m E n ops bs A H1 ls1 f (la.setIfInBounds k true) true (putV knA d (.val v)) (putV kn d (.val v)) ls H Q):DA P ne m E n ops bs A H1 ls1 (f+1) la true knA kn ls H Q:=by
 subst hd
 exact DA.take ho hB hc hQ hw hv h
theorem DA.tskipD (k:Nat) (d:Option Nat) (ho:ops[k]? = some (opAt ops k)) (hd:(opAt ops k).dst=d) (hB:takeB P n ops A la k (opAt ops k)=true) (hc:closedOk ops.toList bs=true) (hQ:∀c a w,¬Q (.panic c) a w) (hw:wantV ops kn (opAt ops k)=some false)
  (h:DA P ne m E n ops bs A H1 ls1 f (la.setIfInBounds k true) true (putV knA d (.val undef)) (putV kn d (.val undef)) ls H Q):DA P ne m E n ops bs A H1 ls1 (f+1) la true knA kn ls H Q:=by
 subst hd
 exact DA.tskip ho hB hc hQ hw h
theorem DA.takeLD (k:Nat) (d:Option Nat) (kv:KV) (ho:ops[k]? = some (opAt ops k)) (hd:(opAt ops k).dst=d) (hB:takeB P n ops A la k (opAt ops k)=true) (hc:closedOk ops.toList bs=true) (hQ:∀c a w,¬Q (.panic c) a w) (hw:wantV ops kn (opAt ops k)=some true) (hv:locDet P knA ls1 (opAt ops k)=some kv)
  (h:DA P ne m E n ops bs A H1 ls1 f (la.setIfInBounds k true) true (putV knA d kv) (putV kn d kv) ls H Q):DA P ne m E n ops bs A H1 ls1 (f+1) la true knA kn ls H Q:=by
 subst hd
 exact DA.takeL ho hB hc hQ hw hv h
theorem DA.actLD (k:Nat) (d:Option Nat) (kv:KV) (ls':Lcs) (ag':Bool) (ho:ops[k]? = some (opAt ops k)) (hdd:(opAt ops k).dst=d) (hr:(Region.ready .any ops la).contains k=true) (hc:closedOk ops.toList bs=true) (hw:wantV ops kn (opAt ops k)=some true) (hd:dstV n (opAt ops k)=true) (hl:locOp P kn ls (opAt ops k)=some (kv,ls'))
  (ha:((!demO ops A bs k||(ag&&notStore (opAt ops k)))&&(!ag'||(ag&&notStore (opAt ops k))))=true)
  (h:DA P ne m E n ops bs A H1 ls1 f (la.setIfInBounds k true) ag' (dropV d knA) (putV kn d kv) ls' H Q):DAk P ne m E n ops bs A H1 ls1 k f la ag knA kn ls H Q:=by
 subst hdd
 exact DA.actL ag' ho hr hc hw hd hl ha h
theorem DA.actHD (k:Nat) (d:Option Nat) (m2:Nat) (ag':Bool) (v:Value) (ho:ops[k]? = some (opAt ops k)) (hdd:(opAt ops k).dst=d) (hr:(Region.ready .any ops la).contains k=true) (hc:closedOk ops.toList bs=true) (hB:(opV P n ops kn (opAt ops k)&&noCall (opAt ops k))=true) (hv:runOp P (NE.plain 0) ih0 m2 (opAt ops k) (evV kn) H=some (v,H'))
  (hm:m≤m2) (hm2:(demO ops A bs k||ag')=true→H.next≤m2∨H1.next≤m2) (ha:((!demO ops A bs k||ag)&&(!ag'||ag))=true)
  (h:DA P ne m E n ops bs A H1 ls1 f (la.setIfInBounds k true) ag' (dropV d knA) (putV kn d (.val v)) ls H' Q):DAk P ne m E n ops bs A H1 ls1 k f la ag knA kn ls H Q:=by
 subst hdd
 rw [Bool.and_eq_true] at hB
 exact DA.actH m2 ag' ho hr hc hB.1 hv hB.2 hm hm2 ha h
theorem DA.actCD (k:Nat) (d:Option Nat) (m2:Nat) (ag':Bool) {v:Value} (g:Nat) (args:Array Value) (ho:ops[k]? = some (opAt ops k)) (hdd:(opAt ops k).dst=d) (hr:(Region.ready .any ops la).contains k=true) (hc:closedOk ops.toList bs=true) (hB:opV P n ops kn (opAt ops k)=true) (hcl:callV kn (opAt ops k)=some (g,args)) (hcs:CallS P ne m2 g args H v H')
  (hm:m≤m2) (hm2:(demO ops A bs k||ag')=true→H.next≤m2∨H1.next≤m2) (ha:((!demO ops A bs k||ag)&&(!ag'||ag))=true)
  (h:DA P ne m E n ops bs A H1 ls1 f (la.setIfInBounds k true) ag' (dropV d knA) (putV kn d (.val v)) ls H' Q):DAk P ne m E n ops bs A H1 ls1 k f la ag knA kn ls H Q:=by
 subst hdd
 exact DA.actC m2 ag' g args ho hr hc hB hcl hcs hm hm2 ha h
theorem z30 {a:Addr} {i:Nat}:rdCells H a i 0=some []:=rfl
end Go.Abs
namespace Go.Abs
variable {P:Program} {ne:NE} {m n:Nat}
section
variable {E:Ent} {kn:KN} {ls:Lcs} {H:AH} {a:Act} {w:World} {φ:Inj} {cs:List Nat} {Q:Exit→Act→World→Prop}
def ldO (p:Nat) (t:TypeId):Oper:={ dst:=none,op:=.load t (.tmp p),type:=0,pos:=default,after:=#[],guard:=none }
def cellV (P:Program) (kn:KN) (ls:Lcs) (H:AH) (p:Nat) (t:TypeId):Option Value :=
 match lkV kn p with
 | some (.loc _ _)=>match locDet P kn ls (ldO p t) with
  | some (.val v)=>some v
  | _=>none
 | some (.val (.pointer (some q)))=>aLoad P t q H
 | _=>none
def resL (P:Program) (kn:KN) (ls:Lcs) (H:AH):List ResultVar→Option (List Value)
 | []=>some []
 | .tmp t :: l=>match lkV kn t,resL P kn ls H l with
  | some (.val u),some us=>some (u :: us)
  | _,_=>none
 | .cell p t :: l=>match cellV P kn ls H p t,resL P kn ls H l with
  | some u,some us=>some (u :: us)
  | _,_=>none
def resF (P:Program) (fn:Func) (kn:KN) (ls:Lcs) (H:AH):Option Value :=
 match resL P kn ls H fn.results.toList with
 | some [v]=>some v
 | some l=>some (.tuple l.toArray)
 | none=>none
def RT (P:Program) (ne:NE) (m:Nat) (E:Ent) (fn:Func) (v:Value) (H:AH) (a:Act) (w:World):Prop :=
 ∃n kn ls,SS P ne m E n kn ls H a w∧resF P fn kn ls H=some v
def retS (P:Program) (ne:NE) (m:Nat) (E:Ent) (fn:Func) (v:Value) (H:AH):Exit→Act→World→Prop
 | .normal,a,w | .ret,a,w=>RT P ne m E fn v H a w
 | _,_,_=>False
def argV:Nat→List Value→KN
 | _,[]=>[]
 | i,v :: l=>(i,.val v) :: argV (i+1) l
theorem zs1:∀(l:List Value) (i t:Nat) (kv:KV),lkV (argV i l) t=some kv→∃v,kv=.val v∧i≤t∧l[t - i]? = some v:=by
 intro l
 induction l with
 | nil=>intro i t kv h; cases h
 | cons v l ih =>
  intro i t kv h
  simp only [argV,lkV] at h
  cases hb:Nat.beq i t with
  | true =>
   rw [hb] at h
   have:=Nat.eq_of_beq_eq_true hb
   subst this
   cases h
   exact ⟨v,rfl,Nat.le_refl _,by simp⟩
  | false =>
   rw [hb] at h
   have hne:=Nat.ne_of_beq_eq_false hb
   obtain ⟨u,h1,h2,h3⟩:=ih _ _ _ h
   refine ⟨u,h1,by omega,?_⟩
   rw [show t - i=(t - (i+1))+1 by omega]
   simpa using h3
theorem zqn (hs:SSφ P ne m E n kn ls H a w φ cs) {p:Nat} {t:TypeId} {v:Value} (h:cellV P kn ls H p t=some v):∃v',(resV a.tmps (.cell p t)).run P w=.ok v' w∧VR φ v v':=by
 unfold cellV at h
 split at h
 ·rename_i i off hk
  split at h
  ·rename_i u hu
   simp only [Option.some.injEq] at h
   subst h
   obtain ⟨v',h1,h2⟩:=zlx hu (DC.mk hs.glob hs.inv (fun i c x h1 h2=>(hs.loc i c x h1 h2).2) hs.len) (fun t kv hl=>hs.slot t kv hl:KA φ cs kn a)
   refine ⟨v',?_,h1⟩
   have h3:=h2 w (agree.refl w)
   obtain ⟨c,_,hp⟩:=zex hs hk
   have he:a.eval (.tmp p)=.pointer (some ⟨c,off,none⟩):=hp
   simp only [ldO,execOp,he,Instr.loadAt,Instr.sureAddr,Sem.run_bind,Sem.run_pure,Result.andThen_ok] at h3
   simp only [resV,hp,asAddr,Sem.run_bind,Sem.run_pure,Result.andThen_ok]
   generalize (loadVar t ⟨c,off,none⟩).run P w=q at h3 ⊢
   cases q <;> simp [Result.andThen,Sem.run_pure] at h3
   obtain ⟨rfl,rfl⟩:=h3
   rfl
  ·cases h
 ·rename_i q hk
  have hp:=hs.slot p _ hk
  obtain ⟨q',hq2,hqa⟩:=VR.ptr_inv hp
  obtain ⟨v',h3,h4⟩:=zlt hs.inv h hqa
  refine ⟨v',?_,h4⟩
  simp only [resV,Sem.run_bind,hq2]
  exact h3
 ·cases h
theorem zr7 (hs:SSφ P ne m E n kn ls H a w φ cs):∀{l:List ResultVar} {vs:List Value},resL P kn ls H l=some vs→∃vs',(l.mapM (resV a.tmps)).run P w=.ok vs' w∧LR φ vs vs':=by
 intro l
 induction l with
 | nil=>intro vs h; simp only [resL,Option.some.injEq] at h; subst h; exact ⟨[],rfl,.nil⟩
 | cons r l ih =>
  intro vs h
  cases r with
  | tmp t =>
   simp only [resL] at h
   split at h
   ·rename_i u us h1 h2
    simp only [Option.some.injEq] at h
    subst h
    obtain ⟨vs',h3,h4⟩:=ih h2
    refine ⟨a.tmps.getD t undef :: vs',?_,.cons (hs.slot t _ h1) h4⟩
    rw [List.mapM_cons]
    have hA:(resV a.tmps (.tmp t)).run P w=.ok (a.tmps.getD t undef) w:=rfl
    simp only [Sem.run_bind,hA,Sem.run_pure,Result.andThen_ok,h3]
   ·cases h
  | cell p t =>
   simp only [resL] at h
   split at h
   ·rename_i u us h1 h2
    simp only [Option.some.injEq] at h
    subst h
    obtain ⟨vs',h3,h4⟩:=ih h2
    obtain ⟨v',h5,h6⟩:=zqn hs h1
    refine ⟨v' :: vs',?_,.cons h6 h4⟩
    rw [List.mapM_cons]
    simp only [Sem.run_bind,h5,Sem.run_pure,Result.andThen_ok,h3]
   ·cases h
theorem CallS.mk {f:Nat} {fn:Func} {B:Code} {args:List Value} {H H':AH} {v:Value} (hf:P.funcs[f]? = some fn) (hb:fn.body=some B) (h:∀E:Ent,E.H=H→WS P ne m E fn.ntmps B (argV 0 args) [] H (retS P ne m E fn v H')):CallS P ne m f args.toArray H v H':=by
 intro hS
 refine ⟨⟨fn,B,hf,hb⟩,fun φ w args' hg ha hi=>?_⟩
 have hent:SS P ne m ⟨φ,H,w⟩ fn.ntmps (argV 0 args) [] H { tmps:=args'++Array.replicate (fn.ntmps - args'.size) undef,defers:=[] } w:=by
  refine ⟨φ,[],hg,hi,Step.refl _ _ _ _,rfl,fun i c x hc=>(by cases hc),fun i j c hc=>(by cases hc),fun i c hc=>(by cases hc),fun t kv hl=>?_,by simp; omega,rfl,hS,hi⟩
  obtain ⟨v,rfl,_,h2⟩:=zs1 _ _ _ _ hl
  rw [Nat.sub_zero] at h2
  have:args.toArray[t]? = some v:=by simpa using h2
  obtain ⟨y,hy,hv⟩:=ha.get this
  have hlt:t<args'.size:=by rw [Array.getElem?_eq_some_iff] at hy; exact hy.1
  show VR φ v _
  rw [Array.getD_eq_getD_getElem?,Array.getElem?_append,if_pos hlt,hy]
  exact hv
 have hw:=h ⟨φ,H,w⟩ rfl _ _ hent
 refine calls_of_wp hf hb (wp_mono hw fun e a w' hpost=>?_)
 have fin:RT P ne m ⟨φ,H,w⟩ fn v H' a w'→a.defers=[]∧∃v',(results fn a.tmps).run P w'=.ok v' w'∧(∃φ' v'',Ending.returned v'=.returned v''∧VR φ' v v''∧Inv φ' H' w'∧Step m φ H w φ' H' w'):=by
  rintro ⟨n,kn,ls,⟨φ',cs,hs⟩,hr⟩
  refine ⟨hs.defers,?_⟩
  have main:∃(vs vs':List Value),(fn.results.toList.mapM (resV a.tmps)).run P w'=.ok vs' w'∧LR φ' vs vs'∧v=(if h:vs.length=1 then vs[0]'(by omega) else .tuple vs.toArray):=by
   unfold resF at hr
   cases hl:resL P kn ls H' fn.results.toList with
   | none=>rw [hl] at hr; cases hr
   | some vs =>
    rw [hl] at hr
    obtain ⟨vs',h1,h2⟩:=zr7 hs hl
    refine ⟨vs,vs',h1,h2,?_⟩
    split at hr
    ·rename_i u he
     cases he
     cases hr
     rfl
    ·rename_i l hne he
     cases he
     cases hr
     rw [dif_neg ?_]
     intro h1
     match vs,h1 with
     | [u],_=>exact hne u rfl
    ·cases hr
  obtain ⟨vs,vs',h1,h2,h3⟩:=main
  have hm:(fn.results.mapM (resV a.tmps)).run P w'=.ok vs'.toArray w':=by
   rw [Array.mapM_eq_mapM_toList]
   show Sem.run P (List.toArray <$> _) w'=_
   rw [Sem.run_map,h1]; rfl
  have hlen:=LR.length h2
  have hres:(results fn a.tmps).run P w'=.ok (if h:vs'.toArray.size=1 then vs'.toArray[0] else .tuple vs'.toArray) w':=by
   rw [zkc,Sem.run_bind,hm,Result.andThen_ok]; rfl
  refine ⟨_,hres,φ',_,rfl,?_,hs.inv,hs.step⟩
  rw [h3]
  by_cases h1':vs.length=1
  ·rw [dif_pos h1',dif_pos (by simpa [← hlen] using h1')]
   cases h2 with
   | nil=>cases h1'
   | cons hv ht=>exact hv
  ·rw [dif_neg h1',dif_neg (by simpa [← hlen] using h1')]
   have:=AR_iff.2 (show LR φ' vs.toArray.toList vs'.toArray.toList by simpa using h2)
   exact .tuple _ _ this.1 this.2
 cases e with
 | normal=>exact fin hpost
 | ret=>exact fin hpost
 | _=>exact hpost.elim
theorem rtR {fn:Func} {v:Value} (h:RT P ne m E fn v H a w):retS P ne m E fn v H .ret a w:=h
theorem rtN {fn:Func} {v:Value} (h:RT P ne m E fn v H a w):retS P ne m E fn v H .normal a w:=h
theorem rtS {fn:Func} {v:Value} (hs:SS P ne m E n kn ls H a w) (h:resF P fn kn ls H=some v):RT P ne m E fn v H a w:=⟨n,kn,ls,hs,h⟩
theorem WS.toone {c:Code} (kn2:KN) (ls2:Lcs) (H2:AH) (h:WS P ne m E n c kn ls H (jnS P ne m E n kn2 ls2 H2 (fun _ _ _=>False))) (hN:∀a w,SS P ne m E n kn2 ls2 H2 a w→Q .normal a w):WS P ne m E n c kn ls H Q:=by
 refine fun a w hs=>wp_mono (h a w hs) fun e a w hq=>?_
 cases e with
 | normal=>exact hN a w hq
 | _=>exact hq.elim
end
end Go.Abs
namespace Go.Abs
variable {P:Program} {ne:NE} {m n:Nat}
def pureOp (P:Program) (o:Oper) (ρ:Operand→Value):Option Value :=
 match o.op with
 | .load ..=>none
 | .lookup ..=>none
 | _=>detOp P ⟨0,.nil⟩ o ρ
theorem zqe {φ:Inj} {o:Oper} {ρ ρ':Operand→Value} {v:Value} (hρ:∀x∈o.op.operands,VR φ (ρ x) (ρ' x)) (h:pureOp P o ρ=some v) :
  ∃v',VR φ v v'∧∀w,(execOp ρ' o).run P w=.ok (.value v') w:=by
 have hnl:(∀t x,o.op≠.load t x)∧(∀t x k ok,o.op≠.lookup t x k ok)∧detOp P ⟨0,.nil⟩ o ρ=some v:=by
  unfold pureOp at h
  split at h
  ·cases h
  ·cases h
  ·rename_i q1 q2; exact ⟨fun t x e=>q1 t x e,fun t x k ok e=>q2 t x k ok e,h⟩
 clear h
 obtain ⟨n1,n2,h⟩:=hnl
 unfold detOp at h
 cases ht:tPure P o ρ with
 | some u =>
  rw [ht] at h
  simp only [Option.some.injEq] at h
  subst h
  obtain ⟨v',h1,h2⟩:=zi4 hρ ht
  exact ⟨v',h1,h2⟩
 | none =>
  rw [ht] at h
  simp only at h
  have fl:(match flatRun P o ρ ⟨0,.nil⟩ with | some (v,_)=>some v | none=>none)=some v→(∀w,∀nx,(execOp ρ' o).run P w=.ok nx w→nx≠.skip)→∃v',VR φ v v'∧∀w,(execOp ρ' o).run P w=.ok (.value v') w:=by
   intro h hns
   cases hf:flatRun P o ρ ⟨0,.nil⟩ with
   | none=>rw [hf] at h; cases h
   | some p =>
    obtain ⟨u,H'⟩:=p
    rw [hf] at h
    simp only [Option.some.injEq] at h
    subst h
    obtain ⟨v',h1,h2⟩:=znr hρ hf hns
    exact ⟨v',h1,h2⟩
  obtain ⟨dst,op,ty,pos,after,guard⟩:=o
  simp only at h hρ n1 n2
  split at h
  ·exact (n1 _ _ rfl).elim
  ·exact (n2 _ _ _ _ rfl).elim
  ·rename_i x i
   have hx:=hρ x (by simp [Op.operands])
   split at h
   ·rename_i cs hc
    rw [hc] at hx
    generalize hq:ρ' x=q at hx
    cases hx with
    | tuple f f' hf h1 =>
     have hlt:i<f'.size:=by
      rw [Array.getElem?_eq_some_iff] at h
      obtain ⟨h,_⟩:=h
      omega
     refine ⟨f'[i],h1 i _ _ h (by simp [hlt]),fun w=>?_⟩
     have hrun:(Instr.extract (.tuple f') i).run P w=.ok f'[i] w:=by
      simp only [Instr.extract]
      simp [hlt]
     simp only [execOp,hq,Sem.run_bind,hrun,Result.andThen_ok]
     rfl
   ·cases h
  ·rename_i args ts
   split at h
   ·rename_i e b k c hu hl
    simp only [Option.some.injEq] at h
    subst h
    have hargs:AR φ (args.map ρ) (args.map ρ'):=ar_map args fun x hx=>hρ x (by simp [Op.operands,Call.operands,hx])
    obtain ⟨_,x',hx',hv⟩:=ar_one hargs hl
    obtain ⟨b',c',rfl⟩:=z7v hv
    refine ⟨goInt k,.int _ _,fun w=>?_⟩
    cases hts:ts[0]? with
    | none=>rw [hts] at hu; cases hu
    | some t =>
     rw [hts] at hu
     have hu:P.underlying t=some (.slice e):=hu
     have hrun:(Builtin.len_ ts ty (args.map ρ')).run P w=.ok (goInt k) w:=by
      rw [hx']
      simp [Builtin.len_,hts,z7 hu]
     show (do pure (Next.value (← Builtin.len_ ts ty (args.map ρ'))):Sem Next).run P w=_
     rw [Sem.run_bind,hrun]; rfl
   ·exact fl h fun w nx hr=>z12 (s:=Builtin.len_ ts ty (args.map ρ')) hr
  ·rename_i bo t x y u
   exact fl h fun w nx hr=>z12 (s:=(do eqGuard bo t x y (ρ' x) (ρ' y); binOp bo t (ρ' x) (ρ' y))) hr
  ·rename_i uo t x
   exact fl h fun w nx hr=>z12 (s:=Op.unary uo (ρ' x)) hr
  ·rename_i t ps
   exact fl h fun w nx hr=>z12 (s:=Instr.build t (ps.map fun (i,x)=>(i,ρ' x))) hr
  ·rename_i c x y
   exact fl h fun w nx hr=>by
    simp only [execOp,Sem.run_bind] at hr
    cases hb:(asBool (ρ' c)).run P w with
    | ok b w' =>
     rw [hb] at hr
     have:Result.ok (Next.value (if b then ρ' x else ρ' y)) w'=Result.ok nx w:=hr
     simp only [Result.ok.injEq] at this
     rw [← this.1]; intro e; cases e
    | halt z w'=>rw [hb] at hr; cases hr
  ·rename_i t x f
   exact fl h fun w nx hr=>z12 (s:=Instr.field t (ρ' x) f) hr
  ·rename_i t x y
   exact fl h fun w nx hr=>z12 (s:=Instr.index t (ρ' x) (ρ' y)) hr
  ·rename_i s d x
   split at h
   ·exact fl h fun w nx hr=>z12 (s:=convert s d (ρ' x)) hr
   ·exact fl h fun w nx hr=>z12 (s:=convert s d (ρ' x)) hr
   ·cases h
  ·cases h
variable {ops:Array Oper} {Q:Exit→Act→World→Prop} {bs A:List Nat} {w1:World}
theorem zap {i:Nat} {oi:Oper} {v:Value} (hi:ops[i]? = some oi) (hc:closedOk ops.toList bs=true) (hsel:∀(j:Nat) (o:Oper) cs b,ops[j]? = some o→o.op≠.select cs b)
  (hQ:∀c a w,¬Q (.panic c) a w) :
  ∀(fuel:Nat) (la:Array Bool) (a:Act) (w:World),JC ops bs la →
   (∀j oj,ops[j]? = some oj→j≠i→la.getD j true=false→(∀e∈oj.after,Region.binds .any e=true→e.on≠i)→oi.apart ops oj=true) →
   i∈Region.ready .any ops la→YieldsIf P ops (fun _=>True) oi v a→demO ops A bs i=false →
   wpAnyD P ops Q bs A w1 fuel (la.setIfInBounds i true) (a.put oi.dst v) w→wpAnyD P ops Q bs A w1 (fuel+1) la a w:=by
 intro fuel
 induction fuel with
 | zero =>
  intro la a w hJ _ hr hy hS H
  refine ⟨fun h=>(by rw [h] at hr; cases hr),fun j hj=>?_⟩
  by_cases hji:j=i
  ·subst hji; exact hy.wpOp hi trivial ⟨fun hh=>(by rw [hS] at hh; cases hh),H⟩
  ·have:=ready_mono hj hji
   rw [H.1] at this
   cases this
 | succ fuel ih =>
  intro la a w hJ hfree hr hy hS H
  refine ⟨fun h=>(by rw [h] at hr; cases hr),fun j hj=>?_⟩
  by_cases hji:j=i
  ·subst hji; exact hy.wpOp hi trivial ⟨fun hh=>(by rw [hS] at hh; cases hh),H⟩
  ·have h1:=H.2 j (ready_mono hj hji)
   have r:=rdy_of hc hJ hj
   have ri:=rdy_of hc hJ hr
   obtain ⟨hjun,oj,hoj,hall⟩:=mem_ready.1 hj
   have hnot:∀e∈oj.after,Region.binds .any e=true→e.on≠i:=fun e he hb heq=>by
    have h1:=hall e he hb
    have h0:=(mem_ready.1 hr).1
    rw [heq] at h1
    rcases Nat.lt_or_ge i la.size with h' | h'
    ·simp [h'] at h0 h1; rw [h0] at h1; cases h1
    ·simp [Array.getElem?_eq_none h'] at h1
   have h2:=wpOp_putIf hoj (hfree j oj hoj hji hjun hnot) (fun cs b=>hsel i oi cs b hi) (fun cs b=>hsel j oj cs b hoj) (fun c a w h=>absurd h (hQ c _ w)) hy h1
   have hfree':∀k ok,ops[k]? = some ok→k≠i→(la.setIfInBounds j true).getD k true=false →
     (∀e∈ok.after,Region.binds .any e=true→e.on≠i)→oi.apart ops ok=true:=fun k ok hk hki hun hno=>by
    refine hfree k ok hk hki ?_ hno
    by_cases hjk:j=k
    ·subst hjk; exact hjun
    ·rw [getD_set_ne true hjk] at hun; exact hun
   refine wpOp_mono (fun a' w' h3=>⟨h3.2.1,ih (la.setIfInBounds j true) a' w' (hJ.next r) hfree' (ready_mono hr (Ne.symm hji)) h3.1 hS ?_⟩) h2
   rw [Array.setIfInBounds_comm _ _ hji]
   exact h3.2.2
theorem zpz {φ1:Inj} {cs1:List Nat} {knA:KN} {ls1:Lcs} {a:Act} {o:Oper} {kv:KV} (hnl:∀t x,o.op≠.load t x) (h:locDet P knA ls1 o=some kv) (hka:KA φ1 cs1 knA a):∃v',KR φ1 cs1 kv v'∧∀w,(execOp a.eval o).run P w=.ok (.value v') w:=by
 unfold locDet at h
 have hl:∃ls',locOp P knA ls1 o=some (kv,ls'):=by
  split at h
  all_goals first | (cases hq:locOp P knA ls1 o with | none=>rw [hq] at h; cases h | some p=>obtain ⟨x,y⟩:=p; rw [hq] at h; simp only [Option.map_some,Option.some.injEq] at h; subst h; exact ⟨y,rfl⟩) | cases h
 obtain ⟨ls',hl⟩:=hl
 obtain ⟨dst,op,ty,pos,after,guard⟩:=o
 unfold locOp at hl
 simp only at hl h hnl
 split at hl
 ·rename_i t
  split at hl
  ·rename_i i off hk
   simp only [Option.some.injEq,Prod.mk.injEq] at hl
   obtain ⟨rfl,rfl⟩:=hl
   exact ⟨a.tmps.getD t undef,hka t _ hk,fun w=>rfl⟩
  ·cases hl
 ·rename_i t
  split at hl
  ·rename_i i off hk
   simp only [Option.some.injEq,Prod.mk.injEq] at hl
   obtain ⟨rfl,rfl⟩:=hl
   exact ⟨a.tmps.getD t undef,hka t _ hk,fun w=>rfl⟩
  ·cases hl
 ·rename_i t
  split at hl
  ·rename_i i off hk
   simp only [Option.some.injEq,Prod.mk.injEq] at hl
   obtain ⟨rfl,rfl⟩:=hl
   refine ⟨a.tmps.getD t undef,hka t _ hk,fun w=>?_⟩
   obtain ⟨c,h1,h2⟩:=hka t _ hk
   have:a.eval (.tmp t)=.pointer (some ⟨c,off,none⟩):=h2
   simp only [execOp,this]
   rw [h2]; rfl
  ·cases hl
 ·rename_i s t f
  split at hl
  ·rename_i i off fs hk hu
   cases hf:fs[f]? with
   | none=>rw [hf] at hl; cases hl
   | some fd =>
    rw [hf] at hl
    simp only at hl
    cases hi:P.info? fd.type with
    | none=>rw [hi] at hl; cases hl
    | some inf =>
     rw [hi] at hl
     simp only at hl
     cases hz:Nat.beq inf.size 0 with
     | true=>rw [hz] at hl; cases hl
     | false =>
      rw [hz] at hl
      simp only [cond_false,Option.some.injEq,Prod.mk.injEq] at hl
      obtain ⟨rfl,rfl⟩:=hl
      obtain ⟨c,h1,h2⟩:=hka t _ hk
      have he:a.eval (.tmp t)=.pointer (some ⟨c,off,none⟩):=h2
      refine ⟨.pointer (some ⟨c,off+fd.offset,none⟩),⟨c,h1,rfl⟩,fun w=>?_⟩
      have hne:=Nat.ne_of_beq_eq_false hz
      have hrun:(Instr.fieldAt s (.pointer (some ⟨c,off,none⟩)) f).run P w=.ok (.pointer (some ⟨c,off+fd.offset,none⟩)) w:=by
       simp only [Instr.fieldAt,Sem.run_bind,z7 hu,Result.andThen_ok,hf,Instr.sureAddr,Sem.run_pure,fieldPlace,z14 hi]
       rw [if_neg hne]
       simp only [Sem.run_pure,Result.andThen_ok,Addr.add_lit]
      simp only [execOp,he,Sem.run_bind,hrun,Result.andThen_ok]
      rfl
  ·cases hl
 ·exact (hnl _ _ rfl).elim
 all_goals first | (simp only [reduceCtorEq] at h; done) | (cases hl; done)
section
variable {E:Ent} {knA kn:KN} {ls ls1:Lcs} {H H1:AH} {f k:Nat} {la:Array Bool} {ag:Bool}
def takeQ (P:Program) (n:Nat) (ops:Array Oper) (A bs:List Nat) (la:Array Bool) (k:Nat) (o:Oper):Bool :=
 !(demO ops A bs k)&&Region.noSelect ops&&Region.free .any ops la k&&(Region.ready .any ops la).contains k&&dstV n o
theorem DA.takeP (k:Nat) (d:Option Nat) (v:Value) (ho:ops[k]? = some (opAt ops k)) (hd:(opAt ops k).dst=d) (hB:takeQ P n ops A bs la k (opAt ops k)=true) (hc:closedOk ops.toList bs=true) (hQ:∀c a w,¬Q (.panic c) a w)
  (hw:(wantV ops kn (opAt ops k),(opAt ops k).op.operands.all (okx P),(opAt ops k).op.operands.all (knownV kn))=(some true,true,true)) (hv:pureOp P (opAt ops k) (evV kn)=some v)
  (h:DA P ne m E n ops bs A H1 ls1 f (la.setIfInBounds k true) ag (dropV d knA) (putV kn d (.val v)) ls H Q):DA P ne m E n ops bs A H1 ls1 (f+1) la ag knA kn ls H Q:=by
 subst hd
 intro w1 φ1 cs1 a w φ cs hd hle hs hka hpf hJ hag
 unfold takeQ at hB
 simp only [Bool.and_eq_true] at hB
 obtain ⟨⟨⟨⟨b1,b2⟩,b3⟩,b4⟩,b5⟩:=hB
 have hr:k∈Region.ready .any ops la:=by simpa using b4
 simp only [Prod.mk.injEq] at hw
 obtain ⟨hw1,hw2,hw3⟩:=hw
 rw [Array.all_eq_true_iff_forall_mem] at hw2 hw3
 obtain ⟨v',h1,h2⟩:=zqe (ρ':=a.eval) (fun x hx=>hs.eval (hw3 x hx) (hw2 x hx)) hv
 refine zap ho hc (Region.noSelect_spec b2) hQ f la a w hJ (Region.free_spec ho b3) hr (.inl ⟨z29 hs hw1,fun w _=>h2 w⟩) (by simpa using b1) ?_
 exact h w1 φ1 cs1 _ w φ cs hd hle (hs.put b5 h1) (hka.drop _ _) hpf (hJ.next (rdy_of hc hJ hr)) hag
theorem DA.takePL (k:Nat) (d:Option Nat) (kv:KV) (ho:ops[k]? = some (opAt ops k)) (hd:(opAt ops k).dst=d) (hB:takeQ P n ops A bs la k (opAt ops k)=true) (hc:closedOk ops.toList bs=true) (hQ:∀c a w,¬Q (.panic c) a w)
  (hw:wantV ops kn (opAt ops k)=some true) (hv:(match (opAt ops k).op with | .load ..=>none | _=>locDet P kn ls (opAt ops k))=some kv)
  (h:DA P ne m E n ops bs A H1 ls1 f (la.setIfInBounds k true) ag (dropV d knA) (putV kn d kv) ls H Q):DA P ne m E n ops bs A H1 ls1 (f+1) la ag knA kn ls H Q:=by
 subst hd
 intro w1 φ1 cs1 a w φ cs hd hle hs hka hpf hJ hag
 unfold takeQ at hB
 simp only [Bool.and_eq_true] at hB
 obtain ⟨⟨⟨⟨b1,b2⟩,b3⟩,b4⟩,b5⟩:=hB
 have hr:k∈Region.ready .any ops la:=by simpa using b4
 have hv2:locDet P kn ls (opAt ops k)=some kv:=by
  split at hv
  ·cases hv
  ·exact hv
 have hnl:∀t x,(opAt ops k).op≠.load t x:=by
  intro t x e
  rw [e] at hv
  cases hv
 obtain ⟨v',h1,h2⟩:=zpz hnl hv2 (fun t kv hl=>hs.slot t kv hl:KA φ cs kn a)
 refine zap ho hc (Region.noSelect_spec b2) hQ f la a w hJ (Region.free_spec ho b3) hr (.inl ⟨z29 hs hw,fun w _=>h2 w⟩) (by simpa using b1) ?_
 exact h w1 φ1 cs1 _ w φ cs hd hle (hs.put b5 h1) (hka.drop _ _) hpf (hJ.next (rdy_of hc hJ hr)) hag
theorem DA.tskipP (k:Nat) (d:Option Nat) (ho:ops[k]? = some (opAt ops k)) (hd:(opAt ops k).dst=d) (hB:takeQ P n ops A bs la k (opAt ops k)=true) (hc:closedOk ops.toList bs=true) (hQ:∀c a w,¬Q (.panic c) a w) (hw:wantV ops kn (opAt ops k)=some false)
  (h:DA P ne m E n ops bs A H1 ls1 f (la.setIfInBounds k true) ag (dropV d knA) (putV kn d (.val undef)) ls H Q):DA P ne m E n ops bs A H1 ls1 (f+1) la ag knA kn ls H Q:=by
 subst hd
 intro w1 φ1 cs1 a w φ cs hd hle hs hka hpf hJ hag
 unfold takeQ at hB
 simp only [Bool.and_eq_true] at hB
 obtain ⟨⟨⟨⟨b1,b2⟩,b3⟩,b4⟩,b5⟩:=hB
 have hr:k∈Region.ready .any ops la:=by simpa using b4
 refine zap (v:=undef) ho hc (Region.noSelect_spec b2) hQ f la a w hJ (Region.free_spec ho b3) hr (.inr ⟨z29 hs hw,rfl⟩) (by simpa using b1) ?_
 exact h w1 φ1 cs1 _ w φ cs hd hle (hs.put b5 (kv:=.val undef) (z2o _)) (hka.drop _ _) hpf (hJ.next (rdy_of hc hJ hr)) hag
end
def notRead (o:Oper):Bool:=match o.op with
 | .load ..=>false
 | .lookup ..=>false
 | _=>true
theorem zq7 {o:Oper} {ρ:Operand→Value} {v:Value} (hn:notRead o=true) (h:detOp P ⟨0,.nil⟩ o ρ=some v):pureOp P o ρ=some v:=by
 unfold pureOp
 unfold notRead at hn
 split
 ·rename_i e; rw [e] at hn; cases hn
 ·rename_i e; rw [e] at hn; cases hn
 ·exact h
theorem det_strcat {o:Oper} {ρ:Operand→Value} {H:AH} {t u:TypeId} {x y:Operand} {a b c:ByteArray} (hop:o.op=.binOp .add t x y u) (hx:ρ x=.string a) (hy:ρ y=.string b) (h:strcat a b=some c):detOp P H o ρ=some (.string c):=by
 obtain ⟨dst,op,ty,pos,after,guard⟩:=o
 simp only at hop
 subst hop
 unfold strcat at h
 rcases z0 h with ⟨_,h⟩ | ⟨hp,h⟩
 ·cases h
 ·cases h
  have hp':peval P (execOp ρ { dst,op:=.binOp .add t x y u,type:=ty,pos,after,guard })=some (.value (.string (a++b))):=by
   simp only [execOp,hx,hy,eqGuard,binOp,Op.stringOp,hp,if_false,bind,Pure.pure]
   rfl
  simp only [detOp,tPure,flatRun,Op.operands,hp',hx,hy]
  simp [hx,hy,flat,asVal]
end Go.Abs
namespace Go.Abs
variable {P:Program} {ne:NE} {m n:Nat}
variable {E:Ent} {kn knA:KN} {ls ls1:Lcs} {H H1 H':AH} {ops:Array Oper} {k:Nat} {Q:Exit→Act→World→Prop} {bs A:List Nat} {f:Nat} {la:Array Bool} {ag:Bool}
def bsB (P:Program) (t:TypeId) (len:Nat) (ps:Array (Nat×Value)):Option (TypeId×List Value) :=
 match P.underlying t with
 | some (.slice e)=>match P.info? e with
  | some inf=>match inf.zero with
   | some z=>bif Nat.ble (len*inf.size) 1000000&&flat depth z&&!(Nat.beq (len*inf.size) 0)&&Nat.blt len OPEN then
     (Instr.fill (fun i=>some (i*inf.size,inf.size)) ((Array.range (len*inf.size)).map (z.cells[· % z.cells.size]!)) ps.toList).map fun cs=>(e,cs.toList)
    else none
   | none=>none
  | none=>none
 | _=>none
theorem bs_run {φ:Inj} {t:TypeId} {len:Nat} {ps ps':Array (Nat×Value)} {e:TypeId} {l:List Value} (h:bsB P t len ps=some (e,l)) (hp:F2 (PR φ) ps.toList ps'.toList) (w:World) :
  len≠OPEN∧∃cs',(Instr.buildSlice t len ps').run P w=.ok (.slice (some ⟨w.heap.size,0,none⟩) len len) { w with heap:=w.heap.push (.cells cs' e (0,0)) }∧AR φ l.toArray cs':=by
 unfold bsB at h
 split at h
 ·rename_i el hu
  cases hi:P.info? el with
  | none=>rw [hi] at h; cases h
  | some inf =>
   rw [hi] at h
   simp only at h
   cases hz:inf.zero with
   | none=>rw [hz] at h; cases h
   | some z =>
    rw [hz] at h
    simp only at h
    cases hc:(Nat.ble (len*inf.size) 1000000&&flat depth z&&!(Nat.beq (len*inf.size) 0)&&Nat.blt len OPEN) with
    | false=>rw [hc] at h; cases h
    | true =>
     rw [hc] at h
     simp only [cond_true] at h
     simp only [Bool.and_eq_true] at hc
     obtain ⟨⟨⟨c1,c2⟩,c3⟩,c4⟩:=hc
     have c1:=Nat.le_of_ble_eq_true c1
     have c3:len*inf.size≠0:=by
      intro e0
      rw [e0] at c3
      cases c3
     have c4:=blt_lt c4
     refine ⟨fun e0=>by rw [e0] at c4; exact absurd c4 (Nat.lt_irrefl _),?_⟩
     have hzc:AR φ z.cells z.cells:=z32 c2
     rcases ziq (φ:=φ) (fun i=>some (i*inf.size,inf.size)) _ _ _ _ hp (zff hzc (len*inf.size)) with ⟨e1,e2⟩ | ⟨o,o',e1,e2,ho⟩
     ·rw [e1] at h; cases h
     ·rw [e1] at h
      simp only [Option.map_some,Option.some.injEq,Prod.mk.injEq] at h
      obtain ⟨rfl,rfl⟩:=h
      refine ⟨o',?_,by simpa using ho⟩
      have hzr:(zeroValue el).run P w=.ok z w:=z9j (by rw [hi]; exact hz) w
      unfold Instr.buildSlice
      simp only [Sem.run_bind,z7 hu,Result.andThen_ok,z14 hi]
      rw [if_neg (by omega),if_neg c3]
      simp only [Sem.run_bind,hzr,Result.andThen_ok,Sem.run_pure,e2]
      rfl
 ·cases h
def lsBS (P:Program) (kn:KN) (ls:Lcs) (o:Oper):Option (KV×Lcs) :=
 match o.op with
 | .buildSlice t len ps=>match bsB P t len (ps.map fun (i,x)=>(i,evV kn x)) with
  | some (e,l)=>some (.sli ls.length len,ls++[some (e,l)])
  | none=>none
 | _=>none
theorem DA.actS (k:Nat) (d:Option Nat) (kv:KV) (ls':Lcs) (ho:ops[k]? = some (opAt ops k)) (hdd:(opAt ops k).dst=d) (hr:(Region.ready .any ops la).contains k=true) (hc:closedOk ops.toList bs=true) (hB:opV P n ops kn (opAt ops k)=true) (hl:lsBS P kn ls (opAt ops k)=some (kv,ls'))
  (ha:(!demO ops A bs k||ag)=true)
  (h:DA P ne m E n ops bs A H1 ls1 f (la.setIfInBounds k true) ag (dropV d knA) (putV kn d kv) ls' H Q):DAk P ne m E n ops bs A H1 ls1 k f la ag knA kn ls H Q:=by
 subst hdd
 intro w1 φ1 cs1 a w φ cs hd1 hle hs hka hpf hJ hag
 unfold opV at hB
 simp only [Bool.and_eq_true] at hB
 obtain ⟨⟨⟨hg,hx⟩,hkn⟩,hd⟩:=hB
 rw [Array.all_eq_true_iff_forall_mem] at hkn hx
 have hw:wantV ops kn (opAt ops k)=some true:=by
  split at hg
  ·assumption
  ·cases hg
 refine zg6 ho hs hw fun K hK=>?_
 have hev:∀x∈(opAt ops k).op.operands,VR φ (evV kn x) (a.eval x):=fun x hxm=>hs.eval (hkn x hxm) (hx x hxm)
 have hh:=h w1 φ1 cs1
 obtain ⟨oo,hoo⟩:∃oo,opAt ops k=oo:=⟨_,rfl⟩
 rw [hoo] at hl hd hev hh ⊢
 obtain ⟨dst,op,ty,pos,after,guard⟩:=oo
 unfold lsBS at hl
 simp only at hl hd
 cases op with
 | buildSlice t len ps =>
  simp only at hl
  cases hb:bsB P t len (ps.map fun (i,x)=>(i,evV kn x)) with
  | none=>rw [hb] at hl; cases hl
  | some p =>
   obtain ⟨e,l⟩:=p
   rw [hb] at hl
   simp only [Option.some.injEq,Prod.mk.injEq] at hl
   obtain ⟨rfl,rfl⟩:=hl
   obtain ⟨hno,cs',hrun,har⟩:=bs_run hb (zi3 ps (ρ:=evV kn) (ρ':=a.eval) hev) w
   obtain ⟨cs2,hs2,hp2,hq2,hn2⟩:=hs.new (e:=e) (v:=.agg l.toArray) (v':=.agg cs') (.agg _ _ har.1 har.2) (d:=none) rfl
   have hs3:=hs2.put (d:=dst) hd (kv:=.sli ls.length len) (v':=.slice (some ⟨w.heap.size,0,none⟩) len len) ⟨⟨_,hq2,rfl⟩,hno⟩
   have hex:(execOp a.eval ⟨dst,.buildSlice t len ps,ty,pos,after,guard⟩).run P w=.ok (.value (.slice (some ⟨w.heap.size,0,none⟩) len len)) { w with heap:=w.heap.push (.cells cs' e (0,0)) }:=by
    simp only [execOp,Sem.run_bind,hrun,Result.andThen_ok]; rfl
   unfold Oper.wp
   rw [hex]
   have hag':ag=true→Agr m H1 w1 cs1 φ { w with heap:=w.heap.push (.cells cs' e (0,0)) } cs2:=fun h1=>by
    obtain ⟨q1,q2,q3⟩:=hag h1
    refine ⟨q1.trans' (zgb _ _),q2,fun i c hi hc=>?_⟩
    rcases Nat.lt_or_ge i cs.length with hlt | hge
    ·rw [hp2 i cs[i] (List.getElem?_eq_getElem hlt)] at hc
     cases hc
     exact q3 i _ hi (List.getElem?_eq_getElem hlt)
    ·exact Nat.le_trans (zge q1) (hn2 i c hge hc)
   refine hK _ _ ⟨fun hdm=>(hag' (by rw [hdm] at ha; simpa using ha)).ag,?_⟩
   exact hh _ _ φ cs2 hd1 hle (by simpa [putV,Act.put,Value.cells] using hs3) (by simpa using hka.drop dst _) (fun i c hc=>hp2 i c (hpf i c hc)) (zis hr hc hJ) hag'
 | _=>cases hl
def newS (e:TypeId) (cells:List Value) (H:AH):Option (Nat×AH):=some (H.next,H.push (pubB e cells))
theorem DA.pubK (i:Nat) {e:TypeId} {cells:List Value} {id:Nat} (kn':KN) (ls':Lcs) (hx:newS e cells H=some (id,H')) (hi:ls[i]? = some (some (e,cells))) (hk:pubK i id kn=kn') (hl:ls.set i none=ls')
  (h:DAk P ne m E n ops bs A H1 ls1 k f la ag knA kn' ls' H' Q) (hnw:(!ag||Nat.ble ls1.length i)=true:=by kernel_rfl):DAk P ne m E n ops bs A H1 ls1 k f la ag knA kn ls H Q:=by
 cases hx
 subst hk hl
 intro w1 φ1 cs1 a w φ cs hd1 hle hs hka hpf hJ hag
 obtain ⟨φ',h1,h3,h2⟩:=hs.pub i hi
 refine h w1 φ1 cs1 a w φ' cs hd1 (fun id l hl=>h1 _ _ (hle _ _ hl)) h2 hka hpf hJ fun hg=>⟨(hag hg).ag,fun id l hid hl=>?_,(hag hg).nw⟩
 rcases h3 id l hl with h4 | h4
 ·exact (hag hg).jn id l hid h4
 ·rw [hg] at hnw
  exact (hag hg).nw i _ (by rw [hd1.len]; simpa using hnw) h4
def isScope:Code→Bool | .scope _=>true | _=>false
theorem WS.scope {c:Code} (hc:isScope c=true) (h:WS P ne m E n (cfst c) kn ls H (Exit.noGoto Q)):WS P ne m E n c kn ls H Q:=by
 cases c with
 | scope b=>exact fun a w hs=>wp_scope_straight (h a w hs)
 | _=>cases hc
theorem sgR {a:Act} {w:World} (h:Q .ret a w):Exit.noGoto Q .ret a w:=h
section
variable {S R:Type} {knOf:S→KN} {lsOf:S→Lcs} {hOf:S→AH} {i:Nat} {QR:R→Exit→Act→World→Prop} {a:Act} {w:World}
def lpX (P:Program) (ne:NE) (m:Nat) (E:Ent) (n:Nat) (knOf:S→KN) (lsOf:S→Lcs) (hOf:S→AH) (i:Nat) (QR:R→Exit→Act→World→Prop) (o:Lp S R):Exit→Act→World→Prop
 | .normal,a,w=>∃s,o=.next s∧SS P ne m E n (knOf s) (lsOf s) (hOf s) a w
 | e,a,w=>(∃s,o=.brk s∧e=.exit i∧SS P ne m E n (knOf s) (lsOf s) (hOf s) a w)∨∃r,o=.ret r∧QR r e a w
theorem lxB {o:Lp S R} {s:S} (ho:o=.brk s) (h:SS P ne m E n (knOf s) (lsOf s) (hOf s) a w):lpX P ne m E n knOf lsOf hOf i QR o (.exit i) a w:=.inl ⟨s,ho,rfl,h⟩
theorem zp7 {c:Code} {body:S→Option (Lp S R)}
  (hbody:∀s o,body s=some o→WS P ne m E n c (knOf s) (lsOf s) (hOf s) (lpX P ne m E n knOf lsOf hOf i QR o)) :
  ∀(k:Nat) (s:S) (o:S⊕R),iterO body k s=some o→∀{Q:Exit→Act→World→Prop},(∀s',o=.inl s'→∀a w,SS P ne m E n (knOf s') (lsOf s') (hOf s') a w→Q (.exit i) a w)→(∀r,o=.inr r→∀e a w,QR r e a w→Q e a w) →
   ∀a w,SS P ne m E n (knOf s) (lsOf s) (hOf s) a w→Code.rounds P c Q k a w:=by
 intro k
 induction k with
 | zero=>intro s o h; cases h
 | succ k ih =>
  intro s o h Q h1 h2 a w hs
  rw [rounds_succ]
  simp only [iterO] at h
  cases hb:body s with
  | none=>rw [hb] at h; cases h
  | some l =>
   rw [hb] at h
   have other:∀e a' w',((∃s,l=.brk s∧e=.exit i∧SS P ne m E n (knOf s) (lsOf s) (hOf s) a' w')∨∃r,l=.ret r∧QR r e a' w')→Q e a' w':=by
    rintro e a' w' (⟨s',rfl,rfl,hs'⟩ | ⟨r,rfl,hr⟩)
    ·simp only [Option.some.injEq] at h
     exact h1 s' h.symm a' w' hs'
    ·simp only [Option.some.injEq] at h
     exact h2 r h.symm _ a' w' hr
   refine wp_mono (hbody s l hb a w hs) fun e a' w' hq=>?_
   cases e with
   | normal =>
    obtain ⟨s',rfl,hs'⟩:=hq
    exact ih s' o h h1 h2 a' w' hs'
   | _=>exact other _ a' w' hq
theorem WS.loopX_ {c:Code} (hc:isLoop c=true) (body:S→Option (Lp S R)) (knOf:S→KN) (lsOf:S→Lcs) (hOf:S→AH) (i:Nat) (QR:R→Exit→Act→World→Prop)
  (hbody:∀s o,body s=some o→WS P ne m E n (cfst c) (knOf s) (lsOf s) (hOf s) (lpX P ne m E n knOf lsOf hOf i QR o)) {s:S} {o:S⊕R} (hl:loopO body s=some o) (k:Nat) (hsub:SubV (knOf s) kn) (hls:ls.take k=lsOf s) (hbl:belowL k (knOf s)=true) (hH:H=hOf s)
  (h1:∀s',o=.inl s'→∀a w,SS P ne m E n (knOf s') (lsOf s') (hOf s') a w→Q (.exit i) a w) (h2:∀r,o=.inr r→∀e a w,QR r e a w→Q e a w):WS P ne m E n c kn ls H Q:=by
 cases c with
 | loop body' =>
  intro a w hs
  obtain ⟨k',hk⟩:=zhv.1 hl
  subst hH
  exact wp_loop_rounds k' (zp7 hbody k' s o hk h1 h2 a w (hs.sub hsub k hls hbl))
 | _=>cases hc
theorem WS.loopXI {c:Code} (hc:isLoop c=true) (body:S→Option (Lp S R)) (knOf:S→KN) (lsOf:S→Lcs) (hOf:S→AH) (i:Nat) (QR:R→Exit→Act→World→Prop)
  (hbody:∀s o,body s=some o→WS P ne m E n (cfst c) (knOf s) (lsOf s) (hOf s) (lpX P ne m E n knOf lsOf hOf i QR o)) {s s':S} (hl:loopO body s=some (.inl s')) (k:Nat) (hsub:SubV (knOf s) kn) (hls:ls.take k=lsOf s) (hbl:belowL k (knOf s)=true) (hH:H=hOf s)
  (h1:∀a w,SS P ne m E n (knOf s') (lsOf s') (hOf s') a w→Q (.exit i) a w):WS P ne m E n c kn ls H Q :=
 WS.loopX_ hc body knOf lsOf hOf i QR hbody hl k hsub hls hbl hH (fun s2 e=>by cases e; exact h1) (fun r e=>by cases e)
theorem WS.loopXR {c:Code} (hc:isLoop c=true) (body:S→Option (Lp S R)) (knOf:S→KN) (lsOf:S→Lcs) (hOf:S→AH) (i:Nat) (QR:R→Exit→Act→World→Prop)
  (hbody:∀s o,body s=some o→WS P ne m E n (cfst c) (knOf s) (lsOf s) (hOf s) (lpX P ne m E n knOf lsOf hOf i QR o)) {s:S} {r:R} (hl:loopO body s=some (.inr r)) (k:Nat) (hsub:SubV (knOf s) kn) (hls:ls.take k=lsOf s) (hbl:belowL k (knOf s)=true) (hH:H=hOf s)
  (h2:∀e a w,QR r e a w→Q e a w):WS P ne m E n c kn ls H Q :=
 WS.loopX_ hc body knOf lsOf hOf i QR hbody hl k hsub hls hbl hH (fun s2 e=>by cases e) (fun r2 e=>by cases e; exact h2)
end
def gOp {α:Type} (P:Program) (m:Nat) (ops:Array Oper) (k:Nat) (kn:KN) (de:Value→Option α) (H:AH):Option (α×AH) :=
 match runOp P (NE.plain 0) ih0 m (opAt ops k) (evV kn) H with
 | some (v,H')=>(de v).map fun x=>(x,H')
 | none=>none
theorem zes {α:Type} {knS:KN} {de:Value→Option α} {x:α} {v:Value} (hx:gOp P m ops k knS de H=some (x,H')) (hv:∀u,de u=some x→u=v) (he:runOp P (NE.plain 0) ih0 m (opAt ops k) (evV knS) H=runOp P (NE.plain 0) ih0 m (opAt ops k) (evV kn) H):runOp P (NE.plain 0) ih0 m (opAt ops k) (evV kn) H=some (v,H'):=by
 rw [← he]
 unfold gOp at hx
 split at hx
 ·rename_i u H1 hu
  cases hd:de u with
  | none=>rw [hd] at hx; cases hx
  | some y =>
   rw [hd] at hx
   simp only [Option.map_some,Option.some.injEq,Prod.mk.injEq] at hx
   obtain ⟨rfl,rfl⟩:=hx
   rw [hu,hv u hd]
 ·cases hx
def gOp1 {α:Type} (P:Program) (ops:Array Oper) (k:Nat) (kn:KN) (de:Value→Option α) (H:AH):Option α :=
 (gOp P 0 ops k kn de H).map (·.1)
theorem zn1 {α:Type} {knS:KN} {de:Value→Option α} {x:α} {v:Value} (hx:gOp1 P ops k knS de H=some x) (hv:∀u,de u=some x→u=v) (hq:quiet P (opAt ops k)=true) (he:runOp P (NE.plain 0) ih0 0 (opAt ops k) (evV knS) H=runOp P (NE.plain 0) ih0 m (opAt ops k) (evV kn) H):runOp P (NE.plain 0) ih0 m (opAt ops k) (evV kn) H=some (v,H):=by
 unfold gOp1 at hx
 cases hg:gOp P 0 ops k knS de H with
 | none=>rw [hg] at hx; cases hx
 | some p =>
  obtain ⟨y,H1⟩:=p
  rw [hg] at hx
  simp only [Option.map_some,Option.some.injEq] at hx
  subst hx
  rw [← he]
  have h1:runOp P (NE.plain 0) ih0 0 (opAt ops k) (evV knS) H=some (v,H1):=zes hg hv rfl
  rw [h1,zki hq h1]
theorem RS.esc {f:Nat} (d:Option Nat) (v:Value) (ho:ops[k]? = some (opAt ops k)) (hd:(opAt ops k).dst=d) (hB:opV P n ops kn (opAt ops k)=true) (hr:runOp P (NE.plain f) ih0 m (opAt ops k) (evV kn) H=some (v,H'))
  (h:RS P (NE.plain f) m E n ops (k+1) (putV kn d (.val v)) ls H' Q):RS P (NE.plain f) m E n ops k kn ls H Q:=by
 subst hd
 intro a w hs
 obtain ⟨φ,cs,hs⟩:=hs
 unfold opV at hB
 simp only [Bool.and_eq_true] at hB
 obtain ⟨⟨⟨hg,hx⟩,hkn⟩,hd⟩:=hB
 rw [Array.all_eq_true_iff_forall_mem] at hkn hx
 have hw:wantV ops kn (opAt ops k)=some true:=by
  split at hg
  ·assumption
  ·cases hg
 rw [z8s ho,wpOps_cons]
 unfold wpOp
 rw [ho]
 simp only [z29 hs hw,if_true]
 left
 refine z7l hs.sane zjs hr hs.glob (fun x hxm=>hs.eval (hkn x hxm) (hx x hxm)) hs.inv fun φ' v' w' h1 h2 h3=>?_
 exact h _ _ ⟨φ',cs,(hs.heap h2 h3).put hd h1⟩
end Go.Abs
namespace Go.Abs
variable {P:Program} {m:Nat}
open Go.RowKit in
theorem zml {ne:NE} (hS:Sane P ne) {f:Nat} {args args':Array Value} {tabs:List Tab} {H':AH}
  (h:CallS P ne P.globals.size f args (startH P tabs) (.bool true) H') (ha:AR (φg P) args args') {W:World} (hW:P.globals.size≤W.heap.size) (hB:tabsB P tabs=true)
  (ht:∀x∈tabs,∃fr,W.heap[x.1]? = some (.cells x.2.2 x.2.1 fr)):Calls P f args' W fun e W'=>e=.returned (.bool true)∧Below W.heap.size W W':=by
 refine ((h hS).2 (φg P) W args' zrq ha (zr2 hW hB ht)).mono fun e W' hpost=>?_
 obtain ⟨φ',v',rfl,hv,_,hst⟩:=hpost
 cases hv
 refine ⟨rfl,hst.os,hst.tape,hst.output,hst.size,fun k hk=>hst.keep k hk fun id l hm hs _=>?_⟩
 obtain ⟨b,hb⟩:=Option.isSome_iff_exists.1 hs
 obtain ⟨x,hx,rfl,_⟩:=zg9 hb
 unfold tabsB at hB
 rw [List.all_eq_true] at hB
 have:=hB x hx
 simp only [Bool.and_eq_true] at this
 have:=blt_lt this.1
 omega
theorem znq {H:Type} {enc:TypeId×Value→H} {a:Assume} {C:Checked} {os:Os} {f:FuncId} {fn:Func} {s:ChangeSpec} {conds:List PathCond} {apart fresh handsOn:Bool} {X:World→Array Value→Prop} {ne:NE} {tabs:List Tab}
  (own:ownKnob C.prog.godebug=none) (started:os.Started) (noInit:C.prog.inits.idxOf? f=none) (hfn:C.prog.funcs[f]? = some fn) (hbody:fn.body.isSome=true)
  (hS:Sane C.prog ne) (hgb:globalsB C.prog=true) (hl:laidOutB C.prog=true) (hts:readB C.prog fn=true) (hv:s.vars=[]) (hres:boolRes C.prog fn=true)
  (hspec:∀ds:List (DataW H),ds.length=fn.params.size→(s.fn H ds).results=[.lit (.bool true)]∧(s.fn H ds).args=ds∧(s.fn H ds).vars=[])
  (hB:tabsB C.prog tabs=true) (hX:∀(w w':World) (args:Array Value),w.heap=w'.heap→X w args→X w' args) (ht:∀W args,X W args→W.ShapedOpen C.prog→∀x∈tabs,∃fr,W.heap[x.1]? = some (.cells x.2.2 x.2.1 fr))
  (hrun:∃H',CallS C.prog ne C.prog.globals.size f (fn.params.map (anyArg C.prog)) (startH C.prog tabs) (.bool true) H')
  (witness:∃(w:World) (tape:Tape) (i:Input),w.os=os∧(w.forCall tape i).Shaped C.prog∧i.vars=[]∧Input.okWide C.prog (w.forCall tape i) .any w.heap.size f i ∧
   ((s.pre enc C.prog fn conds apart (w.forCall tape i).memory i.args∧X (w.forCall tape i).memory i.args)∧sizedMet enc C.prog fn (OpenSpec.ofChange s) apart (w.forCall tape i).memory i.args)∧a.holds C.prog (lone (Frame.enter C.prog f i.args .normal) [] (w.forCall tape i))) :
  ReturnsInHanded a C os f .any (fun w args=>(s.pre enc C.prog fn conds apart w args∧X w args)∧sizedMet enc C.prog fn (OpenSpec.ofChange s) apart w args) (s.post enc C.prog fn apart fresh handsOn false):=by
 obtain ⟨c,hbody⟩:=Option.isSome_iff_exists.1 hbody
 obtain ⟨tb,hres,hbool⟩:=zpt hres
 have hts:=zrd hts
 refine returnsInHanded_of_calls own started noInit witness ?_
 intro w tape i _ hsh _ hok hpre hholds
 obtain ⟨_,_,_,fn',hfn',_,_,_,hsz,hval⟩:=hok
 have e:fn'=fn:=Option.some.inj (hfn'.symm.trans hfn)
 subst e
 obtain ⟨⟨⟨ds,gs,before,hw,hc⟩,hx⟩,_⟩:=hpre
 have hw':=DataW.Whole.of_heap (w':=w.forCall tape i) (by rfl) hw
 have hx':=hX _ (w.forCall tape i) _ (by rfl) hx
 have hlen:ds.length=fn'.params.size:=by
  obtain ⟨p,q,hA,_⟩:=hw'
  have key:∀(ts:List TypeId) (vs:List Value) (ds:List (DataW H)) (ps:List MemPlace),DataW.TrodAll enc C.prog (w.forCall tape i) 0 (fun _=>true) true ts vs ds ps→ds.length=ts.length:=by
   intro ts
   induction ts with
   | nil=>intro vs ds ps h; obtain ⟨_,rfl,_⟩:=ChangeShapes.trodAll_nil h; rfl
   | cons t ts ih=>intro vs ds ps h; obtain ⟨v,vs',d,ds',p,q,_,rfl,_,_,h2⟩:=ChangeShapes.trodAll_cons h; simp [ih _ _ _ h2]
  simpa using key _ _ _ _ hA
 obtain ⟨H',hrun⟩:=hrun
 refine (zml hS hrun (zps hsz hval) (zmf hgb hsh) hB (ht _ _ hx' hsh)).mono fun e W' ⟨he,hb⟩=>?_
 subst he
 exact ChangeSpec.post_blind (zr0 hl hts hv hres hbool hw' (hspec ds hlen) hb)
theorem zir {laid:List (String×DataW Unit)} {W:World} {name:String} {k:IntKind} {zs:List Int} {g:Nat} {e t te:TypeId} {n:Nat} (hL:laidMet P laid W) (hf:laid.filter (fun x=>x.1 == name)=[(name,Lib.tabData k zs)])
  (hg:P.globalNamed name=some g) (hty:(P.globals[g]?).map (·.type)=some t) (ht:P.underlying t=some (.array n te)) (he:P.underlying te=some (.int k)) (hce:P.cellsOf te=1) (hct:P.cellsOf t=n) (hlt:g<P.globals.size)
  (hrow:(((begin P (fun _ _=>0) default).world.heap[g]?).bind Obj.row?).map (·.2)=some e) (hsh:W.ShapedOpen P):∃fr,W.heap[g]? = some (.cells (zs.map fun z=>Value.int k z).toArray e fr):=by
 have h1:=laidMet.filter (fun x=>x.1 == name) hL
 rw [hf] at h1
 exact ⟨(0,0),zqu hg hlt hrow hsh (Lib.tabIs_of_head hg hty ht he hce hct h1)⟩
def zsOf:DataW Unit→List Int
 | .agg l=>l.map fun | .lit (.int _ z)=>z | _=>0
 | _=>[]
end Go.Abs
namespace Go.Abs
variable {P:Program} {ne:NE} {m n:Nat}
variable {E:Ent} {kn knA:KN} {ls ls1:Lcs} {H H1 H':AH} {ops:Array Oper} {k:Nat} {Q:Exit→Act→World→Prop} {bs A:List Nat} {f:Nat} {la:Array Bool} {ag:Bool} {c:Code}
theorem WS.sq (h:WS P ne m E n (cfst c) kn ls H (Exit.then ((csnd c).wp P Q) Q)) (hc:isSeq c=true:=by kernel_rfl):WS P ne m E n c kn ls H Q:=WS.seq hc h
theorem WS.sk (h:∀a w,SS P ne m E n kn ls H a w→Q .normal a w) (hc:isSkip c=true:=by kernel_rfl):WS P ne m E n c kn ls H Q:=WS.skip hc h
theorem WS.rt (h:∀a w,SS P ne m E n kn ls H a w→Q .ret a w) (hc:isRet c=true:=by kernel_rfl):WS P ne m E n c kn ls H Q:=WS.ret hc h
theorem WS.ex (i:Nat) (h:∀a w,SS P ne m E n kn ls H a w→Q (.exit i) a w) (hc:isExit i c=true:=by kernel_rfl):WS P ne m E n c kn ls H Q:=WS.exit i hc h
theorem WS.bk (i:Nat) (h:WS P ne m E n (cfst c) kn ls H (blkS i Q)) (hc:isBlock i c=true:=by kernel_rfl):WS P ne m E n c kn ls H Q:=WS.blk i hc h
theorem WS.cT (h:WS P ne m E n (cfst c) kn ls H Q) (hc:(condOf c).map (fun x=>(knownV kn x,evV kn x))=some (true,.bool true):=by kernel_rfl):WS P ne m E n c kn ls H Q:=WS.condT true rfl hc h
theorem WS.cF (h:WS P ne m E n (csnd c) kn ls H Q) (hc:(condOf c).map (fun x=>(knownV kn x,evV kn x))=some (true,.bool false):=by kernel_rfl):WS P ne m E n c kn ls H Q:=WS.condF false rfl hc h
theorem WS.fx (t:Nat) {b:Bool} (d:Bool) (hb:b=d) (h:WS P ne m E n c ((t,.val (.bool d)) :: kn) ls H Q) (hl:lkV kn t=some (.val (.bool b)):=by kernel_rfl):WS P ne m E n c kn ls H Q:=WS.fix t d hb hl h
theorem RS.fx (t:Nat) {b:Bool} (d:Bool) (hb:b=d) (h:RS P ne m E n ops k ((t,.val (.bool d)) :: kn) ls H Q) (hl:lkV kn t=some (.val (.bool b)):=by kernel_rfl):RS P ne m E n ops k kn ls H Q:=RS.fix t d hb hl h
theorem DA.fx (t:Nat) {b:Bool} (d:Bool) (hb:b=d) (h:DA P ne m E n ops bs A H1 ls1 f la ag ((t,.val (.bool d)) :: knA) ((t,.val (.bool d)) :: kn) ls H Q) (hl:lkV kn t=some (.val (.bool b)):=by kernel_rfl):DA P ne m E n ops bs A H1 ls1 f la ag knA kn ls H Q:=DA.fix t d hb hl h
theorem WS.rg (h:RS P ne m E n (opsOf c) 0 kn ls H Q) (hc:(regOf c).map (·.2)=some false:=by kernel_rfl):WS P ne m E n c kn ls H Q:=by
 refine WS.region (opsOf c) ?_ h
 cases c with
 | region id ops d =>
  simp only [regOf,Option.map_some,Option.some.injEq] at hc
  subst hc; rfl
 | _=>cases hc
theorem RS.dn (h:∀a w,SS P ne m E n kn ls H a w→Q .normal a w) (hk:Nat.ble ops.size k=true:=by kernel_rfl):RS P ne m E n ops k kn ls H Q:=RS.done hk h
theorem RS.mS (j:Nat) (new:KN) (h:RS P ne m E n ops (k+j) (new++kn) ls H Q) (hr:runLs P m n ops j k kn ls H=some (new++kn,ls,H):=by kernel_rfl):RS P ne m E n ops k kn ls H Q:=RS.many j new ls hr h
theorem RS.mL (j:Nat) (new:KN) (ls':Lcs) (h:RS P ne m E n ops (k+j) (new++kn) ls' H Q) (hr:runLs P m n ops j k kn ls H=some (new++kn,ls',H):=by kernel_rfl):RS P ne m E n ops k kn ls H Q:=RS.many j new ls' hr h
theorem RS.o (d:Option Nat) (v:Value) (hr:runOp P (NE.plain 0) ih0 m (opAt ops k) (evV kn) H=some (v,H')) (h:RS P ne m E n ops (k+1) (putV kn d (.val v)) ls H' Q)
  (ho:ops[k]? = some (opAt ops k):=by kernel_rfl) (hd:(opAt ops k).dst=d:=by kernel_rfl) (hB:(opV P n ops kn (opAt ops k)&&noCall (opAt ops k))=true:=by kernel_rfl):RS P ne m E n ops k kn ls H Q:=RS.atD d v ho hd hB hr h
theorem RS.cl (d:Option Nat) {v:Value} (g:Nat) (args:Array Value) (hr:CallS P ne m g args H v H') (h:RS P ne m E n ops (k+1) (putV kn d (.val v)) ls H' Q)
  (ho:ops[k]? = some (opAt ops k):=by kernel_rfl) (hd:(opAt ops k).dst=d:=by kernel_rfl) (hB:opV P n ops kn (opAt ops k)=true:=by kernel_rfl) (hc:callV kn (opAt ops k)=some (g,args):=by kernel_rfl):RS P ne m E n ops k kn ls H Q:=RS.callD d g args ho hd hB hc hr h
theorem WS.dr (A:List Nat) (bs:List Nat) (sz:Nat) (h:closedOk (opsOf c).toList bs=true→DA P ne m E n (opsOf c) bs A H ls sz (Array.replicate sz false) true kn kn ls H Q) (hc:regOf c=some (opsOf c,true):=by kernel_rfl) (hb:befores (opsOf c).toList=bs:=by kernel_rfl) (hs:(opsOf c).size=sz:=by kernel_rfl) (hB:closedOk (opsOf c).toList bs=true:=by kernel_rfl):WS P ne m E n c kn ls H Q:=WS.drawnX (opsOf c) A bs sz hc hb hs hB (h hB)
theorem DA.dn (h:∀a w,SS P ne m E n kn ls H a w→Q .normal a w) (hr:readyIs ops la []=true:=by kernel_rfl):DA P ne m E n ops bs A H1 ls1 f la ag knA kn ls H Q:=DA.done hr h
theorem DA.on (k:Nat) (h:DAk P ne m E n ops bs A H1 ls1 k f la ag knA kn ls H Q) (hr:readyIs ops la [k]=true:=by kernel_rfl):DA P ne m E n ops bs A H1 ls1 (f+1) la ag knA kn ls H Q:=DA.one k hr h
theorem DA.tD (k:Nat) (d:Option Nat) (v:Value) (hv:detOp P H1 (opAt ops k) (evV knA)=some v) (h:DA P ne m E n ops bs A H1 ls1 f (la.setIfInBounds k true) true (putV knA d (.val v)) (putV kn d (.val v)) ls H Q)
  (hc:closedOk ops.toList bs=true:=by assumption) (ho:ops[k]? = some (opAt ops k):=by kernel_rfl) (hd:(opAt ops k).dst=d:=by kernel_rfl) (hB:takeB P n ops A la k (opAt ops k)=true:=by kernel_rfl) (hQ:∀c a w,¬Q (.panic c) a w:=by exact fun _ _ _ h=>h)
  (hw:(wantV ops kn (opAt ops k),(opAt ops k).op.operands.all (okx P),(opAt ops k).op.operands.all (knownV knA))=(some true,true,true):=by kernel_rfl):DA P ne m E n ops bs A H1 ls1 (f+1) la true knA kn ls H Q:=DA.takeD k d v ho hd hB hc hQ hw hv h
theorem DA.tK (k:Nat) (d:Option Nat) (v:Value) (h:DA P ne m E n ops bs A H1 ls1 f (la.setIfInBounds k true) true (putV knA d (.val v)) (putV kn d (.val v)) ls H Q)
  (hc:closedOk ops.toList bs=true:=by assumption) (ho:ops[k]? = some (opAt ops k):=by kernel_rfl) (hd:(opAt ops k).dst=d:=by kernel_rfl) (hB:takeB P n ops A la k (opAt ops k)=true:=by kernel_rfl) (hQ:∀c a w,¬Q (.panic c) a w:=by exact fun _ _ _ h=>h)
  (hw:(wantV ops kn (opAt ops k),(opAt ops k).op.operands.all (okx P),(opAt ops k).op.operands.all (knownV knA))=(some true,true,true):=by kernel_rfl) (hv:detOp P H1 (opAt ops k) (evV knA)=some v:=by kernel_rfl):DA P ne m E n ops bs A H1 ls1 (f+1) la true knA kn ls H Q:=DA.takeD k d v ho hd hB hc hQ hw hv h
theorem DA.tL (k:Nat) (d:Option Nat) (kv:KV) (h:DA P ne m E n ops bs A H1 ls1 f (la.setIfInBounds k true) true (putV knA d kv) (putV kn d kv) ls H Q)
  (hc:closedOk ops.toList bs=true:=by assumption) (ho:ops[k]? = some (opAt ops k):=by kernel_rfl) (hd:(opAt ops k).dst=d:=by kernel_rfl) (hB:takeB P n ops A la k (opAt ops k)=true:=by kernel_rfl) (hQ:∀c a w,¬Q (.panic c) a w:=by exact fun _ _ _ h=>h)
  (hw:wantV ops kn (opAt ops k)=some true:=by kernel_rfl) (hv:locDet P knA ls1 (opAt ops k)=some kv:=by kernel_rfl):DA P ne m E n ops bs A H1 ls1 (f+1) la true knA kn ls H Q:=DA.takeLD k d kv ho hd hB hc hQ hw hv h
theorem DA.tP (k:Nat) (d:Option Nat) (v:Value) (h:DA P ne m E n ops bs A H1 ls1 f (la.setIfInBounds k true) ag (dropV d knA) (putV kn d (.val v)) ls H Q)
  (hc:closedOk ops.toList bs=true:=by assumption) (ho:ops[k]? = some (opAt ops k):=by kernel_rfl) (hd:(opAt ops k).dst=d:=by kernel_rfl) (hB:takeQ P n ops A bs la k (opAt ops k)=true:=by kernel_rfl) (hQ:∀c a w,¬Q (.panic c) a w:=by exact fun _ _ _ h=>h)
  (hw:(wantV ops kn (opAt ops k),(opAt ops k).op.operands.all (okx P),(opAt ops k).op.operands.all (knownV kn))=(some true,true,true):=by kernel_rfl) (hv:pureOp P (opAt ops k) (evV kn)=some v:=by kernel_rfl):DA P ne m E n ops bs A H1 ls1 (f+1) la ag knA kn ls H Q:=DA.takeP k d v ho hd hB hc hQ hw hv h
theorem DA.tPx (k:Nat) (d:Option Nat) (v:Value) (hv:detOp P ⟨0,.nil⟩ (opAt ops k) (evV kn)=some v) (h:DA P ne m E n ops bs A H1 ls1 f (la.setIfInBounds k true) ag (dropV d knA) (putV kn d (.val v)) ls H Q)
  (hc:closedOk ops.toList bs=true:=by assumption) (ho:ops[k]? = some (opAt ops k):=by kernel_rfl) (hd:(opAt ops k).dst=d:=by kernel_rfl) (hB:takeQ P n ops A bs la k (opAt ops k)=true:=by kernel_rfl) (hQ:∀c a w,¬Q (.panic c) a w:=by exact fun _ _ _ h=>h)
  (hw:(wantV ops kn (opAt ops k),(opAt ops k).op.operands.all (okx P),(opAt ops k).op.operands.all (knownV kn))=(some true,true,true):=by kernel_rfl) (hn:notRead (opAt ops k)=true:=by kernel_rfl):DA P ne m E n ops bs A H1 ls1 (f+1) la ag knA kn ls H Q:=DA.takeP k d v ho hd hB hc hQ hw (zq7 hn hv) h
theorem DA.tPL (k:Nat) (d:Option Nat) (kv:KV) (h:DA P ne m E n ops bs A H1 ls1 f (la.setIfInBounds k true) ag (dropV d knA) (putV kn d kv) ls H Q)
  (hc:closedOk ops.toList bs=true:=by assumption) (ho:ops[k]? = some (opAt ops k):=by kernel_rfl) (hd:(opAt ops k).dst=d:=by kernel_rfl) (hB:takeQ P n ops A bs la k (opAt ops k)=true:=by kernel_rfl) (hQ:∀c a w,¬Q (.panic c) a w:=by exact fun _ _ _ h=>h)
  (hw:wantV ops kn (opAt ops k)=some true:=by kernel_rfl) (hv:(match (opAt ops k).op with | .load ..=>none | _=>locDet P kn ls (opAt ops k))=some kv:=by kernel_rfl):DA P ne m E n ops bs A H1 ls1 (f+1) la ag knA kn ls H Q:=DA.takePL k d kv ho hd hB hc hQ hw hv h
theorem DA.aL (k:Nat) (d:Option Nat) (kv:KV) (ls':Lcs) (ag':Bool) (h:DA P ne m E n ops bs A H1 ls1 f (la.setIfInBounds k true) ag' (dropV d knA) (putV kn d kv) ls' H Q)
  (hc:closedOk ops.toList bs=true:=by assumption) (ho:ops[k]? = some (opAt ops k):=by kernel_rfl) (hdd:(opAt ops k).dst=d:=by kernel_rfl) (hr:(Region.ready .any ops la).contains k=true:=by kernel_rfl) (hw:wantV ops kn (opAt ops k)=some true:=by kernel_rfl) (hd:dstV n (opAt ops k)=true:=by kernel_rfl) (hl:locOp P kn ls (opAt ops k)=some (kv,ls'):=by kernel_rfl)
  (ha:((!demO ops A bs k||(ag&&notStore (opAt ops k)))&&(!ag'||(ag&&notStore (opAt ops k))))=true:=by kernel_rfl):DAk P ne m E n ops bs A H1 ls1 k f la ag knA kn ls H Q:=DA.actLD k d kv ls' ag' ho hdd hr hc hw hd hl ha h
theorem DA.aH (k:Nat) (d:Option Nat) (v:Value) (hv:runOp P (NE.plain 0) ih0 m (opAt ops k) (evV kn) H=some (v,H')) (h:DA P ne m E n ops bs A H1 ls1 f (la.setIfInBounds k true) false (dropV d knA) (putV kn d (.val v)) ls H' Q)
  (hc:closedOk ops.toList bs=true:=by assumption) (ho:ops[k]? = some (opAt ops k):=by kernel_rfl) (hdd:(opAt ops k).dst=d:=by kernel_rfl) (hr:(Region.ready .any ops la).contains k=true:=by kernel_rfl) (hB:(opV P n ops kn (opAt ops k)&&noCall (opAt ops k))=true:=by kernel_rfl) (hd:demO ops A bs k=false:=by kernel_rfl):DAk P ne m E n ops bs A H1 ls1 k f la ag knA kn ls H Q :=
 DA.actHD k d m false v ho hdd hr hc hB hv (Nat.le_refl _) (fun hh=>by rw [hd] at hh; cases hh) (by rw [hd]; rfl) h
theorem DA.aHj (k:Nat) (d:Option Nat) (ag':Bool) (v:Value) (hv:runOp P (NE.plain 0) ih0 (Nat.max m H1.next) (opAt ops k) (evV kn) H=some (v,H')) (h:DA P ne m E n ops bs A H1 ls1 f (la.setIfInBounds k true) ag' (dropV d knA) (putV kn d (.val v)) ls H' Q)
  (hc:closedOk ops.toList bs=true:=by assumption) (ho:ops[k]? = some (opAt ops k):=by kernel_rfl) (hdd:(opAt ops k).dst=d:=by kernel_rfl) (hr:(Region.ready .any ops la).contains k=true:=by kernel_rfl) (hB:(opV P n ops kn (opAt ops k)&&noCall (opAt ops k))=true:=by kernel_rfl) (ha:((!demO ops A bs k||ag)&&(!ag'||ag))=true:=by kernel_rfl):DAk P ne m E n ops bs A H1 ls1 k f la ag knA kn ls H Q :=
 DA.actHD k d (Nat.max m H1.next) ag' v ho hdd hr hc hB hv (Nat.le_max_left _ _) (fun _=>.inr (Nat.le_max_right _ _)) ha h
theorem DA.aC (k:Nat) (d:Option Nat) {v:Value} (g:Nat) (args:Array Value) (hcs:CallS P ne m g args H v H') (h:DA P ne m E n ops bs A H1 ls1 f (la.setIfInBounds k true) false (dropV d knA) (putV kn d (.val v)) ls H' Q)
  (hc:closedOk ops.toList bs=true:=by assumption) (ho:ops[k]? = some (opAt ops k):=by kernel_rfl) (hdd:(opAt ops k).dst=d:=by kernel_rfl) (hr:(Region.ready .any ops la).contains k=true:=by kernel_rfl) (hB:opV P n ops kn (opAt ops k)=true:=by kernel_rfl) (hcl:callV kn (opAt ops k)=some (g,args):=by kernel_rfl) (hd:demO ops A bs k=false:=by kernel_rfl):DAk P ne m E n ops bs A H1 ls1 k f la ag knA kn ls H Q :=
 DA.actCD k d m false g args ho hdd hr hc hB hcl hcs (Nat.le_refl _) (fun hh=>by rw [hd] at hh; cases hh) (by rw [hd]; rfl) h
theorem DA.aCj (k:Nat) (d:Option Nat) (ag':Bool) {v:Value} (g:Nat) (args:Array Value) (hcs:CallS P ne (Nat.max m H1.next) g args H v H') (h:DA P ne m E n ops bs A H1 ls1 f (la.setIfInBounds k true) ag' (dropV d knA) (putV kn d (.val v)) ls H' Q)
  (hc:closedOk ops.toList bs=true:=by assumption) (ho:ops[k]? = some (opAt ops k):=by kernel_rfl) (hdd:(opAt ops k).dst=d:=by kernel_rfl) (hr:(Region.ready .any ops la).contains k=true:=by kernel_rfl) (hB:opV P n ops kn (opAt ops k)=true:=by kernel_rfl) (hcl:callV kn (opAt ops k)=some (g,args):=by kernel_rfl) (ha:((!demO ops A bs k||ag)&&(!ag'||ag))=true:=by kernel_rfl):DAk P ne m E n ops bs A H1 ls1 k f la ag knA kn ls H Q :=
 DA.actCD k d (Nat.max m H1.next) ag' g args ho hdd hr hc hB hcl hcs (Nat.le_max_left _ _) (fun _=>.inr (Nat.le_max_right _ _)) ha h
theorem SubV.of:∀{kn' kn:KN},kn'.map (fun p=>lkV kn p.1)=kn'.map (fun p=>some p.2)→SubV kn' kn:=by
 intro kn'
 induction kn' with
 | nil=>intro kn _; trivial
 | cons p l ih =>
  intro kn h
  obtain ⟨t,v⟩:=p
  simp only [List.map_cons,List.cons.injEq] at h
  exact ⟨h.1,ih h.2⟩
theorem SS.sb {a:Act} {w:World} (h:SS P ne m E n kn ls H a w) {kn':KN} (k:Nat) {ls':Lcs} (hs:kn'.map (fun p=>lkV kn p.1)=kn'.map (fun p=>some p.2):=by kernel_rfl) (hl:ls.take k=ls':=by kernel_rfl) (hb:belowL k kn'=true:=by kernel_rfl):SS P ne m E n kn' ls' H a w:=h.sub (SubV.of hs) k hl hb
theorem rS {fn:Func} {v:Value} {a:Act} {w:World} (hs:SS P ne m E n kn ls H a w) (h:resF P fn kn ls H=some v:=by kernel_rfl):RT P ne m E fn v H a w:=rtS hs h
section
variable {S R:Type} {body:S→Option (Lp S R)} {knOf:S→KN} {lsOf:S→Lcs} {hOf:S→AH} {i:Nat}
theorem WS.lI {QR:R→Act→World→Prop} (hbody:∀s o,body s=some o→WS P ne m E n (cfst c) (knOf s) (lsOf s) (hOf s) (lpS P ne m E n knOf lsOf hOf i QR o)) {s s':S} (hl:loopO body s=some (.inl s')) (k:Nat) (h1:∀a w,SS P ne m E n (knOf s') (lsOf s') (hOf s') a w→Q (.exit i) a w)
  (hc:isLoop c=true:=by kernel_rfl) (hs:(knOf s).map (fun p=>lkV kn p.1)=(knOf s).map (fun p=>some p.2):=by kernel_rfl) (hls:ls.take k=lsOf s:=by kernel_rfl) (hbl:belowL k (knOf s)=true:=by kernel_rfl) (hH:H=hOf s:=by rfl):WS P ne m E n c kn ls H Q :=
 WS.loopI hc body knOf lsOf hOf i QR hbody hl k (SubV.of hs) hls hbl hH h1
theorem WS.lR {QR:R→Act→World→Prop} (hbody:∀s o,body s=some o→WS P ne m E n (cfst c) (knOf s) (lsOf s) (hOf s) (lpS P ne m E n knOf lsOf hOf i QR o)) {s:S} {r:R} (hl:loopO body s=some (.inr r)) (k:Nat) (h2:∀a w,QR r a w→Q .ret a w)
  (hc:isLoop c=true:=by kernel_rfl) (hs:(knOf s).map (fun p=>lkV kn p.1)=(knOf s).map (fun p=>some p.2):=by kernel_rfl) (hls:ls.take k=lsOf s:=by kernel_rfl) (hbl:belowL k (knOf s)=true:=by kernel_rfl) (hH:H=hOf s:=by rfl):WS P ne m E n c kn ls H Q :=
 WS.loopR hc body knOf lsOf hOf i QR hbody hl k (SubV.of hs) hls hbl hH h2
theorem WS.lXI {QR:R→Exit→Act→World→Prop} (hbody:∀s o,body s=some o→WS P ne m E n (cfst c) (knOf s) (lsOf s) (hOf s) (lpX P ne m E n knOf lsOf hOf i QR o)) {s s':S} (hl:loopO body s=some (.inl s')) (k:Nat) (h1:∀a w,SS P ne m E n (knOf s') (lsOf s') (hOf s') a w→Q (.exit i) a w)
  (hc:isLoop c=true:=by kernel_rfl) (hs:(knOf s).map (fun p=>lkV kn p.1)=(knOf s).map (fun p=>some p.2):=by kernel_rfl) (hls:ls.take k=lsOf s:=by kernel_rfl) (hbl:belowL k (knOf s)=true:=by kernel_rfl) (hH:H=hOf s:=by rfl):WS P ne m E n c kn ls H Q :=
 WS.loopXI hc body knOf lsOf hOf i QR hbody hl k (SubV.of hs) hls hbl hH h1
theorem WS.lXR {QR:R→Exit→Act→World→Prop} (hbody:∀s o,body s=some o→WS P ne m E n (cfst c) (knOf s) (lsOf s) (hOf s) (lpX P ne m E n knOf lsOf hOf i QR o)) {s:S} {r:R} (hl:loopO body s=some (.inr r)) (k:Nat) (h2:∀e a w,QR r e a w→Q e a w)
  (hc:isLoop c=true:=by kernel_rfl) (hs:(knOf s).map (fun p=>lkV kn p.1)=(knOf s).map (fun p=>some p.2):=by kernel_rfl) (hls:ls.take k=lsOf s:=by kernel_rfl) (hbl:belowL k (knOf s)=true:=by kernel_rfl) (hH:H=hOf s:=by rfl):WS P ne m E n c kn ls H Q :=
 WS.loopXR hc body knOf lsOf hOf i QR hbody hl k (SubV.of hs) hls hbl hH h2
end
end Go.Abs
namespace Go.Abs
variable {P:Program} {ne:NE} {m:Nat} {H:AH}
structure UnderRes (P:Program) (φ:Inj) (H:AH) (w:World) (v:Value) (H1:AH) (v':Value) (w':World) (φ1:Inj):Prop where
 vr:VR φ1 v v'
 inv:Inv φ1 H1 w'
 new:∀l,φ1 P.globals.size=some l→w.heap.size≤l.blk
 size:w.heap.size≤w'.heap.size
 keep:∀c,c<w.heap.size→w'.heap[c]? = w.heap[c]?
 os:w'.os=w.os
 tape:w'.tape=w.tape
 output:w'.output=w.output
end Go.Abs
namespace Go.Abs
instance:DecidableEq Sl3:=fun a b =>
 if h:a.p=b.p∧a.n=b.n∧a.c=b.c then isTrue (by cases a; cases b; obtain ⟨rfl,rfl,rfl⟩:=h; rfl)
 else isFalse fun e=>h (by subst e; exact ⟨rfl,rfl,rfl⟩)
@[reducible] def kI (t:Nat) (x:Int):Nat×KV:=(t,.val (.int .i64 x))
@[reducible] def kB (t:Nat) (x:Bool):Nat×KV:=(t,.val (.bool x))
@[reducible] def kS (t:Nat) (x:Sl3):Nat×KV:=(t,.val x.v)
@[reducible] def kP (t:Nat) (x:Addr):Nat×KV:=(t,.val (.pointer (some x)))
@[reducible] def kT (t:Nat) (x:ByteArray):Nat×KV:=(t,.val (.string x))
@[reducible] def kA (t:Nat) (x:Array Value):Nat×KV:=(t,.val (.agg x))
@[reducible] def kU (t:Nat):Nat×KV:=(t,.val undef)
@[reducible] def kL (t i o:Nat):Nat×KV:=(t,.loc i o)
variable {P:Program} {ne:NE} {m n:Nat}
variable {E:Ent} {kn:KN} {ls:Lcs} {H H':AH} {ops:Array Oper} {k:Nat} {Q:Exit→Act→World→Prop}
def LoopF (P:Program) (ne:NE) (m:Nat) (E:Ent) (fn:Func) (c:Code) {S R:Type} (st:S→KN×Lcs) (hOf:S→AH) (i:Nat) (enc:R→Value) (hp:R→AH) (body:S→Option (Lp S R)):Prop :=
 ∀s o,body s=some o→WS P ne m E fn.ntmps (cfst c) (st s).1 (st s).2 (hOf s) (lpS P ne m E fn.ntmps (fun s=>(st s).1) (fun s=>(st s).2) hOf i (fun r=>RT P ne m E fn (enc r) (hp r)) o)
section
variable {ih:Ex} {ρ:Operand→Value} {o:Oper}
end
theorem RS.ix (d:Nat) (t e:TypeId) (x y:Operand) {sz:Nat} {s:Sl3} {i:Int} {a:Addr} (hx:idxA sz s i=some a) (h:RS P ne m E n ops (k+1) (putV kn (some d) (.val (.pointer (some a)))) ls H Q)
  (hop:(opAt ops k).op=.indexAddr t x y:=by kernel_rfl) (hu:P.underlying t=some (.slice e):=by kernel_rfl) (hi:(P.info? e).map (·.size)=some sz:=by kernel_rfl) (h1:evV kn x=s.v:=by kernel_rfl) (h2:evV kn y=.int .i64 i:=by kernel_rfl)
  (ho:ops[k]? = some (opAt ops k):=by kernel_rfl) (hd:(opAt ops k).dst=some d:=by kernel_rfl) (hB:(opV P n ops kn (opAt ops k)&&noCall (opAt ops k))=true:=by kernel_rfl):RS P ne m E n ops k kn ls H Q :=
 RS.o (some d) _ (zrx hop hu hi h1 h2 hx) h ho hd hB
theorem RS.ld (d:Nat) (t:TypeId) (x:Operand) {a:Addr} {v:Value} (hx:H.cell a=some v) (h:RS P ne m E n ops (k+1) (putV kn (some d) (.val v)) ls H Q)
  (hop:(opAt ops k).op=.load t x:=by kernel_rfl) (hu:(P.underlying t).map isAggD=some false:=by kernel_rfl) (h1:evV kn x=.pointer (some a):=by kernel_rfl)
  (ho:ops[k]? = some (opAt ops k):=by kernel_rfl) (hd:(opAt ops k).dst=some d:=by kernel_rfl) (hB:(opV P n ops kn (opAt ops k)&&noCall (opAt ops k))=true:=by kernel_rfl):RS P ne m E n ops k kn ls H Q :=
 RS.o (some d) _ (run_load hop hu h1 hx) h ho hd hB
theorem RS.la (d:Nat) (t:TypeId) (x:Operand) (c:Nat) {a:Addr} {l:List Value} (hx:rdCells H a 0 c=some l) (h:RS P ne m E n ops (k+1) (putV kn (some d) (.val (.agg l.toArray))) ls H Q)
  (hop:(opAt ops k).op=.load t x:=by kernel_rfl) (hu:(P.underlying t).map isAggD=some true:=by kernel_rfl) (hi:(P.info? t).map (·.size)=some c:=by kernel_rfl) (h1:evV kn x=.pointer (some a):=by kernel_rfl)
  (ho:ops[k]? = some (opAt ops k):=by kernel_rfl) (hd:(opAt ops k).dst=some d:=by kernel_rfl) (hB:(opV P n ops kn (opAt ops k)&&noCall (opAt ops k))=true:=by kernel_rfl):RS P ne m E n ops k kn ls H Q :=
 RS.o (some d) _ (zpr hop hu hi h1 hx) h ho hd hB
end Go.Abs
namespace Go.Abs
variable {P:Program} {ne:NE}
def OrOK (P:Program) (ne:NE) (o:Nat→FuncId→Array Value→AH→Option (Value×AH)):Prop:=∀m f args H v H',o m f args H=some (v,H')→CallS P ne m f args H v H'
theorem Sane.orcs {o:Nat→FuncId→Array Value→AH→Option (Value×AH)} (h:Sane P ne) (ho:OrOK P ne o):Sane P ⟨ne.esc,o⟩ :=
 ⟨h.mixed,h.noNum,h.esc,fun m f args H v H' hh=>ho m f args H v H' hh h⟩
theorem CallS.ofRun {o:Nat→FuncId→Array Value→AH→Option (Value×AH)} {n m f:Nat} {args:Array Value} {H H':AH} {v:Value} {fn:Func} {c:Code} (ho:OrOK P ne o) (hf:P.funcs[f]? = some fn) (hb:fn.body=some c) (h:acall P ⟨ne.esc,o⟩ n m f args H=some (v,H')):CallS P ne m f args H v H' :=
 fun hs=>⟨⟨fn,c,hf,hb⟩,fun _ _ _ hg ha hi=>zrl (hs.orcs ho) hf hb h hg ha hi⟩
structure Dc (α:Type) where
 de:Value→Option α
 en:α→Value
 inv:∀v a,de v=some a→v=en a
structure DcL (α:Type) where
 de:List Value→Option α
 en:α→List Value
 inv:∀v a,de v=some a→v=en a
def dcI (k:IntKind):Dc Int:=⟨deI k,fun a=>.int k a,fun u _ h=>z8 u h⟩
def dcB:Dc Bool:=⟨deB,fun a=>.bool a,fun u _ h=>zbu u h⟩
def dcS:Dc ByteArray:=⟨deS,fun a=>.string a,fun u _ h=>zl u h⟩
def dcSl:Dc Sl3:=⟨deSl,fun a=>a.v,fun u _ h=>z6 u h⟩
def dcP:Dc (Option Addr):=⟨deP,fun a=>.pointer a,fun u _ h=>z31 u h⟩
def dcN:DcL Unit:=⟨fun | []=>some () | _=>none,fun _=>[],fun v a h=>by cases v with | nil=>rfl | cons x l=>cases h⟩
def dcC {α β:Type} (x:Dc α) (y:DcL β):DcL (α×β):=⟨fun | []=>none | v :: l=>(x.de v).bind fun a=>(y.de l).map fun b=>(a,b),fun p=>x.en p.1 :: y.en p.2,fun v p h=>by
 cases v with
 | nil=>cases h
 | cons v l =>
  simp only at h
  cases hx:x.de v with
  | none=>rw [hx] at h; cases h
  | some a =>
   cases hy:y.de l with
   | none=>rw [hx,hy] at h; cases h
   | some b =>
    rw [hx,hy] at h
    cases h
    rw [x.inv v a hx,y.inv l b hy]⟩
def dcG {α:Type} (l:DcL α):Dc α:=⟨fun | .agg c=>l.de c.toList | _=>none,fun a=>.agg (l.en a).toArray,fun v a h=>by
 cases v with
 | agg c=>rw [← l.inv _ _ h]
 | _=>cases h⟩
def dcT {α:Type} (l:DcL α):Dc α:=⟨fun | .tuple c=>l.de c.toList | _=>none,fun a=>.tuple (l.en a).toArray,fun v a h=>by
 cases v with
 | tuple c=>rw [← l.inv _ _ h]
 | _=>cases h⟩
def orF {α:Type} (g:FuncId) (d:DcL α) (run:Nat→AH→α→Option (Value×AH)):Nat→FuncId→Array Value→AH→Option (Value×AH):=fun m f args H=>bif Nat.beq f g then (d.de args.toList).bind fun a=>run m H a else none
def orO (o1 o2:Nat→FuncId→Array Value→AH→Option (Value×AH)):Nat→FuncId→Array Value→AH→Option (Value×AH):=fun m f args H=>match o1 m f args H with
 | some r=>some r
 | none=>o2 m f args H
def orN:Nat→FuncId→Array Value→AH→Option (Value×AH):=fun _ _ _ _=>none
theorem orN_ok:OrOK P ne orN:=fun _ _ _ _ _ _ h=>by cases h
theorem orO_ok {o1 o2:Nat→FuncId→Array Value→AH→Option (Value×AH)} (h1:OrOK P ne o1) (h2:OrOK P ne o2):OrOK P ne (orO o1 o2):=fun m f args H v H' h=>by
 unfold orO at h
 cases hq:o1 m f args H with
 | some r=>rw [hq] at h; cases h; exact h1 m f args H v H' hq
 | none=>rw [hq] at h; exact h2 m f args H v H' h
theorem orF_ok {α:Type} {g:FuncId} {d:DcL α} {run:Nat→AH→α→Option (Value×AH)} (h:∀m H a v H',run m H a=some (v,H')→CallS P ne m g (d.en a).toArray H v H'):OrOK P ne (orF g d run):=fun m f args H v H' hh=>by
 unfold orF at hh
 cases hb:Nat.beq f g with
 | false=>rw [hb] at hh; cases hh
 | true =>
  rw [hb] at hh
  simp only [cond_true] at hh
  have:=Nat.eq_of_beq_eq_true hb
  subst this
  cases hq:d.de args.toList with
  | none=>rw [hq] at hh; cases hh
  | some a =>
   rw [hq] at hh
   have e:=d.inv _ _ hq
   have:=h m H a v H' hh
   rw [← e] at this
   exact this
theorem zm {α:Type} {x:Option α} {e:α→Value} {p:α→AH} {v:Value} {H':AH} (h:(x.map fun r=>(e r,p r))=some (v,H')):∃r,x=some r∧e r=v∧p r=H':=by
 cases x with
 | none=>cases h
 | some r=>cases h; exact ⟨r,rfl,rfl,rfl⟩
def byRun {α β:Type} (P:Program) (esc:Nat) (o:Nat→FuncId→Array Value→AH→Option (Value×AH)) (m f:Nat) (args:Array Value) (H:AH) (d:Dc α) (k:α→AH→β):Option β :=
 match acall P ⟨esc,o⟩ 100000 m f args H with
 | some (v,H')=>(d.de v).map fun a=>k a H'
 | none=>none
theorem zc6 {α β:Type} {o:Nat→FuncId→Array Value→AH→Option (Value×AH)} {m f:Nat} {args:Array Value} {H:AH} {d:Dc α} {k:α→AH→β} {r:β} {fn:Func} {c:Code} {esc:Nat} (ho:OrOK P (NE.plain esc) o) (hf:P.funcs[f]? = some fn) (hb:fn.body=some c) (h:byRun P esc o m f args H d k=some r):∃a H',k a H'=r∧CallS P (NE.plain esc) m f args H (d.en a) H':=by
 unfold byRun at h
 cases hq:acall P ⟨esc,o⟩ 100000 m f args H with
 | none=>rw [hq] at h; cases h
 | some p =>
  obtain ⟨v,H'⟩:=p
  rw [hq] at h
  simp only at h
  cases hd:d.de v with
  | none=>rw [hd] at h; cases h
  | some a =>
   rw [hd] at h
   cases h
   have:=CallS.ofRun (ne:=NE.plain esc) ho hf hb hq
   rw [d.inv v a hd] at this
   exact ⟨a,H',rfl,this⟩
end Go.Abs
namespace Go.Proofs.YtfbinmgldpnjhaaGreatDoor
open Go Go.Abs
set_option maxRecDepth 100000
noncomputable def B45:Code:=(Tryz.f45.body).getD .skip
def zgv:Bool→Value
 | r0=>(Value.bool r0)
def zhw (H:AH):Bool→AH:=fun _=>H
noncomputable def z27 (_L:LC) (H:AH) (a0:Option Addr):Option Bool :=
 match a0 with
 | none =>
  some false
 | some q1 =>
  Option.bind (rd deM H (Addr.add q1 4)) fun x2 =>
  match x2 with
  | none =>
   some false
  | some _ =>
   some true
theorem z34 {L:LC} {m:Nat} {H:AH} {a0:Option Addr} {r:Bool} (h:z27 L H a0=some r) :
  CallS Tryz.prog (NE.plain 202) m 45 #[(Value.pointer a0)] H (zgv r) (zhw H r):=by
 refine CallS.mk (args:=[(Value.pointer a0)]) Tryz.func45 (B:=B45) (by kernel_rfl) (fun E _=>?_)
 unfold z27 at h
 refine WS.sq (WS.rg (RS.mS 1 [kB 2 false] (RS.dn (WS.nxt (WS.sq (WS.rg (RS.mS 1 [(3,.val (Value.pointer a0))] ?_)))))))
 rcases a0 with _ | q1
 ·try dsimp only at h
  refine RS.mS 9 [kB 2 false,kB 11 false,kU 10,kU 9,kU 8,kU 7,kU 6,kB 5 false,kB 4 false] (RS.dn (WS.nxt (WS.rt ?_)))
  cases h
  exact fun a w hs=>rtR (rS hs)
 ·try dsimp only at h
  refine RS.mS 5 [(8,.val (Value.pointer (some (Addr.add q1 4)))),kP 7 q1,kP 6 q1,kB 5 true,kB 4 true] ?_
  obtain ⟨x2,hx,h⟩:=bind_some h
  refine RS.ld 9 29 (.tmp 8) (z1 hx zlg) ?_
  rcases x2 with _ | q3
  ·try dsimp only at h
   refine RS.mS 3 [kB 2 false,kB 11 false,kB 10 false] (RS.dn (WS.nxt (WS.rt ?_)))
   cases h
   exact fun a w hs=>rtR (rS hs)
  ·try dsimp only at h
   refine RS.mS 3 [kB 2 true,kB 11 true,kB 10 true] (RS.dn (WS.nxt (WS.rt ?_)))
   cases h
   exact fun a w hs=>rtR (rS hs)
noncomputable def B155:Code:=(Tryz.f155.body).getD .skip
def z94:AH→Value
 | _=>(Value.tuple #[])
def z9f (_:AH):AH→AH:=fun r=>r
noncomputable def z1c (_L:LC) (m:Nat) (H:AH) (a0:Option Addr):Option AH :=
 Option.bind a0 fun q1 =>
 Option.bind (rd deP H (Addr.add q1 0)) fun x2 =>
 match x2 with
 | none =>
  Option.bind (gOp Tryz.prog m (opsOf (cfst (csnd B155))) 2 [(8,.val (Value.pointer (some q1)))] deP H) fun (x7,H8) =>
  Option.bind x7 fun q9 =>
  Option.bind (gOp Tryz.prog m (opsOf (cfst (csnd B155))) 4 [(10,.val (Value.pointer (some q9)))] deP H8) fun (x10,H11) =>
  Option.bind (H11.setCell m (Addr.add q1 0) (Value.pointer x10)) fun H12 =>
  some H12
 | some _ =>
  Option.bind (rd deP H (Addr.add q1 0)) fun x4 =>
  match x4 with
  | none =>
   none
  | some q5 =>
   Option.bind (gOp1 Tryz.prog (opsOf (cfst (csnd (csnd B155)))) 5 [(17,.val (Value.pointer (some q5))),(18,.val (Value.pointer (some q1)))] deB H) fun x6 =>
   if x6=true then
    none
   else
    some H
theorem z44 {L:LC} {m:Nat} {H:AH} {a0:Option Addr} {r:AH} (h:z1c L m H a0=some r) :
  CallS Tryz.prog (NE.plain 202) m 155 #[(Value.pointer a0)] H (z94 r) (z9f H r):=by
 refine CallS.mk (args:=[(Value.pointer a0)]) Tryz.func155 (B:=B155) (by kernel_rfl) (fun E _=>?_)
 unfold z1c at h
 refine WS.sq (WS.rg (RS.mS 1 [(2,.val (Value.pointer a0))] ?_))
 obtain ⟨q1,hx,hq1⟩:=bind_some h
 subst hx
 have h:=hq1
 refine RS.mS 2 [(4,.val (Value.pointer (some (Addr.add q1 0)))),kP 3 q1] ?_
 obtain ⟨x2,hx,h⟩:=bind_some h
 refine RS.ld 5 118 (.tmp 4) (z1 hx z31) ?_
 rcases x2 with _ | q3
 ·try dsimp only at h
  refine RS.mS 1 [kB 6 true] (RS.dn (WS.nxt (WS.cT (WS.rg (RS.mS 2 [kP 8 q1,kP 7 q1] ?_)))))
  obtain ⟨⟨x7,H8⟩,hx,h⟩:=bind_some h
  try dsimp only at h
  refine RS.o (H':=H8) (some 9) (Value.pointer x7) (zes hx z31 (by kernel_rfl)) ?_
  obtain ⟨q9,hx,hq9⟩:=bind_some h
  subst hx
  have h:=hq9
  refine RS.esc (H':=H8) (some 10) (Value.pointer (some q9)) (by kernel_rfl) (by kernel_rfl) (by kernel_rfl) (by kernel_rfl) ?_
  obtain ⟨⟨x10,H11⟩,hx,h⟩:=bind_some h
  try dsimp only at h
  refine RS.o (H':=H11) (some 11) (Value.pointer x10) (zes hx z31 (by kernel_rfl)) (RS.mS 2 [(13,.val (Value.pointer (some (Addr.add q1 0)))),kP 12 q1] ?_)
  obtain ⟨H12,hx,h⟩:=bind_some h
  refine RS.o (H':=H12) none undef (Abs.run_store1 (t:=118) (x:=.tmp 13) (y:=.tmp 11) (a:=(Addr.add q1 0)) (v:=(Value.pointer x10)) (by kernel_rfl) (by kernel_rfl) (by kernel_rfl) (by kernel_rfl) (by kernel_rfl) hx) (RS.dn ?_)
  cases h
  exact fun a w hs=>rtN (rS hs)
 ·try dsimp only at h
  refine RS.mS 1 [kB 6 false] (RS.dn (WS.nxt (WS.cF (WS.sq (WS.rg (RS.mS 3 [(16,.val (Value.pointer (some (Addr.add q1 0)))),kP 15 q1,kP 14 q1] ?_))))))
  obtain ⟨x4,hx,h⟩:=bind_some h
  refine RS.ld 17 118 (.tmp 16) (z1 hx z31) (RS.mS 1 [kP 18 q1] ?_)
  rcases x4 with _ | q5
  ·try dsimp only at h
   cases h
  ·try dsimp only at h
   obtain ⟨x6,hx,h⟩:=bind_some h
   refine RS.o (H':=H) (some 19) (Value.bool x6) (zn1 hx zbu (by kernel_rfl) (by kernel_rfl)) (RS.dn (WS.nxt ?_))
   rcases z0 h with ⟨hp,h⟩ | ⟨hp,h⟩
   ·refine WS.fx 19 true hp (WS.cT ?_)
    cases h
   ·refine WS.fx 19 false (b_not hp) (WS.cF (WS.sk ?_))
    cases h
    exact fun a w hs=>rtN (rS hs)
noncomputable def B109:Code:=(Tryz.f109.body).getD .skip
def z7y:(Int×Value×AH)→Value
 | (r0,r1,_)=>(Value.tuple #[(Value.int .i64 r0),r1])
def z8l (_:AH):(Int×Value×AH)→AH:=fun r=>r.2.2
noncomputable def zq (L:LC) (m:Nat) (H:AH) (a0:Option Addr) (a1:ByteArray):Option (Int×Value×AH) :=
 Option.bind (z1c L m H a0) fun H1 =>
 Option.bind a0 fun q2 =>
 Option.bind (rd deSl H1 (Addr.add q2 1)) fun x3 =>
 Option.bind (gOp Tryz.prog m (opsOf (cfst (csnd (csnd B109)))) 6 [(12,.val (Sl3.v x3)),(13,.val (Value.string a1))] deSl H1) fun (x4,H5) =>
 Option.bind (H5.setCell m (Addr.add q2 1) (Sl3.v x4)) fun H6 =>
 some ((a1.size:Int),Value.nilIface,H6)
theorem z1f {L:LC} {m:Nat} {H:AH} {a0:Option Addr} {a1:ByteArray} {r:(Int×Value×AH)} (h:zq L m H a0 a1=some r) :
  CallS Tryz.prog (NE.plain 202) m 109 #[(Value.pointer a0),(Value.string a1)] H (z7y r) (z8l H r):=by
 refine CallS.mk (args:=[(Value.pointer a0),(Value.string a1)]) Tryz.func109 (B:=B109) (by kernel_rfl) (fun E _=>?_)
 unfold zq at h
 refine WS.sq (WS.rg (RS.mS 2 [(5,.val Value.nilIface),kI 4 0] (RS.dn (WS.nxt (WS.sq (WS.rg (RS.mS 1 [(6,.val (Value.pointer a0))] ?_)))))))
 obtain ⟨H1,hx,h⟩:=bind_some h
 refine RS.cl (some 7) (v:=(Value.tuple #[])) 155 #[(Value.pointer a0)] (z44 hx) (RS.dn (WS.nxt (WS.sq (WS.rg (RS.mS 2 [(9,.val (Value.pointer a0)),(8,.val (Value.pointer a0))] ?_)))))
 obtain ⟨q2,hx,hq2⟩:=bind_some h
 subst hx
 have h:=hq2
 refine RS.mS 2 [(11,.val (Value.pointer (some (Addr.add q2 1)))),kP 10 q2] ?_
 obtain ⟨x3,hx,h⟩:=bind_some h
 refine RS.ld 12 119 (.tmp 11) (z1 hx z6) (RS.mS 1 [kT 13 a1] ?_)
 obtain ⟨⟨x4,H5⟩,hx,h⟩:=bind_some h
 try dsimp only at h
 refine RS.o (H':=H5) (some 14) (Sl3.v x4) (zes hx z6 (by kernel_rfl)) (RS.mS 2 [(16,.val (Value.pointer (some (Addr.add q2 1)))),kP 15 q2] ?_)
 obtain ⟨H6,hx,h⟩:=bind_some h
 refine RS.o (H':=H6) none undef (Abs.run_store1 (t:=119) (x:=.tmp 16) (y:=.tmp 14) (a:=(Addr.add q2 1)) (v:=(Sl3.v x4)) (by kernel_rfl) (by kernel_rfl) (by kernel_rfl) (by kernel_rfl) (by kernel_rfl) hx) (RS.dn (WS.nxt (WS.sq (WS.rg (RS.mS 4 [(5,.val Value.nilIface),kI 4 (a1.size:Int),kI 18 (a1.size:Int),kT 17 a1] (RS.dn (WS.nxt (WS.rt ?_))))))))
 cases h
 exact fun a w hs=>rtR (rS hs)
noncomputable def B111:Code:=(Tryz.f111.body).getD .skip
def z95:(Value×AH)→Value
 | (r0,_)=>r0
def z9v (_:AH):(Value×AH)→AH:=fun r=>r.2
noncomputable def zu (L:LC) (m:Nat) (H:AH) (a0:Option Addr) (a1:Int):Option (Value×AH) :=
 Option.bind (z1c L m H a0) fun H1 =>
 Option.bind a0 fun q2 =>
 Option.bind (rd deSl H1 (Addr.add q2 1)) fun x3 =>
 Option.bind (newR 5 1 #[(Value.int .u8 a1)] H1) fun (s4,H5) =>
 Option.bind (appS m 5 1 1 H5 x3 s4) fun (s6,H7) =>
 Option.bind (H7.setCell m (Addr.add q2 1) (Sl3.v s6)) fun H8 =>
 some (Value.nilIface,H8)
theorem z1u {L:LC} {m:Nat} {H:AH} {a0:Option Addr} {a1:Int} {r:(Value×AH)} (h:zu L m H a0 a1=some r) :
  CallS Tryz.prog (NE.plain 202) m 111 #[(Value.pointer a0),(Value.int .u8 a1)] H (z95 r) (z9v H r):=by
 refine CallS.mk (args:=[(Value.pointer a0),(Value.int .u8 a1)]) Tryz.func111 (B:=B111) (by kernel_rfl) (fun E _=>?_)
 unfold zu at h
 refine WS.sq (WS.rg (RS.mS 1 [(4,.val Value.nilIface)] (RS.dn (WS.nxt (WS.sq (WS.rg (RS.mS 1 [(5,.val (Value.pointer a0))] ?_)))))))
 obtain ⟨H1,hx,h⟩:=bind_some h
 refine RS.cl (some 6) (v:=(Value.tuple #[])) 155 #[(Value.pointer a0)] (z44 hx) (RS.dn (WS.nxt (WS.sq (WS.rg (RS.mS 2 [(8,.val (Value.pointer a0)),(7,.val (Value.pointer a0))] ?_)))))
 obtain ⟨q2,hx,hq2⟩:=bind_some h
 subst hx
 have h:=hq2
 refine RS.mS 2 [(10,.val (Value.pointer (some (Addr.add q2 1)))),kP 9 q2] ?_
 obtain ⟨x3,hx,h⟩:=bind_some h
 refine RS.ld 11 119 (.tmp 10) (z1 hx z6) (RS.mS 1 [(12,.val (Value.int .u8 a1))] ?_)
 obtain ⟨⟨s4,H5⟩,hx,h⟩:=bind_some h
 try dsimp only at h
 refine RS.o (H':=H5) (some 13) (Sl3.v s4) (Abs.run_newR (by kernel_rfl) (by kernel_rfl) hx) ?_
 obtain ⟨⟨s6,H7⟩,hx,h⟩:=bind_some h
 try dsimp only at h
 refine RS.o (H':=H7) (some 14) (Sl3.v s6) (Abs.run_app (x:=.tmp 11) (y:=.tmp 13) (ts:=#[119,119]) (s:=x3) (z:=s4) (by kernel_rfl) (by kernel_rfl) (by kernel_rfl) (by kernel_rfl) hx) (RS.mS 2 [(16,.val (Value.pointer (some (Addr.add q2 1)))),kP 15 q2] ?_)
 obtain ⟨H8,hx,h⟩:=bind_some h
 refine RS.o (H':=H8) none undef (Abs.run_store1 (t:=119) (x:=.tmp 16) (y:=.tmp 14) (a:=(Addr.add q2 1)) (v:=(Sl3.v s6)) (by kernel_rfl) (by kernel_rfl) (by kernel_rfl) (by kernel_rfl) (by kernel_rfl) hx) (RS.dn (WS.nxt (WS.sq (WS.rg (RS.mS 1 [(4,.val Value.nilIface)] (RS.dn (WS.nxt (WS.rt ?_))))))))
 cases h
 exact fun a w hs=>rtR (rS hs)
noncomputable def B252:Code:=(Tryz.f252.body).getD .skip
def zkj:Bool→Value
 | r0=>(Value.bool r0)
def zlb (H:AH):Bool→AH:=fun _=>H
noncomputable def zek (_L:LC) (a0:Int):Option Bool :=
 if (ior .u8 a0 32)≥97 then
  some (decide ((ior .u8 a0 32)≤122))
 else
  none
theorem zlf {L:LC} {m:Nat} {H:AH} {a0:Int} {r:Bool} (h:zek L a0=some r) :
  CallS Tryz.prog (NE.plain 202) m 252 #[(Value.int .u8 a0)] H (zkj r) (zlb H r):=by
 refine CallS.mk (args:=[(Value.int .u8 a0)]) Tryz.func252 (B:=B252) (by kernel_rfl) (fun E _=>?_)
 unfold zek at h
 refine WS.sq (WS.rg (RS.mS 1 [kB 2 false] (RS.dn (WS.nxt (WS.sq (WS.rg (RS.mS 4 [kB 6 (decide ((ior .u8 a0 32)≥97)),kB 5 (decide ((ior .u8 a0 32)≥97)),(4,.val (Value.int .u8 (ior .u8 a0 32))),(3,.val (Value.int .u8 a0))] ?_)))))))
 rcases z0 h with ⟨hp,h⟩ | ⟨hp,h⟩
 ·refine RS.fx 6 true (decide_eq_true hp) (RS.mS 5 [kB 2 (decide ((ior .u8 a0 32)≤122)),kB 10 (decide ((ior .u8 a0 32)≤122)),kB 9 (decide ((ior .u8 a0 32)≤122)),(8,.val (Value.int .u8 (ior .u8 a0 32))),(7,.val (Value.int .u8 a0))] (RS.dn (WS.nxt (WS.rt ?_))))
  cases h
  exact fun a w hs=>rtR (rS hs)
 ·refine RS.fx 6 false (decide_eq_false hp) ?_
  cases h
noncomputable def B214:Code:=(Tryz.f214.body).getD .skip
def z21:(Sl3×AH)→Value
 | (r0,_)=>(Sl3.v r0)
def z2b (_:AH):(Sl3×AH)→AH:=fun r=>r.2
noncomputable def z6h (_L:LC) (H:AH) (a0:ByteArray):(Int×Int×Int×Int)→Option (Lp (Int×Int×Int×Int) (Sl3×AH)):=fun (v3_1,v4_2,v5_3,v6_4) =>
 if v6_4<(a0.size:Int) then
  Option.bind (bytA a0 v6_4) fun x5 =>
  Option.bind (idxR 1 256 (⟨1,0,none⟩:Addr) x5) fun p6 =>
  Option.bind (rd (deI .u8) H p6) fun x7 =>
  some (.next ((IntKind.i64.wrap (v3_1+(iand .i64 v4_2 (ixor .i64 (-1) (IntKind.i64.wrap x7))))),(IntKind.i64.wrap x7),(ior .u8 v5_3 x5),(IntKind.i64.wrap (v6_4+1))))
 else
  some (.brk (v3_1,v4_2,v5_3,v6_4))
def zfy (_L:LC) (_H:AH) (a0:ByteArray):(Int×Int×Int×Int)→KN×Lcs:=fun (v3_1,v4_2,v5_3,v6_4)=>([kI 3 v3_1,kI 4 v4_2,(5,.val (Value.int .u8 v5_3)),kI 6 v6_4,kT 0 a0],[])
noncomputable def z6q (_L:LC) (a0:ByteArray) (_s12:Sl3) (H13:AH):Int→Option (Lp Int (Sl3×AH)):=fun v12_14 =>
 if v12_14<(a0.size:Int) then
  Option.bind (bytA a0 v12_14) fun x15 =>
  Option.bind (idxR 1 256 (⟨1,0,none⟩:Addr) x15) fun p16 =>
  Option.bind (rd (deI .u8) H13 p16) fun x17 =>
  if x17=0 then
   some (.brk v12_14)
  else
   none
 else
  none
def zft (_L:LC) (a0:ByteArray) (s12:Sl3) (_H13:AH):Int→KN×Lcs:=fun v12_14=>([kI 12 v12_14,kT 0 a0,kS 9 s12,kI 10 0],[])
noncomputable def z6g (_L:LC) (a0:ByteArray) (_s12:Sl3) (_v10_20:Int) (H28:AH):Int→Option (Lp Int (Sl3×AH)):=fun v12_29 =>
 if v12_29<(a0.size:Int) then
  Option.bind (bytA a0 v12_29) fun x30 =>
  Option.bind (idxR 1 256 (⟨1,0,none⟩:Addr) x30) fun p31 =>
  Option.bind (rd (deI .u8) H28 p31) fun x32 =>
  if x32=0 then
   some (.brk v12_29)
  else
   none
 else
  none
def zfn (_L:LC) (a0:ByteArray) (s12:Sl3) (v10_20:Int) (_H28:AH):Int→KN×Lcs:=fun v12_29=>([kI 12 v12_29,kT 0 a0,kS 9 s12,kI 10 (IntKind.i64.wrap (v10_20+1))],[])
noncomputable def z6n (L:LC) (m:Nat) (a0:ByteArray) (s12:Sl3):(AH×Int×Int×Int)→Option (Lp (AH×Int×Int×Int) (Sl3×AH)):=fun (H19,v10_20,v11_21,v12_22) =>
 if v12_22<(a0.size:Int) then
  Option.bind (bytA a0 v12_22) fun x23 =>
  Option.bind (idxR 1 256 (⟨1,0,none⟩:Addr) x23) fun p24 =>
  Option.bind (rd (deI .u8) H19 p24) fun x25 =>
  if x25=0 then
   some (.next (H19,v10_20,v11_21,(IntKind.i64.wrap (v12_22+1))))
  else
   Option.bind (strC a0 (some v11_21) (some v12_22)) fun s26 =>
   Option.bind (idxA 1 s12 v10_20) fun p27 =>
   Option.bind (H19.setCell m p27 (Value.string s26)) fun H28 =>
   Option.bind (L.run (z6g L a0 s12 v10_20 H28) (IntKind.i64.wrap (v12_22+1))) fun o=>match o with
   | .inl v12_33 =>
    some (.next (H28,(IntKind.i64.wrap (v10_20+1)),v12_33,v12_33))
   | .inr r=>some (.ret r)
 else
  some (.brk (H19,v10_20,v11_21,v12_22))
def zfq (_L:LC) (_m:Nat) (a0:ByteArray) (s12:Sl3):(AH×Int×Int×Int)→KN×Lcs:=fun (_,v10_20,v11_21,v12_22)=>([kI 10 v10_20,kI 11 v11_21,kI 12 v12_22,kT 0 a0,kS 9 s12],[])
noncomputable def z66 (L:LC) (m:Nat) (H:AH) (a0:ByteArray):Option (Sl3×AH) :=
 Option.bind (L.run (z6h L H a0) (0,1,0,0)) fun o=>match o with
 | .inl (v3_8,_,v5_10,_) =>
  if v5_10≥128 then
   none
  else
   Option.bind (mkS 9 1 16 #[(Value.string (⟨#[]⟩:ByteArray))] H v3_8 v3_8) fun (s12,H13) =>
   Option.bind (L.run (z6q L a0 s12 H13) 0) fun o=>match o with
   | .inl v12_18 =>
    Option.bind (L.run (z6n L m a0 s12) (H13,0,v12_18,v12_18)) fun o=>match o with
    | .inl (H34,v10_35,v11_36,_) =>
     if v11_36<(a0.size:Int) then
      Option.bind (strC a0 (some v11_36) none) fun s38 =>
      Option.bind (idxA 1 s12 v10_35) fun p39 =>
      Option.bind (H34.setCell m p39 (Value.string s38)) fun H40 =>
      some (s12,H40)
     else
      none
    | .inr r=>some r
   | .inr r=>some r
 | .inr r=>some r
theorem z84 {E m L H a0} :LoopF Tryz.prog (NE.plain 202) m E Tryz.f214 ((cfst (csnd (cfst (csnd (csnd (csnd (csnd B214)))))))) (zfy L H a0) (fun _=>H) 0 z21 (z2b H) (z6h L H a0):=by
 rintro ⟨v3_1,v4_2,v5_3,v6_4⟩ o h
 unfold z6h at h
 try dsimp only at h
 refine WS.sq (WS.sq (WS.rg (RS.mS 4 [kB 16 (decide (v6_4<(a0.size:Int))),kI 15 (a0.size:Int),kT 14 a0,kI 13 v6_4] (RS.dn (WS.nxt ?_)))))
 rcases z0 h with ⟨hp,h⟩ | ⟨hp,h⟩
 ·refine WS.fx 16 true (decide_eq_true hp) (WS.cT (WS.sk (WS.nxt (WS.sq (WS.bk 1 (WS.sq (WS.rg (RS.mS 2 [kI 20 v6_4,kT 19 a0] ?_))))))))
  obtain ⟨x5,hx,h⟩:=bind_some h
  refine RS.o (H':=H) (some 21) (Value.int .u8 x5) (Abs.run_byt (t:=9) (x:=.tmp 19) (y:=.tmp 20) (s:=a0) (k:=.i64) (i:=v6_4) (by kernel_rfl) (by kernel_rfl) (by kernel_rfl) (by kernel_rfl) hx) (RS.mS 1 [(7,.val (Value.int .u8 x5))] (RS.dn (WS.nxt (WS.sq (WS.rg (RS.mS 4 [(5,.val (Value.int .u8 (ior .u8 v5_3 x5))),(24,.val (Value.int .u8 (ior .u8 v5_3 x5))),(23,.val (Value.int .u8 x5)),(22,.val (Value.int .u8 v5_3))] (RS.dn (WS.nxt (WS.sq ?_)))))))))
  refine WS.rg (RS.mS 1 [(25,.val (Value.int .u8 x5))] ?_)
  obtain ⟨p6,hx,h⟩:=bind_some h
  refine RS.o (H':=H) (some 26) (Value.pointer (some p6)) (Abs.run_idxR (a:=(⟨1,0,none⟩:Addr)) (k:=.u8) (t:=326) (e:=5) (x:=.global 1) (y:=.tmp 25) (by kernel_rfl) (by kernel_rfl) (by kernel_rfl) (by kernel_rfl) (by kernel_rfl) hx) ?_
  obtain ⟨x7,hx,h⟩:=bind_some h
  refine RS.ld 27 5 (.tmp 26) (z1 hx z8) (RS.mS 2 [kI 8 (IntKind.i64.wrap x7),kI 28 (IntKind.i64.wrap x7)] (RS.dn (WS.nxt (WS.sq (WS.rg (RS.mS 7 [kI 3 (IntKind.i64.wrap (v3_1+(iand .i64 v4_2 (ixor .i64 (-1) (IntKind.i64.wrap x7))))),kI 34 (IntKind.i64.wrap (v3_1+(iand .i64 v4_2 (ixor .i64 (-1) (IntKind.i64.wrap x7))))),kI 33 (iand .i64 v4_2 (ixor .i64 (-1) (IntKind.i64.wrap x7))),kI 32 (ixor .i64 (-1) (IntKind.i64.wrap x7)),kI 31 (IntKind.i64.wrap x7),kI 30 v4_2,kI 29 v3_1] (RS.dn (WS.nxt (WS.rg ?_)))))))))
  refine RS.mS 2 [kI 4 (IntKind.i64.wrap x7),kI 35 (IntKind.i64.wrap x7)] (RS.dn ?_)
  refine fun a w hs=>bkN ((WS.nxt ?_ a w hs))
  refine WS.rg (RS.mS 3 [kI 6 (IntKind.i64.wrap (v6_4+1)),kI 18 (IntKind.i64.wrap (v6_4+1)),kI 17 v6_4] (RS.dn ?_))
  cases h
  exact fun a w hs=>lsN rfl (hs.sb 0)
 ·refine WS.fx 16 false (decide_eq_false hp) (WS.cF (WS.ex 0 ?_))
  cases h
  exact fun a w hs=>sqE (lsB rfl (hs.sb 0))
theorem z8k {E m H L a0 s12 H13} :LoopF Tryz.prog (NE.plain 202) m E Tryz.f214 ((cfst (cfst (csnd (csnd (csnd (csnd (csnd (csnd (csnd (csnd (csnd (csnd B214))))))))))))) (zft L a0 s12 H13) (fun _=>H13) 2 z21 (z2b H) (z6q L a0 s12 H13):=by
 rintro v12_14 o h
 unfold z6q at h
 try dsimp only at h
 refine WS.sq (WS.sq (WS.rg (RS.mS 5 [kB 46 (decide (v12_14<(a0.size:Int))),kB 45 (decide (v12_14<(a0.size:Int))),kI 44 (a0.size:Int),kT 43 a0,kI 42 v12_14] ?_)))
 rcases z0 h with ⟨hp,h⟩ | ⟨hp,h⟩
 ·refine RS.fx 46 true (decide_eq_true hp) (RS.mS 2 [kI 48 v12_14,kT 47 a0] ?_)
  obtain ⟨x15,hx,h⟩:=bind_some h
  refine RS.o (H':=H13) (some 49) (Value.int .u8 x15) (Abs.run_byt (t:=9) (x:=.tmp 47) (y:=.tmp 48) (s:=a0) (k:=.i64) (i:=v12_14) (by kernel_rfl) (by kernel_rfl) (by kernel_rfl) (by kernel_rfl) hx) ?_
  obtain ⟨p16,hx,h⟩:=bind_some h
  refine RS.o (H':=H13) (some 50) (Value.pointer (some p16)) (Abs.run_idxR (a:=(⟨1,0,none⟩:Addr)) (k:=.u8) (t:=326) (e:=5) (x:=.global 1) (y:=.tmp 49) (by kernel_rfl) (by kernel_rfl) (by kernel_rfl) (by kernel_rfl) (by kernel_rfl) hx) ?_
  obtain ⟨x17,hx,h⟩:=bind_some h
  refine RS.ld 51 5 (.tmp 50) (z1 hx z8) (RS.mS 2 [kB 53 (!decide (x17=0)),kB 52 (!decide (x17=0))] (RS.dn (WS.nxt ?_)))
  rcases z0 h with ⟨hp,h⟩ | ⟨hp,h⟩
  ·refine WS.fx 53 false (zh hp) (WS.cF (WS.ex 2 ?_))
   cases h
   exact fun a w hs=>sqE (lsB rfl (hs.sb 0))
  ·refine WS.fx 53 true (ze hp) (WS.cT ?_)
   cases h
 ·refine RS.fx 46 false (decide_eq_false hp) ?_
  cases h
theorem z8r {E m H L a0 s12 v10_20 H28} :LoopF Tryz.prog (NE.plain 202) m E Tryz.f214 ((cfst (cfst (csnd (csnd (csnd (csnd (cfst (csnd (cfst (cfst (cfst (csnd (csnd (csnd (csnd (csnd (csnd (csnd (csnd (csnd (csnd (csnd (csnd B214)))))))))))))))))))))))) (zfn L a0 s12 v10_20 H28) (fun _=>H28) 6 z21 (z2b H) (z6g L a0 s12 v10_20 H28):=by
 rintro v12_29 o h
 unfold z6g at h
 try dsimp only at h
 refine WS.sq (WS.sq (WS.rg (RS.mS 5 [kB 84 (decide (v12_29<(a0.size:Int))),kB 83 (decide (v12_29<(a0.size:Int))),kI 82 (a0.size:Int),kT 81 a0,kI 80 v12_29] ?_)))
 rcases z0 h with ⟨hp,h⟩ | ⟨hp,h⟩
 ·refine RS.fx 84 true (decide_eq_true hp) (RS.mS 2 [kI 86 v12_29,kT 85 a0] ?_)
  obtain ⟨x30,hx,h⟩:=bind_some h
  refine RS.o (H':=H28) (some 87) (Value.int .u8 x30) (Abs.run_byt (t:=9) (x:=.tmp 85) (y:=.tmp 86) (s:=a0) (k:=.i64) (i:=v12_29) (by kernel_rfl) (by kernel_rfl) (by kernel_rfl) (by kernel_rfl) hx) ?_
  obtain ⟨p31,hx,h⟩:=bind_some h
  refine RS.o (H':=H28) (some 88) (Value.pointer (some p31)) (Abs.run_idxR (a:=(⟨1,0,none⟩:Addr)) (k:=.u8) (t:=326) (e:=5) (x:=.global 1) (y:=.tmp 87) (by kernel_rfl) (by kernel_rfl) (by kernel_rfl) (by kernel_rfl) (by kernel_rfl) hx) ?_
  obtain ⟨x32,hx,h⟩:=bind_some h
  refine RS.ld 89 5 (.tmp 88) (z1 hx z8) (RS.mS 2 [kB 91 (!decide (x32=0)),kB 90 (!decide (x32=0))] (RS.dn (WS.nxt ?_)))
  rcases z0 h with ⟨hp,h⟩ | ⟨hp,h⟩
  ·refine WS.fx 91 false (zh hp) (WS.cF (WS.ex 6 ?_))
   cases h
   exact fun a w hs=>sqE (lsB rfl (hs.sb 0))
  ·refine WS.fx 91 true (ze hp) (WS.cT ?_)
   cases h
 ·refine RS.fx 84 false (decide_eq_false hp) ?_
  cases h
theorem z8u {E H L m a0 s12} :LoopF Tryz.prog (NE.plain 202) m E Tryz.f214 ((cfst (cfst (csnd (csnd (csnd (csnd (csnd (csnd (csnd (csnd (csnd (csnd (csnd (csnd B214))))))))))))))) (zfq L m a0 s12) (fun s=>s.1) 4 z21 (z2b H) (z6n L m a0 s12):=by
 rintro ⟨H19,v10_20,v11_21,v12_22⟩ o h
 unfold z6n at h
 try dsimp only at h
 refine WS.sq (WS.sq (WS.rg (RS.mS 4 [kB 60 (decide (v12_22<(a0.size:Int))),kI 59 (a0.size:Int),kT 58 a0,kI 57 v12_22] (RS.dn (WS.nxt ?_)))))
 rcases z0 h with ⟨hp,h⟩ | ⟨hp,h⟩
 ·refine WS.fx 60 true (decide_eq_true hp) (WS.cT (WS.sk (WS.nxt (WS.bk 5 (WS.sq (WS.sq (WS.rg (RS.mS 2 [kI 62 v12_22,kT 61 a0] ?_))))))))
  obtain ⟨x23,hx,h⟩:=bind_some h
  refine RS.o (H':=H19) (some 63) (Value.int .u8 x23) (Abs.run_byt (t:=9) (x:=.tmp 61) (y:=.tmp 62) (s:=a0) (k:=.i64) (i:=v12_22) (by kernel_rfl) (by kernel_rfl) (by kernel_rfl) (by kernel_rfl) hx) ?_
  obtain ⟨p24,hx,h⟩:=bind_some h
  refine RS.o (H':=H19) (some 64) (Value.pointer (some p24)) (Abs.run_idxR (a:=(⟨1,0,none⟩:Addr)) (k:=.u8) (t:=326) (e:=5) (x:=.global 1) (y:=.tmp 63) (by kernel_rfl) (by kernel_rfl) (by kernel_rfl) (by kernel_rfl) (by kernel_rfl) hx) ?_
  obtain ⟨x25,hx,h⟩:=bind_some h
  refine RS.ld 65 5 (.tmp 64) (z1 hx z8) (RS.mS 1 [kB 66 (decide (x25=0))] (RS.dn (WS.nxt ?_)))
  rcases z0 h with ⟨hp,h⟩ | ⟨hp,h⟩
  ·refine WS.fx 66 true (decide_eq_true hp) (WS.cT (WS.sq (WS.rg (RS.mS 3 [kI 12 (IntKind.i64.wrap (v12_22+1)),kI 68 (IntKind.i64.wrap (v12_22+1)),kI 67 v12_22] (RS.dn (WS.nxt (WS.ex 5 ?_)))))))
   cases h
   exact fun a w hs=>sqE (bkE (lsN rfl (hs.sb 0)))
  ·refine WS.fx 66 false (decide_eq_false hp) (WS.cF (WS.sk (WS.nxt (WS.sq (WS.rg (RS.mS 5 [kI 73 v12_22,kI 72 v11_21,kT 71 a0,kI 70 v10_20,kS 69 s12] ?_))))))
   obtain ⟨s26,hx,h⟩:=bind_some h
   refine RS.o (H':=H19) (some 74) (Value.string s26) (Abs.run_strC (t:=9) (x:=.tmp 71) (lo:=(some (.tmp 72))) (hi:=(some (.tmp 73))) (s:=a0) (k1:=.i64) (k2:=.i64) (by kernel_rfl) (by kernel_rfl) (by kernel_rfl) (by kernel_rfl) (by kernel_rfl) hx) ?_
   obtain ⟨p27,hx,h⟩:=bind_some h
   refine RS.ix 75 23 9 (.tmp 69) (.tmp 70) hx ?_
   obtain ⟨H28,hx,h⟩:=bind_some h
   refine RS.o (H':=H28) none undef (Abs.run_store1 (t:=9) (x:=.tmp 75) (y:=.tmp 74) (a:=p27) (v:=(Value.string s26)) (by kernel_rfl) (by kernel_rfl) (by kernel_rfl) (by kernel_rfl) (by kernel_rfl) hx) (RS.dn (WS.nxt (WS.sq (WS.rg (RS.mS 3 [kI 10 (IntKind.i64.wrap (v10_20+1)),kI 77 (IntKind.i64.wrap (v10_20+1)),kI 76 v10_20] (RS.dn (WS.nxt (WS.sq (WS.rg ?_)))))))))
   refine RS.mS 3 [kI 12 (IntKind.i64.wrap (v12_22+1)),kI 79 (IntKind.i64.wrap (v12_22+1)),kI 78 v12_22] (RS.dn (WS.nxt (WS.sq (WS.bk 6 ?_))))
   obtain ⟨o,hl,h⟩:=bind_some h
   rcases o with v12_33 | r
   ·try dsimp only at h
    refine WS.lI (z8r (L:=L) (E:=E) (m:=m) (H:=H)) (L.ok hl) 0 ?_
    clear hl
    refine fun a w hs=>bkE ((WS.nxt ?_ a w hs))
    refine WS.rg (RS.mS 2 [kI 11 v12_33,kI 94 v12_33] (RS.dn ?_))
    cases h
    exact fun a w hs=>bkN (lsN rfl (hs.sb 0))
   ·try dsimp only at h
    refine WS.lR (z8r (L:=L) (E:=E) (m:=m) (H:=H)) (L.ok hl) 0 ?_
    cases h
    exact fun a w hq=>bkR (sqR (bkR (lsR rfl hq)))
 ·refine WS.fx 60 false (decide_eq_false hp) (WS.cF (WS.ex 4 ?_))
  cases h
  exact fun a w hs=>sqE (lsB rfl (hs.sb 0))
theorem zbk {L:LC} {m:Nat} {H:AH} {a0:ByteArray} {r:(Sl3×AH)} (h:z66 L m H a0=some r) :
  CallS Tryz.prog (NE.plain 202) m 214 #[(Value.string a0)] H (z21 r) (z2b H r):=by
 refine CallS.mk (args:=[(Value.string a0)]) Tryz.func214 (B:=B214) (by kernel_rfl) (fun E _=>?_)
 unfold z66 at h
 refine WS.sq (WS.rg (RS.mS 1 [kS 2 Sl3.nil] (RS.dn (WS.nxt (WS.sq (WS.rg (RS.mS 1 [kI 3 0] (RS.dn (WS.nxt ?_)))))))))
 refine WS.sq (WS.rg (RS.mS 1 [kI 4 1] (RS.dn (WS.nxt (WS.sq (WS.rg (RS.mS 1 [(5,.val (Value.int .u8 0))] (RS.dn (WS.nxt ?_)))))))))
 refine WS.sq (WS.sq (WS.rg (RS.mS 1 [kI 6 0] (RS.dn (WS.nxt (WS.bk 0 ?_))))))
 obtain ⟨o,hl,h⟩:=bind_some h
 rcases o with ⟨v3_8,v4_9,v5_10,v6_11⟩ | r
 ·try dsimp only at h
  refine WS.lI (z84 (L:=L) (E:=E) (m:=m) (H:=H)) (L.ok hl) 0 ?_
  clear hl
  refine fun a w hs=>bkE ((WS.nxt ?_ a w hs))
  refine WS.sq (WS.sq (WS.rg (RS.mS 2 [kB 37 (decide (v5_10≥128)),(36,.val (Value.int .u8 v5_10))] (RS.dn (WS.nxt ?_)))))
  rcases z0 h with ⟨hp,h⟩ | ⟨hp,h⟩
  ·refine WS.fx 37 true (decide_eq_true hp) (WS.cT ?_)
   cases h
  ·refine WS.fx 37 false (decide_eq_false hp) (WS.cF (WS.sk (WS.nxt (WS.sq (WS.rg (RS.mS 1 [kI 40 v3_8] ?_))))))
   obtain ⟨⟨s12,H13⟩,hx,h⟩:=bind_some h
   try dsimp only at h
   refine RS.o (H':=H13) (some 41) (Sl3.v s12) (Abs.run_mk (t:=23) (x:=.tmp 40) (y:=.tmp 40) (k1:=.i64) (k2:=.i64) (by kernel_rfl) (by kernel_rfl) (by kernel_rfl) (by kernel_rfl) hx) (RS.mS 1 [kS 9 s12] (RS.dn (WS.nxt (WS.sq (WS.rg (RS.mS 1 [kI 10 0] (RS.dn (WS.nxt (WS.sq ?_)))))))))
   refine WS.rg (RS.mS 1 [kI 11 0] (RS.dn (WS.nxt (WS.sq (WS.rg (RS.mS 1 [kI 12 0] (RS.dn (WS.nxt (WS.sq ?_)))))))))
   refine WS.bk 2 ?_
   obtain ⟨o,hl,h⟩:=bind_some h
   rcases o with v12_18 | r
   ·try dsimp only at h
    refine WS.lI (z8k (L:=L) (E:=E) (m:=m) (H:=H)) (L.ok hl) 0 ?_
    clear hl
    refine fun a w hs=>bkE ((WS.nxt ?_ a w hs))
    refine WS.sq (WS.rg (RS.mS 2 [kI 11 v12_18,kI 56 v12_18] (RS.dn (WS.nxt (WS.sq (WS.bk 4 ?_))))))
    obtain ⟨o,hl,h⟩:=bind_some h
    rcases o with ⟨H34,v10_35,v11_36,v12_37⟩ | r
    ·try dsimp only at h
     refine WS.lI (z8u (L:=L) (E:=E) (m:=m) (H:=H)) (L.ok hl) 0 ?_
     clear hl
     refine fun a w hs=>bkE ((WS.nxt ?_ a w hs))
     refine WS.sq (WS.sq (WS.rg (RS.mS 4 [kB 98 (decide (v11_36<(a0.size:Int))),kI 97 (a0.size:Int),kT 96 a0,kI 95 v11_36] (RS.dn (WS.nxt ?_)))))
     rcases z0 h with ⟨hp,h⟩ | ⟨hp,h⟩
     ·refine WS.fx 98 true (decide_eq_true hp) (WS.cT (WS.rg (RS.mS 4 [kI 102 v11_36,kT 101 a0,kI 100 v10_35,kS 99 s12] ?_)))
      obtain ⟨s38,hx,h⟩:=bind_some h
      refine RS.o (H':=H34) (some 103) (Value.string s38) (Abs.run_strC (t:=9) (x:=.tmp 101) (lo:=(some (.tmp 102))) (hi:=none) (s:=a0) (k1:=.i64) (k2:=.i64) (by kernel_rfl) (by kernel_rfl) (by kernel_rfl) (by kernel_rfl) (by kernel_rfl) hx) ?_
      obtain ⟨p39,hx,h⟩:=bind_some h
      refine RS.ix 104 23 9 (.tmp 99) (.tmp 100) hx ?_
      obtain ⟨H40,hx,h⟩:=bind_some h
      refine RS.o (H':=H40) none undef (Abs.run_store1 (t:=9) (x:=.tmp 104) (y:=.tmp 103) (a:=p39) (v:=(Value.string s38)) (by kernel_rfl) (by kernel_rfl) (by kernel_rfl) (by kernel_rfl) (by kernel_rfl) hx) (RS.dn (WS.nxt (WS.sq (WS.rg (RS.mS 2 [kS 2 s12,kS 105 s12] (RS.dn (WS.nxt (WS.rt ?_))))))))
      cases h
      exact fun a w hs=>rtR (rS hs)
     ·refine WS.fx 98 false (decide_eq_false hp) (WS.cF ?_)
      cases h
    ·try dsimp only at h
     refine WS.lR (z8u (L:=L) (E:=E) (m:=m) (H:=H)) (L.ok hl) 0 ?_
     cases h
     exact fun a w hq=>bkR (sqR (rtR hq))
   ·try dsimp only at h
    refine WS.lR (z8k (L:=L) (E:=E) (m:=m) (H:=H)) (L.ok hl) 0 ?_
    cases h
    exact fun a w hq=>bkR (sqR (rtR hq))
 ·try dsimp only at h
  refine WS.lR (z84 (L:=L) (E:=E) (m:=m) (H:=H)) (L.ok hl) 0 ?_
  cases h
  exact fun a w hq=>bkR (sqR (rtR hq))
noncomputable def B329:Code:=(Tryz.f329.body).getD .skip
def z8j:Int→Value
 | r0=>(Value.int .i64 r0)
def z9c (H:AH):Int→AH:=fun _=>H
noncomputable def z4z (_L:LC) (H:AH) (a0:Sl3) (a1:ByteArray):Int→Option (Lp Int Int):=fun v8_1 =>
 if v8_1<(a0.n:Int) then
  Option.bind (idxA 1 a0 v8_1) fun p2 =>
  Option.bind (rd deS H p2) fun x3 =>
  if (a1.toList == x3.toList)=true then
   none
  else
   some (.next (IntKind.i64.wrap (v8_1+1)))
 else
  some (.brk v8_1)
def zdx (_L:LC) (_H:AH) (a0:Sl3) (a1:ByteArray):Int→KN×Lcs:=fun v8_1=>([kI 8 v8_1,kS 0 a0,kT 1 a1,kI 7 (a0.n:Int)],[])
noncomputable def z7j (L:LC) (H:AH) (a0:Sl3) (a1:ByteArray):Option Int :=
 Option.bind (L.run (z4z L H a0 a1) 0) fun o=>match o with
 | .inl _ =>
  some (-1)
 | .inr r=>some r
theorem z72 {E m L H a0 a1} :LoopF Tryz.prog (NE.plain 202) m E Tryz.f329 ((cfst (csnd (cfst (csnd B329))))) (zdx L H a0 a1) (fun _=>H) 0 z8j (z9c H) (z4z L H a0 a1):=by
 rintro v8_1 o h
 unfold z4z at h
 try dsimp only at h
 refine WS.sq (WS.rg (RS.mS 1 [kB 9 (decide (v8_1<(a0.n:Int)))] (RS.dn (WS.nxt (WS.sq ?_)))))
 rcases z0 h with ⟨hp,h⟩ | ⟨hp,h⟩
 ·refine WS.fx 9 true (decide_eq_true hp) (WS.cT (WS.sk (WS.nxt (WS.sq (WS.bk 1 (WS.sq (WS.rg (RS.mS 2 [kI 5 v8_1,kI 10 v8_1] (RS.dn ?_)))))))))
  refine WS.nxt (WS.sq (WS.rg (RS.mS 3 [kI 13 v8_1,kS 12 a0,kT 11 a1] ?_)))
  obtain ⟨p2,hx,h⟩:=bind_some h
  refine RS.ix 14 23 9 (.tmp 12) (.tmp 13) hx ?_
  obtain ⟨x3,hx,h⟩:=bind_some h
  refine RS.ld 15 9 (.tmp 14) (z1 hx zl) (RS.mS 1 [kB 16 (a1.toList == x3.toList)] (RS.dn (WS.nxt ?_)))
  rcases z0 h with ⟨hp,h⟩ | ⟨hp,h⟩
  ·refine WS.fx 16 true hp (WS.cT ?_)
   cases h
  ·refine WS.fx 16 false (b_not hp) (WS.cF (WS.sk ?_))
   refine fun a w hs=>bkN ((WS.nxt ?_ a w hs))
   refine WS.rg (RS.mS 2 [kI 8 (IntKind.i64.wrap (v8_1+1)),kI 18 (IntKind.i64.wrap (v8_1+1))] (RS.dn ?_))
   cases h
   exact fun a w hs=>lsN rfl (hs.sb 0)
 ·refine WS.fx 9 false (decide_eq_false hp) (WS.cF (WS.ex 0 ?_))
  cases h
  exact fun a w hs=>sqE (lsB rfl (hs.sb 0))
theorem zgx {L:LC} {m:Nat} {H:AH} {a0:Sl3} {a1:ByteArray} {r:Int} (h:z7j L H a0 a1=some r) :
  CallS Tryz.prog (NE.plain 202) m 329 #[(Sl3.v a0),(Value.string a1)] H (z8j r) (z9c H r):=by
 refine CallS.mk (args:=[(Sl3.v a0),(Value.string a1)]) Tryz.func329 (B:=B329) (by kernel_rfl) (fun E _=>?_)
 unfold z7j at h
 refine WS.sq (WS.rg (RS.mS 1 [kI 4 0] (RS.dn (WS.nxt (WS.sq (WS.sq (WS.rg (RS.mS 3 [kI 8 0,kI 7 (a0.n:Int),kS 6 a0] (RS.dn ?_)))))))))
 refine WS.nxt (WS.bk 0 ?_)
 obtain ⟨o,hl,h⟩:=bind_some h
 rcases o with v8_4 | r
 ·try dsimp only at h
  refine WS.lI (z72 (L:=L) (E:=E) (m:=m) (H:=H)) (L.ok hl) 0 ?_
  clear hl
  refine fun a w hs=>bkE ((WS.nxt ?_ a w hs))
  refine WS.sq (WS.rg (RS.mS 1 [kI 4 (-1)] (RS.dn (WS.nxt (WS.rt ?_)))))
  cases h
  exact fun a w hs=>rtR (rS hs)
 ·try dsimp only at h
  refine WS.lR (z72 (L:=L) (E:=E) (m:=m) (H:=H)) (L.ok hl) 0 ?_
  cases h
  exact fun a w hq=>bkR (sqR (rtR hq))
noncomputable def B319:Code:=(Tryz.f319.body).getD .skip
def zcy:Bool→Value
 | r0=>(Value.bool r0)
def zeq (H:AH):Bool→AH:=fun _=>H
noncomputable def z56 (L:LC) (H:AH) (a0:Sl3) (a1:ByteArray):Option Bool :=
 Option.bind (z7j L H a0 a1) fun x1 =>
 some (decide (x1≥0))
theorem zdw {L:LC} {m:Nat} {H:AH} {a0:Sl3} {a1:ByteArray} {r:Bool} (h:z56 L H a0 a1=some r) :
  CallS Tryz.prog (NE.plain 202) m 319 #[(Sl3.v a0),(Value.string a1)] H (zcy r) (zeq H r):=by
 refine CallS.mk (args:=[(Sl3.v a0),(Value.string a1)]) Tryz.func319 (B:=B319) (by kernel_rfl) (fun E _=>?_)
 unfold z56 at h
 refine WS.sq (WS.rg (RS.mS 1 [kB 4 false] (RS.dn (WS.nxt (WS.sq (WS.rg (RS.mS 2 [kT 6 a1,kS 5 a0] ?_)))))))
 obtain ⟨x1,hx,h⟩:=bind_some h
 refine RS.cl (some 7) (v:=(Value.int .i64 x1)) 329 #[(Sl3.v a0),(Value.string a1)] (zgx hx) (RS.mS 2 [kB 4 (decide (x1≥0)),kB 8 (decide (x1≥0))] (RS.dn (WS.nxt (WS.rt ?_))))
 cases h
 exact fun a w hs=>rtR (rS hs)
noncomputable def B254:Code:=(Tryz.f254.body).getD .skip
def ziz:(Bool×AH)→Value
 | (r0,_)=>(Value.bool r0)
def zjr (_:AH):(Bool×AH)→AH:=fun r=>r.2
noncomputable def zan (L:LC) (m:Nat) (H:AH) (a0:ByteArray):Option (Bool×AH) :=
 Option.bind (z66 L m H (⟨#[33,32,95,32,97,115,32,66,73,78,65,82,89,32,68,69,67,73,77,65,76,32,101,120,105,115,116,115,32,102,111,114,97,108,108,32,72,69,88,65,68,69,67,73,77,65,76,32,108,101,116,32,109,97,116,99,104,32,78,85,77,69,82,65,76,32,112,97,114,32,83,84,82,73,78,71,32,97,115,115,101,114,116,32,99,104,101,99,107,45,115,97,116,32,99,104,101,99,107,45,115,97,116,45,97,115,115,117,109,105,110,103,32,100,101,99,108,97,114,101,45,99,111,110,115,116,32,100,101,99,108,97,114,101,45,100,97,116,97,116,121,112,101,32,100,101,99,108,97,114,101,45,100,97,116,97,116,121,112,101,115,32,100,101,99,108,97,114,101,45,102,117,110,32,100,101,99,108,97,114,101,45,115,111,114,116,32,100,101,102,105,110,101,45,102,117,110,32,100,101,102,105,110,101,45,115,111,114,116,32,101,99,104,111,32,101,120,105,116,32,103,101,116,45,97,115,115,101,114,116,105,111,110,115,32,103,101,116,45,105,110,102,111,32,103,101,116,45,109,111,100,101,108,32,103,101,116,45,118,97,108,117,101,32,112,111,112,32,112,117,115,104,32,114,101,115,101,116,32,114,101,115,101,116,45,97,115,115,101,114,116,105,111,110,115,32,115,101,116,45,105,110,102,111,32,115,101,116,45,108,111,103,105,99,32,115,101,116,45,111,112,116,105,111,110]⟩:ByteArray)) fun (x1,H2) =>
 Option.bind (z56 L H2 x1 a0) fun x3 =>
 some (x3,H2)
theorem zji {L:LC} {m:Nat} {H:AH} {a0:ByteArray} {r:(Bool×AH)} (h:zan L m H a0=some r) :
  CallS Tryz.prog (NE.plain 202) m 254 #[(Value.string a0)] H (ziz r) (zjr H r):=by
 refine CallS.mk (args:=[(Value.string a0)]) Tryz.func254 (B:=B254) (by kernel_rfl) (fun E _=>?_)
 unfold zan at h
 refine WS.sq (WS.rg (RS.mS 1 [kB 2 false] (RS.dn (WS.nxt (WS.sq (WS.rg (RS.mS 1 [kT 3 (⟨#[33,32,95,32,97,115,32,66,73,78,65,82,89,32,68,69,67,73,77,65,76,32,101,120,105,115,116,115,32,102,111,114,97,108,108,32,72,69,88,65,68,69,67,73,77,65,76,32,108,101,116,32,109,97,116,99,104,32,78,85,77,69,82,65,76,32,112,97,114,32,83,84,82,73,78,71,32,97,115,115,101,114,116,32,99,104,101,99,107,45,115,97,116,32,99,104,101,99,107,45,115,97,116,45,97,115,115,117,109,105,110,103,32,100,101,99,108,97,114,101,45,99,111,110,115,116,32,100,101,99,108,97,114,101,45,100,97,116,97,116,121,112,101,32,100,101,99,108,97,114,101,45,100,97,116,97,116,121,112,101,115,32,100,101,99,108,97,114,101,45,102,117,110,32,100,101,99,108,97,114,101,45,115,111,114,116,32,100,101,102,105,110,101,45,102,117,110,32,100,101,102,105,110,101,45,115,111,114,116,32,101,99,104,111,32,101,120,105,116,32,103,101,116,45,97,115,115,101,114,116,105,111,110,115,32,103,101,116,45,105,110,102,111,32,103,101,116,45,109,111,100,101,108,32,103,101,116,45,118,97,108,117,101,32,112,111,112,32,112,117,115,104,32,114,101,115,101,116,32,114,101,115,101,116,45,97,115,115,101,114,116,105,111,110,115,32,115,101,116,45,105,110,102,111,32,115,101,116,45,108,111,103,105,99,32,115,101,116,45,111,112,116,105,111,110]⟩:ByteArray)] (RS.dn (WS.nxt ?_)))))))))
 refine WS.sq (WS.rg (RS.mS 1 [kT 4 (⟨#[33,32,95,32,97,115,32,66,73,78,65,82,89,32,68,69,67,73,77,65,76,32,101,120,105,115,116,115,32,102,111,114,97,108,108,32,72,69,88,65,68,69,67,73,77,65,76,32,108,101,116,32,109,97,116,99,104,32,78,85,77,69,82,65,76,32,112,97,114,32,83,84,82,73,78,71,32,97,115,115,101,114,116,32,99,104,101,99,107,45,115,97,116,32,99,104,101,99,107,45,115,97,116,45,97,115,115,117,109,105,110,103,32,100,101,99,108,97,114,101,45,99,111,110,115,116,32,100,101,99,108,97,114,101,45,100,97,116,97,116,121,112,101,32,100,101,99,108,97,114,101,45,100,97,116,97,116,121,112,101,115,32,100,101,99,108,97,114,101,45,102,117,110,32,100,101,99,108,97,114,101,45,115,111,114,116,32,100,101,102,105,110,101,45,102,117,110,32,100,101,102,105,110,101,45,115,111,114,116,32,101,99,104,111,32,101,120,105,116,32,103,101,116,45,97,115,115,101,114,116,105,111,110,115,32,103,101,116,45,105,110,102,111,32,103,101,116,45,109,111,100,101,108,32,103,101,116,45,118,97,108,117,101,32,112,111,112,32,112,117,115,104,32,114,101,115,101,116,32,114,101,115,101,116,45,97,115,115,101,114,116,105,111,110,115,32,115,101,116,45,105,110,102,111,32,115,101,116,45,108,111,103,105,99,32,115,101,116,45,111,112,116,105,111,110]⟩:ByteArray)] ?_))
 obtain ⟨⟨x1,H2⟩,hx,h⟩:=bind_some h
 try dsimp only at h
 refine RS.cl (some 5) (v:=(Sl3.v x1)) 214 #[(Value.string (⟨#[33,32,95,32,97,115,32,66,73,78,65,82,89,32,68,69,67,73,77,65,76,32,101,120,105,115,116,115,32,102,111,114,97,108,108,32,72,69,88,65,68,69,67,73,77,65,76,32,108,101,116,32,109,97,116,99,104,32,78,85,77,69,82,65,76,32,112,97,114,32,83,84,82,73,78,71,32,97,115,115,101,114,116,32,99,104,101,99,107,45,115,97,116,32,99,104,101,99,107,45,115,97,116,45,97,115,115,117,109,105,110,103,32,100,101,99,108,97,114,101,45,99,111,110,115,116,32,100,101,99,108,97,114,101,45,100,97,116,97,116,121,112,101,32,100,101,99,108,97,114,101,45,100,97,116,97,116,121,112,101,115,32,100,101,99,108,97,114,101,45,102,117,110,32,100,101,99,108,97,114,101,45,115,111,114,116,32,100,101,102,105,110,101,45,102,117,110,32,100,101,102,105,110,101,45,115,111,114,116,32,101,99,104,111,32,101,120,105,116,32,103,101,116,45,97,115,115,101,114,116,105,111,110,115,32,103,101,116,45,105,110,102,111,32,103,101,116,45,109,111,100,101,108,32,103,101,116,45,118,97,108,117,101,32,112,111,112,32,112,117,115,104,32,114,101,115,101,116,32,114,101,115,101,116,45,97,115,115,101,114,116,105,111,110,115,32,115,101,116,45,105,110,102,111,32,115,101,116,45,108,111,103,105,99,32,115,101,116,45,111,112,116,105,111,110]⟩:ByteArray))] (zbk hx) (RS.mS 1 [kT 6 a0] ?_)
 obtain ⟨x3,hx,h⟩:=bind_some h
 refine RS.cl (some 7) (v:=(Value.bool x3)) 319 #[(Sl3.v x1),(Value.string a0)] (zdw hx) (RS.mS 1 [kB 2 x3] (RS.dn (WS.nxt (WS.rt ?_))))
 cases h
 exact fun a w hs=>rtR (rS hs)
noncomputable def B95:Code:=(Tryz.f95.body).getD .skip
def zgs:Bool→Value
 | r0=>(Value.bool r0)
def zht (H:AH):Bool→AH:=fun _=>H
noncomputable def zcq (_L:LC) (a0:ByteArray):Int→Option (Lp Int Bool):=fun v24_3 =>
 if v24_3<(a0.size:Int) then
  Option.bind (bytA a0 v24_3) fun x4 =>
  if x4<32 then
   none
  else
   Option.bind (bytA a0 v24_3) fun x5 =>
   if x5 > 126 then
    none
   else
    Option.bind (bytA a0 v24_3) fun x6 =>
    if x6=124 then
     none
    else
     Option.bind (bytA a0 v24_3) fun x7 =>
     if x7=92 then
      none
     else
      some (.next (IntKind.i64.wrap (v24_3+1)))
 else
  some (.brk v24_3)
def zkf (_L:LC) (a0:ByteArray):Int→KN×Lcs:=fun v24_3=>([kI 24 v24_3,kT 0 a0,kI 23 (a0.size:Int)],[])
noncomputable def zdk (L:LC) (a0:ByteArray):Option Bool :=
 if (a0.size:Int)<1 then
  none
 else
  if (a0.size:Int) > 200 then
   none
  else
   Option.bind (bytA a0 0) fun x1 =>
   if x1=64 then
    none
   else
    Option.bind (bytA a0 0) fun x2 =>
    if x2=46 then
     none
    else
     Option.bind (L.run (zcq L a0) 0) fun o=>match o with
     | .inl _ =>
      some true
     | .inr r=>some r
theorem zdf {E m H L a0} :LoopF Tryz.prog (NE.plain 202) m E Tryz.f95 ((cfst (csnd (cfst (csnd (csnd B95)))))) (zkf L a0) (fun _=>H) 0 zgs (zht H) (zcq L a0):=by
 rintro v24_3 o h
 unfold zcq at h
 try dsimp only at h
 refine WS.sq (WS.rg (RS.mS 1 [kB 25 (decide (v24_3<(a0.size:Int)))] (RS.dn (WS.nxt (WS.sq ?_)))))
 rcases z0 h with ⟨hp,h⟩ | ⟨hp,h⟩
 ·refine WS.fx 25 true (decide_eq_true hp) (WS.cT (WS.sk (WS.nxt (WS.sq (WS.bk 1 (WS.sq (WS.rg (RS.mS 2 [kI 3 v24_3,kI 26 v24_3] (RS.dn ?_)))))))))
  refine WS.nxt (WS.sq (WS.rg (RS.mS 2 [kI 28 v24_3,kT 27 a0] ?_)))
  obtain ⟨x4,hx,h⟩:=bind_some h
  refine RS.o (H':=H) (some 29) (Value.int .u8 x4) (Abs.run_byt (t:=9) (x:=.tmp 27) (y:=.tmp 28) (s:=a0) (k:=.i64) (i:=v24_3) (by kernel_rfl) (by kernel_rfl) (by kernel_rfl) (by kernel_rfl) hx) (RS.mS 2 [kB 31 (decide (x4<32)),kB 30 (decide (x4<32))] ?_)
  rcases z0 h with ⟨hp,h⟩ | ⟨hp,h⟩
  ·refine RS.fx 31 true (decide_eq_true hp) ?_
   cases h
  ·refine RS.fx 31 false (decide_eq_false hp) (RS.mS 2 [kI 33 v24_3,kT 32 a0] ?_)
   obtain ⟨x5,hx,h⟩:=bind_some h
   refine RS.o (H':=H) (some 34) (Value.int .u8 x5) (Abs.run_byt (t:=9) (x:=.tmp 32) (y:=.tmp 33) (s:=a0) (k:=.i64) (i:=v24_3) (by kernel_rfl) (by kernel_rfl) (by kernel_rfl) (by kernel_rfl) hx) (RS.mS 3 [kB 37 (decide (x5 > 126)),kB 36 (decide (x5 > 126)),kB 35 (decide (x5 > 126))] ?_)
   rcases z0 h with ⟨hp,h⟩ | ⟨hp,h⟩
   ·refine RS.fx 37 true (decide_eq_true hp) ?_
    cases h
   ·refine RS.fx 37 false (decide_eq_false hp) (RS.mS 2 [kI 39 v24_3,kT 38 a0] ?_)
    obtain ⟨x6,hx,h⟩:=bind_some h
    refine RS.o (H':=H) (some 40) (Value.int .u8 x6) (Abs.run_byt (t:=9) (x:=.tmp 38) (y:=.tmp 39) (s:=a0) (k:=.i64) (i:=v24_3) (by kernel_rfl) (by kernel_rfl) (by kernel_rfl) (by kernel_rfl) hx) (RS.mS 3 [kB 43 (decide (x6=124)),kB 42 (decide (x6=124)),kB 41 (decide (x6=124))] ?_)
    rcases z0 h with ⟨hp,h⟩ | ⟨hp,h⟩
    ·refine RS.fx 43 true (decide_eq_true hp) ?_
     cases h
    ·refine RS.fx 43 false (decide_eq_false hp) (RS.mS 2 [kI 45 v24_3,kT 44 a0] ?_)
     obtain ⟨x7,hx,h⟩:=bind_some h
     refine RS.o (H':=H) (some 46) (Value.int .u8 x7) (Abs.run_byt (t:=9) (x:=.tmp 44) (y:=.tmp 45) (s:=a0) (k:=.i64) (i:=v24_3) (by kernel_rfl) (by kernel_rfl) (by kernel_rfl) (by kernel_rfl) hx) (RS.mS 2 [kB 48 (decide (x7=92)),kB 47 (decide (x7=92))] (RS.dn (WS.nxt ?_)))
     rcases z0 h with ⟨hp,h⟩ | ⟨hp,h⟩
     ·refine WS.fx 48 true (decide_eq_true hp) (WS.cT ?_)
      cases h
     ·refine WS.fx 48 false (decide_eq_false hp) (WS.cF (WS.sk ?_))
      refine fun a w hs=>bkN ((WS.nxt ?_ a w hs))
      refine WS.rg (RS.mS 2 [kI 24 (IntKind.i64.wrap (v24_3+1)),kI 49 (IntKind.i64.wrap (v24_3+1))] (RS.dn ?_))
      cases h
      exact fun a w hs=>lsN rfl (hs.sb 0)
 ·refine WS.fx 25 false (decide_eq_false hp) (WS.cF (WS.ex 0 ?_))
  cases h
  exact fun a w hs=>sqE (lsB rfl (hs.sb 0))
theorem zhu {L:LC} {m:Nat} {H:AH} {a0:ByteArray} {r:Bool} (h:zdk L a0=some r) :
  CallS Tryz.prog (NE.plain 202) m 95 #[(Value.string a0)] H (zgs r) (zht H r):=by
 refine CallS.mk (args:=[(Value.string a0)]) Tryz.func95 (B:=B95) (by kernel_rfl) (fun E _=>?_)
 unfold zdk at h
 refine WS.sq (WS.rg (RS.mS 1 [kB 2 false] (RS.dn (WS.nxt (WS.sq (WS.sq (WS.rg (RS.mS 4 [kB 7 (decide ((a0.size:Int)<1)),kB 6 (decide ((a0.size:Int)<1)),kI 5 (a0.size:Int),kT 4 a0] ?_))))))))
 rcases z0 h with ⟨hp,h⟩ | ⟨hp,h⟩
 ·refine RS.fx 7 true (decide_eq_true hp) ?_
  cases h
 ·refine RS.fx 7 false (decide_eq_false hp) (RS.mS 5 [kB 12 (decide ((a0.size:Int) > 200)),kB 11 (decide ((a0.size:Int) > 200)),kB 10 (decide ((a0.size:Int) > 200)),kI 9 (a0.size:Int),kT 8 a0] ?_)
  rcases z0 h with ⟨hp,h⟩ | ⟨hp,h⟩
  ·refine RS.fx 12 true (decide_eq_true hp) ?_
   cases h
  ·refine RS.fx 12 false (decide_eq_false hp) (RS.mS 1 [kT 13 a0] ?_)
   obtain ⟨x1,hx,h⟩:=bind_some h
   refine RS.o (H':=H) (some 14) (Value.int .u8 x1) (Abs.run_byt (t:=9) (x:=.tmp 13) (y:=.const (Value.int .i64 0)) (s:=a0) (k:=.i64) (i:=0) (by kernel_rfl) (by kernel_rfl) (by kernel_rfl) (by kernel_rfl) hx) (RS.mS 3 [kB 17 (decide (x1=64)),kB 16 (decide (x1=64)),kB 15 (decide (x1=64))] ?_)
   rcases z0 h with ⟨hp,h⟩ | ⟨hp,h⟩
   ·refine RS.fx 17 true (decide_eq_true hp) ?_
    cases h
   ·refine RS.fx 17 false (decide_eq_false hp) (RS.mS 1 [kT 18 a0] ?_)
    obtain ⟨x2,hx,h⟩:=bind_some h
    refine RS.o (H':=H) (some 19) (Value.int .u8 x2) (Abs.run_byt (t:=9) (x:=.tmp 18) (y:=.const (Value.int .i64 0)) (s:=a0) (k:=.i64) (i:=0) (by kernel_rfl) (by kernel_rfl) (by kernel_rfl) (by kernel_rfl) hx) (RS.mS 2 [kB 21 (decide (x2=46)),kB 20 (decide (x2=46))] (RS.dn (WS.nxt ?_)))
    rcases z0 h with ⟨hp,h⟩ | ⟨hp,h⟩
    ·refine WS.fx 21 true (decide_eq_true hp) (WS.cT ?_)
     cases h
    ·refine WS.fx 21 false (decide_eq_false hp) (WS.cF (WS.sk (WS.nxt (WS.sq (WS.sq (WS.rg (RS.mS 3 [kI 24 0,kI 23 (a0.size:Int),kT 22 a0] (RS.dn (WS.nxt ?_)))))))))
     refine WS.bk 0 ?_
     obtain ⟨o,hl,h⟩:=bind_some h
     rcases o with v24_8 | r
     ·try dsimp only at h
      refine WS.lI (zdf (L:=L) (E:=E) (m:=m) (H:=H)) (L.ok hl) 0 ?_
      clear hl
      refine fun a w hs=>bkE ((WS.nxt ?_ a w hs))
      refine WS.sq (WS.rg (RS.mS 1 [kB 2 true] (RS.dn (WS.nxt (WS.rt ?_)))))
      cases h
      exact fun a w hs=>rtR (rS hs)
     ·try dsimp only at h
      refine WS.lR (zdf (L:=L) (E:=E) (m:=m) (H:=H)) (L.ok hl) 0 ?_
      cases h
      exact fun a w hq=>bkR (sqR (rtR hq))
end Go.Proofs.YtfbinmgldpnjhaaGreatDoor
namespace Go.Proofs.YtfbinmgldpnjhaaGreatDoor
open Go Go.Abs
set_option maxRecDepth 100000
noncomputable def B210:Code:=(Tryz.f210.body).getD .skip
def zdj:(Bool×AH)→Value
 | (r0,_)=>(Value.bool r0)
def zf7 (_:AH):(Bool×AH)→AH:=fun r=>r.2
noncomputable def z9k (L:LC) (_H:AH) (a0:ByteArray):Int→Option (Lp Int (Bool×AH)):=fun v20_4 =>
 if v20_4<(a0.size:Int) then
  Option.bind (bytA a0 v20_4) fun x5 =>
  Option.bind (zek L x5) fun x6 =>
  if x6=true then
   some (.next (IntKind.i64.wrap (v20_4+1)))
  else
   none
 else
  some (.brk v20_4)
def ziw (_L:LC) (_H:AH) (a0:ByteArray):Int→KN×Lcs:=fun v20_4=>([kI 20 v20_4,kT 0 a0,kI 19 (a0.size:Int)],[])
noncomputable def ze4 (L:LC) (m:Nat) (H:AH) (a0:ByteArray):Option (Bool×AH) :=
 Option.bind (zdk L a0) fun x1 =>
 if x1=true then
  Option.bind (bytA a0 0) fun x2 =>
  if x2≥48 then
   Option.bind (bytA a0 0) fun x3 =>
   if x3≤57 then
    none
   else
    Option.bind (L.run (z9k L H a0) 0) fun o=>match o with
    | .inl _ =>
     Option.bind (zan L m H a0) fun (x8,H9) =>
     some ((!x8),H9)
    | .inr r=>some r
  else
   none
 else
  none
theorem zbh {E m L H a0} :LoopF Tryz.prog (NE.plain 202) m E Tryz.f210 ((cfst (csnd (cfst (csnd (csnd B210)))))) (ziw L H a0) (fun _=>H) 0 zdj (zf7 H) (z9k L H a0):=by
 rintro v20_4 o h
 unfold z9k at h
 try dsimp only at h
 refine WS.sq (WS.rg (RS.mS 1 [kB 21 (decide (v20_4<(a0.size:Int)))] (RS.dn (WS.nxt (WS.sq ?_)))))
 rcases z0 h with ⟨hp,h⟩ | ⟨hp,h⟩
 ·refine WS.fx 21 true (decide_eq_true hp) (WS.cT (WS.sk (WS.nxt (WS.sq (WS.bk 1 (WS.sq (WS.rg (RS.mS 2 [kI 3 v20_4,kI 22 v20_4] (RS.dn ?_)))))))))
  refine WS.nxt (WS.sq (WS.rg (RS.mS 2 [kI 24 v20_4,kT 23 a0] ?_)))
  obtain ⟨x5,hx,h⟩:=bind_some h
  refine RS.o (H':=H) (some 25) (Value.int .u8 x5) (Abs.run_byt (t:=9) (x:=.tmp 23) (y:=.tmp 24) (s:=a0) (k:=.i64) (i:=v20_4) (by kernel_rfl) (by kernel_rfl) (by kernel_rfl) (by kernel_rfl) hx) (RS.mS 1 [(4,.val (Value.int .u8 x5))] (RS.dn (WS.nxt (WS.sq (WS.rg (RS.mS 1 [(26,.val (Value.int .u8 x5))] ?_))))))
  obtain ⟨x6,hx,h⟩:=bind_some h
  refine RS.cl (some 27) (v:=(Value.bool x6)) 252 #[(Value.int .u8 x5)] (zlf hx) (RS.mS 2 [kB 29 (!x6),kB 28 (!x6)] ?_)
  rcases z0 h with ⟨hp,h⟩ | ⟨hp,h⟩
  ·refine RS.fx 29 false (nb_not hp) (RS.mS 12 [kB 41 false,kU 40,kU 39,kU 38,kB 37 false,kB 36 false,kU 35,kU 34,kU 33,kU 32,kU 31,kU 30] (RS.dn (WS.nxt (WS.cF (WS.sk ?_)))))
   refine fun a w hs=>bkN ((WS.nxt ?_ a w hs))
   refine WS.rg (RS.mS 2 [kI 20 (IntKind.i64.wrap (v20_4+1)),kI 42 (IntKind.i64.wrap (v20_4+1))] (RS.dn ?_))
   cases h
   exact fun a w hs=>lsN rfl (hs.sb 0)
  ·refine RS.fx 29 true (z19 hp) ?_
   cases h
 ·refine WS.fx 21 false (decide_eq_false hp) (WS.cF (WS.ex 0 ?_))
  cases h
  exact fun a w hs=>sqE (lsB rfl (hs.sb 0))
theorem zla {L:LC} {m:Nat} {H:AH} {a0:ByteArray} {r:(Bool×AH)} (h:ze4 L m H a0=some r) :
  CallS Tryz.prog (NE.plain 202) m 210 #[(Value.string a0)] H (zdj r) (zf7 H r):=by
 refine CallS.mk (args:=[(Value.string a0)]) Tryz.func210 (B:=B210) (by kernel_rfl) (fun E _=>?_)
 unfold ze4 at h
 refine WS.sq (WS.rg (RS.mS 1 [kB 2 false] (RS.dn (WS.nxt (WS.sq (WS.sq (WS.rg (RS.mS 1 [kT 5 a0] ?_))))))))
 obtain ⟨x1,hx,h⟩:=bind_some h
 refine RS.cl (some 6) (v:=(Value.bool x1)) 95 #[(Value.string a0)] (zhu hx) (RS.mS 2 [kB 8 (!x1),kB 7 (!x1)] ?_)
 rcases z0 h with ⟨hp,h⟩ | ⟨hp,h⟩
 ·refine RS.fx 8 false (nb_not hp) (RS.mS 1 [kT 9 a0] ?_)
  obtain ⟨x2,hx,h⟩:=bind_some h
  refine RS.o (H':=H) (some 10) (Value.int .u8 x2) (Abs.run_byt (t:=9) (x:=.tmp 9) (y:=.const (Value.int .i64 0)) (s:=a0) (k:=.i64) (i:=0) (by kernel_rfl) (by kernel_rfl) (by kernel_rfl) (by kernel_rfl) hx) (RS.mS 2 [kB 12 (decide (x2≥48)),kB 11 (decide (x2≥48))] ?_)
  rcases z0 h with ⟨hp,h⟩ | ⟨hp,h⟩
  ·refine RS.fx 12 true (decide_eq_true hp) (RS.mS 1 [kT 13 a0] ?_)
   obtain ⟨x3,hx,h⟩:=bind_some h
   refine RS.o (H':=H) (some 14) (Value.int .u8 x3) (Abs.run_byt (t:=9) (x:=.tmp 13) (y:=.const (Value.int .i64 0)) (s:=a0) (k:=.i64) (i:=0) (by kernel_rfl) (by kernel_rfl) (by kernel_rfl) (by kernel_rfl) hx) (RS.mS 3 [kB 17 (decide (x3≤57)),kB 16 (decide (x3≤57)),kB 15 (decide (x3≤57))] (RS.dn (WS.nxt ?_)))
   rcases z0 h with ⟨hp,h⟩ | ⟨hp,h⟩
   ·refine WS.fx 17 true (decide_eq_true hp) (WS.cT ?_)
    cases h
   ·refine WS.fx 17 false (decide_eq_false hp) (WS.cF (WS.sk (WS.nxt (WS.sq (WS.sq (WS.rg (RS.mS 3 [kI 20 0,kI 19 (a0.size:Int),kT 18 a0] (RS.dn (WS.nxt ?_)))))))))
    refine WS.bk 0 ?_
    obtain ⟨o,hl,h⟩:=bind_some h
    rcases o with v20_7 | r
    ·try dsimp only at h
     refine WS.lI (zbh (L:=L) (E:=E) (m:=m) (H:=H)) (L.ok hl) 0 ?_
     clear hl
     refine fun a w hs=>bkE ((WS.nxt ?_ a w hs))
     refine WS.sq (WS.rg (RS.mS 1 [kT 43 a0] ?_))
     obtain ⟨⟨x8,H9⟩,hx,h⟩:=bind_some h
     try dsimp only at h
     refine RS.cl (some 44) (v:=(Value.bool x8)) 254 #[(Value.string a0)] (zji hx) (RS.mS 2 [kB 2 (!x8),kB 45 (!x8)] (RS.dn (WS.nxt (WS.rt ?_))))
     cases h
     exact fun a w hs=>rtR (rS hs)
    ·try dsimp only at h
     refine WS.lR (zbh (L:=L) (E:=E) (m:=m) (H:=H)) (L.ok hl) 0 ?_
     cases h
     exact fun a w hq=>bkR (sqR (rtR hq))
  ·refine RS.fx 12 false (decide_eq_false hp) ?_
   cases h
 ·refine RS.fx 8 true (z19 hp) ?_
  cases h
noncomputable def B161:Code:=(Tryz.f161.body).getD .skip
def zl6:(ByteArray×AH)→Value
 | (r0,_)=>(Value.string r0)
def zmj (_:AH):(ByteArray×AH)→AH:=fun r=>r.2
noncomputable def zfw (L:LC) (m:Nat) (H:AH) (a0:ByteArray):Option (ByteArray×AH) :=
 Option.bind (ze4 L m H a0) fun (x1,H2) =>
 if x1=true then
  some (a0,H2)
 else
  none
theorem zm9 {L:LC} {m:Nat} {H:AH} {a0:ByteArray} {r:(ByteArray×AH)} (h:zfw L m H a0=some r) :
  CallS Tryz.prog (NE.plain 202) m 161 #[(Value.string a0)] H (zl6 r) (zmj H r):=by
 refine CallS.mk (args:=[(Value.string a0)]) Tryz.func161 (B:=B161) (by kernel_rfl) (fun E _=>?_)
 unfold zfw at h
 refine WS.sq (WS.rg (RS.mS 1 [kT 2 (⟨#[]⟩:ByteArray)] (RS.dn (WS.nxt (WS.sq (WS.sq (WS.rg (RS.mS 1 [kT 3 a0] ?_))))))))
 obtain ⟨⟨x1,H2⟩,hx,h⟩:=bind_some h
 try dsimp only at h
 refine RS.cl (some 4) (v:=(Value.bool x1)) 210 #[(Value.string a0)] (zla hx) (RS.dn (WS.nxt ?_))
 rcases z0 h with ⟨hp,h⟩ | ⟨hp,h⟩
 ·refine WS.fx 4 true hp (WS.cT (WS.sq (WS.rg (RS.mS 2 [kT 2 a0,kT 5 a0] (RS.dn (WS.nxt (WS.rt ?_)))))))
  cases h
  exact fun a w hs=>sqR (rtR (rS hs))
 ·refine WS.fx 4 false (b_not hp) (WS.cF ?_)
  cases h
noncomputable def B164:Code:=(Tryz.f164.body).getD .skip
def zl8:(ByteArray×AH)→Value
 | (r0,_)=>(Value.string r0)
def zmc (_:AH):(ByteArray×AH)→AH:=fun r=>r.2
noncomputable def zfi (L:LC) (m:Nat) (H:AH) (a0:Int):Option (ByteArray×AH) :=
 if a0≤10 then
  Option.bind (z66 L m H (⟨#[116,114,117,101,32,102,97,108,115,101,32,110,111,116,32,97,110,100,32,111,114,32,120,111,114,32,61,62,32,61,32,100,105,115,116,105,110,99,116,32,105,116,101]⟩:ByteArray)) fun (x1,H2) =>
  Option.bind (idxA 1 x1 (IntKind.i64.wrap (a0 - 1))) fun p3 =>
  Option.bind (rd deS H2 p3) fun x4 =>
  some (x4,H2)
 else
  none
theorem zmg {L:LC} {m:Nat} {H:AH} {a0:Int} {r:(ByteArray×AH)} (h:zfi L m H a0=some r) :
  CallS Tryz.prog (NE.plain 202) m 164 #[(Value.int .i64 a0)] H (zl8 r) (zmc H r):=by
 refine CallS.mk (args:=[(Value.int .i64 a0)]) Tryz.func164 (B:=B164) (by kernel_rfl) (fun E _=>?_)
 unfold zfi at h
 refine WS.sq (WS.rg (RS.mS 1 [kT 2 (⟨#[]⟩:ByteArray)] (RS.dn (WS.nxt (WS.sq (WS.bk 0 (WS.sq (WS.rg (RS.mS 3 [kB 3 (decide (a0≤10)),kB 5 (decide (a0≤10)),kI 4 a0] ?_)))))))))
 refine RS.dn (WS.nxt ?_)
 rcases z0 h with ⟨hp,h⟩ | ⟨hp,h⟩
 ·refine WS.fx 3 true (decide_eq_true hp) (WS.cT (WS.sq (WS.rg ?_)))
  obtain ⟨⟨x1,H2⟩,hx,h⟩:=bind_some h
  try dsimp only at h
  refine RS.cl (some 6) (v:=(Sl3.v x1)) 214 #[(Value.string (⟨#[116,114,117,101,32,102,97,108,115,101,32,110,111,116,32,97,110,100,32,111,114,32,120,111,114,32,61,62,32,61,32,100,105,115,116,105,110,99,116,32,105,116,101]⟩:ByteArray))] (zbk hx) (RS.mS 2 [kI 8 (IntKind.i64.wrap (a0 - 1)),kI 7 a0] ?_)
  obtain ⟨p3,hx,h⟩:=bind_some h
  refine RS.ix 9 23 9 (.tmp 6) (.tmp 8) hx ?_
  obtain ⟨x4,hx,h⟩:=bind_some h
  refine RS.ld 10 9 (.tmp 9) (z1 hx zl) (RS.mS 1 [kT 2 x4] (RS.dn (WS.nxt (WS.rt ?_))))
  cases h
  exact fun a w hs=>bkR (sqR (rtR (rS hs)))
 ·refine WS.fx 3 false (decide_eq_false hp) (WS.cF ?_)
  cases h
noncomputable def B115:Code:=(Tryz.f115.body).getD .skip
def zm2:(ByteArray×AH)→Value
 | (r0,_)=>(Value.string r0)
def znd (_:AH):(ByteArray×AH)→AH:=fun r=>r.2
noncomputable def zdq (L:LC) (m:Nat) (H:AH) (a0_0:Int) (a0_1:ByteArray) (_a0_2:Bool) (_a0_3:Sl3) (_a0_4:Int) (_a0_5:Sl3) (_a0_6 _a0_7:Int) (_a0_8:ByteArray) (_a0_9 a0_10 _a0_11:Sl3):Option (ByteArray×AH) :=
 Option.bind (α:=Bool) (
  if a0_0=11 then
   some true
  else
   if a0_0=12 then
    none
   else
    some (decide (a0_0=13))) fun v10_1 =>
 if v10_1=true then
  Option.bind (zfw L m H a0_1) fun (x2,H3) =>
  some (x2,H3)
 else
  if a0_0=14 then
   none
  else
   if a0_0=20 then
    none
   else
    if a0_0=40 then
     none
    else
     if a0_0=34 then
      none
     else
      if (a0_10.n:Int)=0 then
       Option.bind (zfi L m H a0_0) fun (x4,H5) =>
       some (x4,H5)
      else
       none
theorem zi2 {L:LC} {m:Nat} {H:AH} {a0_0:Int} {a0_1:ByteArray} {a0_2:Bool} {a0_3:Sl3} {a0_4:Int} {a0_5:Sl3} {a0_6 a0_7:Int} {a0_8:ByteArray} {a0_9 a0_10 a0_11:Sl3} {r:(ByteArray×AH)} (h:zdq L m H a0_0 a0_1 a0_2 a0_3 a0_4 a0_5 a0_6 a0_7 a0_8 a0_9 a0_10 a0_11=some r) :
  CallS Tryz.prog (NE.plain 202) m 115 #[(Value.agg #[(Value.int .i64 a0_0),(Value.string a0_1),(Value.bool a0_2),(Sl3.v a0_3),(Value.int .i64 a0_4),(Sl3.v a0_5),(Value.int .i64 a0_6),(Value.int .i64 a0_7),(Value.string a0_8),(Sl3.v a0_9),(Sl3.v a0_10),(Sl3.v a0_11)])] H (zm2 r) (znd H r):=by
 refine CallS.mk (args:=[(Value.agg #[(Value.int .i64 a0_0),(Value.string a0_1),(Value.bool a0_2),(Sl3.v a0_3),(Value.int .i64 a0_4),(Sl3.v a0_5),(Value.int .i64 a0_6),(Value.int .i64 a0_7),(Value.string a0_8),(Sl3.v a0_9),(Sl3.v a0_10),(Sl3.v a0_11)])]) Tryz.func115 (B:=B115) (by kernel_rfl) (fun E _=>?_)
 unfold zdq at h
 refine WS.sq (WS.rg (RS.mL 2 [kT 2 (⟨#[]⟩:ByteArray),kL 1 0 0] ([some (70,[(Value.int .i64 a0_0),(Value.string a0_1),(Value.bool a0_2),(Sl3.v a0_3),(Value.int .i64 a0_4),(Sl3.v a0_5),(Value.int .i64 a0_6),(Value.int .i64 a0_7),(Value.string a0_8),(Sl3.v a0_9),(Sl3.v a0_10),(Sl3.v a0_11)])]) (RS.dn (WS.nxt (WS.sq (WS.sq (WS.rg (RS.mS 2 [kI 9 a0_0,kL 8 0 0] (RS.dn ?_)))))))))
 refine WS.nxt (WS.bk 0 ?_)
 obtain ⟨v10_1,hx,h⟩:=bind_some h
 refine WS.sq ?_
 refine WS.join ([kB 10 v10_1,kL 1 0 0,kI 9 a0_0]) ([some (70,[(Value.int .i64 a0_0),(Value.string a0_1),(Value.bool a0_2),(Sl3.v a0_3),(Value.int .i64 a0_4),(Sl3.v a0_5),(Value.int .i64 a0_6),(Value.int .i64 a0_7),(Value.string a0_8),(Sl3.v a0_9),(Sl3.v a0_10),(Sl3.v a0_11)])]) H ?_ (fun a w hs=>WS.nxt ?_ a w hs)
 ·clear h; rename _=>h
  refine WS.sq (WS.rg (RS.mS 2 [kB 10 (decide (a0_0=11)),kB 11 (decide (a0_0=11))] (RS.dn (WS.nxt ?_))))
  rcases z0 h with ⟨hp,h⟩ | ⟨hp,h⟩
  ·refine WS.fx 10 true (decide_eq_true hp) (WS.cT (WS.sk ?_))
   cases h
   exact fun a w hs=>(jsN (hs.sb 1))
  ·refine WS.fx 10 false (decide_eq_false hp) (WS.cF (WS.sq (WS.rg (RS.mS 2 [kB 10 (decide (a0_0=12)),kB 12 (decide (a0_0=12))] (RS.dn (WS.nxt ?_))))))
   rcases z0 h with ⟨hp,h⟩ | ⟨hp,h⟩
   ·refine WS.fx 10 true (decide_eq_true hp) (WS.cT ?_)
    cases h
   ·refine WS.fx 10 false (decide_eq_false hp) (WS.cF (WS.rg (RS.mS 2 [kB 10 (decide (a0_0=13)),kB 13 (decide (a0_0=13))] (RS.dn ?_))))
    cases h
    exact fun a w hs=>(jsN (hs.sb 1))
 ·clear hx
  rcases z0 h with ⟨hp,h⟩ | ⟨hp,h⟩
  ·refine WS.fx 10 true hp (WS.cT (WS.sq (WS.rg (RS.mS 2 [kT 15 a0_1,kL 14 0 1] ?_))))
   obtain ⟨⟨x2,H3⟩,hx,h⟩:=bind_some h
   try dsimp only at h
   refine RS.cl (some 16) (v:=(Value.string x2)) 161 #[(Value.string a0_1)] (zm9 hx) (RS.mS 1 [kT 2 x2] (RS.dn (WS.nxt (WS.rt ?_))))
   cases h
   exact fun a w hs=>bkR (sqR (rtR (rS hs)))
  ·refine WS.fx 10 false (b_not hp) (WS.cF (WS.sq (WS.rg (RS.mS 2 [kB 17 (decide (a0_0=14)),kB 18 (decide (a0_0=14))] (RS.dn (WS.nxt ?_))))))
   rcases z0 h with ⟨hp,h⟩ | ⟨hp,h⟩
   ·refine WS.fx 17 true (decide_eq_true hp) (WS.cT ?_)
    cases h
   ·refine WS.fx 17 false (decide_eq_false hp) (WS.cF (WS.sq (WS.rg (RS.mS 2 [kB 24 (decide (a0_0=20)),kB 25 (decide (a0_0=20))] (RS.dn (WS.nxt ?_))))))
    rcases z0 h with ⟨hp,h⟩ | ⟨hp,h⟩
    ·refine WS.fx 24 true (decide_eq_true hp) (WS.cT ?_)
     cases h
    ·refine WS.fx 24 false (decide_eq_false hp) (WS.cF (WS.sq (WS.rg (RS.mS 2 [kB 29 (decide (a0_0=40)),kB 30 (decide (a0_0=40))] (RS.dn (WS.nxt ?_))))))
     rcases z0 h with ⟨hp,h⟩ | ⟨hp,h⟩
     ·refine WS.fx 29 true (decide_eq_true hp) (WS.cT ?_)
      cases h
     ·refine WS.fx 29 false (decide_eq_false hp) (WS.cF (WS.sq (WS.rg (RS.mS 2 [kB 34 (decide (a0_0=34)),kB 35 (decide (a0_0=34))] (RS.dn (WS.nxt ?_))))))
      rcases z0 h with ⟨hp,h⟩ | ⟨hp,h⟩
      ·refine WS.fx 34 true (decide_eq_true hp) (WS.cT ?_)
       cases h
      ·refine WS.fx 34 false (decide_eq_false hp) (WS.cF (WS.sk ?_))
       refine fun a w hs=>bkN ((WS.nxt ?_ a w hs))
       refine WS.sq (WS.sq (WS.rg (RS.mS 4 [kB 48 (decide ((a0_10.n:Int)=0)),kI 47 (a0_10.n:Int),kS 46 a0_10,kL 45 0 10] (RS.dn (WS.nxt ?_)))))
       rcases z0 h with ⟨hp,h⟩ | ⟨hp,h⟩
       ·refine WS.fx 48 true (decide_eq_true hp) (WS.cT (WS.sq (WS.rg (RS.mS 2 [kI 50 a0_0,kL 49 0 0] ?_))))
        obtain ⟨⟨x4,H5⟩,hx,h⟩:=bind_some h
        try dsimp only at h
        refine RS.cl (some 51) (v:=(Value.string x4)) 164 #[(Value.int .i64 a0_0)] (zmg hx) (RS.mS 1 [kT 2 x4] (RS.dn (WS.nxt (WS.rt ?_))))
        cases h
        exact fun a w hs=>sqR (rtR (rS hs))
       ·refine WS.fx 48 false (decide_eq_false hp) (WS.cF ?_)
        cases h
noncomputable def B65:Code:=(Tryz.f65.body).getD .skip
def zd5:Int→Value
 | r0=>(Value.int .i64 r0)
def zeh (H:AH):Int→AH:=fun _=>H
noncomputable def z1m (_L:LC) (H:AH) (a0:Option Addr):Option Int :=
 Option.bind a0 fun q1 =>
 Option.bind (rd deSl H (Addr.add q1 1)) fun x2 =>
 some (x2.n:Int)
theorem z3c {L:LC} {m:Nat} {H:AH} {a0:Option Addr} {r:Int} (h:z1m L H a0=some r) :
  CallS Tryz.prog (NE.plain 202) m 65 #[(Value.pointer a0)] H (zd5 r) (zeh H r):=by
 refine CallS.mk (args:=[(Value.pointer a0)]) Tryz.func65 (B:=B65) (by kernel_rfl) (fun E _=>?_)
 unfold z1m at h
 refine WS.sq (WS.rg (RS.mS 1 [kI 2 0] (RS.dn (WS.nxt (WS.sq (WS.rg (RS.mS 1 [(3,.val (Value.pointer a0))] ?_)))))))
 obtain ⟨q1,hx,hq1⟩:=bind_some h
 subst hx
 have h:=hq1
 refine RS.mS 2 [(5,.val (Value.pointer (some (Addr.add q1 1)))),kP 4 q1] ?_
 obtain ⟨x2,hx,h⟩:=bind_some h
 refine RS.ld 6 119 (.tmp 5) (z1 hx z6) (RS.mS 2 [kI 2 (x2.n:Int),kI 7 (x2.n:Int)] (RS.dn (WS.nxt (WS.rt ?_))))
 cases h
 exact fun a w hs=>rtR (rS hs)
noncomputable def B64:Code:=(Tryz.f64.body).getD .skip
def zy:AH→Value
 | _=>(Value.tuple #[])
def z18 (_:AH):AH→AH:=fun r=>r
noncomputable def z4q (L:LC) (rec_term_Table_write:Nat→AH→(Option Addr)→(Option Addr)→Int→Option AH) (m:Nat) (a1:Option Addr) (q2:Addr) (_x5_0:Int) (_x5_1:ByteArray) (_x5_2:Bool) (_x5_3:Sl3) (_x5_4:Int) (_x5_5:Sl3) (_x5_6 _x5_7:Int) (_x5_8:ByteArray) (_x5_9 _x5_10 x5_11:Sl3):(AH×Int)→Option (Lp (AH×Int) AH):=fun (H17,v36_18) =>
 if v36_18<(x5_11.n:Int) then
  Option.bind (idxA 1 x5_11 v36_18) fun p19 =>
  Option.bind (rd (deI .i64) H17 p19) fun x20 =>
  Option.bind (z1m L H17 a1) fun x21 =>
  if x21 > 1048576 then
   none
  else
   Option.bind (zu L m H17 a1 32) fun (_,H23) =>
   Option.bind (rec_term_Table_write m H23 (some q2) a1 x20) fun H24 =>
   some (.next (H24,(IntKind.i64.wrap (v36_18+1))))
 else
  some (.brk (H17,v36_18))
def zdu (_L:LC) (_rec_term_Table_write:Nat→AH→(Option Addr)→(Option Addr)→Int→Option AH) (_m:Nat) (a1:Option Addr) (q2:Addr) (x5_0:Int) (x5_1:ByteArray) (x5_2:Bool) (x5_3:Sl3) (x5_4:Int) (x5_5:Sl3) (x5_6 x5_7:Int) (x5_8:ByteArray) (x5_9 x5_10 x5_11:Sl3):(AH×Int)→KN×Lcs:=fun (_,v36_18)=>([kI 36 v36_18,kP 0 q2,(1,.val (Value.pointer a1)),kS 34 x5_11,kI 35 (x5_11.n:Int)],[some (70,[(Value.int .i64 x5_0),(Value.string x5_1),(Value.bool x5_2),(Sl3.v x5_3),(Value.int .i64 x5_4),(Sl3.v x5_5),(Value.int .i64 x5_6),(Value.int .i64 x5_7),(Value.string x5_8),(Sl3.v x5_9),(Sl3.v x5_10),(Sl3.v x5_11)])])
noncomputable def z3o (L:LC) (rec_term_Table_write:Nat→AH→(Option Addr)→(Option Addr)→Int→Option AH) (m:Nat) (H:AH) (a0 a1:Option Addr) (a2:Int):Option AH :=
 Option.bind (z1m L H a1) fun x1 =>
 if x1 > 1048576 then
  none
 else
  Option.bind a0 fun q2 =>
  Option.bind (rd deSl H (Addr.add q2 3)) fun x3 =>
  Option.bind (idxA 16 x3 a2) fun p4 =>
  Option.bind (rd (deI .i64) H (Addr.add (Addr.add p4 0) 0)) fun x5_0 =>
  Option.bind (rd deS H (Addr.add (Addr.add p4 0) 1)) fun x5_1 =>
  Option.bind (rd deB H (Addr.add (Addr.add p4 0) 2)) fun x5_2 =>
  Option.bind (rd deSl H (Addr.add (Addr.add p4 0) 3)) fun x5_3 =>
  Option.bind (rd (deI .i64) H (Addr.add (Addr.add p4 0) 4)) fun x5_4 =>
  Option.bind (rd deSl H (Addr.add (Addr.add p4 0) 5)) fun x5_5 =>
  Option.bind (rd (deI .i64) H (Addr.add (Addr.add p4 0) 6)) fun x5_6 =>
  Option.bind (rd (deI .i64) H (Addr.add (Addr.add p4 0) 7)) fun x5_7 =>
  Option.bind (rd deS H (Addr.add (Addr.add p4 0) 8)) fun x5_8 =>
  Option.bind (rd deSl H (Addr.add (Addr.add p4 0) 9)) fun x5_9 =>
  Option.bind (rd deSl H (Addr.add (Addr.add p4 0) 10)) fun x5_10 =>
  Option.bind (rd deSl H (Addr.add (Addr.add p4 0) 11)) fun x5_11 =>
  if (x5_11.n:Int)=0 then
   Option.bind (zdq L m H x5_0 x5_1 x5_2 x5_3 x5_4 x5_5 x5_6 x5_7 x5_8 x5_9 x5_10 x5_11) fun (x6,H7) =>
   Option.bind (zq L m H7 a1 x6) fun (_,_,H10) =>
   some H10
  else
   Option.bind (zdq L m H x5_0 x5_1 x5_2 x5_3 x5_4 x5_5 x5_6 x5_7 x5_8 x5_9 x5_10 x5_11) fun (x11,H12) =>
   Option.bind (strcat (⟨#[40]⟩:ByteArray) x11) fun s13 =>
   Option.bind (zq L m H12 a1 s13) fun (_,_,H16) =>
   Option.bind (L.run (z4q L rec_term_Table_write m a1 q2 x5_0 x5_1 x5_2 x5_3 x5_4 x5_5 x5_6 x5_7 x5_8 x5_9 x5_10 x5_11) (H16,0)) fun o=>match o with
   | .inl (H25,_) =>
    Option.bind (zu L m H25 a1 41) fun (_,H28) =>
    some H28
   | .inr r=>some r
noncomputable def z8t (L:LC) (n:Nat):(Nat→AH→(Option Addr)→(Option Addr)→Int→Option AH):=Nat.rec (motive:=fun _=>(Nat→AH→(Option Addr)→(Option Addr)→Int→Option AH)) (fun _ _ _ _ _=>none) (fun _ p=>z3o L p) n
noncomputable def zcj (L:LC) (m:Nat) (H:AH) (a0 a1:Option Addr) (a2:Int):Option AH:=(z8t L L.fuel) m H a0 a1 a2
theorem z78 {E H L rec_term_Table_write m a1 q2 x5_0 x5_1 x5_2 x5_3 x5_4 x5_5 x5_6 x5_7 x5_8 x5_9 x5_10 x5_11} (hrec_term_Table_write:∀(m:Nat) (H:AH) (a0 a1:Option Addr) (a2:Int) (r:AH),rec_term_Table_write m H a0 a1 a2=some r→CallS Tryz.prog (NE.plain 202) m 64 #[(Value.pointer a0),(Value.pointer a1),(Value.int .i64 a2)] H (zy r) (z18 H r)):LoopF Tryz.prog (NE.plain 202) m E Tryz.f64 ((cfst (csnd (cfst (csnd (csnd (csnd (csnd B64)))))))) (zdu L rec_term_Table_write m a1 q2 x5_0 x5_1 x5_2 x5_3 x5_4 x5_5 x5_6 x5_7 x5_8 x5_9 x5_10 x5_11) (fun s=>s.1) 0 zy (z18 H) (z4q L rec_term_Table_write m a1 q2 x5_0 x5_1 x5_2 x5_3 x5_4 x5_5 x5_6 x5_7 x5_8 x5_9 x5_10 x5_11):=by
 rintro ⟨H17,v36_18⟩ o h
 unfold z4q at h
 try dsimp only at h
 refine WS.sq (WS.rg (RS.mS 1 [kB 37 (decide (v36_18<(x5_11.n:Int)))] (RS.dn (WS.nxt (WS.sq ?_)))))
 rcases z0 h with ⟨hp,h⟩ | ⟨hp,h⟩
 ·refine WS.fx 37 true (decide_eq_true hp) (WS.cT (WS.sk (WS.nxt (WS.sq (WS.bk 1 (WS.sq (WS.rg ?_)))))))
  obtain ⟨p19,hx,h⟩:=bind_some h
  refine RS.ix 38 37 3 (.tmp 34) (.tmp 36) hx ?_
  obtain ⟨x20,hx,h⟩:=bind_some h
  refine RS.ld 39 3 (.tmp 38) (z1 hx z8) (RS.mS 1 [kI 8 x20] (RS.dn (WS.nxt (WS.sq (WS.sq (WS.rg (RS.mS 1 [(40,.val (Value.pointer a1))] ?_)))))))
  obtain ⟨x21,hx,h⟩:=bind_some h
  refine RS.cl (some 41) (v:=(Value.int .i64 x21)) 65 #[(Value.pointer a1)] (z3c hx) (RS.mS 1 [kB 42 (decide (x21 > 1048576))] (RS.dn (WS.nxt ?_)))
  rcases z0 h with ⟨hp,h⟩ | ⟨hp,h⟩
  ·refine WS.fx 42 true (decide_eq_true hp) (WS.cT ?_)
   cases h
  ·refine WS.fx 42 false (decide_eq_false hp) (WS.cF (WS.sk (WS.nxt (WS.sq (WS.rg (RS.mS 1 [(43,.val (Value.pointer a1))] ?_))))))
   obtain ⟨⟨x22,H23⟩,hx,h⟩:=bind_some h
   try dsimp only at h
   refine RS.cl (some 44) (v:=x22) 111 #[(Value.pointer a1),(Value.int .u8 32)] (z1u hx) (RS.dn (WS.nxt (WS.rg (RS.mS 3 [kI 47 x20,(46,.val (Value.pointer a1)),kP 45 q2] ?_))))
   obtain ⟨H24,hx,h⟩:=bind_some h
   refine RS.cl (some 48) (v:=(Value.tuple #[])) 64 #[(Value.pointer (some q2)),(Value.pointer a1),(Value.int .i64 x20)] (hrec_term_Table_write _ _ _ _ _ _ hx) (RS.dn ?_)
   refine fun a w hs=>bkN ((WS.nxt ?_ a w hs))
   refine WS.rg (RS.mS 2 [kI 36 (IntKind.i64.wrap (v36_18+1)),kI 49 (IntKind.i64.wrap (v36_18+1))] (RS.dn ?_))
   cases h
   exact fun a w hs=>lsN rfl (hs.sb 1)
 ·refine WS.fx 37 false (decide_eq_false hp) (WS.cF (WS.ex 0 ?_))
  cases h
  exact fun a w hs=>sqE (lsB rfl (hs.sb 1))
theorem zc5 {L:LC} {rec_term_Table_write:Nat→AH→(Option Addr)→(Option Addr)→Int→Option AH} (hrec_term_Table_write:∀(m:Nat) (H:AH) (a0 a1:Option Addr) (a2:Int) (r:AH),rec_term_Table_write m H a0 a1 a2=some r→CallS Tryz.prog (NE.plain 202) m 64 #[(Value.pointer a0),(Value.pointer a1),(Value.int .i64 a2)] H (zy r) (z18 H r)) {m:Nat} {H:AH} {a0 a1:Option Addr} {a2:Int} {r:AH} (h:z3o L rec_term_Table_write m H a0 a1 a2=some r) :
  CallS Tryz.prog (NE.plain 202) m 64 #[(Value.pointer a0),(Value.pointer a1),(Value.int .i64 a2)] H (zy r) (z18 H r):=by
 refine CallS.mk (args:=[(Value.pointer a0),(Value.pointer a1),(Value.int .i64 a2)]) Tryz.func64 (B:=B64) (by kernel_rfl) (fun E _=>?_)
 unfold z3o at h
 refine WS.sq (WS.sq (WS.rg (RS.mS 1 [(9,.val (Value.pointer a1))] ?_)))
 obtain ⟨x1,hx,h⟩:=bind_some h
 refine RS.cl (some 10) (v:=(Value.int .i64 x1)) 65 #[(Value.pointer a1)] (z3c hx) (RS.mS 1 [kB 11 (decide (x1 > 1048576))] (RS.dn (WS.nxt ?_)))
 rcases z0 h with ⟨hp,h⟩ | ⟨hp,h⟩
 ·refine WS.fx 11 true (decide_eq_true hp) (WS.cT ?_)
  cases h
 ·refine WS.fx 11 false (decide_eq_false hp) (WS.cF (WS.sk (WS.nxt (WS.sq (WS.rg (RS.mS 1 [(12,.val (Value.pointer a0))] ?_))))))
  obtain ⟨q2,hx,hq2⟩:=bind_some h
  subst hx
  have h:=hq2
  refine RS.mS 2 [(14,.val (Value.pointer (some (Addr.add q2 3)))),kP 13 q2] ?_
  obtain ⟨x3,hx,h⟩:=bind_some h
  refine RS.ld 15 28 (.tmp 14) (z1 hx z6) (RS.mS 1 [kI 16 a2] ?_)
  obtain ⟨p4,hx,h⟩:=bind_some h
  refine RS.ix 17 28 99 (.tmp 15) (.tmp 16) hx (RS.mS 1 [(18,.val (Value.pointer (some (Addr.add p4 0))))] ?_)
  obtain ⟨x5_0,hx0,h⟩:=bind_some h
  obtain ⟨x5_1,hx1,h⟩:=bind_some h
  obtain ⟨x5_2,hx2,h⟩:=bind_some h
  obtain ⟨x5_3,hx3,h⟩:=bind_some h
  obtain ⟨x5_4,hx4,h⟩:=bind_some h
  obtain ⟨x5_5,hx5,h⟩:=bind_some h
  obtain ⟨x5_6,hx6,h⟩:=bind_some h
  obtain ⟨x5_7,hx7,h⟩:=bind_some h
  obtain ⟨x5_8,hx8,h⟩:=bind_some h
  obtain ⟨x5_9,hx9,h⟩:=bind_some h
  obtain ⟨x5_10,hx10,h⟩:=bind_some h
  obtain ⟨x5_11,hx11,h⟩:=bind_some h
  refine RS.la 19 70 (.tmp 18) 12 (z3 (z1 hx0 z8) (z3 (z1 hx1 zl) (z3 (z1 hx2 zbu) (z3 (z1 hx3 z6) (z3 (z1 hx4 z8) (z3 (z1 hx5 z6) (z3 (z1 hx6 z8) (z3 (z1 hx7 z8) (z3 (z1 hx8 zl) (z3 (z1 hx9 z6) (z3 (z1 hx10 z6) (z3 (z1 hx11 z6) z30)))))))))))) (RS.mL 2 [kL 6 0 0] ([some (70,[(Value.int .i64 x5_0),(Value.string x5_1),(Value.bool x5_2),(Sl3.v x5_3),(Value.int .i64 x5_4),(Sl3.v x5_5),(Value.int .i64 x5_6),(Value.int .i64 x5_7),(Value.string x5_8),(Sl3.v x5_9),(Sl3.v x5_10),(Sl3.v x5_11)])]) (RS.dn (WS.nxt (WS.sq (WS.sq (WS.rg (RS.mS 4 [kB 23 (decide ((x5_11.n:Int)=0)),kI 22 (x5_11.n:Int),kS 21 x5_11,kL 20 0 11] (RS.dn (WS.nxt ?_)))))))))
  rcases z0 h with ⟨hp,h⟩ | ⟨hp,h⟩
  ·refine WS.fx 23 true (decide_eq_true hp) (WS.cT (WS.sq (WS.rg (RS.mS 2 [kA 25 #[(Value.int .i64 x5_0),(Value.string x5_1),(Value.bool x5_2),(Sl3.v x5_3),(Value.int .i64 x5_4),(Sl3.v x5_5),(Value.int .i64 x5_6),(Value.int .i64 x5_7),(Value.string x5_8),(Sl3.v x5_9),(Sl3.v x5_10),(Sl3.v x5_11)],(24,.val (Value.pointer a1))] ?_))))
   obtain ⟨⟨x6,H7⟩,hx,h⟩:=bind_some h
   try dsimp only at h
   refine RS.cl (some 26) (v:=(Value.string x6)) 115 #[(Value.agg #[(Value.int .i64 x5_0),(Value.string x5_1),(Value.bool x5_2),(Sl3.v x5_3),(Value.int .i64 x5_4),(Sl3.v x5_5),(Value.int .i64 x5_6),(Value.int .i64 x5_7),(Value.string x5_8),(Sl3.v x5_9),(Sl3.v x5_10),(Sl3.v x5_11)])] (zi2 hx) ?_
   obtain ⟨⟨x8,x9,H10⟩,hx,h⟩:=bind_some h
   try dsimp only at h
   refine RS.cl (some 27) (v:=(Value.tuple #[(Value.int .i64 x8),x9])) 109 #[(Value.pointer a1),(Value.string x6)] (z1f hx) (RS.dn (WS.nxt (WS.rt ?_)))
   cases h
   exact fun a w hs=>sqR (rtR (rS hs))
  ·refine WS.fx 23 false (decide_eq_false hp) (WS.cF (WS.sk (WS.nxt (WS.sq (WS.rg (RS.mS 2 [kA 29 #[(Value.int .i64 x5_0),(Value.string x5_1),(Value.bool x5_2),(Sl3.v x5_3),(Value.int .i64 x5_4),(Sl3.v x5_5),(Value.int .i64 x5_6),(Value.int .i64 x5_7),(Value.string x5_8),(Sl3.v x5_9),(Sl3.v x5_10),(Sl3.v x5_11)],(28,.val (Value.pointer a1))] ?_))))))
   obtain ⟨⟨x11,H12⟩,hx,h⟩:=bind_some h
   try dsimp only at h
   refine RS.cl (some 30) (v:=(Value.string x11)) 115 #[(Value.agg #[(Value.int .i64 x5_0),(Value.string x5_1),(Value.bool x5_2),(Sl3.v x5_3),(Value.int .i64 x5_4),(Sl3.v x5_5),(Value.int .i64 x5_6),(Value.int .i64 x5_7),(Value.string x5_8),(Sl3.v x5_9),(Sl3.v x5_10),(Sl3.v x5_11)])] (zi2 hx) ?_
   obtain ⟨s13,hx,h⟩:=bind_some h
   refine RS.o (H':=H12) (some 31) (Value.string s13) (Abs.run_strcat (t:=9) (u:=9) (x:=.const (Value.string (⟨#[40]⟩:ByteArray))) (y:=.tmp 30) (a:=(⟨#[40]⟩:ByteArray)) (b:=x11) (by kernel_rfl) (by kernel_rfl) (by kernel_rfl) hx) ?_
   obtain ⟨⟨x14,x15,H16⟩,hx,h⟩:=bind_some h
   try dsimp only at h
   refine RS.cl (some 32) (v:=(Value.tuple #[(Value.int .i64 x14),x15])) 109 #[(Value.pointer a1),(Value.string s13)] (z1f hx) (RS.dn (WS.nxt (WS.sq (WS.sq (WS.rg (RS.mS 4 [kI 36 0,kI 35 (x5_11.n:Int),kS 34 x5_11,kL 33 0 11] (RS.dn (WS.nxt (WS.bk 0 ?_)))))))))
   obtain ⟨o,hl,h⟩:=bind_some h
   rcases o with ⟨H25,v36_26⟩ | r
   ·try dsimp only at h
    refine WS.lI (z78 (L:=L) (E:=E) (m:=m) (H:=H) hrec_term_Table_write) (L.ok hl) 1 ?_
    clear hl
    refine fun a w hs=>bkE ((WS.nxt ?_ a w hs))
    refine WS.rg (RS.mS 1 [(50,.val (Value.pointer a1))] ?_)
    obtain ⟨⟨x27,H28⟩,hx,h⟩:=bind_some h
    try dsimp only at h
    refine RS.cl (some 51) (v:=x27) 111 #[(Value.pointer a1),(Value.int .u8 41)] (z1u hx) (RS.dn ?_)
    cases h
    exact fun a w hs=>rtN (rS hs)
   ·try dsimp only at h
    refine WS.lR (z78 (L:=L) (E:=E) (m:=m) (H:=H) hrec_term_Table_write) (L.ok hl) 1 ?_
    cases h
    exact fun a w hq=>bkR (sqR (rtR hq))
theorem zd7 {L:LC}:∀n,(∀(m:Nat) (H:AH) (a0 a1:Option Addr) (a2:Int) (r:AH),((z8t L n)) m H a0 a1 a2=some r→CallS Tryz.prog (NE.plain 202) m 64 #[(Value.pointer a0),(Value.pointer a1),(Value.int .i64 a2)] H (zy r) (z18 H r)):=by
 intro n
 induction n with
 | zero=>exact (fun _ _ _ _ _ _ h=>(Option.some_ne_none _ h.symm).elim)
 | succ n ih=>exact (fun _ _ _ _ _ _ h=>zc5 (L:=L) ih h)
theorem zh2 {L:LC} {m:Nat} {H:AH} {a0 a1:Option Addr} {a2:Int} {r:AH} (h:zcj L m H a0 a1 a2=some r) :
  CallS Tryz.prog (NE.plain 202) m 64 #[(Value.pointer a0),(Value.pointer a1),(Value.int .i64 a2)] H (zy r) (z18 H r) :=
 (zd7 _) _ _ _ _ _ _ h
noncomputable def B66:Code:=(Tryz.f66.body).getD .skip
def zas:(ByteArray×AH)→Value
 | (r0,_)=>(Value.string r0)
def zbt (_:AH):(ByteArray×AH)→AH:=fun r=>r.2
noncomputable def z1x (_L:LC) (m:Nat) (H:AH) (a0:Option Addr):Option (ByteArray×AH) :=
 Option.bind a0 fun q1 =>
 Option.bind (rd deSl H (Addr.add q1 1)) fun x2 =>
 Option.bind (rd deSl H (Addr.add q1 1)) fun x3 =>
 Option.bind (gOp1 Tryz.prog (opsOf (cfst (csnd B66))) 4 [(6,.val (Sl3.v x2))] deP H) fun x4 =>
 Option.bind (gOp Tryz.prog m (opsOf (cfst (csnd B66))) 10 [(7,.val (Value.pointer x4)),(12,.val (Value.int .i64 (x3.n:Int)))] deS H) fun (x5,H6) =>
 some (x5,H6)
theorem z2f {L:LC} {m:Nat} {H:AH} {a0:Option Addr} {r:(ByteArray×AH)} (h:z1x L m H a0=some r) :
  CallS Tryz.prog (NE.plain 202) m 66 #[(Value.pointer a0)] H (zas r) (zbt H r):=by
 refine CallS.mk (args:=[(Value.pointer a0)]) Tryz.func66 (B:=B66) (by kernel_rfl) (fun E _=>?_)
 unfold z1x at h
 refine WS.sq (WS.rg (RS.mS 1 [kT 2 (⟨#[]⟩:ByteArray)] (RS.dn (WS.nxt (WS.sq ?_)))))
 refine WS.dr [0,1,2,3,5,6,7,8] [0,1,3,7,15,0,32,96,224,480,1023,2047] 12 (fun hcl=>?_)
 refine DA.tK 0 (some 3) (Value.pointer a0) ?_
 obtain ⟨q1,hx,hq1⟩:=bind_some h
 subst hx
 have h:=hq1
 refine DA.tK 1 (some 4) (Value.pointer (some q1)) (DA.tK 2 (some 5) (Value.pointer (some (Addr.add q1 1))) ?_)
 obtain ⟨x2,hx,h⟩:=bind_some h
 refine DA.tD 3 (some 6) (Sl3.v x2) (Abs.det_load (t:=119) (x:=.tmp 5) (a:=(Addr.add q1 1)) (by kernel_rfl) (by kernel_rfl) (by kernel_rfl) (by kernel_rfl) (z1 hx z6)) (DA.tK 5 (some 8) (Value.pointer (some q1)) (DA.tK 6 (some 9) (Value.pointer (some q1)) (DA.tK 7 (some 10) (Value.pointer (some (Addr.add q1 1))) ?_)))
 obtain ⟨x3,hx,h⟩:=bind_some h
 refine DA.tD 8 (some 11) (Sl3.v x3) (Abs.det_load (t:=119) (x:=.tmp 10) (a:=(Addr.add q1 1)) (by kernel_rfl) (by kernel_rfl) (by kernel_rfl) (by kernel_rfl) (z1 hx z6)) (DA.restart [0,1,2,3,5,6,7,8,9] (by kernel_rfl) (DA.tK 9 (some 12) (Value.int .i64 (x3.n:Int)) ?_))
 obtain ⟨x4,hx,h⟩:=bind_some h
 refine DA.on 4 (DA.aHj (H':=H) 4 (some 7) false (Value.pointer x4) (zn1 hx z31 (by kernel_rfl) (by kernel_rfl)) ?_)
 obtain ⟨⟨x5,H6⟩,hx,h⟩:=bind_some h
 try dsimp only at h
 refine DA.on 10 (DA.aH (H':=H6) 10 (some 13) (Value.string x5) (zes hx zl (by kernel_rfl)) (DA.tP 11 (some 2) (Value.string x5) (DA.dn (WS.nxt (WS.rt ?_)))))
 cases h
 exact fun a w hs=>rtR (rS hs)
noncomputable def B30:Code:=(Tryz.f30.body).getD .skip
def zhc:(ByteArray×Int×AH)→Value
 | (r0,r1,_)=>(Value.tuple #[(Value.string r0),(Value.int .i64 r1)])
def zif (_:AH):(ByteArray×Int×AH)→AH:=fun r=>r.2.2
noncomputable def z5g (L:LC) (m:Nat) (H:AH) (a0:Option Addr) (a1:Int):Option (ByteArray×Int×AH) :=
 Option.bind (z27 L H a0) fun x1 =>
 if x1=true then
  Option.bind (α:=Bool) (
   if a1<0 then
    some true
   else
    Option.bind a0 fun q3 =>
    Option.bind (rd deSl H (Addr.add q3 3)) fun x4 =>
    some (decide (a1≥(x4.n:Int)))) fun v20_2 =>
  if v20_2=true then
   some ((⟨#[]⟩:ByteArray),1,H)
  else
   Option.bind (newB 121 [(Value.pointer none),(Sl3.v Sl3.nil)] H) fun (p5,H6) =>
   Option.bind (zcj L m H6 a0 (some p5) a1) fun H7 =>
   Option.bind (z1m L H7 (some p5)) fun x8 =>
   if x8 > 1048576 then
    none
   else
    Option.bind (z1x L m H7 (some p5)) fun (x9,H10) =>
    some (x9,0,H10)
 else
  some ((⟨#[]⟩:ByteArray),4,H)
theorem za6 {L:LC} {m:Nat} {H:AH} {a0:Option Addr} {a1:Int} {r:(ByteArray×Int×AH)} (h:z5g L m H a0 a1=some r) :
  CallS Tryz.prog (NE.plain 202) m 30 #[(Value.pointer a0),(Value.int .i64 a1)] H (zhc r) (zif H r):=by
 refine CallS.mk (args:=[(Value.pointer a0),(Value.int .i64 a1)]) Tryz.func30 (B:=B30) (by kernel_rfl) (fun E _=>?_)
 unfold z5g at h
 refine WS.sq (WS.rg (RS.mS 2 [kI 5 0,kT 4 (⟨#[]⟩:ByteArray)] (RS.dn (WS.nxt (WS.sq (WS.sq (WS.rg (RS.mS 1 [(7,.val (Value.pointer a0))] ?_))))))))
 obtain ⟨x1,hx,h⟩:=bind_some h
 refine RS.cl (some 8) (v:=(Value.bool x1)) 45 #[(Value.pointer a0)] (z34 hx) (RS.mS 1 [kB 9 (!x1)] (RS.dn (WS.nxt ?_)))
 rcases z0 h with ⟨hp,h⟩ | ⟨hp,h⟩
 ·refine WS.fx 9 false (nb_not hp) (WS.cF (WS.sk (WS.nxt (WS.sq ?_))))
  obtain ⟨v20_2,hx,h⟩:=bind_some h
  refine WS.sq ?_
  refine WS.join ([kB 20 v20_2,(0,.val (Value.pointer a0)),kI 1 a1]) ([]) H ?_ (fun a w hs=>WS.nxt ?_ a w hs)
  ·clear h; rename _=>h
   refine WS.rg (RS.mS 3 [kB 12 (decide (a1<0)),kB 11 (decide (a1<0)),kI 10 a1] ?_)
   rcases z0 h with ⟨hp,h⟩ | ⟨hp,h⟩
   ·refine RS.fx 12 true (decide_eq_true hp) (RS.mS 8 [kB 20 true,kU 19,kU 18,kU 17,kU 16,kU 15,kU 14,kU 13] (RS.dn ?_))
    cases h
    exact fun a w hs=>(jsN (hs.sb 0))
   ·refine RS.fx 12 false (decide_eq_false hp) (RS.mS 2 [(14,.val (Value.pointer a0)),kI 13 a1] ?_)
    obtain ⟨q3,hx,hq3⟩:=bind_some h
    subst hx
    have h:=hq3
    refine RS.mS 2 [(16,.val (Value.pointer (some (Addr.add q3 3)))),kP 15 q3] ?_
    obtain ⟨x4,hx,h⟩:=bind_some h
    refine RS.ld 17 28 (.tmp 16) (z1 hx z6) (RS.mS 3 [kB 20 (decide (a1≥(x4.n:Int))),kB 19 (decide (a1≥(x4.n:Int))),kI 18 (x4.n:Int)] (RS.dn ?_))
    cases h
    exact fun a w hs=>(jsN (hs.sb 0))
  ·clear hx
   rcases z0 h with ⟨hp,h⟩ | ⟨hp,h⟩
   ·refine WS.fx 20 true hp (WS.cT (WS.sq (WS.rg (RS.mS 2 [kI 5 1,kT 4 (⟨#[]⟩:ByteArray)] (RS.dn (WS.nxt (WS.rt ?_)))))))
    cases h
    exact fun a w hs=>sqR (rtR (rS hs))
   ·refine WS.fx 20 false (b_not hp) (WS.cF (WS.sk (WS.nxt (WS.sq (WS.rg ?_)))))
    obtain ⟨⟨p5,H6⟩,hx,h⟩:=bind_some h
    try dsimp only at h
    refine RS.o (H':=H6) (some 6) (Value.pointer (some p5)) (Abs.run_newB (by kernel_rfl) hx) (RS.dn (WS.nxt (WS.sq (WS.rg (RS.mS 2 [kI 22 a1,(21,.val (Value.pointer a0))] ?_)))))
    obtain ⟨H7,hx,h⟩:=bind_some h
    refine RS.cl (some 23) (v:=(Value.tuple #[])) 64 #[(Value.pointer a0),(Value.pointer (some p5)),(Value.int .i64 a1)] (zh2 hx) (RS.dn (WS.nxt (WS.sq (WS.sq (WS.rg ?_)))))
    obtain ⟨x8,hx,h⟩:=bind_some h
    refine RS.cl (some 24) (v:=(Value.int .i64 x8)) 65 #[(Value.pointer (some p5))] (z3c hx) (RS.mS 1 [kB 25 (decide (x8 > 1048576))] (RS.dn (WS.nxt ?_)))
    rcases z0 h with ⟨hp,h⟩ | ⟨hp,h⟩
    ·refine WS.fx 25 true (decide_eq_true hp) (WS.cT ?_)
     cases h
    ·refine WS.fx 25 false (decide_eq_false hp) (WS.cF (WS.sk (WS.nxt (WS.sq (WS.rg ?_)))))
     obtain ⟨⟨x9,H10⟩,hx,h⟩:=bind_some h
     try dsimp only at h
     refine RS.cl (some 26) (v:=(Value.string x9)) 66 #[(Value.pointer (some p5))] (z2f hx) (RS.mS 2 [kI 5 0,kT 4 x9] (RS.dn (WS.nxt (WS.rt ?_))))
     cases h
     exact fun a w hs=>rtR (rS hs)
 ·refine WS.fx 9 true (z19 hp) (WS.cT (WS.sq (WS.rg (RS.mS 2 [kI 5 4,kT 4 (⟨#[]⟩:ByteArray)] (RS.dn (WS.nxt (WS.rt ?_)))))))
  cases h
  exact fun a w hs=>sqR (rtR (rS hs))
noncomputable def B107:Code:=(Tryz.f107.body).getD .skip
def zm5:(Int×Int×Int×Bool)→Value
 | (r0,r1,r2,r3)=>(Value.tuple #[(Value.int .i64 r0),(Value.int .i64 r1),(Value.int .i64 r2),(Value.bool r3)])
def znh (H:AH):(Int×Int×Int×Bool)→AH:=fun _=>H
noncomputable def zdi (_L:LC) (a0:Int):Option (Int×Int×Int×Bool) :=
 Option.bind (α:=Bool) (
  if a0=1 then
   some true
  else
   if a0=2 then
    none
   else
    if a0=20 then
     none
    else
     some (decide (a0=40))) fun v8_1 =>
 if v8_1=true then
  some (0,0,0,true)
 else
  if a0=3 then
   none
  else
   if a0=21 then
    none
   else
    if a0=27 then
     none
    else
     if a0=34 then
      none
     else
      if a0=43 then
       none
      else
       if a0=44 then
        none
       else
        Option.bind (α:=Bool) (
         if a0=4 then
          some true
         else
          if a0=5 then
           none
          else
           if a0=9 then
            none
           else
            some (decide (a0=22))) fun v20_2 =>
        if v20_2=true then
         some (2,64,0,true)
        else
         if a0=10 then
          none
         else
          if a0=33 then
           none
          else
           if a0=11 then
            some (0,64,0,true)
           else
            none
theorem zhz {L:LC} {m:Nat} {H:AH} {a0:Int} {r:(Int×Int×Int×Bool)} (h:zdi L a0=some r) :
  CallS Tryz.prog (NE.plain 202) m 107 #[(Value.int .i64 a0)] H (zm5 r) (znh H r):=by
 refine CallS.mk (args:=[(Value.int .i64 a0)]) Tryz.func107 (B:=B107) (by kernel_rfl) (fun E _=>?_)
 unfold zdi at h
 refine WS.sq (WS.rg (RS.mS 4 [kB 5 false,kI 4 0,kI 3 0,kI 2 0] (RS.dn (WS.nxt (WS.sq (WS.sq (WS.rg (RS.mS 1 [kI 7 a0] (RS.dn ?_)))))))))
 refine WS.nxt (WS.bk 0 ?_)
 obtain ⟨v8_1,hx,h⟩:=bind_some h
 refine WS.sq ?_
 refine WS.join ([kB 8 v8_1,kI 0 a0,kI 7 a0]) ([]) H ?_ (fun a w hs=>WS.nxt ?_ a w hs)
 ·clear h; rename _=>h
  refine WS.sq (WS.rg (RS.mS 2 [kB 8 (decide (a0=1)),kB 9 (decide (a0=1))] (RS.dn (WS.nxt ?_))))
  rcases z0 h with ⟨hp,h⟩ | ⟨hp,h⟩
  ·refine WS.fx 8 true (decide_eq_true hp) (WS.cT (WS.sk ?_))
   cases h
   exact fun a w hs=>(jsN (hs.sb 0))
  ·refine WS.fx 8 false (decide_eq_false hp) (WS.cF (WS.sq (WS.rg (RS.mS 2 [kB 8 (decide (a0=2)),kB 10 (decide (a0=2))] (RS.dn (WS.nxt ?_))))))
   rcases z0 h with ⟨hp,h⟩ | ⟨hp,h⟩
   ·refine WS.fx 8 true (decide_eq_true hp) (WS.cT ?_)
    cases h
   ·refine WS.fx 8 false (decide_eq_false hp) (WS.cF (WS.sq (WS.rg (RS.mS 2 [kB 8 (decide (a0=20)),kB 11 (decide (a0=20))] (RS.dn (WS.nxt ?_))))))
    rcases z0 h with ⟨hp,h⟩ | ⟨hp,h⟩
    ·refine WS.fx 8 true (decide_eq_true hp) (WS.cT ?_)
     cases h
    ·refine WS.fx 8 false (decide_eq_false hp) (WS.cF (WS.rg (RS.mS 2 [kB 8 (decide (a0=40)),kB 12 (decide (a0=40))] (RS.dn ?_))))
     cases h
     exact fun a w hs=>(jsN (hs.sb 0))
 ·clear hx
  rcases z0 h with ⟨hp,h⟩ | ⟨hp,h⟩
  ·refine WS.fx 8 true hp (WS.cT (WS.sq (WS.rg (RS.mS 4 [kB 5 true,kI 4 0,kI 3 0,kI 2 0] (RS.dn (WS.nxt (WS.rt ?_)))))))
   cases h
   exact fun a w hs=>bkR (sqR (rtR (rS hs)))
  ·refine WS.fx 8 false (b_not hp) (WS.cF (WS.sq (WS.sq (WS.rg (RS.mS 2 [kB 13 (decide (a0=3)),kB 14 (decide (a0=3))] (RS.dn (WS.nxt ?_)))))))
   rcases z0 h with ⟨hp,h⟩ | ⟨hp,h⟩
   ·refine WS.fx 13 true (decide_eq_true hp) (WS.cT ?_)
    cases h
   ·refine WS.fx 13 false (decide_eq_false hp) (WS.cF (WS.sq (WS.rg (RS.mS 2 [kB 13 (decide (a0=21)),kB 15 (decide (a0=21))] (RS.dn (WS.nxt ?_))))))
    rcases z0 h with ⟨hp,h⟩ | ⟨hp,h⟩
    ·refine WS.fx 13 true (decide_eq_true hp) (WS.cT ?_)
     cases h
    ·refine WS.fx 13 false (decide_eq_false hp) (WS.cF (WS.sq (WS.rg (RS.mS 2 [kB 13 (decide (a0=27)),kB 16 (decide (a0=27))] (RS.dn (WS.nxt ?_))))))
     rcases z0 h with ⟨hp,h⟩ | ⟨hp,h⟩
     ·refine WS.fx 13 true (decide_eq_true hp) (WS.cT ?_)
      cases h
     ·refine WS.fx 13 false (decide_eq_false hp) (WS.cF (WS.sq (WS.rg (RS.mS 2 [kB 13 (decide (a0=34)),kB 17 (decide (a0=34))] (RS.dn (WS.nxt ?_))))))
      rcases z0 h with ⟨hp,h⟩ | ⟨hp,h⟩
      ·refine WS.fx 13 true (decide_eq_true hp) (WS.cT ?_)
       cases h
      ·refine WS.fx 13 false (decide_eq_false hp) (WS.cF (WS.sq (WS.rg (RS.mS 2 [kB 13 (decide (a0=43)),kB 18 (decide (a0=43))] (RS.dn (WS.nxt ?_))))))
       rcases z0 h with ⟨hp,h⟩ | ⟨hp,h⟩
       ·refine WS.fx 13 true (decide_eq_true hp) (WS.cT ?_)
        cases h
       ·refine WS.fx 13 false (decide_eq_false hp) (WS.cF (WS.rg (RS.mS 2 [kB 13 (decide (a0=44)),kB 19 (decide (a0=44))] (RS.dn (WS.nxt ?_)))))
        rcases z0 h with ⟨hp,h⟩ | ⟨hp,h⟩
        ·refine WS.fx 13 true (decide_eq_true hp) (WS.cT ?_)
         cases h
        ·refine WS.fx 13 false (decide_eq_false hp) (WS.cF ?_)
         obtain ⟨v20_2,hx,h⟩:=bind_some h
         refine WS.sq ?_
         refine WS.join ([kB 20 v20_2,kI 0 a0,kI 7 a0]) ([]) H ?_ (fun a w hs=>WS.nxt ?_ a w hs)
         ·clear h; rename _=>h
          refine WS.sq (WS.rg (RS.mS 2 [kB 20 (decide (a0=4)),kB 21 (decide (a0=4))] (RS.dn (WS.nxt ?_))))
          rcases z0 h with ⟨hp,h⟩ | ⟨hp,h⟩
          ·refine WS.fx 20 true (decide_eq_true hp) (WS.cT (WS.sk ?_))
           cases h
           exact fun a w hs=>(jsN (hs.sb 0))
          ·refine WS.fx 20 false (decide_eq_false hp) (WS.cF (WS.sq (WS.rg (RS.mS 2 [kB 20 (decide (a0=5)),kB 22 (decide (a0=5))] (RS.dn (WS.nxt ?_))))))
           rcases z0 h with ⟨hp,h⟩ | ⟨hp,h⟩
           ·refine WS.fx 20 true (decide_eq_true hp) (WS.cT ?_)
            cases h
           ·refine WS.fx 20 false (decide_eq_false hp) (WS.cF (WS.sq (WS.rg (RS.mS 2 [kB 20 (decide (a0=9)),kB 23 (decide (a0=9))] (RS.dn (WS.nxt ?_))))))
            rcases z0 h with ⟨hp,h⟩ | ⟨hp,h⟩
            ·refine WS.fx 20 true (decide_eq_true hp) (WS.cT ?_)
             cases h
            ·refine WS.fx 20 false (decide_eq_false hp) (WS.cF (WS.rg (RS.mS 2 [kB 20 (decide (a0=22)),kB 24 (decide (a0=22))] (RS.dn ?_))))
             cases h
             exact fun a w hs=>(jsN (hs.sb 0))
         ·clear hx
          rcases z0 h with ⟨hp,h⟩ | ⟨hp,h⟩
          ·refine WS.fx 20 true hp (WS.cT (WS.sq (WS.rg (RS.mS 4 [kB 5 true,kI 4 0,kI 3 64,kI 2 2] (RS.dn (WS.nxt (WS.rt ?_)))))))
           cases h
           exact fun a w hs=>bkR (sqR (rtR (rS hs)))
          ·refine WS.fx 20 false (b_not hp) (WS.cF (WS.sq (WS.sq (WS.rg (RS.mS 2 [kB 25 (decide (a0=10)),kB 26 (decide (a0=10))] (RS.dn (WS.nxt ?_)))))))
           rcases z0 h with ⟨hp,h⟩ | ⟨hp,h⟩
           ·refine WS.fx 25 true (decide_eq_true hp) (WS.cT ?_)
            cases h
           ·refine WS.fx 25 false (decide_eq_false hp) (WS.cF (WS.rg (RS.mS 2 [kB 25 (decide (a0=33)),kB 27 (decide (a0=33))] (RS.dn (WS.nxt ?_)))))
            rcases z0 h with ⟨hp,h⟩ | ⟨hp,h⟩
            ·refine WS.fx 25 true (decide_eq_true hp) (WS.cT ?_)
             cases h
            ·refine WS.fx 25 false (decide_eq_false hp) (WS.cF (WS.sq (WS.sq (WS.rg (RS.mS 2 [kB 28 (decide (a0=11)),kB 29 (decide (a0=11))] (RS.dn (WS.nxt ?_)))))))
             rcases z0 h with ⟨hp,h⟩ | ⟨hp,h⟩
             ·refine WS.fx 28 true (decide_eq_true hp) (WS.cT (WS.sk (WS.nxt (WS.cT (WS.sq (WS.rg (RS.mS 4 [kB 5 true,kI 4 0,kI 3 64,kI 2 0] (RS.dn (WS.nxt ?_)))))))))
              refine WS.rt ?_
              cases h
              exact fun a w hs=>bkR (sqR (rtR (rS hs)))
             ·refine WS.fx 28 false (decide_eq_false hp) (WS.cF ?_)
              cases h
noncomputable def B71:Code:=(Tryz.f71.body).getD .skip
def zgy:(Sl3×AH)→Value
 | (r0,_)=>(Sl3.v r0)
def zho (_:AH):(Sl3×AH)→AH:=fun r=>r.2
noncomputable def z93 (_L:LC) (m:Nat) (H:AH) (a0:Sl3):Option (Sl3×AH) :=
 if (isNilS a0)=true then
  some (Sl3.nil,H)
 else
  Option.bind (newR 3 0 #[] H) fun (s1,H2) =>
  Option.bind (appS m 3 1 8 H2 s1 a0) fun (s3,H4) =>
  some (s3,H4)
theorem z23 {L:LC} {m:Nat} {H:AH} {a0:Sl3} {r:(Sl3×AH)} (h:z93 L m H a0=some r) :
  CallS Tryz.prog (NE.plain 202) m 71 #[(Sl3.v a0)] H (zgy r) (zho H r):=by
 refine CallS.mk (args:=[(Sl3.v a0)]) Tryz.func71 (B:=B71) (by kernel_rfl) (fun E _=>?_)
 unfold z93 at h
 refine WS.sq (WS.rg (RS.mS 1 [kS 2 Sl3.nil] (RS.dn (WS.nxt (WS.sq (WS.sq (WS.rg (RS.mS 1 [kS 3 a0] (RS.o (H':=H) (some 4) (Value.bool (isNilS a0)) (za1 (t:=37) (e:=3) (u:=37) (x:=.tmp 3) (y:=.const (Sl3.v Sl3.nil)) (s:=a0) (by kernel_rfl) (by kernel_rfl) (by kernel_rfl) (by kernel_rfl)) ?_)))))))))
 refine RS.dn (WS.nxt ?_)
 rcases z0 h with ⟨hp,h⟩ | ⟨hp,h⟩
 ·refine WS.fx 4 true hp (WS.cT (WS.sq (WS.rg (RS.mS 1 [kS 2 Sl3.nil] (RS.dn (WS.nxt (WS.rt ?_)))))))
  cases h
  exact fun a w hs=>sqR (rtR (rS hs))
 ·refine WS.fx 4 false (b_not hp) (WS.cF (WS.sk (WS.nxt (WS.sq (WS.rg ?_)))))
  obtain ⟨⟨s1,H2⟩,hx,h⟩:=bind_some h
  try dsimp only at h
  refine RS.o (H':=H2) (some 5) (Sl3.v s1) (Abs.run_newR (by kernel_rfl) (by kernel_rfl) hx) (RS.mS 1 [kS 6 a0] ?_)
  obtain ⟨⟨s3,H4⟩,hx,h⟩:=bind_some h
  try dsimp only at h
  refine RS.o (H':=H4) (some 7) (Sl3.v s3) (Abs.run_app (x:=.tmp 5) (y:=.tmp 6) (ts:=#[37,37]) (s:=s1) (z:=a0) (by kernel_rfl) (by kernel_rfl) (by kernel_rfl) (by kernel_rfl) hx) (RS.mS 1 [kS 2 s3] (RS.dn (WS.nxt (WS.rt ?_))))
  cases h
  exact fun a w hs=>rtR (rS hs)
end Go.Proofs.YtfbinmgldpnjhaaGreatDoor
namespace Go.Proofs.YtfbinmgldpnjhaaGreatDoor
open Go Go.Abs
set_option maxRecDepth 100000
noncomputable def B62:Code:=(Tryz.f62.body).getD .skip
def zl3:(Int×ByteArray×Bool×Sl3×Int×Sl3×Int×Int×ByteArray×Sl3×Sl3×Sl3×AH)→Value
 | (r0,r1,r2,r3,r4,r5,r6,r7,r8,r9,r10,r11,_)=>(Value.agg #[(Value.int .i64 r0),(Value.string r1),(Value.bool r2),(Sl3.v r3),(Value.int .i64 r4),(Sl3.v r5),(Value.int .i64 r6),(Value.int .i64 r7),(Value.string r8),(Sl3.v r9),(Sl3.v r10),(Sl3.v r11)])
def zme (_:AH):(Int×ByteArray×Bool×Sl3×Int×Sl3×Int×Int×ByteArray×Sl3×Sl3×Sl3×AH)→AH:=fun r=>r.2.2.2.2.2.2.2.2.2.2.2.2
noncomputable def zbo (L:LC) (m:Nat) (H:AH) (a0_0:Int) (a0_1:ByteArray) (_a0_2:Bool) (_a0_3:Sl3) (_a0_4:Int) (_a0_5:Sl3) (_a0_6 _a0_7:Int) (_a0_8:ByteArray) (_a0_9 _a0_10 a0_11:Sl3):Option (Int×ByteArray×Bool×Sl3×Int×Sl3×Int×Int×ByteArray×Sl3×Sl3×Sl3×AH) :=
 Option.bind (z93 L (Nat.max m H.next) H a0_11) fun (x1,H2) =>
 Option.bind (α:=(AH×Int×ByteArray×Bool×Sl3×Int×Sl3×Int×Int×ByteArray×Sl3×Sl3×Sl3)) (
  Option.bind (α:=Bool) (
   if a0_0≥11 then
    some (decide (a0_0≤14))
   else
    some false) fun v14_16 =>
  if v14_16=true then
   some (H2,a0_0,a0_1,false,Sl3.nil,0,Sl3.nil,0,0,(⟨#[]⟩:ByteArray),Sl3.nil,Sl3.nil,x1)
  else
   if a0_0=20 then
    none
   else
    if a0_0=40 then
     none
    else
     if a0_0=34 then
      none
     else
      some (H2,a0_0,(⟨#[]⟩:ByteArray),false,Sl3.nil,0,Sl3.nil,0,0,(⟨#[]⟩:ByteArray),Sl3.nil,Sl3.nil,x1)) fun (H3,w2_4,w2_5,w2_6,w2_7,w2_8,w2_9,w2_10,w2_11,w2_12,w2_13,w2_14,w2_15) =>
 Option.bind (zdi L a0_0) fun (_,_,x19,_) =>
 if x19 > 0 then
  none
 else
  some (w2_4,w2_5,w2_6,w2_7,w2_8,w2_9,w2_10,w2_11,w2_12,w2_13,w2_14,w2_15,H3)
theorem zgq {L:LC} {m:Nat} {H:AH} {a0_0:Int} {a0_1:ByteArray} {a0_2:Bool} {a0_3:Sl3} {a0_4:Int} {a0_5:Sl3} {a0_6 a0_7:Int} {a0_8:ByteArray} {a0_9 a0_10 a0_11:Sl3} {r:(Int×ByteArray×Bool×Sl3×Int×Sl3×Int×Int×ByteArray×Sl3×Sl3×Sl3×AH)} (h:zbo L m H a0_0 a0_1 a0_2 a0_3 a0_4 a0_5 a0_6 a0_7 a0_8 a0_9 a0_10 a0_11=some r) :
  CallS Tryz.prog (NE.plain 202) m 62 #[(Value.agg #[(Value.int .i64 a0_0),(Value.string a0_1),(Value.bool a0_2),(Sl3.v a0_3),(Value.int .i64 a0_4),(Sl3.v a0_5),(Value.int .i64 a0_6),(Value.int .i64 a0_7),(Value.string a0_8),(Sl3.v a0_9),(Sl3.v a0_10),(Sl3.v a0_11)])] H (zl3 r) (zme H r):=by
 refine CallS.mk (args:=[(Value.agg #[(Value.int .i64 a0_0),(Value.string a0_1),(Value.bool a0_2),(Sl3.v a0_3),(Value.int .i64 a0_4),(Sl3.v a0_5),(Value.int .i64 a0_6),(Value.int .i64 a0_7),(Value.string a0_8),(Sl3.v a0_9),(Sl3.v a0_10),(Sl3.v a0_11)])]) Tryz.func62 (B:=B62) (by kernel_rfl) (fun E _=>?_)
 unfold zbo at h
 refine WS.sq (WS.rg (RS.mL 2 [kL 2 1 0,kL 1 0 0] ([some (70,[(Value.int .i64 a0_0),(Value.string a0_1),(Value.bool a0_2),(Sl3.v a0_3),(Value.int .i64 a0_4),(Sl3.v a0_5),(Value.int .i64 a0_6),(Value.int .i64 a0_7),(Value.string a0_8),(Sl3.v a0_9),(Sl3.v a0_10),(Sl3.v a0_11)]),some (70,[(Value.int .i64 0),(Value.string (⟨#[]⟩:ByteArray)),(Value.bool false),(Sl3.v Sl3.nil),(Value.int .i64 0),(Sl3.v Sl3.nil),(Value.int .i64 0),(Value.int .i64 0),(Value.string (⟨#[]⟩:ByteArray)),(Sl3.v Sl3.nil),(Sl3.v Sl3.nil),(Sl3.v Sl3.nil)])]) (RS.dn (WS.nxt (WS.sq ?_)))))
 obtain ⟨⟨x1,H2⟩,hx_4,h⟩:=bind_some h
 try dsimp only at h
 refine WS.toone ([kL 1 0 0,kL 2 1 0,kL 3 2 0]) ([some (70,[(Value.int .i64 a0_0),(Value.string a0_1),(Value.bool a0_2),(Sl3.v a0_3),(Value.int .i64 a0_4),(Sl3.v a0_5),(Value.int .i64 a0_6),(Value.int .i64 a0_7),(Value.string a0_8),(Sl3.v a0_9),(Sl3.v a0_10),(Sl3.v a0_11)]),some (70,[(Value.int .i64 0),(Value.string (⟨#[]⟩:ByteArray)),(Value.bool false),(Sl3.v Sl3.nil),(Value.int .i64 0),(Sl3.v Sl3.nil),(Value.int .i64 0),(Value.int .i64 0),(Value.string (⟨#[]⟩:ByteArray)),(Sl3.v Sl3.nil),(Sl3.v Sl3.nil),(Sl3.v Sl3.nil)]),some (70,[(Value.int .i64 a0_0),(Value.string (⟨#[]⟩:ByteArray)),(Value.bool false),(Sl3.v Sl3.nil),(Value.int .i64 0),(Sl3.v Sl3.nil),(Value.int .i64 0),(Value.int .i64 0),(Value.string (⟨#[]⟩:ByteArray)),(Sl3.v Sl3.nil),(Sl3.v Sl3.nil),(Sl3.v x1)])]) H2 ?_ ?_
 ·clear h
  refine WS.dr [2,3] [0,1,0,4,12,31,0,127] 8 (fun hcl=>?_)
  refine DA.tL 2 (some 10) (.loc 0 11) (DA.tL 3 (some 11) (.val (Sl3.v a0_11)) (DA.restart [0,2,3] (by kernel_rfl) (DA.tL 0 (some 8) (.loc 0 0) ?_)))
  refine DA.three 1 4 6 (by kernel_rfl) ?_ ?_ ?_
  ·refine DA.aL 1 (some 9) (.val (Value.int .i64 a0_0)) ([some (70,[(Value.int .i64 a0_0),(Value.string a0_1),(Value.bool a0_2),(Sl3.v a0_3),(Value.int .i64 a0_4),(Sl3.v a0_5),(Value.int .i64 a0_6),(Value.int .i64 a0_7),(Value.string a0_8),(Sl3.v a0_9),(Sl3.v a0_10),(Sl3.v a0_11)]),some (70,[(Value.int .i64 0),(Value.string (⟨#[]⟩:ByteArray)),(Value.bool false),(Sl3.v Sl3.nil),(Value.int .i64 0),(Sl3.v Sl3.nil),(Value.int .i64 0),(Value.int .i64 0),(Value.string (⟨#[]⟩:ByteArray)),(Sl3.v Sl3.nil),(Sl3.v Sl3.nil),(Sl3.v Sl3.nil)])]) true ?_
   refine DA.two 4 6 (by kernel_rfl) ?_ ?_
   ·refine DA.aCj 4 (some 12) true (v:=(Sl3.v x1)) 71 #[(Sl3.v a0_11)] (z23 hx_4) ?_
    refine DA.two 5 6 (by kernel_rfl) ?_ ?_
    ·refine DA.aHj (H':=H2) 5 (some 13) true (Value.agg #[(Value.int .i64 a0_0),(Value.string (⟨#[]⟩:ByteArray)),(Value.bool false),(Sl3.v Sl3.nil),(Value.int .i64 0),(Sl3.v Sl3.nil),(Value.int .i64 0),(Value.int .i64 0),(Value.string (⟨#[]⟩:ByteArray)),(Sl3.v Sl3.nil),(Sl3.v Sl3.nil),(Sl3.v x1)]) (by kernel_rfl) (DA.on 6 (DA.aL 6 (some 3) (.loc 2 0) ([some (70,[(Value.int .i64 a0_0),(Value.string a0_1),(Value.bool a0_2),(Sl3.v a0_3),(Value.int .i64 a0_4),(Sl3.v a0_5),(Value.int .i64 a0_6),(Value.int .i64 a0_7),(Value.string a0_8),(Sl3.v a0_9),(Sl3.v a0_10),(Sl3.v a0_11)]),some (70,[(Value.int .i64 0),(Value.string (⟨#[]⟩:ByteArray)),(Value.bool false),(Sl3.v Sl3.nil),(Value.int .i64 0),(Sl3.v Sl3.nil),(Value.int .i64 0),(Value.int .i64 0),(Value.string (⟨#[]⟩:ByteArray)),(Sl3.v Sl3.nil),(Sl3.v Sl3.nil),(Sl3.v Sl3.nil)]),some (70,[(Value.int .i64 0),(Value.string (⟨#[]⟩:ByteArray)),(Value.bool false),(Sl3.v Sl3.nil),(Value.int .i64 0),(Sl3.v Sl3.nil),(Value.int .i64 0),(Value.int .i64 0),(Value.string (⟨#[]⟩:ByteArray)),(Sl3.v Sl3.nil),(Sl3.v Sl3.nil),(Sl3.v Sl3.nil)])]) false (DA.on 7 (DA.aL 7 none (.val undef) ([some (70,[(Value.int .i64 a0_0),(Value.string a0_1),(Value.bool a0_2),(Sl3.v a0_3),(Value.int .i64 a0_4),(Sl3.v a0_5),(Value.int .i64 a0_6),(Value.int .i64 a0_7),(Value.string a0_8),(Sl3.v a0_9),(Sl3.v a0_10),(Sl3.v a0_11)]),some (70,[(Value.int .i64 0),(Value.string (⟨#[]⟩:ByteArray)),(Value.bool false),(Sl3.v Sl3.nil),(Value.int .i64 0),(Sl3.v Sl3.nil),(Value.int .i64 0),(Value.int .i64 0),(Value.string (⟨#[]⟩:ByteArray)),(Sl3.v Sl3.nil),(Sl3.v Sl3.nil),(Sl3.v Sl3.nil)]),some (70,[(Value.int .i64 a0_0),(Value.string (⟨#[]⟩:ByteArray)),(Value.bool false),(Sl3.v Sl3.nil),(Value.int .i64 0),(Sl3.v Sl3.nil),(Value.int .i64 0),(Value.int .i64 0),(Value.string (⟨#[]⟩:ByteArray)),(Sl3.v Sl3.nil),(Sl3.v Sl3.nil),(Sl3.v x1)])]) false (DA.dn ?_)))))
     exact fun a w hs=>jsN (hs.sb 3)
    ·refine DA.aL 6 (some 3) (.loc 2 0) ([some (70,[(Value.int .i64 a0_0),(Value.string a0_1),(Value.bool a0_2),(Sl3.v a0_3),(Value.int .i64 a0_4),(Sl3.v a0_5),(Value.int .i64 a0_6),(Value.int .i64 a0_7),(Value.string a0_8),(Sl3.v a0_9),(Sl3.v a0_10),(Sl3.v a0_11)]),some (70,[(Value.int .i64 0),(Value.string (⟨#[]⟩:ByteArray)),(Value.bool false),(Sl3.v Sl3.nil),(Value.int .i64 0),(Sl3.v Sl3.nil),(Value.int .i64 0),(Value.int .i64 0),(Value.string (⟨#[]⟩:ByteArray)),(Sl3.v Sl3.nil),(Sl3.v Sl3.nil),(Sl3.v Sl3.nil)]),some (70,[(Value.int .i64 0),(Value.string (⟨#[]⟩:ByteArray)),(Value.bool false),(Sl3.v Sl3.nil),(Value.int .i64 0),(Sl3.v Sl3.nil),(Value.int .i64 0),(Value.int .i64 0),(Value.string (⟨#[]⟩:ByteArray)),(Sl3.v Sl3.nil),(Sl3.v Sl3.nil),(Sl3.v Sl3.nil)])]) false (DA.on 5 (DA.aH (H':=H2) 5 (some 13) (Value.agg #[(Value.int .i64 a0_0),(Value.string (⟨#[]⟩:ByteArray)),(Value.bool false),(Sl3.v Sl3.nil),(Value.int .i64 0),(Sl3.v Sl3.nil),(Value.int .i64 0),(Value.int .i64 0),(Value.string (⟨#[]⟩:ByteArray)),(Sl3.v Sl3.nil),(Sl3.v Sl3.nil),(Sl3.v x1)]) (by kernel_rfl) (DA.on 7 (DA.aL 7 none (.val undef) ([some (70,[(Value.int .i64 a0_0),(Value.string a0_1),(Value.bool a0_2),(Sl3.v a0_3),(Value.int .i64 a0_4),(Sl3.v a0_5),(Value.int .i64 a0_6),(Value.int .i64 a0_7),(Value.string a0_8),(Sl3.v a0_9),(Sl3.v a0_10),(Sl3.v a0_11)]),some (70,[(Value.int .i64 0),(Value.string (⟨#[]⟩:ByteArray)),(Value.bool false),(Sl3.v Sl3.nil),(Value.int .i64 0),(Sl3.v Sl3.nil),(Value.int .i64 0),(Value.int .i64 0),(Value.string (⟨#[]⟩:ByteArray)),(Sl3.v Sl3.nil),(Sl3.v Sl3.nil),(Sl3.v Sl3.nil)]),some (70,[(Value.int .i64 a0_0),(Value.string (⟨#[]⟩:ByteArray)),(Value.bool false),(Sl3.v Sl3.nil),(Value.int .i64 0),(Sl3.v Sl3.nil),(Value.int .i64 0),(Value.int .i64 0),(Value.string (⟨#[]⟩:ByteArray)),(Sl3.v Sl3.nil),(Sl3.v Sl3.nil),(Sl3.v x1)])]) false (DA.dn ?_)))))
     exact fun a w hs=>jsN (hs.sb 3)
   ·refine DA.aL 6 (some 3) (.loc 2 0) ([some (70,[(Value.int .i64 a0_0),(Value.string a0_1),(Value.bool a0_2),(Sl3.v a0_3),(Value.int .i64 a0_4),(Sl3.v a0_5),(Value.int .i64 a0_6),(Value.int .i64 a0_7),(Value.string a0_8),(Sl3.v a0_9),(Sl3.v a0_10),(Sl3.v a0_11)]),some (70,[(Value.int .i64 0),(Value.string (⟨#[]⟩:ByteArray)),(Value.bool false),(Sl3.v Sl3.nil),(Value.int .i64 0),(Sl3.v Sl3.nil),(Value.int .i64 0),(Value.int .i64 0),(Value.string (⟨#[]⟩:ByteArray)),(Sl3.v Sl3.nil),(Sl3.v Sl3.nil),(Sl3.v Sl3.nil)]),some (70,[(Value.int .i64 0),(Value.string (⟨#[]⟩:ByteArray)),(Value.bool false),(Sl3.v Sl3.nil),(Value.int .i64 0),(Sl3.v Sl3.nil),(Value.int .i64 0),(Value.int .i64 0),(Value.string (⟨#[]⟩:ByteArray)),(Sl3.v Sl3.nil),(Sl3.v Sl3.nil),(Sl3.v Sl3.nil)])]) true (DA.on 4 (DA.aCj 4 (some 12) false (v:=(Sl3.v x1)) 71 #[(Sl3.v a0_11)] (z23 hx_4) (DA.on 5 (DA.aH (H':=H2) 5 (some 13) (Value.agg #[(Value.int .i64 a0_0),(Value.string (⟨#[]⟩:ByteArray)),(Value.bool false),(Sl3.v Sl3.nil),(Value.int .i64 0),(Sl3.v Sl3.nil),(Value.int .i64 0),(Value.int .i64 0),(Value.string (⟨#[]⟩:ByteArray)),(Sl3.v Sl3.nil),(Sl3.v Sl3.nil),(Sl3.v x1)]) (by kernel_rfl) (DA.on 7 (DA.aL 7 none (.val undef) ([some (70,[(Value.int .i64 a0_0),(Value.string a0_1),(Value.bool a0_2),(Sl3.v a0_3),(Value.int .i64 a0_4),(Sl3.v a0_5),(Value.int .i64 a0_6),(Value.int .i64 a0_7),(Value.string a0_8),(Sl3.v a0_9),(Sl3.v a0_10),(Sl3.v a0_11)]),some (70,[(Value.int .i64 0),(Value.string (⟨#[]⟩:ByteArray)),(Value.bool false),(Sl3.v Sl3.nil),(Value.int .i64 0),(Sl3.v Sl3.nil),(Value.int .i64 0),(Value.int .i64 0),(Value.string (⟨#[]⟩:ByteArray)),(Sl3.v Sl3.nil),(Sl3.v Sl3.nil),(Sl3.v Sl3.nil)]),some (70,[(Value.int .i64 a0_0),(Value.string (⟨#[]⟩:ByteArray)),(Value.bool false),(Sl3.v Sl3.nil),(Value.int .i64 0),(Sl3.v Sl3.nil),(Value.int .i64 0),(Value.int .i64 0),(Value.string (⟨#[]⟩:ByteArray)),(Sl3.v Sl3.nil),(Sl3.v Sl3.nil),(Sl3.v x1)])]) false (DA.dn ?_)))))))
    exact fun a w hs=>jsN (hs.sb 3)
  ·refine DA.aCj 4 (some 12) true (v:=(Sl3.v x1)) 71 #[(Sl3.v a0_11)] (z23 hx_4) ?_
   refine DA.two 1 6 (by kernel_rfl) ?_ ?_
   ·refine DA.aL 1 (some 9) (.val (Value.int .i64 a0_0)) ([some (70,[(Value.int .i64 a0_0),(Value.string a0_1),(Value.bool a0_2),(Sl3.v a0_3),(Value.int .i64 a0_4),(Sl3.v a0_5),(Value.int .i64 a0_6),(Value.int .i64 a0_7),(Value.string a0_8),(Sl3.v a0_9),(Sl3.v a0_10),(Sl3.v a0_11)]),some (70,[(Value.int .i64 0),(Value.string (⟨#[]⟩:ByteArray)),(Value.bool false),(Sl3.v Sl3.nil),(Value.int .i64 0),(Sl3.v Sl3.nil),(Value.int .i64 0),(Value.int .i64 0),(Value.string (⟨#[]⟩:ByteArray)),(Sl3.v Sl3.nil),(Sl3.v Sl3.nil),(Sl3.v Sl3.nil)])]) true ?_
    refine DA.two 5 6 (by kernel_rfl) ?_ ?_
    ·refine DA.aHj (H':=H2) 5 (some 13) true (Value.agg #[(Value.int .i64 a0_0),(Value.string (⟨#[]⟩:ByteArray)),(Value.bool false),(Sl3.v Sl3.nil),(Value.int .i64 0),(Sl3.v Sl3.nil),(Value.int .i64 0),(Value.int .i64 0),(Value.string (⟨#[]⟩:ByteArray)),(Sl3.v Sl3.nil),(Sl3.v Sl3.nil),(Sl3.v x1)]) (by kernel_rfl) (DA.on 6 (DA.aL 6 (some 3) (.loc 2 0) ([some (70,[(Value.int .i64 a0_0),(Value.string a0_1),(Value.bool a0_2),(Sl3.v a0_3),(Value.int .i64 a0_4),(Sl3.v a0_5),(Value.int .i64 a0_6),(Value.int .i64 a0_7),(Value.string a0_8),(Sl3.v a0_9),(Sl3.v a0_10),(Sl3.v a0_11)]),some (70,[(Value.int .i64 0),(Value.string (⟨#[]⟩:ByteArray)),(Value.bool false),(Sl3.v Sl3.nil),(Value.int .i64 0),(Sl3.v Sl3.nil),(Value.int .i64 0),(Value.int .i64 0),(Value.string (⟨#[]⟩:ByteArray)),(Sl3.v Sl3.nil),(Sl3.v Sl3.nil),(Sl3.v Sl3.nil)]),some (70,[(Value.int .i64 0),(Value.string (⟨#[]⟩:ByteArray)),(Value.bool false),(Sl3.v Sl3.nil),(Value.int .i64 0),(Sl3.v Sl3.nil),(Value.int .i64 0),(Value.int .i64 0),(Value.string (⟨#[]⟩:ByteArray)),(Sl3.v Sl3.nil),(Sl3.v Sl3.nil),(Sl3.v Sl3.nil)])]) false (DA.on 7 (DA.aL 7 none (.val undef) ([some (70,[(Value.int .i64 a0_0),(Value.string a0_1),(Value.bool a0_2),(Sl3.v a0_3),(Value.int .i64 a0_4),(Sl3.v a0_5),(Value.int .i64 a0_6),(Value.int .i64 a0_7),(Value.string a0_8),(Sl3.v a0_9),(Sl3.v a0_10),(Sl3.v a0_11)]),some (70,[(Value.int .i64 0),(Value.string (⟨#[]⟩:ByteArray)),(Value.bool false),(Sl3.v Sl3.nil),(Value.int .i64 0),(Sl3.v Sl3.nil),(Value.int .i64 0),(Value.int .i64 0),(Value.string (⟨#[]⟩:ByteArray)),(Sl3.v Sl3.nil),(Sl3.v Sl3.nil),(Sl3.v Sl3.nil)]),some (70,[(Value.int .i64 a0_0),(Value.string (⟨#[]⟩:ByteArray)),(Value.bool false),(Sl3.v Sl3.nil),(Value.int .i64 0),(Sl3.v Sl3.nil),(Value.int .i64 0),(Value.int .i64 0),(Value.string (⟨#[]⟩:ByteArray)),(Sl3.v Sl3.nil),(Sl3.v Sl3.nil),(Sl3.v x1)])]) false (DA.dn ?_)))))
     exact fun a w hs=>jsN (hs.sb 3)
    ·refine DA.aL 6 (some 3) (.loc 2 0) ([some (70,[(Value.int .i64 a0_0),(Value.string a0_1),(Value.bool a0_2),(Sl3.v a0_3),(Value.int .i64 a0_4),(Sl3.v a0_5),(Value.int .i64 a0_6),(Value.int .i64 a0_7),(Value.string a0_8),(Sl3.v a0_9),(Sl3.v a0_10),(Sl3.v a0_11)]),some (70,[(Value.int .i64 0),(Value.string (⟨#[]⟩:ByteArray)),(Value.bool false),(Sl3.v Sl3.nil),(Value.int .i64 0),(Sl3.v Sl3.nil),(Value.int .i64 0),(Value.int .i64 0),(Value.string (⟨#[]⟩:ByteArray)),(Sl3.v Sl3.nil),(Sl3.v Sl3.nil),(Sl3.v Sl3.nil)]),some (70,[(Value.int .i64 0),(Value.string (⟨#[]⟩:ByteArray)),(Value.bool false),(Sl3.v Sl3.nil),(Value.int .i64 0),(Sl3.v Sl3.nil),(Value.int .i64 0),(Value.int .i64 0),(Value.string (⟨#[]⟩:ByteArray)),(Sl3.v Sl3.nil),(Sl3.v Sl3.nil),(Sl3.v Sl3.nil)])]) false (DA.on 5 (DA.aH (H':=H2) 5 (some 13) (Value.agg #[(Value.int .i64 a0_0),(Value.string (⟨#[]⟩:ByteArray)),(Value.bool false),(Sl3.v Sl3.nil),(Value.int .i64 0),(Sl3.v Sl3.nil),(Value.int .i64 0),(Value.int .i64 0),(Value.string (⟨#[]⟩:ByteArray)),(Sl3.v Sl3.nil),(Sl3.v Sl3.nil),(Sl3.v x1)]) (by kernel_rfl) (DA.on 7 (DA.aL 7 none (.val undef) ([some (70,[(Value.int .i64 a0_0),(Value.string a0_1),(Value.bool a0_2),(Sl3.v a0_3),(Value.int .i64 a0_4),(Sl3.v a0_5),(Value.int .i64 a0_6),(Value.int .i64 a0_7),(Value.string a0_8),(Sl3.v a0_9),(Sl3.v a0_10),(Sl3.v a0_11)]),some (70,[(Value.int .i64 0),(Value.string (⟨#[]⟩:ByteArray)),(Value.bool false),(Sl3.v Sl3.nil),(Value.int .i64 0),(Sl3.v Sl3.nil),(Value.int .i64 0),(Value.int .i64 0),(Value.string (⟨#[]⟩:ByteArray)),(Sl3.v Sl3.nil),(Sl3.v Sl3.nil),(Sl3.v Sl3.nil)]),some (70,[(Value.int .i64 a0_0),(Value.string (⟨#[]⟩:ByteArray)),(Value.bool false),(Sl3.v Sl3.nil),(Value.int .i64 0),(Sl3.v Sl3.nil),(Value.int .i64 0),(Value.int .i64 0),(Value.string (⟨#[]⟩:ByteArray)),(Sl3.v Sl3.nil),(Sl3.v Sl3.nil),(Sl3.v x1)])]) false (DA.dn ?_)))))
     exact fun a w hs=>jsN (hs.sb 3)
   ·refine DA.aL 6 (some 3) (.loc 2 0) ([some (70,[(Value.int .i64 a0_0),(Value.string a0_1),(Value.bool a0_2),(Sl3.v a0_3),(Value.int .i64 a0_4),(Sl3.v a0_5),(Value.int .i64 a0_6),(Value.int .i64 a0_7),(Value.string a0_8),(Sl3.v a0_9),(Sl3.v a0_10),(Sl3.v a0_11)]),some (70,[(Value.int .i64 0),(Value.string (⟨#[]⟩:ByteArray)),(Value.bool false),(Sl3.v Sl3.nil),(Value.int .i64 0),(Sl3.v Sl3.nil),(Value.int .i64 0),(Value.int .i64 0),(Value.string (⟨#[]⟩:ByteArray)),(Sl3.v Sl3.nil),(Sl3.v Sl3.nil),(Sl3.v Sl3.nil)]),some (70,[(Value.int .i64 0),(Value.string (⟨#[]⟩:ByteArray)),(Value.bool false),(Sl3.v Sl3.nil),(Value.int .i64 0),(Sl3.v Sl3.nil),(Value.int .i64 0),(Value.int .i64 0),(Value.string (⟨#[]⟩:ByteArray)),(Sl3.v Sl3.nil),(Sl3.v Sl3.nil),(Sl3.v Sl3.nil)])]) true (DA.on 1 (DA.aL 1 (some 9) (.val (Value.int .i64 a0_0)) ([some (70,[(Value.int .i64 a0_0),(Value.string a0_1),(Value.bool a0_2),(Sl3.v a0_3),(Value.int .i64 a0_4),(Sl3.v a0_5),(Value.int .i64 a0_6),(Value.int .i64 a0_7),(Value.string a0_8),(Sl3.v a0_9),(Sl3.v a0_10),(Sl3.v a0_11)]),some (70,[(Value.int .i64 0),(Value.string (⟨#[]⟩:ByteArray)),(Value.bool false),(Sl3.v Sl3.nil),(Value.int .i64 0),(Sl3.v Sl3.nil),(Value.int .i64 0),(Value.int .i64 0),(Value.string (⟨#[]⟩:ByteArray)),(Sl3.v Sl3.nil),(Sl3.v Sl3.nil),(Sl3.v Sl3.nil)]),some (70,[(Value.int .i64 0),(Value.string (⟨#[]⟩:ByteArray)),(Value.bool false),(Sl3.v Sl3.nil),(Value.int .i64 0),(Sl3.v Sl3.nil),(Value.int .i64 0),(Value.int .i64 0),(Value.string (⟨#[]⟩:ByteArray)),(Sl3.v Sl3.nil),(Sl3.v Sl3.nil),(Sl3.v Sl3.nil)])]) false (DA.on 5 (DA.aH (H':=H2) 5 (some 13) (Value.agg #[(Value.int .i64 a0_0),(Value.string (⟨#[]⟩:ByteArray)),(Value.bool false),(Sl3.v Sl3.nil),(Value.int .i64 0),(Sl3.v Sl3.nil),(Value.int .i64 0),(Value.int .i64 0),(Value.string (⟨#[]⟩:ByteArray)),(Sl3.v Sl3.nil),(Sl3.v Sl3.nil),(Sl3.v x1)]) (by kernel_rfl) (DA.on 7 (DA.aL 7 none (.val undef) ([some (70,[(Value.int .i64 a0_0),(Value.string a0_1),(Value.bool a0_2),(Sl3.v a0_3),(Value.int .i64 a0_4),(Sl3.v a0_5),(Value.int .i64 a0_6),(Value.int .i64 a0_7),(Value.string a0_8),(Sl3.v a0_9),(Sl3.v a0_10),(Sl3.v a0_11)]),some (70,[(Value.int .i64 0),(Value.string (⟨#[]⟩:ByteArray)),(Value.bool false),(Sl3.v Sl3.nil),(Value.int .i64 0),(Sl3.v Sl3.nil),(Value.int .i64 0),(Value.int .i64 0),(Value.string (⟨#[]⟩:ByteArray)),(Sl3.v Sl3.nil),(Sl3.v Sl3.nil),(Sl3.v Sl3.nil)]),some (70,[(Value.int .i64 a0_0),(Value.string (⟨#[]⟩:ByteArray)),(Value.bool false),(Sl3.v Sl3.nil),(Value.int .i64 0),(Sl3.v Sl3.nil),(Value.int .i64 0),(Value.int .i64 0),(Value.string (⟨#[]⟩:ByteArray)),(Sl3.v Sl3.nil),(Sl3.v Sl3.nil),(Sl3.v x1)])]) false (DA.dn ?_)))))))
    exact fun a w hs=>jsN (hs.sb 3)
  ·refine DA.aL 6 (some 3) (.loc 2 0) ([some (70,[(Value.int .i64 a0_0),(Value.string a0_1),(Value.bool a0_2),(Sl3.v a0_3),(Value.int .i64 a0_4),(Sl3.v a0_5),(Value.int .i64 a0_6),(Value.int .i64 a0_7),(Value.string a0_8),(Sl3.v a0_9),(Sl3.v a0_10),(Sl3.v a0_11)]),some (70,[(Value.int .i64 0),(Value.string (⟨#[]⟩:ByteArray)),(Value.bool false),(Sl3.v Sl3.nil),(Value.int .i64 0),(Sl3.v Sl3.nil),(Value.int .i64 0),(Value.int .i64 0),(Value.string (⟨#[]⟩:ByteArray)),(Sl3.v Sl3.nil),(Sl3.v Sl3.nil),(Sl3.v Sl3.nil)]),some (70,[(Value.int .i64 0),(Value.string (⟨#[]⟩:ByteArray)),(Value.bool false),(Sl3.v Sl3.nil),(Value.int .i64 0),(Sl3.v Sl3.nil),(Value.int .i64 0),(Value.int .i64 0),(Value.string (⟨#[]⟩:ByteArray)),(Sl3.v Sl3.nil),(Sl3.v Sl3.nil),(Sl3.v Sl3.nil)])]) true ?_
   refine DA.two 1 4 (by kernel_rfl) ?_ ?_
   ·refine DA.aL 1 (some 9) (.val (Value.int .i64 a0_0)) ([some (70,[(Value.int .i64 a0_0),(Value.string a0_1),(Value.bool a0_2),(Sl3.v a0_3),(Value.int .i64 a0_4),(Sl3.v a0_5),(Value.int .i64 a0_6),(Value.int .i64 a0_7),(Value.string a0_8),(Sl3.v a0_9),(Sl3.v a0_10),(Sl3.v a0_11)]),some (70,[(Value.int .i64 0),(Value.string (⟨#[]⟩:ByteArray)),(Value.bool false),(Sl3.v Sl3.nil),(Value.int .i64 0),(Sl3.v Sl3.nil),(Value.int .i64 0),(Value.int .i64 0),(Value.string (⟨#[]⟩:ByteArray)),(Sl3.v Sl3.nil),(Sl3.v Sl3.nil),(Sl3.v Sl3.nil)]),some (70,[(Value.int .i64 0),(Value.string (⟨#[]⟩:ByteArray)),(Value.bool false),(Sl3.v Sl3.nil),(Value.int .i64 0),(Sl3.v Sl3.nil),(Value.int .i64 0),(Value.int .i64 0),(Value.string (⟨#[]⟩:ByteArray)),(Sl3.v Sl3.nil),(Sl3.v Sl3.nil),(Sl3.v Sl3.nil)])]) true (DA.on 4 (DA.aCj 4 (some 12) false (v:=(Sl3.v x1)) 71 #[(Sl3.v a0_11)] (z23 hx_4) (DA.on 5 (DA.aH (H':=H2) 5 (some 13) (Value.agg #[(Value.int .i64 a0_0),(Value.string (⟨#[]⟩:ByteArray)),(Value.bool false),(Sl3.v Sl3.nil),(Value.int .i64 0),(Sl3.v Sl3.nil),(Value.int .i64 0),(Value.int .i64 0),(Value.string (⟨#[]⟩:ByteArray)),(Sl3.v Sl3.nil),(Sl3.v Sl3.nil),(Sl3.v x1)]) (by kernel_rfl) (DA.on 7 (DA.aL 7 none (.val undef) ([some (70,[(Value.int .i64 a0_0),(Value.string a0_1),(Value.bool a0_2),(Sl3.v a0_3),(Value.int .i64 a0_4),(Sl3.v a0_5),(Value.int .i64 a0_6),(Value.int .i64 a0_7),(Value.string a0_8),(Sl3.v a0_9),(Sl3.v a0_10),(Sl3.v a0_11)]),some (70,[(Value.int .i64 0),(Value.string (⟨#[]⟩:ByteArray)),(Value.bool false),(Sl3.v Sl3.nil),(Value.int .i64 0),(Sl3.v Sl3.nil),(Value.int .i64 0),(Value.int .i64 0),(Value.string (⟨#[]⟩:ByteArray)),(Sl3.v Sl3.nil),(Sl3.v Sl3.nil),(Sl3.v Sl3.nil)]),some (70,[(Value.int .i64 a0_0),(Value.string (⟨#[]⟩:ByteArray)),(Value.bool false),(Sl3.v Sl3.nil),(Value.int .i64 0),(Sl3.v Sl3.nil),(Value.int .i64 0),(Value.int .i64 0),(Value.string (⟨#[]⟩:ByteArray)),(Sl3.v Sl3.nil),(Sl3.v Sl3.nil),(Sl3.v x1)])]) false (DA.dn ?_)))))))
    exact fun a w hs=>jsN (hs.sb 3)
   ·refine DA.aCj 4 (some 12) true (v:=(Sl3.v x1)) 71 #[(Sl3.v a0_11)] (z23 hx_4) (DA.on 1 (DA.aL 1 (some 9) (.val (Value.int .i64 a0_0)) ([some (70,[(Value.int .i64 a0_0),(Value.string a0_1),(Value.bool a0_2),(Sl3.v a0_3),(Value.int .i64 a0_4),(Sl3.v a0_5),(Value.int .i64 a0_6),(Value.int .i64 a0_7),(Value.string a0_8),(Sl3.v a0_9),(Sl3.v a0_10),(Sl3.v a0_11)]),some (70,[(Value.int .i64 0),(Value.string (⟨#[]⟩:ByteArray)),(Value.bool false),(Sl3.v Sl3.nil),(Value.int .i64 0),(Sl3.v Sl3.nil),(Value.int .i64 0),(Value.int .i64 0),(Value.string (⟨#[]⟩:ByteArray)),(Sl3.v Sl3.nil),(Sl3.v Sl3.nil),(Sl3.v Sl3.nil)]),some (70,[(Value.int .i64 0),(Value.string (⟨#[]⟩:ByteArray)),(Value.bool false),(Sl3.v Sl3.nil),(Value.int .i64 0),(Sl3.v Sl3.nil),(Value.int .i64 0),(Value.int .i64 0),(Value.string (⟨#[]⟩:ByteArray)),(Sl3.v Sl3.nil),(Sl3.v Sl3.nil),(Sl3.v Sl3.nil)])]) false (DA.on 5 (DA.aH (H':=H2) 5 (some 13) (Value.agg #[(Value.int .i64 a0_0),(Value.string (⟨#[]⟩:ByteArray)),(Value.bool false),(Sl3.v Sl3.nil),(Value.int .i64 0),(Sl3.v Sl3.nil),(Value.int .i64 0),(Value.int .i64 0),(Value.string (⟨#[]⟩:ByteArray)),(Sl3.v Sl3.nil),(Sl3.v Sl3.nil),(Sl3.v x1)]) (by kernel_rfl) (DA.on 7 (DA.aL 7 none (.val undef) ([some (70,[(Value.int .i64 a0_0),(Value.string a0_1),(Value.bool a0_2),(Sl3.v a0_3),(Value.int .i64 a0_4),(Sl3.v a0_5),(Value.int .i64 a0_6),(Value.int .i64 a0_7),(Value.string a0_8),(Sl3.v a0_9),(Sl3.v a0_10),(Sl3.v a0_11)]),some (70,[(Value.int .i64 0),(Value.string (⟨#[]⟩:ByteArray)),(Value.bool false),(Sl3.v Sl3.nil),(Value.int .i64 0),(Sl3.v Sl3.nil),(Value.int .i64 0),(Value.int .i64 0),(Value.string (⟨#[]⟩:ByteArray)),(Sl3.v Sl3.nil),(Sl3.v Sl3.nil),(Sl3.v Sl3.nil)]),some (70,[(Value.int .i64 a0_0),(Value.string (⟨#[]⟩:ByteArray)),(Value.bool false),(Sl3.v Sl3.nil),(Value.int .i64 0),(Sl3.v Sl3.nil),(Value.int .i64 0),(Value.int .i64 0),(Value.string (⟨#[]⟩:ByteArray)),(Sl3.v Sl3.nil),(Sl3.v Sl3.nil),(Sl3.v x1)])]) false (DA.dn ?_)))))))
    exact fun a w hs=>jsN (hs.sb 3)
 ·refine WS.nxt ?_
  obtain ⟨⟨H3,w2_4,w2_5,w2_6,w2_7,w2_8,w2_9,w2_10,w2_11,w2_12,w2_13,w2_14,w2_15⟩,hx,h⟩:=bind_some h
  try dsimp only at h
  refine WS.sq ?_
  refine WS.join ([kL 1 0 0,kL 2 1 0,kL 3 2 0]) ([some (70,[(Value.int .i64 a0_0),(Value.string a0_1),(Value.bool a0_2),(Sl3.v a0_3),(Value.int .i64 a0_4),(Sl3.v a0_5),(Value.int .i64 a0_6),(Value.int .i64 a0_7),(Value.string a0_8),(Sl3.v a0_9),(Sl3.v a0_10),(Sl3.v a0_11)]),some (70,[(Value.int .i64 0),(Value.string (⟨#[]⟩:ByteArray)),(Value.bool false),(Sl3.v Sl3.nil),(Value.int .i64 0),(Sl3.v Sl3.nil),(Value.int .i64 0),(Value.int .i64 0),(Value.string (⟨#[]⟩:ByteArray)),(Sl3.v Sl3.nil),(Sl3.v Sl3.nil),(Sl3.v Sl3.nil)]),some (70,[(Value.int .i64 w2_4),(Value.string w2_5),(Value.bool w2_6),(Sl3.v w2_7),(Value.int .i64 w2_8),(Sl3.v w2_9),(Value.int .i64 w2_10),(Value.int .i64 w2_11),(Value.string w2_12),(Sl3.v w2_13),(Sl3.v w2_14),(Sl3.v w2_15)])]) H3 ?_ (fun a w hs=>WS.nxt ?_ a w hs)
  ·clear h; rename _=>h
   refine WS.bk 0 ?_
   obtain ⟨v14_16,hx,h⟩:=bind_some h
   refine WS.sq ?_
   refine WS.join ([kB 14 v14_16,kL 1 0 0,kL 2 1 0,kL 3 2 0]) ([some (70,[(Value.int .i64 a0_0),(Value.string a0_1),(Value.bool a0_2),(Sl3.v a0_3),(Value.int .i64 a0_4),(Sl3.v a0_5),(Value.int .i64 a0_6),(Value.int .i64 a0_7),(Value.string a0_8),(Sl3.v a0_9),(Sl3.v a0_10),(Sl3.v a0_11)]),some (70,[(Value.int .i64 0),(Value.string (⟨#[]⟩:ByteArray)),(Value.bool false),(Sl3.v Sl3.nil),(Value.int .i64 0),(Sl3.v Sl3.nil),(Value.int .i64 0),(Value.int .i64 0),(Value.string (⟨#[]⟩:ByteArray)),(Sl3.v Sl3.nil),(Sl3.v Sl3.nil),(Sl3.v Sl3.nil)]),some (70,[(Value.int .i64 a0_0),(Value.string (⟨#[]⟩:ByteArray)),(Value.bool false),(Sl3.v Sl3.nil),(Value.int .i64 0),(Sl3.v Sl3.nil),(Value.int .i64 0),(Value.int .i64 0),(Value.string (⟨#[]⟩:ByteArray)),(Sl3.v Sl3.nil),(Sl3.v Sl3.nil),(Sl3.v x1)])]) H2 ?_ (fun a w hs=>WS.nxt ?_ a w hs)
   ·clear h; rename _=>h
    refine WS.rg (RS.mS 4 [kB 18 (decide (a0_0≥11)),kB 17 (decide (a0_0≥11)),kI 16 a0_0,kL 15 0 0] ?_)
    rcases z0 h with ⟨hp,h⟩ | ⟨hp,h⟩
    ·refine RS.fx 18 true (decide_eq_true hp) (RS.mS 5 [kB 14 (decide (a0_0≤14)),kB 22 (decide (a0_0≤14)),kB 21 (decide (a0_0≤14)),kI 20 a0_0,kL 19 0 0] (RS.dn ?_))
     cases h
     exact fun a w hs=>(jsN (hs.sb 3))
    ·refine RS.fx 18 false (decide_eq_false hp) (RS.mS 5 [kB 14 false,kB 22 false,kU 21,kU 20,kU 19] (RS.dn ?_))
     cases h
     exact fun a w hs=>(jsN (hs.sb 3))
   ·clear hx
    rcases z0 h with ⟨hp,h⟩ | ⟨hp,h⟩
    ·refine WS.fx 14 true hp (WS.cT (WS.rg (RS.mL 4 [kL 25 2 1,kT 24 a0_1,kL 23 0 1] ([some (70,[(Value.int .i64 a0_0),(Value.string a0_1),(Value.bool a0_2),(Sl3.v a0_3),(Value.int .i64 a0_4),(Sl3.v a0_5),(Value.int .i64 a0_6),(Value.int .i64 a0_7),(Value.string a0_8),(Sl3.v a0_9),(Sl3.v a0_10),(Sl3.v a0_11)]),some (70,[(Value.int .i64 0),(Value.string (⟨#[]⟩:ByteArray)),(Value.bool false),(Sl3.v Sl3.nil),(Value.int .i64 0),(Sl3.v Sl3.nil),(Value.int .i64 0),(Value.int .i64 0),(Value.string (⟨#[]⟩:ByteArray)),(Sl3.v Sl3.nil),(Sl3.v Sl3.nil),(Sl3.v Sl3.nil)]),some (70,[(Value.int .i64 a0_0),(Value.string a0_1),(Value.bool false),(Sl3.v Sl3.nil),(Value.int .i64 0),(Sl3.v Sl3.nil),(Value.int .i64 0),(Value.int .i64 0),(Value.string (⟨#[]⟩:ByteArray)),(Sl3.v Sl3.nil),(Sl3.v Sl3.nil),(Sl3.v x1)])]) (RS.dn ?_))))
     cases h
     exact fun a w hs=>bkN ((jsN (hs.sb 3)))
    ·refine WS.fx 14 false (b_not hp) (WS.cF (WS.sq (WS.rg (RS.mS 4 [kB 26 (decide (a0_0=20)),kB 29 (decide (a0_0=20)),kI 28 a0_0,kL 27 0 0] (RS.dn (WS.nxt ?_))))))
     rcases z0 h with ⟨hp,h⟩ | ⟨hp,h⟩
     ·refine WS.fx 26 true (decide_eq_true hp) (WS.cT ?_)
      cases h
     ·refine WS.fx 26 false (decide_eq_false hp) (WS.cF (WS.sq (WS.rg (RS.mS 4 [kB 34 (decide (a0_0=40)),kB 37 (decide (a0_0=40)),kI 36 a0_0,kL 35 0 0] (RS.dn (WS.nxt ?_))))))
      rcases z0 h with ⟨hp,h⟩ | ⟨hp,h⟩
      ·refine WS.fx 34 true (decide_eq_true hp) (WS.cT ?_)
       cases h
      ·refine WS.fx 34 false (decide_eq_false hp) (WS.cF (WS.sq (WS.rg (RS.mS 4 [kB 49 (decide (a0_0=34)),kB 52 (decide (a0_0=34)),kI 51 a0_0,kL 50 0 0] (RS.dn (WS.nxt ?_))))))
       rcases z0 h with ⟨hp,h⟩ | ⟨hp,h⟩
       ·refine WS.fx 49 true (decide_eq_true hp) (WS.cT ?_)
        cases h
       ·refine WS.fx 49 false (decide_eq_false hp) (WS.cF (WS.sk ?_))
        cases h
        exact fun a w hs=>bkN ((jsN (hs.sb 3)))
  ·clear hx
   refine WS.sq (WS.sq (WS.rg (RS.mS 2 [kI 59 a0_0,kL 58 0 0] ?_)))
   obtain ⟨⟨x17,x18,x19,x20⟩,hx,h⟩:=bind_some h
   try dsimp only at h
   refine RS.cl (some 60) (v:=(Value.tuple #[(Value.int .i64 x17),(Value.int .i64 x18),(Value.int .i64 x19),(Value.bool x20)])) 107 #[(Value.int .i64 a0_0)] (zhz hx) (RS.mS 9 [kB 7 x20,kI 6 x19,kI 5 x18,kI 4 x17,kB 64 x20,kI 63 x19,kI 62 x18,kI 61 x17,(57,.val (Value.tuple #[(Value.int .i64 x17),(Value.int .i64 x18),(Value.int .i64 x19),(Value.bool x20)]))] (RS.dn (WS.nxt (WS.sq (WS.rg (RS.mS 2 [kB 66 (decide (x19 > 0)),kI 65 x19] (RS.dn (WS.nxt ?_))))))))
   rcases z0 h with ⟨hp,h⟩ | ⟨hp,h⟩
   ·refine WS.fx 66 true (decide_eq_true hp) (WS.cT ?_)
    cases h
   ·refine WS.fx 66 false (decide_eq_false hp) (WS.cF (WS.sk (WS.nxt (WS.sq (WS.rg (RS.mL 2 [kA 71 #[(Value.int .i64 w2_4),(Value.string w2_5),(Value.bool w2_6),(Sl3.v w2_7),(Value.int .i64 w2_8),(Sl3.v w2_9),(Value.int .i64 w2_10),(Value.int .i64 w2_11),(Value.string w2_12),(Sl3.v w2_13),(Sl3.v w2_14),(Sl3.v w2_15)]] ([some (70,[(Value.int .i64 a0_0),(Value.string a0_1),(Value.bool a0_2),(Sl3.v a0_3),(Value.int .i64 a0_4),(Sl3.v a0_5),(Value.int .i64 a0_6),(Value.int .i64 a0_7),(Value.string a0_8),(Sl3.v a0_9),(Sl3.v a0_10),(Sl3.v a0_11)]),some (70,[(Value.int .i64 w2_4),(Value.string w2_5),(Value.bool w2_6),(Sl3.v w2_7),(Value.int .i64 w2_8),(Sl3.v w2_9),(Value.int .i64 w2_10),(Value.int .i64 w2_11),(Value.string w2_12),(Sl3.v w2_13),(Sl3.v w2_14),(Sl3.v w2_15)]),some (70,[(Value.int .i64 w2_4),(Value.string w2_5),(Value.bool w2_6),(Sl3.v w2_7),(Value.int .i64 w2_8),(Sl3.v w2_9),(Value.int .i64 w2_10),(Value.int .i64 w2_11),(Value.string w2_12),(Sl3.v w2_13),(Sl3.v w2_14),(Sl3.v w2_15)])]) (RS.dn (WS.nxt (WS.rt ?_)))))))))
    cases h
    exact fun a w hs=>rtR (rS hs)
noncomputable def B67:Code:=(Tryz.f67.body).getD .skip
def zk3:(Sl3×AH)→Value
 | (r0,_)=>(Sl3.v r0)
def zko (_:AH):(Sl3×AH)→AH:=fun r=>r.2
noncomputable def z8g (_L:LC) (m:Nat) (H:AH) (a0:Sl3):Option (Sl3×AH) :=
 if (isNilS a0)=true then
  some (Sl3.nil,H)
 else
  Option.bind (newR 126 0 #[] H) fun (s1,H2) =>
  Option.bind (appS m 126 1 8 H2 s1 a0) fun (s3,H4) =>
  some (s3,H4)
theorem z8n {L:LC} {m:Nat} {H:AH} {a0:Sl3} {r:(Sl3×AH)} (h:z8g L m H a0=some r) :
  CallS Tryz.prog (NE.plain 202) m 67 #[(Sl3.v a0)] H (zk3 r) (zko H r):=by
 refine CallS.mk (args:=[(Sl3.v a0)]) Tryz.func67 (B:=B67) (by kernel_rfl) (fun E _=>?_)
 unfold z8g at h
 refine WS.sq (WS.rg (RS.mS 1 [kS 2 Sl3.nil] (RS.dn (WS.nxt (WS.sq (WS.sq (WS.rg (RS.mS 1 [kS 3 a0] (RS.o (H':=H) (some 4) (Value.bool (isNilS a0)) (za1 (t:=60) (e:=126) (u:=60) (x:=.tmp 3) (y:=.const (Sl3.v Sl3.nil)) (s:=a0) (by kernel_rfl) (by kernel_rfl) (by kernel_rfl) (by kernel_rfl)) ?_)))))))))
 refine RS.dn (WS.nxt ?_)
 rcases z0 h with ⟨hp,h⟩ | ⟨hp,h⟩
 ·refine WS.fx 4 true hp (WS.cT (WS.sq (WS.rg (RS.mS 1 [kS 2 Sl3.nil] (RS.dn (WS.nxt (WS.rt ?_)))))))
  cases h
  exact fun a w hs=>sqR (rtR (rS hs))
 ·refine WS.fx 4 false (b_not hp) (WS.cF (WS.sk (WS.nxt (WS.sq (WS.rg ?_)))))
  obtain ⟨⟨s1,H2⟩,hx,h⟩:=bind_some h
  try dsimp only at h
  refine RS.o (H':=H2) (some 5) (Sl3.v s1) (Abs.run_newR (by kernel_rfl) (by kernel_rfl) hx) (RS.mS 1 [kS 6 a0] ?_)
  obtain ⟨⟨s3,H4⟩,hx,h⟩:=bind_some h
  try dsimp only at h
  refine RS.o (H':=H4) (some 7) (Sl3.v s3) (Abs.run_app (x:=.tmp 5) (y:=.tmp 6) (ts:=#[60,60]) (s:=s1) (z:=a0) (by kernel_rfl) (by kernel_rfl) (by kernel_rfl) (by kernel_rfl) hx) (RS.mS 1 [kS 2 s3] (RS.dn (WS.nxt (WS.rt ?_))))
  cases h
  exact fun a w hs=>rtR (rS hs)
noncomputable def B31:Code:=(Tryz.f31.body).getD .skip
def zh3:(Int×ByteArray×Bool×Sl3×Int×Sl3×Int×Int×ByteArray×Sl3×Sl3×Sl3×Bool×AH)→Value
 | (r0,r1,r2,r3,r4,r5,r6,r7,r8,r9,r10,r11,r12,_)=>(Value.tuple #[(Value.agg #[(Value.int .i64 r0),(Value.string r1),(Value.bool r2),(Sl3.v r3),(Value.int .i64 r4),(Sl3.v r5),(Value.int .i64 r6),(Value.int .i64 r7),(Value.string r8),(Sl3.v r9),(Sl3.v r10),(Sl3.v r11)]),(Value.bool r12)])
def zii (_:AH):(Int×ByteArray×Bool×Sl3×Int×Sl3×Int×Int×ByteArray×Sl3×Sl3×Sl3×Bool×AH)→AH:=fun r=>r.2.2.2.2.2.2.2.2.2.2.2.2.2
noncomputable def z5d (L:LC) (m:Nat) (H:AH) (a0:Option Addr) (a1:Int):Option (Int×ByteArray×Bool×Sl3×Int×Sl3×Int×Int×ByteArray×Sl3×Sl3×Sl3×Bool×AH) :=
 Option.bind (z27 L H a0) fun x1 =>
 if x1=true then
  if a1<0 then
   none
  else
   Option.bind a0 fun q2 =>
   Option.bind (rd deSl H (Addr.add q2 3)) fun x3 =>
   if a1≥(x3.n:Int) then
    none
   else
    Option.bind (rd deSl H (Addr.add q2 3)) fun x4 =>
    Option.bind (idxA 16 x4 a1) fun p5 =>
    Option.bind (rd (deI .i64) H (Addr.add (Addr.add p5 0) 0)) fun x6_0 =>
    Option.bind (rd deS H (Addr.add (Addr.add p5 0) 1)) fun x6_1 =>
    Option.bind (rd deB H (Addr.add (Addr.add p5 0) 2)) fun x6_2 =>
    Option.bind (rd deSl H (Addr.add (Addr.add p5 0) 3)) fun x6_3 =>
    Option.bind (rd (deI .i64) H (Addr.add (Addr.add p5 0) 4)) fun x6_4 =>
    Option.bind (rd deSl H (Addr.add (Addr.add p5 0) 5)) fun x6_5 =>
    Option.bind (rd (deI .i64) H (Addr.add (Addr.add p5 0) 6)) fun x6_6 =>
    Option.bind (rd (deI .i64) H (Addr.add (Addr.add p5 0) 7)) fun x6_7 =>
    Option.bind (rd deS H (Addr.add (Addr.add p5 0) 8)) fun x6_8 =>
    Option.bind (rd deSl H (Addr.add (Addr.add p5 0) 9)) fun x6_9 =>
    Option.bind (rd deSl H (Addr.add (Addr.add p5 0) 10)) fun x6_10 =>
    Option.bind (rd deSl H (Addr.add (Addr.add p5 0) 11)) fun x6_11 =>
    Option.bind (zbo L m H x6_0 x6_1 x6_2 x6_3 x6_4 x6_5 x6_6 x6_7 x6_8 x6_9 x6_10 x6_11) fun (x7_0,x7_1,x7_2,x7_3,x7_4,x7_5,x7_6,x7_7,x7_8,x7_9,x7_10,x7_11,H8) =>
    Option.bind (z8g L m H8 x7_3) fun (x9,H10) =>
    some (x7_0,x7_1,x7_2,x9,x7_4,x7_5,x7_6,x7_7,x7_8,x7_9,x7_10,x7_11,true,H10)
 else
  none
theorem za2 {L:LC} {m:Nat} {H:AH} {a0:Option Addr} {a1:Int} {r:(Int×ByteArray×Bool×Sl3×Int×Sl3×Int×Int×ByteArray×Sl3×Sl3×Sl3×Bool×AH)} (h:z5d L m H a0 a1=some r) :
  CallS Tryz.prog (NE.plain 202) m 31 #[(Value.pointer a0),(Value.int .i64 a1)] H (zh3 r) (zii H r):=by
 refine CallS.mk (args:=[(Value.pointer a0),(Value.int .i64 a1)]) Tryz.func31 (B:=B31) (by kernel_rfl) (fun E _=>?_)
 unfold z5d at h
 refine WS.sq (WS.rg (RS.mL 2 [kB 5 false,kL 4 0 0] ([some (70,[(Value.int .i64 0),(Value.string (⟨#[]⟩:ByteArray)),(Value.bool false),(Sl3.v Sl3.nil),(Value.int .i64 0),(Sl3.v Sl3.nil),(Value.int .i64 0),(Value.int .i64 0),(Value.string (⟨#[]⟩:ByteArray)),(Sl3.v Sl3.nil),(Sl3.v Sl3.nil),(Sl3.v Sl3.nil)])]) (RS.dn (WS.nxt (WS.sq (WS.sq (WS.rg (RS.mS 1 [(7,.val (Value.pointer a0))] ?_))))))))
 obtain ⟨x1,hx,h⟩:=bind_some h
 refine RS.cl (some 8) (v:=(Value.bool x1)) 45 #[(Value.pointer a0)] (z34 hx) (RS.mS 2 [kB 10 (!x1),kB 9 (!x1)] ?_)
 rcases z0 h with ⟨hp,h⟩ | ⟨hp,h⟩
 ·refine RS.fx 10 false (nb_not hp) (RS.mS 4 [kB 14 (decide (a1<0)),kB 13 (decide (a1<0)),kB 12 (decide (a1<0)),kI 11 a1] ?_)
  rcases z0 h with ⟨hp,h⟩ | ⟨hp,h⟩
  ·refine RS.fx 14 true (decide_eq_true hp) ?_
   cases h
  ·refine RS.fx 14 false (decide_eq_false hp) (RS.mS 2 [(16,.val (Value.pointer a0)),kI 15 a1] ?_)
   obtain ⟨q2,hx,hq2⟩:=bind_some h
   subst hx
   have h:=hq2
   refine RS.mS 2 [(18,.val (Value.pointer (some (Addr.add q2 3)))),kP 17 q2] ?_
   obtain ⟨x3,hx,h⟩:=bind_some h
   refine RS.ld 19 28 (.tmp 18) (z1 hx z6) (RS.mS 3 [kB 22 (decide (a1≥(x3.n:Int))),kB 21 (decide (a1≥(x3.n:Int))),kI 20 (x3.n:Int)] (RS.dn (WS.nxt ?_)))
   rcases z0 h with ⟨hp,h⟩ | ⟨hp,h⟩
   ·refine WS.fx 22 true (decide_eq_true hp) (WS.cT ?_)
    cases h
   ·refine WS.fx 22 false (decide_eq_false hp) (WS.cF (WS.sk (WS.nxt (WS.sq (WS.rg (RS.mS 3 [(26,.val (Value.pointer (some (Addr.add q2 3)))),kP 25 q2,kP 24 q2] ?_))))))
    obtain ⟨x4,hx,h⟩:=bind_some h
    refine RS.ld 27 28 (.tmp 26) (z1 hx z6) (RS.mS 1 [kI 28 a1] ?_)
    obtain ⟨p5,hx,h⟩:=bind_some h
    refine RS.ix 29 28 99 (.tmp 27) (.tmp 28) hx (RS.mS 1 [(30,.val (Value.pointer (some (Addr.add p5 0))))] ?_)
    obtain ⟨x6_0,hx0,h⟩:=bind_some h
    obtain ⟨x6_1,hx1,h⟩:=bind_some h
    obtain ⟨x6_2,hx2,h⟩:=bind_some h
    obtain ⟨x6_3,hx3,h⟩:=bind_some h
    obtain ⟨x6_4,hx4,h⟩:=bind_some h
    obtain ⟨x6_5,hx5,h⟩:=bind_some h
    obtain ⟨x6_6,hx6,h⟩:=bind_some h
    obtain ⟨x6_7,hx7,h⟩:=bind_some h
    obtain ⟨x6_8,hx8,h⟩:=bind_some h
    obtain ⟨x6_9,hx9,h⟩:=bind_some h
    obtain ⟨x6_10,hx10,h⟩:=bind_some h
    obtain ⟨x6_11,hx11,h⟩:=bind_some h
    refine RS.la 31 70 (.tmp 30) 12 (z3 (z1 hx0 z8) (z3 (z1 hx1 zl) (z3 (z1 hx2 zbu) (z3 (z1 hx3 z6) (z3 (z1 hx4 z8) (z3 (z1 hx5 z6) (z3 (z1 hx6 z8) (z3 (z1 hx7 z8) (z3 (z1 hx8 zl) (z3 (z1 hx9 z6) (z3 (z1 hx10 z6) (z3 (z1 hx11 z6) z30)))))))))))) ?_
    obtain ⟨⟨x7_0,x7_1,x7_2,x7_3,x7_4,x7_5,x7_6,x7_7,x7_8,x7_9,x7_10,x7_11,H8⟩,hx,h⟩:=bind_some h
    try dsimp only at h
    refine RS.cl (some 32) (v:=(Value.agg #[(Value.int .i64 x7_0),(Value.string x7_1),(Value.bool x7_2),(Sl3.v x7_3),(Value.int .i64 x7_4),(Sl3.v x7_5),(Value.int .i64 x7_6),(Value.int .i64 x7_7),(Value.string x7_8),(Sl3.v x7_9),(Sl3.v x7_10),(Sl3.v x7_11)])) 62 #[(Value.agg #[(Value.int .i64 x6_0),(Value.string x6_1),(Value.bool x6_2),(Sl3.v x6_3),(Value.int .i64 x6_4),(Sl3.v x6_5),(Value.int .i64 x6_6),(Value.int .i64 x6_7),(Value.string x6_8),(Sl3.v x6_9),(Sl3.v x6_10),(Sl3.v x6_11)])] (zgq hx) (RS.mL 2 [kL 6 1 0] ([some (70,[(Value.int .i64 0),(Value.string (⟨#[]⟩:ByteArray)),(Value.bool false),(Sl3.v Sl3.nil),(Value.int .i64 0),(Sl3.v Sl3.nil),(Value.int .i64 0),(Value.int .i64 0),(Value.string (⟨#[]⟩:ByteArray)),(Sl3.v Sl3.nil),(Sl3.v Sl3.nil),(Sl3.v Sl3.nil)]),some (70,[(Value.int .i64 x7_0),(Value.string x7_1),(Value.bool x7_2),(Sl3.v x7_3),(Value.int .i64 x7_4),(Sl3.v x7_5),(Value.int .i64 x7_6),(Value.int .i64 x7_7),(Value.string x7_8),(Sl3.v x7_9),(Sl3.v x7_10),(Sl3.v x7_11)])]) (RS.dn (WS.nxt (WS.sq (WS.rg (RS.mS 3 [kS 35 x7_3,kL 34 1 3,kL 33 1 2] ?_))))))
    obtain ⟨⟨x9,H10⟩,hx,h⟩:=bind_some h
    try dsimp only at h
    refine RS.cl (some 36) (v:=(Sl3.v x9)) 67 #[(Sl3.v x7_3)] (z8n hx) (RS.mL 3 [kL 38 1 3,kL 37 1 2] ([some (70,[(Value.int .i64 0),(Value.string (⟨#[]⟩:ByteArray)),(Value.bool false),(Sl3.v Sl3.nil),(Value.int .i64 0),(Sl3.v Sl3.nil),(Value.int .i64 0),(Value.int .i64 0),(Value.string (⟨#[]⟩:ByteArray)),(Sl3.v Sl3.nil),(Sl3.v Sl3.nil),(Sl3.v Sl3.nil)]),some (70,[(Value.int .i64 x7_0),(Value.string x7_1),(Value.bool x7_2),(Sl3.v x9),(Value.int .i64 x7_4),(Sl3.v x7_5),(Value.int .i64 x7_6),(Value.int .i64 x7_7),(Value.string x7_8),(Sl3.v x7_9),(Sl3.v x7_10),(Sl3.v x7_11)])]) (RS.dn (WS.nxt (WS.sq (WS.rg (RS.mL 3 [kB 5 true,kA 39 #[(Value.int .i64 x7_0),(Value.string x7_1),(Value.bool x7_2),(Sl3.v x9),(Value.int .i64 x7_4),(Sl3.v x7_5),(Value.int .i64 x7_6),(Value.int .i64 x7_7),(Value.string x7_8),(Sl3.v x7_9),(Sl3.v x7_10),(Sl3.v x7_11)]] ([some (70,[(Value.int .i64 x7_0),(Value.string x7_1),(Value.bool x7_2),(Sl3.v x9),(Value.int .i64 x7_4),(Sl3.v x7_5),(Value.int .i64 x7_6),(Value.int .i64 x7_7),(Value.string x7_8),(Sl3.v x7_9),(Sl3.v x7_10),(Sl3.v x7_11)]),some (70,[(Value.int .i64 x7_0),(Value.string x7_1),(Value.bool x7_2),(Sl3.v x9),(Value.int .i64 x7_4),(Sl3.v x7_5),(Value.int .i64 x7_6),(Value.int .i64 x7_7),(Value.string x7_8),(Sl3.v x7_9),(Sl3.v x7_10),(Sl3.v x7_11)])]) (RS.dn (WS.nxt (WS.rt ?_)))))))))
    cases h
    exact fun a w hs=>rtR (rS hs)
 ·refine RS.fx 10 true (z19 hp) ?_
  cases h
noncomputable def B10:Code:=(Tryz.f10.body).getD .skip
def z1t:((Option Addr)×Int×AH)→Value
 | (r0,r1,_)=>(Value.tuple #[(Value.pointer r0),(Value.int .i64 r1)])
def z28 (_:AH):((Option Addr)×Int×AH)→AH:=fun r=>r.2.2
noncomputable def z8q (L:LC) (m:Nat) (a0:Option Addr) (a1:Sl3):(AH×Int)→Option (Lp (AH×Int) ((Option Addr)×Int×AH)):=fun (H4,v21_5) =>
 if v21_5<(a1.n:Int) then
  Option.bind (idxA 1 a1 v21_5) fun p6 =>
  Option.bind (rd (deI .i64) H4 p6) fun x7 =>
  Option.bind (z5d L m H4 a0 x7) fun (_,_,_,_,_,_,_,_,_,_,_,_,x9,H10) =>
  if x9=true then
   some (.next (H10,(IntKind.i64.wrap (v21_5+1))))
  else
   none
 else
  some (.brk (H4,v21_5))
def zi1 (_L:LC) (_m:Nat) (a0:Option Addr) (a1:Sl3):(AH×Int)→KN×Lcs:=fun (_,v21_5)=>([kI 21 v21_5,(0,.val (Value.pointer a0)),kS 19 a1,kI 20 (a1.n:Int)],[])
noncomputable def z2q (L:LC) (m:Nat) (H:AH) (a0:Option Addr) (a1:Sl3):Option ((Option Addr)×Int×AH) :=
 Option.bind (z5g L m H a0 (-1)) fun (_,x2,H3) =>
 if x2=4 then
  some (none,4,H3)
 else
  Option.bind (L.run (z8q L m a0 a1) (H3,0)) fun o=>match o with
  | .inl (H11,_) =>
   Option.bind (newM H11) fun (p13,H14) =>
   Option.bind (newB 51 [(Value.pointer a0),(Value.map (some p13)),(Sl3.v Sl3.nil)] H14) fun (p15,H16) =>
   some ((some p15),0,H16)
  | .inr r=>some r
theorem za5 {E H L m a0 a1} :LoopF Tryz.prog (NE.plain 202) m E Tryz.f10 ((cfst (csnd (cfst (csnd (csnd B10)))))) (zi1 L m a0 a1) (fun s=>s.1) 0 z1t (z28 H) (z8q L m a0 a1):=by
 rintro ⟨H4,v21_5⟩ o h
 unfold z8q at h
 try dsimp only at h
 refine WS.sq (WS.rg (RS.mS 1 [kB 22 (decide (v21_5<(a1.n:Int)))] (RS.dn (WS.nxt (WS.sq ?_)))))
 rcases z0 h with ⟨hp,h⟩ | ⟨hp,h⟩
 ·refine WS.fx 22 true (decide_eq_true hp) (WS.cT (WS.sk (WS.nxt (WS.sq (WS.bk 1 (WS.sq (WS.rg ?_)))))))
  obtain ⟨p6,hx,h⟩:=bind_some h
  refine RS.ix 23 37 3 (.tmp 19) (.tmp 21) hx ?_
  obtain ⟨x7,hx,h⟩:=bind_some h
  refine RS.ld 24 3 (.tmp 23) (z1 hx z8) (RS.mS 1 [kI 9 x7] (RS.dn (WS.nxt (WS.sq (WS.rg (RS.mS 2 [kI 27 x7,(26,.val (Value.pointer a0))] ?_))))))
  obtain ⟨⟨x8_0,x8_1,x8_2,x8_3,x8_4,x8_5,x8_6,x8_7,x8_8,x8_9,x8_10,x8_11,x9,H10⟩,hx,h⟩:=bind_some h
  try dsimp only at h
  refine RS.cl (some 28) (v:=(Value.tuple #[(Value.agg #[(Value.int .i64 x8_0),(Value.string x8_1),(Value.bool x8_2),(Sl3.v x8_3),(Value.int .i64 x8_4),(Sl3.v x8_5),(Value.int .i64 x8_6),(Value.int .i64 x8_7),(Value.string x8_8),(Sl3.v x8_9),(Sl3.v x8_10),(Sl3.v x8_11)]),(Value.bool x9)])) 31 #[(Value.pointer a0),(Value.int .i64 x7)] (za2 hx) (RS.mL 6 [kB 11 x9,kL 10 0 0,kB 30 x9,kA 29 #[(Value.int .i64 x8_0),(Value.string x8_1),(Value.bool x8_2),(Sl3.v x8_3),(Value.int .i64 x8_4),(Sl3.v x8_5),(Value.int .i64 x8_6),(Value.int .i64 x8_7),(Value.string x8_8),(Sl3.v x8_9),(Sl3.v x8_10),(Sl3.v x8_11)],(25,.val (Value.tuple #[(Value.agg #[(Value.int .i64 x8_0),(Value.string x8_1),(Value.bool x8_2),(Sl3.v x8_3),(Value.int .i64 x8_4),(Sl3.v x8_5),(Value.int .i64 x8_6),(Value.int .i64 x8_7),(Value.string x8_8),(Sl3.v x8_9),(Sl3.v x8_10),(Sl3.v x8_11)]),(Value.bool x9)]))] ([some (70,[(Value.int .i64 x8_0),(Value.string x8_1),(Value.bool x8_2),(Sl3.v x8_3),(Value.int .i64 x8_4),(Sl3.v x8_5),(Value.int .i64 x8_6),(Value.int .i64 x8_7),(Value.string x8_8),(Sl3.v x8_9),(Sl3.v x8_10),(Sl3.v x8_11)])]) (RS.dn (WS.nxt (WS.sq (WS.rg (RS.mS 2 [kB 32 (!x9),kB 31 x9] (RS.dn (WS.nxt ?_))))))))
  rcases z0 h with ⟨hp,h⟩ | ⟨hp,h⟩
  ·refine WS.fx 32 false (nb_not hp) (WS.cF (WS.sk ?_))
   refine fun a w hs=>bkN ((WS.nxt ?_ a w hs))
   refine WS.rg (RS.mS 2 [kI 21 (IntKind.i64.wrap (v21_5+1)),kI 33 (IntKind.i64.wrap (v21_5+1))] (RS.dn ?_))
   cases h
   exact fun a w hs=>lsN rfl (hs.sb 0)
  ·refine WS.fx 32 true (z19 hp) (WS.cT ?_)
   cases h
 ·refine WS.fx 22 false (decide_eq_false hp) (WS.cF (WS.ex 0 ?_))
  cases h
  exact fun a w hs=>sqE (lsB rfl (hs.sb 0))
theorem z3a {L:LC} {m:Nat} {H:AH} {a0:Option Addr} {a1:Sl3} {r:((Option Addr)×Int×AH)} (h:z2q L m H a0 a1=some r) :
  CallS Tryz.prog (NE.plain 202) m 10 #[(Value.pointer a0),(Sl3.v a1)] H (z1t r) (z28 H r):=by
 refine CallS.mk (args:=[(Value.pointer a0),(Sl3.v a1)]) Tryz.func10 (B:=B10) (by kernel_rfl) (fun E _=>?_)
 unfold z2q at h
 refine WS.sq (WS.rg (RS.mS 2 [kI 5 0,(4,.val (Value.pointer none))] (RS.dn (WS.nxt (WS.sq (WS.sq (WS.rg (RS.mS 1 [(13,.val (Value.pointer a0))] ?_))))))))
 obtain ⟨⟨x1,x2,H3⟩,hx,h⟩:=bind_some h
 try dsimp only at h
 refine RS.cl (some 14) (v:=(Value.tuple #[(Value.string x1),(Value.int .i64 x2)])) 30 #[(Value.pointer a0),(Value.int .i64 (-1))] (za6 hx) (RS.mS 5 [kI 7 x2,kT 6 x1,kI 16 x2,kT 15 x1,(12,.val (Value.tuple #[(Value.string x1),(Value.int .i64 x2)]))] (RS.dn (WS.nxt (WS.sq (WS.rg (RS.mS 2 [kB 18 (decide (x2=4)),kI 17 x2] (RS.dn (WS.nxt ?_))))))))
 rcases z0 h with ⟨hp,h⟩ | ⟨hp,h⟩
 ·refine WS.fx 18 true (decide_eq_true hp) (WS.cT (WS.sq (WS.rg (RS.mS 2 [kI 5 4,(4,.val (Value.pointer none))] (RS.dn (WS.nxt (WS.rt ?_)))))))
  cases h
  exact fun a w hs=>sqR (rtR (rS hs))
 ·refine WS.fx 18 false (decide_eq_false hp) (WS.cF (WS.sk (WS.nxt (WS.sq (WS.sq (WS.rg (RS.mS 3 [kI 21 0,kI 20 (a1.n:Int),kS 19 a1] (RS.dn (WS.nxt ?_)))))))))
  refine WS.bk 0 ?_
  obtain ⟨o,hl,h⟩:=bind_some h
  rcases o with ⟨H11,v21_12⟩ | r
  ·try dsimp only at h
   refine WS.lI (za5 (L:=L) (E:=E) (m:=m) (H:=H)) (L.ok hl) 0 ?_
   clear hl
   refine fun a w hs=>bkE ((WS.nxt ?_ a w hs))
   refine WS.sq (WS.rg (RS.mS 1 [(34,.val (Value.pointer a0))] ?_))
   obtain ⟨⟨p13,H14⟩,hx,h⟩:=bind_some h
   try dsimp only at h
   refine RS.o (H':=H14) (some 35) (Value.map (some p13)) (Abs.run_newM (by kernel_rfl) hx) (RS.mS 1 [kA 36 #[(Value.pointer a0),(Value.map (some p13)),(Sl3.v Sl3.nil)]] ?_)
   obtain ⟨⟨p15,H16⟩,hx,h⟩:=bind_some h
   try dsimp only at h
   refine RS.o (H':=H16) (some 37) (Value.pointer (some p15)) (Abs.run_newB (by kernel_rfl) hx) (RS.mS 2 [kI 5 0,kP 4 p15] (RS.dn (WS.nxt (WS.rt ?_))))
   cases h
   exact fun a w hs=>rtR (rS hs)
  ·try dsimp only at h
   refine WS.lR (za5 (L:=L) (E:=E) (m:=m) (H:=H)) (L.ok hl) 0 ?_
   cases h
   exact fun a w hq=>bkR (sqR (rtR hq))
noncomputable def B11:Code:=(Tryz.f11.body).getD .skip
def zbg:(Sl3×AH)→Value
 | (r0,_)=>(Sl3.v r0)
def zci (_:AH):(Sl3×AH)→AH:=fun r=>r.2
noncomputable def zb1 (_L:LC) (_m:Nat) (H:AH):Option (Sl3×AH) :=
 Option.bind (newR 93 13 #[(Value.func (.func 32) #[] #[]),(Value.func (.func 33) #[] #[]),(Value.func (.func 34) #[] #[]),(Value.func (.func 35) #[] #[]),(Value.func (.func 36) #[] #[]),(Value.func (.func 37) #[] #[]),(Value.func (.func 38) #[] #[]),(Value.func (.func 39) #[] #[]),(Value.func (.func 40) #[] #[]),(Value.func (.func 41) #[] #[]),(Value.func (.func 42) #[] #[]),(Value.func (.func 43) #[] #[]),(Value.func (.func 44) #[] #[])] H) fun (s1,H2) =>
 some (s1,H2)
theorem zk0 {L:LC} {m:Nat} {H:AH} {r:(Sl3×AH)} (h:zb1 L m H=some r) :
  CallS Tryz.prog (NE.plain 202) m 11 #[] H (zbg r) (zci H r):=by
 refine CallS.mk (args:=[]) Tryz.func11 (B:=B11) (by kernel_rfl) (fun E _=>?_)
 unfold zb1 at h
 refine WS.sq (WS.rg (RS.mS 1 [kS 0 Sl3.nil] (RS.dn (WS.nxt (WS.sq (WS.rg (RS.mS 13 [kA 13 #[(Value.func (.func 44) #[] #[])],kA 12 #[(Value.func (.func 43) #[] #[])],kA 11 #[(Value.func (.func 42) #[] #[])],kA 10 #[(Value.func (.func 41) #[] #[])],kA 9 #[(Value.func (.func 40) #[] #[])],kA 8 #[(Value.func (.func 39) #[] #[])],kA 7 #[(Value.func (.func 38) #[] #[])],kA 6 #[(Value.func (.func 37) #[] #[])],kA 5 #[(Value.func (.func 36) #[] #[])],kA 4 #[(Value.func (.func 35) #[] #[])],kA 3 #[(Value.func (.func 34) #[] #[])],kA 2 #[(Value.func (.func 33) #[] #[])],kA 1 #[(Value.func (.func 32) #[] #[])]] ?_)))))))
 obtain ⟨⟨s1,H2⟩,hx,h⟩:=bind_some h
 try dsimp only at h
 refine RS.o (H':=H2) (some 14) (Sl3.v s1) (Abs.run_newR (by kernel_rfl) (by kernel_rfl) hx) (RS.mS 1 [kS 0 s1] (RS.dn (WS.nxt (WS.rt ?_))))
 cases h
 exact fun a w hs=>rtR (rS hs)
end Go.Proofs.YtfbinmgldpnjhaaGreatDoor
