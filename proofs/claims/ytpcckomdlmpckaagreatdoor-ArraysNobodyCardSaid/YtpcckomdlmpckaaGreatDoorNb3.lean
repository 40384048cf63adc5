/- Parts of the proof: an abstract interpreter of the loaded program and its soundness, printed functions, the law's own texts; part 3. No condition. -/
import Derived.Test.YtpcckomdlmpckaaGreatDoorNb2
import Derived.OrdersHeld
import Derived.LaidSub
import Derived.Test.YtpcckomdlmpckaaGreatDoorChecked
namespace Go.Abs
variable {P:Program} {ne:NE} {m n:Nat}
def dem (A:List Nat) (bs:List Nat) (j:Nat):Bool:=!(A.all fun i=>Nat.blt i j&&pre bs j i)
def mvAt (ops:Array Oper) (j:Nat):Bool :=
 match ops[j]? with
 | some o=>(match o.op with
  | .move _=>true
  | .assign _=>true
  | .pick ..=>true
  | _=>false)
 | none=>false
def demO (ops:Array Oper) (A:List Nat) (bs:List Nat) (j:Nat):Bool:=dem A bs j&&!mvAt ops j
theorem zrx {P:Program} {ops:Array Oper} {Q:Exit→Act→World→Prop} {j:Nat} {K:Act→World→Prop} {a:Act} {w:World} (hm:mvAt ops j=true) (h:wpOp P ops Q j K a w):wpOp P ops Q j (fun a' w'=>w'=w∧K a' w') a w:=by
 unfold wpOp at *
 unfold mvAt at hm
 cases ho:ops[j]? with
 | none=>rw [ho] at hm; cases hm
 | some o =>
  rw [ho] at h hm
  simp only at h hm ⊢
  split
  ·rename_i hw
   rw [if_pos hw] at h
   rcases h with h | h
   ·left
    unfold Oper.wp at *
    have hr:(∃v,(execOp a.eval o).run P w=.ok (.value v) w)∨∃x,(execOp a.eval o).run P w=.halt x w:=by
     obtain ⟨dst,op,ty,pos,after,guard⟩:=o
     cases op with
     | move x=>exact .inl ⟨_,rfl⟩
     | assign x=>exact .inl ⟨_,rfl⟩
     | pick c x y =>
      simp only [execOp]
      cases hc:a.eval c with
      | bool b=>exact .inl ⟨_,rfl⟩
      | _=>exact .inr ⟨_,rfl⟩
     | _=>cases hm
    rcases hr with ⟨v,hr⟩ | ⟨x,hr⟩
    ·rw [hr] at h ⊢
     exact ⟨by first | rfl | trivial,h⟩
    ·rw [hr] at h ⊢
     cases x <;> exact h
   ·exact .inr h
  ·rename_i hw
   rw [if_neg hw] at h
   exact ⟨by first | rfl | trivial,h⟩
def wpAnyD (P:Program) (ops:Array Oper) (Q:Exit→Act→World→Prop) (bs A:List Nat) (w1:World):Nat→Array Bool→Act→World→Prop
 | 0,la,a,w=>Region.ready .any ops la=[]∧Q .normal a w
 | f+1,la,a,w=>(Region.ready .any ops la=[]→Q .normal a w) ∧
  ∀i∈Region.ready .any ops la,wpOp P ops Q i (fun a' w'=>(demO ops A bs i=true→agree w1 w')∧wpAnyD P ops Q bs A w1 f (la.setIfInBounds i true) a' w') a w
variable {ops:Array Oper} {Q:Exit→Act→World→Prop} {bs A:List Nat} {w1:World}
theorem zjv:∀(f:Nat) (la:Array Bool) (a:Act) (w:World),wpAnyD P ops Q bs A w1 f la a w→wpAny P .any ops Q f la a w
 | 0,_,_,_,h=>h
 | f+1,_,_,_,h=>⟨h.1,fun i hi=>wpOp_mono (fun a' w' h'=>zjv f _ a' w' h'.2) (h.2 i hi)⟩
theorem zn3 {i:Nat} {oi:Oper} {v:Value} (hi:ops[i]? = some oi) (hA:A.contains i=true) (hc:closedOk ops.toList bs=true) (hsel:∀(j:Nat) (o:Oper) cs b,ops[j]? = some o→o.op≠.select cs b)
  (hQ:∀c a w,¬Q (.panic c) a w) :
  ∀(fuel:Nat) (la:Array Bool) (a:Act) (w:World),JC ops bs la →
   (∀j oj,ops[j]? = some oj→j≠i→la.getD j true=false→(∀e∈oj.after,Region.binds .any e=true→e.on≠i)→oi.apart ops oj=true) →
   i∈Region.ready .any ops la→YieldsIf P ops (agree w1) oi v a→agree w1 w →
   wpAnyD P ops Q bs A w1 fuel (la.setIfInBounds i true) (a.put oi.dst v) w→wpAnyD P ops Q bs A w1 (fuel+1) la a w:=by
 intro fuel
 induction fuel with
 | zero =>
  intro la a w hJ _ hr hy hS H
  refine ⟨fun h=>(by rw [h] at hr; cases hr),fun j hj=>?_⟩
  by_cases hji:j=i
  ·subst hji; exact hy.wpOp hi hS ⟨fun _=>hS,H⟩
  ·have:=ready_mono hj hji
   rw [H.1] at this
   cases this
 | succ fuel ih =>
  intro la a w hJ hfree hr hy hS H
  refine ⟨fun h=>(by rw [h] at hr; cases hr),fun j hj=>?_⟩
  by_cases hji:j=i
  ·subst hji; exact hy.wpOp hi hS ⟨fun _=>hS,H⟩
  ·have h1:=H.2 j (ready_mono hj hji)
   have r:=rdy_of hc hJ hj
   have ri:=rdy_of hc hJ hr
   have hd:dem A bs j=true:=by
    cases hq:dem A bs j with
    | true=>rfl
    | false =>
     exfalso
     unfold dem at hq
     have hq:(A.all fun i=>Nat.blt i j&&pre bs j i)=true:=by simpa using hq
     rw [List.all_eq_true] at hq
     have:=hq i (by simpa using hA)
     simp only [Bool.and_eq_true] at this
     exact ri.no (r.all i (blt_lt this.1) this.2)
   have h1:wpOp P ops Q j (fun a' w'=>agree w1 w'∧(demO ops A bs j=true→agree w1 w')∧wpAnyD P ops Q bs A w1 fuel ((la.setIfInBounds i true).setIfInBounds j true) a' w') (a.put oi.dst v) w:=by
    cases hm:mvAt ops j with
    | true=>exact wpOp_mono (fun a' w' hh=>⟨by rw [hh.1]; exact hS,hh.2⟩) (zrx hm h1)
    | false=>exact wpOp_mono (fun a' w' hh=>⟨hh.1 (by unfold demO; rw [hd,hm]; rfl),hh⟩) h1
   obtain ⟨hjun,oj,hoj,hall⟩:=mem_ready.1 hj
   have hnot:∀e∈oj.after,Region.binds .any e=true→e.on≠i:=fun e he hb heq=>by
    have h1:=hall e he hb
    have h0:=(mem_ready.1 hr).1
    rw [heq] at h1
    rcases Nat.lt_or_ge i la.size with h' | h'
    ·simp [h'] at h0 h1; rw [h0] at h1; cases h1
    ·simp [Array.getElem?_eq_none h'] at h1
   have h2:=wpOp_putIf hoj (hfree j oj hoj hji hjun hnot) (fun cs b=>hsel i oi cs b hi) (fun cs b=>hsel j oj cs b hoj) (fun c a w h=>absurd h (hQ c _ w)) hy h1
   have hfree':∀k ok,ops[k]? = some ok→k≠i→(la.setIfInBounds j true).getD k true=false →
     (∀e∈ok.after,Region.binds .any e=true→e.on≠i)→oi.apart ops ok=true:=fun k ok hk hki hun hno=>by
    refine hfree k ok hk hki ?_ hno
    by_cases hjk:j=k
    ·subst hjk; exact hjun
    ·rw [getD_set_ne true hjk] at hun; exact hun
   refine wpOp_mono (fun a' w' h3=>⟨fun _=>h3.2.1,ih (la.setIfInBounds j true) a' w' (hJ.next r) hfree' (ready_mono hr (Ne.symm hji)) h3.1 h3.2.1 ?_⟩) h2
   rw [Array.setIfInBounds_comm _ _ hji]
   exact h3.2.2.2
structure DC (P:Program) (H1:AH) (ls1:Lcs) (w1:World) (φ1:Inj) (cs1:List Nat):Prop where
 glob:Glob P φ1
 inv:Inv φ1 H1 w1
 loc:∀(i:Nat) c x,cs1[i]? = some c→ls1[i]? = some (some x)→∃rs,w1.heap[c]? = some (.cells rs x.1 (0,0))∧LR φ1 x.2 rs.toList
 len:cs1.length=ls1.length
structure Agr (m:Nat) (H1:AH) (w1:World) (cs1:List Nat) (φ:Inj) (w:World) (cs:List Nat):Prop where
 ag:agree w1 w
 jn:∀id l,Nat.max m H1.next≤id→φ id=some l→w1.heap.size≤l.blk
 nw:∀(i c:Nat),cs1.length≤i→cs[i]? = some c→w1.heap.size≤c
theorem zf8 {w1 w:World} (h:agree w1 w):w1.heap.size≤w.heap.size:=by
 rcases Nat.lt_or_ge w.heap.size w1.heap.size with hlt | h'
 ·have:=h w.heap.size hlt
  rw [Array.getElem?_eq_none (Nat.le_refl _),Array.getElem?_eq_getElem hlt] at this
  cases this
 ·exact h'
theorem Agr.start {φ:Inj} {H:AH} {w:World} {cs:List Nat} (hi:Inv φ H w):Agr m H w cs φ w cs :=
 ⟨agree.refl _,fun id l h1 h2=>by have:=(hi.dom id l h2).1; have:=Nat.le_max_right m H.next; have h1:max m H.next≤id:=h1; omega,fun i c h1 h2=>by rw [List.getElem?_eq_none h1] at h2; cases h2⟩
def KA (φ1:Inj) (cs1:List Nat) (knA:KN) (a:Act):Prop:=∀t kv,lkV knA t=some kv→KR φ1 cs1 kv (a.tmps.getD t undef)
def DA (P:Program) (ne:NE) (m:Nat) (E:Ent) (n:Nat) (ops:Array Oper) (bs A:List Nat) (H1:AH) (ls1:Lcs) (f:Nat) (la:Array Bool) (ag:Bool) (knA kn:KN) (ls:Lcs) (H:AH) (Q:Exit→Act→World→Prop):Prop :=
 ∀w1 φ1 cs1 a w φ cs,DC P H1 ls1 w1 φ1 cs1→φ1.le φ→SSφ P ne m E n kn ls H a w φ cs→KA φ1 cs1 knA a→(∀(i:Nat) (c:Nat),cs1[i]? = some c→cs[i]? = some c)→JC ops bs la→(ag=true→Agr m H1 w1 cs1 φ w cs)→wpAnyD P ops Q bs A w1 f la a w
def DAk (P:Program) (ne:NE) (m:Nat) (E:Ent) (n:Nat) (ops:Array Oper) (bs A:List Nat) (H1:AH) (ls1:Lcs) (k f:Nat) (la:Array Bool) (ag:Bool) (knA kn:KN) (ls:Lcs) (H:AH) (Q:Exit→Act→World→Prop):Prop :=
 ∀w1 φ1 cs1 a w φ cs,DC P H1 ls1 w1 φ1 cs1→φ1.le φ→SSφ P ne m E n kn ls H a w φ cs→KA φ1 cs1 knA a→(∀(i:Nat) (c:Nat),cs1[i]? = some c→cs[i]? = some c)→JC ops bs la→(ag=true→Agr m H1 w1 cs1 φ w cs) →
  wpOp P ops Q k (fun a' w'=>(demO ops A bs k=true→agree w1 w')∧wpAnyD P ops Q bs A w1 f (la.setIfInBounds k true) a' w') a w
section
variable {E:Ent} {knA kn:KN} {ls ls1:Lcs} {H H1:AH} {a:Act} {w:World} {φ φ1:Inj} {cs cs1:List Nat} {f k:Nat} {la:Array Bool} {ag:Bool}
theorem WS.drawn {c:Code} (ops:Array Oper) (A:List Nat) (hc:regOf c=some (ops,true)) (hB:closedOk ops.toList (befores ops.toList)=true) (h:DA P ne m E n ops (befores ops.toList) A H ls ops.size (Array.replicate ops.size false) true kn kn ls H Q):WS P ne m E n c kn ls H Q:=by
 cases c with
 | region id ops' d =>
  simp only [regOf,Option.some.injEq,Prod.mk.injEq] at hc
  obtain ⟨rfl,rfl⟩:=hc
  intro a w hs
  obtain ⟨φ,cs,hs⟩:=hs
  refine wp_region_any hs.sane.mixed ?_
  have hs':SSφ P ne m E n kn ls H a { w with drawn:=w.drawn+1 } φ cs :=
   ⟨hs.glob,⟨hs.inv.dom,hs.inv.obj,hs.inv.sep⟩,⟨hs.step.le,hs.step.ext,hs.step.new,hs.step.alv,hs.step.size,hs.step.keep,hs.step.os,hs.step.tape,hs.step.output⟩,hs.len,fun i c x h1 h2=>⟨(hs.loc i c x h1 h2).1,(hs.loc i c x h1 h2).2,(hs.loc i c x h1 h2).3⟩,hs.inj,hs.low,hs.slot,hs.size,hs.defers,hs.sane,hs.inv0⟩
  exact zjv _ _ _ _ (h _ φ cs a _ φ cs ⟨hs'.glob,hs'.inv,fun i c x h1 h2=>(hs'.loc i c x h1 h2).2,hs'.len⟩ (Inj.le_refl φ) hs' (fun t kv hl=>hs'.slot t kv hl) (fun _ _ hc=>hc) ⟨by simp,fun i j hh=>by
   unfold LL at hh
   rw [Array.getD_eq_getD_getElem?,Array.getElem?_replicate] at hh
   split at hh <;> cases hh⟩ (fun _=>.start hs'.inv))
 | _=>cases hc
theorem DA.done (hr:readyIs ops la []=true) (h:∀a w,SS P ne m E n kn ls H a w→Q .normal a w):DA P ne m E n ops bs A H1 ls1 f la ag knA kn ls H Q:=by
 intro w1 φ1 cs1 a w φ cs _ _ hs _ _ _ _
 have hr:=z34 hr
 cases f with
 | zero=>exact ⟨hr,h a w ⟨φ,cs,hs⟩⟩
 | succ f=>exact ⟨fun _=>h a w ⟨φ,cs,hs⟩,by rw [hr]; simp⟩
theorem KA.put (h:KA φ1 cs1 knA a) {n:Nat} (hsz:n≤a.tmps.size) {d:Option Nat} (hd:(match d with | some a=>Nat.blt a n | none=>true)=true) {kv:KV} {v':Value} (hv:KR φ1 cs1 kv v'):KA φ1 cs1 (putV knA d kv) (a.put d v'):=by
 cases d with
 | none=>exact h
 | some d =>
  have hlt:d<a.tmps.size:=Nat.lt_of_lt_of_le (blt_lt hd) hsz
  intro t kv' hl
  simp only [putV,lkV] at hl
  simp only [Act.put]
  rw [Array.getD_eq_getD_getElem?,Array.getElem?_setIfInBounds]
  cases hb:Nat.beq d t with
  | true =>
   rw [hb] at hl
   have:=Nat.eq_of_beq_eq_true hb
   subst this
   cases hl
   rw [if_pos rfl,if_pos hlt]
   exact hv
  | false =>
   rw [hb] at hl
   rw [if_neg (Nat.ne_of_beq_eq_false hb),← Array.getD_eq_getD_getElem?]
   exact h t kv' hl
def dropV (d:Option Nat) (knA:KN):KN:=match d with
 | some d=>knA.filter fun p=>!(Nat.beq p.1 d)
 | none=>knA
theorem zs4 {d:Nat}:∀{kn:KN} {t:Nat} {kv:KV},lkV (kn.filter fun p=>!(Nat.beq p.1 d)) t=some kv→t≠d∧lkV kn t=some kv:=by
 intro kn
 induction kn with
 | nil=>intro t kv h; cases h
 | cons p l ih =>
  obtain ⟨s,v⟩:=p
  intro t kv h
  rw [List.filter_cons] at h
  cases hq:Nat.beq s d with
  | true =>
   rw [hq] at h
   obtain ⟨h1,h2⟩:=ih (by simpa using h)
   refine ⟨h1,?_⟩
   simp only [lkV]
   have e:=Nat.eq_of_beq_eq_true hq
   cases hs:Nat.beq s t with
   | true=>exact absurd ((Nat.eq_of_beq_eq_true hs).symm.trans e) h1
   | false=>exact h2
  | false =>
   rw [hq] at h
   simp only [Bool.not_false,if_true,lkV] at h
   simp only [lkV]
   cases hs:Nat.beq s t with
   | true =>
    rw [hs] at h
    have e:=Nat.eq_of_beq_eq_true hs
    subst e
    exact ⟨Nat.ne_of_beq_eq_false hq,h⟩
   | false=>rw [hs] at h; exact ih h
theorem KA.drop (h:KA φ1 cs1 knA a) (d:Option Nat) (v':Value):KA φ1 cs1 (dropV d knA) (a.put d v'):=by
 cases d with
 | none=>exact h
 | some d =>
  intro t kv hl
  obtain ⟨h1,h2⟩:=zs4 hl
  simp only [Act.put]
  rw [Array.getD_eq_getD_getElem?,Array.getElem?_setIfInBounds,if_neg (fun e=>h1 e.symm),← Array.getD_eq_getD_getElem?]
  exact h t kv h2
def takeB (P:Program) (n:Nat) (ops:Array Oper) (A:List Nat) (la:Array Bool) (k:Nat) (o:Oper):Bool :=
 A.contains k&&Region.noSelect ops&&Region.free .any ops la k&&(Region.ready .any ops la).contains k&&dstV n o
theorem evalA_ (h:KA φ1 cs1 knA a) (hg:Glob P φ1) {x:Operand} (hk:knownV knA x=true) (hx:okx P x=true):VR φ1 (evV knA x) (a.eval x):=by
 cases x with
 | tmp t =>
  simp only [knownV] at hk
  simp only [evV]
  cases hl:lkV knA t with
  | none=>rw [hl] at hk; cases hk
  | some kv =>
   cases kv with
   | val v=>exact h t _ hl
   | loc i off=>rw [hl] at hk; cases hk
   | sli i n=>rw [hl] at hk; cases hk
 | const v=>exact zl depth hx
 | global g =>
  have hlt:g<P.globals.size:=blt_lt hx
  obtain ⟨l,h1,h2,h3⟩:=hg g hlt
  have:=VR.ptr (φ:=φ1) g 0 l h1
  rw [h2,h3] at this
  exact this
 | func f=>exact .func (.func f) #[] #[] #[] #[] rfl rfl (fun i x y hx=>by simp at hx) (fun i x y hx=>by simp at hx)
theorem zgw (ho:ops[k]? = some (opAt ops k)) (hB:takeB P n ops A la k (opAt ops k)=true) (hc:closedOk ops.toList bs=true) (hQ:∀c a w,¬Q (.panic c) a w) {kv:KV} {w1:World}
  (hd:DC P H1 ls1 w1 φ1 cs1) (hle:φ1.le φ) (hs:SSφ P ne m E n kn ls H a w φ cs) (hka:KA φ1 cs1 knA a) (hpf:∀(i:Nat) (c:Nat),cs1[i]? = some c→cs[i]? = some c) (hJ:JC ops bs la) (hag:Agr m H1 w1 cs1 φ w cs) {v':Value} (hkr:KR φ1 cs1 kv v') (hkr2:KR φ cs kv v') (hy:YieldsIf P ops (agree w1) (opAt ops k) v' a)
  (h:DA P ne m E n ops bs A H1 ls1 f (la.setIfInBounds k true) true (putV knA (opAt ops k).dst kv) (putV kn (opAt ops k).dst kv) ls H Q):wpAnyD P ops Q bs A w1 (f+1) la a w:=by
 unfold takeB at hB
 simp only [Bool.and_eq_true] at hB
 obtain ⟨⟨⟨⟨b1,b2⟩,b3⟩,b4⟩,b5⟩:=hB
 have hr:k∈Region.ready .any ops la:=by simpa using b4
 refine zn3 ho b1 hc (Region.noSelect_spec b2) hQ f la a w hJ (Region.free_spec ho b3) hr hy hag.ag ?_
 exact h w1 φ1 cs1 _ w φ cs hd hle (hs.put b5 hkr2) (hka.put hs.size b5 hkr) hpf (hJ.next (rdy_of hc hJ hr)) (fun _=>hag)
theorem DA.take {v:Value} (ho:ops[k]? = some (opAt ops k)) (hB:takeB P n ops A la k (opAt ops k)=true) (hc:closedOk ops.toList bs=true) (hQ:∀c a w,¬Q (.panic c) a w)
  (hw:(wantV ops kn (opAt ops k),(opAt ops k).op.operands.all (okx P),(opAt ops k).op.operands.all (knownV knA))=(some true,true,true)) (hv:detOp P H1 (opAt ops k) (evV knA)=some v)
  (h:DA P ne m E n ops bs A H1 ls1 f (la.setIfInBounds k true) true (putV knA (opAt ops k).dst (.val v)) (putV kn (opAt ops k).dst (.val v)) ls H Q):DA P ne m E n ops bs A H1 ls1 (f+1) la true knA kn ls H Q:=by
 intro w1 φ1 cs1 a w φ cs hd hle hs hka hpf hJ hag
 simp only [Prod.mk.injEq] at hw
 obtain ⟨hw1,hw2,hw3⟩:=hw
 rw [Array.all_eq_true_iff_forall_mem] at hw2 hw3
 obtain ⟨v',h1,h2⟩:=zre (ρ':=a.eval) hd.inv (fun x hx=>evalA_ hka hd.glob (hw3 x hx) (hw2 x hx)) hv
 exact zgw ho hB hc hQ hd hle hs hka hpf hJ (hag rfl) (kv:=.val v) h1 (h1.mono hle) (.inl ⟨z22 hs hw1,h2⟩) h
theorem DA.tskip (ho:ops[k]? = some (opAt ops k)) (hB:takeB P n ops A la k (opAt ops k)=true) (hc:closedOk ops.toList bs=true) (hQ:∀c a w,¬Q (.panic c) a w) (hw:wantV ops kn (opAt ops k)=some false)
  (h:DA P ne m E n ops bs A H1 ls1 f (la.setIfInBounds k true) true (putV knA (opAt ops k).dst (.val undef)) (putV kn (opAt ops k).dst (.val undef)) ls H Q):DA P ne m E n ops bs A H1 ls1 (f+1) la true knA kn ls H Q:=by
 intro w1 φ1 cs1 a w φ cs hd hle hs hka hpf hJ hag
 exact zgw ho hB hc hQ hd hle hs hka hpf hJ (hag rfl) (kv:=.val undef) (v':=undef) (z2h _) (z2h _) (.inr ⟨z22 hs hw,rfl⟩) h
def locDet (P:Program) (knA:KN) (ls1:Lcs) (o:Oper):Option KV :=
 match o.op with
 | .move _ | .assign _ | .nilCheck _ | .fieldAddr .. | .load ..=>(locOp P knA ls1 o).map (·.1)
 | _=>none
theorem zlh {o:Oper} {kv:KV} (h:locDet P knA ls1 o=some kv) (hd:DC P H1 ls1 w1 φ1 cs1) (hka:KA φ1 cs1 knA a):∃v',KR φ1 cs1 kv v'∧∀w,agree w1 w→(execOp a.eval o).run P w=.ok (.value v') w:=by
 unfold locDet at h
 have hl:∃ls',locOp P knA ls1 o=some (kv,ls'):=by
  split at h
  all_goals first | (cases hq:locOp P knA ls1 o with | none=>rw [hq] at h; cases h | some p=>obtain ⟨x,y⟩:=p; rw [hq] at h; simp only [Option.map_some,Option.some.injEq] at h; subst h; exact ⟨y,rfl⟩) | cases h
 obtain ⟨ls',hl⟩:=hl
 obtain ⟨dst,op,ty,pos,after,guard⟩:=o
 unfold locOp at hl
 simp only at hl h
 split at hl
 ·rename_i t
  split at hl
  ·rename_i i off hk
   simp only [Option.some.injEq,Prod.mk.injEq] at hl
   obtain ⟨rfl,rfl⟩:=hl
   exact ⟨a.tmps.getD t undef,hka t _ hk,fun w _=>rfl⟩
  ·cases hl
 ·rename_i t
  split at hl
  ·rename_i i off hk
   simp only [Option.some.injEq,Prod.mk.injEq] at hl
   obtain ⟨rfl,rfl⟩:=hl
   exact ⟨a.tmps.getD t undef,hka t _ hk,fun w _=>rfl⟩
  ·cases hl
 ·rename_i t
  split at hl
  ·rename_i i off hk
   simp only [Option.some.injEq,Prod.mk.injEq] at hl
   obtain ⟨rfl,rfl⟩:=hl
   refine ⟨a.tmps.getD t undef,hka t _ hk,fun w _=>?_⟩
   obtain ⟨c,h1,h2⟩:=hka t _ hk
   have:a.eval (.tmp t)=.pointer (some ⟨c,off,none⟩):=h2
   simp only [execOp,this]
   rw [h2]; rfl
  ·cases hl
 ·rename_i s t f
  split at hl
  ·rename_i i off fs hk hu
   cases hf:fs[f]? with
   | none=>rw [hf] at hl; cases hl
   | some fd =>
    rw [hf] at hl
    simp only at hl
    cases hi:P.info? fd.type with
    | none=>rw [hi] at hl; cases hl
    | some inf =>
     rw [hi] at hl
     simp only at hl
     cases hz:Nat.beq inf.size 0 with
     | true=>rw [hz] at hl; cases hl
     | false =>
      rw [hz] at hl
      simp only [cond_false,Option.some.injEq,Prod.mk.injEq] at hl
      obtain ⟨rfl,rfl⟩:=hl
      obtain ⟨c,h1,h2⟩:=hka t _ hk
      have he:a.eval (.tmp t)=.pointer (some ⟨c,off,none⟩):=h2
      refine ⟨.pointer (some ⟨c,off+fd.offset,none⟩),⟨c,h1,rfl⟩,fun w _=>?_⟩
      have hne:=Nat.ne_of_beq_eq_false hz
      have hrun:(Instr.fieldAt s (.pointer (some ⟨c,off,none⟩)) f).run P w=.ok (.pointer (some ⟨c,off+fd.offset,none⟩)) w:=by
       simp only [Instr.fieldAt,Sem.run_bind,z8 hu,Result.andThen_ok,hf,Instr.sureAddr,Sem.run_pure,fieldPlace,z14 hi]
       rw [if_neg hne]
       simp only [Sem.run_pure,Result.andThen_ok,Addr.add_lit]
      simp only [execOp,he,Sem.run_bind,hrun,Result.andThen_ok]
      rfl
  ·cases hl
 ·rename_i t x
  split at hl
  ·rename_i i off d inf hk hu hi
   split at hl
   ·rename_i e cells hc
    obtain ⟨c,h1,h2⟩:=hka x _ hk
    obtain ⟨rs,g2,g3⟩:=hd.loc i c _ h1 hc
    have he:a.eval (.tmp x)=.pointer (some ⟨c,off,none⟩):=h2
    have hlen:=LR.length g3
    simp only at hlen g3
    have hlt:c<w1.heap.size:=by rw [Array.getElem?_eq_some_iff] at g2; exact g2.1
    have hagg:∀w,(isAgg t).run P w=.ok (isAggD d) w:=by
     intro w
     simp only [isAgg,Sem.run_bind,z8 hu,Result.andThen_ok]
     cases d <;> rfl
    have hex:∀w v,(loadVar t ⟨c,off,none⟩).run P w=.ok v w→(execOp a.eval ⟨dst,.load t (.tmp x),ty,pos,after,guard⟩).run P w=.ok (.value v) w:=by
     intro w v hr
     simp only [execOp,he,Instr.loadAt,Instr.sureAddr,Sem.run_bind,Sem.run_pure,Result.andThen_ok,hr]
    have hcell:∀w,agree w1 w→∀(j:Nat) u,rs[off+j]? = some u→w.cell? ((⟨c,off,none⟩:Addr).add j)=some u:=by
     intro w hag j u hu
     rw [Addr.add_lit]
     simp [World.cell?,hag c hlt,g2,hu]
    cases hda:isAggD d with
    | true =>
     rw [hda] at hl
     simp only [cond_true] at hl
     cases hb:Nat.ble (off+inf.size) cells.length with
     | false=>rw [hb] at hl; cases hl
     | true =>
      rw [hb] at hl
      simp only [cond_true,Option.some.injEq,Prod.mk.injEq] at hl
      obtain ⟨rfl,rfl⟩:=hl
      have hble:=Nat.le_of_ble_eq_true hb
      have hls:((rs.toList.drop off).take inf.size).length=inf.size:=by simp at hlen ⊢; omega
      refine ⟨.agg ((rs.toList.drop off).take inf.size).toArray,?_,fun w hag=>hex w _ ?_⟩
      ·have hpw:AR φ1 ((cells.drop off).take inf.size).toArray ((rs.toList.drop off).take inf.size).toArray:=by
        refine ⟨by simp at hlen ⊢; omega,fun j u v hu hv=>?_⟩
        have hA:=AR_iff.2 (show LR φ1 cells.toArray.toList rs.toList by simpa using g3)
        rw [List.getElem?_toArray,List.getElem?_take] at hu hv
        split at hu
        ·rename_i hj
         rw [if_pos hj,List.getElem?_drop] at hv
         rw [List.getElem?_drop] at hu
         exact hA.2 (off+j) u v (by simpa using hu) (by simpa using hv)
        ·cases hu
       exact .agg _ _ hpw.1 hpw.2
      ·have hrun:=run_loadCells_list (P:=P) w ⟨c,off,none⟩ ((rs.toList.drop off).take inf.size) (fun j u hu=>by
        rw [List.getElem?_take] at hu
        split at hu
        ·rw [List.getElem?_drop] at hu
         exact hcell w hag j u (by simpa using hu)
        ·cases hu)
       rw [hls] at hrun
       simp only [loadVar,Sem.run_bind,hagg w,Result.andThen_ok,hda,if_true,z14 hi,hrun,Sem.run_pure]
    | false =>
     rw [hda] at hl
     simp only [cond_false] at hl
     cases hv:cells[off]? with
     | none=>rw [hv] at hl; cases hl
     | some v =>
      rw [hv] at hl
      simp only [Option.some.injEq,Prod.mk.injEq] at hl
      obtain ⟨rfl,rfl⟩:=hl
      have hA:=AR_iff.2 (show LR φ1 cells.toArray.toList rs.toList by simpa using g3)
      obtain ⟨v',hv',hvr⟩:=hA.get (show cells.toArray[off]? = some v by simpa using hv)
      refine ⟨v',hvr,fun w hag=>hex w _ ?_⟩
      have h0:=hcell w hag 0 v' (by simpa using hv')
      have e0:(⟨c,off,none⟩:Addr).add 0=⟨c,off,none⟩:=rfl
      rw [e0] at h0
      simp only [loadVar,Sem.run_bind,hagg w,hda,Result.andThen_ok,Bool.false_eq_true,if_false]
      simp [h0]
   ·cases hl
  ·cases hl
 all_goals first | (simp only [reduceCtorEq] at h; done) | (cases hl; done)
theorem KR.pfx {kv:KV} {v':Value} (hle:φ1.le φ) (hpf:∀(i:Nat) (c:Nat),cs1[i]? = some c→cs[i]? = some c) (h:KR φ1 cs1 kv v'):KR φ cs kv v':=by
 cases kv with
 | val v=>exact VR.mono hle h
 | loc i off =>
  obtain ⟨c,h1,h2⟩:=h
  exact ⟨c,hpf i c h1,h2⟩
 | sli i n =>
  obtain ⟨⟨c,h1,h2⟩,h3⟩:=h
  exact ⟨⟨c,hpf i c h1,h2⟩,h3⟩
theorem DA.takeL {kv:KV} (ho:ops[k]? = some (opAt ops k)) (hB:takeB P n ops A la k (opAt ops k)=true) (hc:closedOk ops.toList bs=true) (hQ:∀c a w,¬Q (.panic c) a w) (hw:wantV ops kn (opAt ops k)=some true) (hv:locDet P knA ls1 (opAt ops k)=some kv)
  (h:DA P ne m E n ops bs A H1 ls1 f (la.setIfInBounds k true) true (putV knA (opAt ops k).dst kv) (putV kn (opAt ops k).dst kv) ls H Q):DA P ne m E n ops bs A H1 ls1 (f+1) la true knA kn ls H Q:=by
 intro w1 φ1 cs1 a w φ cs hd hle hs hka hpf hJ hag
 obtain ⟨v',h1,h2⟩:=zlh hv hd hka
 exact zgw ho hB hc hQ hd hle hs hka hpf hJ (hag rfl) (kv:=kv) h1 (h1.pfx hle hpf) (.inl ⟨z22 hs hw,h2⟩) h
theorem zrb {m2:Nat} {g:Nat} {args:Array Value} {v:Value} {H':AH} {o:Oper} (hs:SSφ P ne m E n kn ls H a w φ cs) (hx:o.op.operands.all (okx P)=true) (hkn:o.op.operands.all (knownV kn)=true) (hc:callV kn o=some (g,args)) (hr:CallS P ne m2 g args H v H')
  {K:Act→World→Prop} (hn:∀φ' v' w',VR φ' v v'→Inv φ' H' w'→Step m2 φ H w φ' H' w'→K (a.put o.dst v') w'):o.wp P a w K Q:=by
 rw [Array.all_eq_true_iff_forall_mem] at hkn hx
 have hev:∀x∈o.op.operands,VR φ (evV kn x) (a.eval x):=fun x hxm=>hs.eval (hkn x hxm) (hx x hxm)
 obtain ⟨⟨fn,c,hf,hb⟩,hr⟩:=hr hs.sane
 obtain ⟨dst,op,ty,pos,after,guard⟩:=o
 unfold callV at hc
 simp only at hc hev hn
 split at hc
 ·rename_i g args0 ts
  have hgv:=hev g (by simp [Op.operands,Call.operands])
  have hargs:AR φ (args0.map (evV kn)) (args0.map a.eval):=ar_map args0 fun x hx=>hev x (by simp [Op.operands,Call.operands,hx])
  split at hc
  ·rename_i f0 first cap hge
   simp only [Option.some.injEq,Prod.mk.injEq] at hc
   obtain ⟨rfl,rfl⟩:=hc
   rw [hge] at hgv
   generalize hq:a.eval g=q at hgv
   cases hgv with
   | func fn' f1 g1 f1' g1' hf1 hg1 i1 i2 =>
    have hall:AR φ (first++args0.map (evV kn)++cap) (f1'++args0.map a.eval++g1'):=((AR.append ⟨hf1,i1⟩ hargs).append ⟨hg1,i2⟩)
    show Oper.upon P _ a K Q _
    have hex:execOp a.eval { dst:=dst,op:=.call { callee:=.value g,args:=args0,argTypes:=ts },type:=ty,pos:=pos,after:=after,guard:=guard }=callFunc f0 (f1'++args0.map a.eval++g1'):=by
     simp only [execOp,resolve,hq]; rfl
    rw [hex,z23 hs.sane hf hb]
    exact z5e (hr φ w _ hs.glob hall hs.inv) hn
  ·cases hc
 ·cases hc
theorem agree.trans' {w1 w w':World} (h1:agree w1 w) (h2:agree w w'):agree w1 w':=fun c hc=>by
 have hlt:c<w.heap.size:=by
  have:=h1 c hc
  rw [Array.getElem?_eq_getElem hc] at this
  rw [Array.getElem?_eq_some_iff] at this
  exact this.1
 rw [h2 c hlt,h1 c hc]
theorem zf3 (ho:ops[k]? = some (opAt ops k)) {w1:World} (hs:SSφ P ne m E n kn ls H a w φ cs) (hw:wantV ops kn (opAt ops k)=some true)
  (h:∀K:Act→World→Prop,(∀a' w',(demO ops A bs k=true→agree w1 w')∧wpAnyD P ops Q bs A w1 f (la.setIfInBounds k true) a' w'→K a' w')→(opAt ops k).wp P a w K Q) :
  wpOp P ops Q k (fun a' w'=>(demO ops A bs k=true→agree w1 w')∧wpAnyD P ops Q bs A w1 f (la.setIfInBounds k true) a' w') a w:=by
 unfold wpOp
 rw [ho]
 simp only [z22 hs hw,if_true]
 left
 exact h _ fun a' w' hh=>hh
theorem zi7 (hr:(Region.ready .any ops la).contains k=true) (hc:closedOk ops.toList bs=true) (hJ:JC ops bs la):JC ops bs (la.setIfInBounds k true) :=
 hJ.next (rdy_of hc hJ (by simpa using hr))
theorem DA.one (k:Nat) (hr:readyIs ops la [k]=true) (h:DAk P ne m E n ops bs A H1 ls1 k f la ag knA kn ls H Q):DA P ne m E n ops bs A H1 ls1 (f+1) la ag knA kn ls H Q:=by
 intro w1 φ1 cs1 a w φ cs q1 q2 q3 q4 q5 q6 q7
 have hr:=z34 hr
 refine ⟨fun h0=>(by rw [hr] at h0; cases h0),fun i hi=>?_⟩
 rw [hr] at hi
 simp only [List.mem_cons,List.not_mem_nil,or_false] at hi
 subst hi
 exact h w1 φ1 cs1 a w φ cs q1 q2 q3 q4 q5 q6 q7
theorem DA.two (k k2:Nat) (hr:readyIs ops la [k,k2]=true) (h:DAk P ne m E n ops bs A H1 ls1 k f la ag knA kn ls H Q) (h2:DAk P ne m E n ops bs A H1 ls1 k2 f la ag knA kn ls H Q):DA P ne m E n ops bs A H1 ls1 (f+1) la ag knA kn ls H Q:=by
 intro w1 φ1 cs1 a w φ cs q1 q2 q3 q4 q5 q6 q7
 have hr:=z34 hr
 refine ⟨fun h0=>(by rw [hr] at h0; cases h0),fun i hi=>?_⟩
 rw [hr] at hi
 simp only [List.mem_cons,List.not_mem_nil,or_false] at hi
 rcases hi with rfl | rfl
 ·exact h w1 φ1 cs1 a w φ cs q1 q2 q3 q4 q5 q6 q7
 ·exact h2 w1 φ1 cs1 a w φ cs q1 q2 q3 q4 q5 q6 q7
theorem DA.three (k k2 k3:Nat) (hr:readyIs ops la [k,k2,k3]=true) (h:DAk P ne m E n ops bs A H1 ls1 k f la ag knA kn ls H Q) (h2:DAk P ne m E n ops bs A H1 ls1 k2 f la ag knA kn ls H Q) (h3:DAk P ne m E n ops bs A H1 ls1 k3 f la ag knA kn ls H Q):DA P ne m E n ops bs A H1 ls1 (f+1) la ag knA kn ls H Q:=by
 intro w1 φ1 cs1 a w φ cs q1 q2 q3 q4 q5 q6 q7
 have hr:=z34 hr
 refine ⟨fun h0=>(by rw [hr] at h0; cases h0),fun i hi=>?_⟩
 rw [hr] at hi
 simp only [List.mem_cons,List.not_mem_nil,or_false] at hi
 rcases hi with rfl | rfl | rfl
 ·exact h w1 φ1 cs1 a w φ cs q1 q2 q3 q4 q5 q6 q7
 ·exact h2 w1 φ1 cs1 a w φ cs q1 q2 q3 q4 q5 q6 q7
 ·exact h3 w1 φ1 cs1 a w φ cs q1 q2 q3 q4 q5 q6 q7
theorem znz {w2:World} {A':List Nat} (hA:∀i,la.getD i true=false→demO ops A bs i=true→demO ops A' bs i=true∧agree w1 w2):∀(f:Nat) {la:Array Bool} {a:Act} {w:World},(∀i,la.getD i true=false→demO ops A bs i=true→demO ops A' bs i=true∧agree w1 w2)→wpAnyD P ops Q bs A' w2 f la a w→wpAnyD P ops Q bs A w1 f la a w:=by
 intro f
 induction f with
 | zero=>intro la a w _ h; exact h
 | succ f ih =>
  intro la a w hA h
  refine ⟨h.1,fun i hi=>wpOp_mono (fun a' w' hh=>⟨fun hd=>?_,ih (fun j hj hd=>hA j ?_ hd) hh.2⟩) (h.2 i hi)⟩
  ·have hun:la.getD i true=false:=by
    have h0:=(mem_ready.1 hi).1
    have hlt:i<la.size:=by
     rcases Nat.lt_or_ge i la.size with h' | h'
     ·exact h'
     ·simp [Array.getElem?_eq_none h'] at h0
    simpa [hlt] using h0
   obtain ⟨q1,q2⟩:=hA i hun hd
   exact q2.trans' (hh.1 q1)
  ·by_cases e:i=j
   ·subst e
    rcases Nat.lt_or_ge i la.size with h' | h'
    ·simp [h'] at hj
    ·have:(la.setIfInBounds i true)=la:=by rw [Array.setIfInBounds]; simp [Nat.not_lt.2 h']
     rw [this] at hj; exact hj
   ·rwa [getD_set_ne true e] at hj
def restB (ops:Array Oper) (A A' bs:List Nat) (la:Array Bool) (ag:Bool):Bool :=
 (List.range la.size).all fun i=>la.getD i true||!demO ops A bs i||(ag&&demO ops A' bs i)
theorem DA.restart (A':List Nat) (hA:restB ops A A' bs la ag=true) (h:DA P ne m E n ops bs A' H ls f la true kn kn ls H Q):DA P ne m E n ops bs A H1 ls1 f la ag knA kn ls H Q:=by
 intro w1 φ1 cs1 a w φ cs q1 q2 q3 q4 q5 q6 q7
 have hw:=h w φ cs a w φ cs ⟨q3.glob,q3.inv,fun i c x h1 h2=>(q3.loc i c x h1 h2).2,q3.len⟩ (Inj.le_refl φ) q3 (fun t kv hl=>q3.slot t kv hl) (fun _ _ hc=>hc) q6 (fun _=>.start q3.inv)
 have hh:∀i,la.getD i true=false→demO ops A bs i=true→demO ops A' bs i=true∧agree w1 w:=by
  intro i hi hd
  unfold restB at hA
  rw [List.all_eq_true] at hA
  have hlt:i<la.size:=by
   rcases Nat.lt_or_ge i la.size with h' | h'
   ·exact h'
   ·simp [Array.getElem?_eq_none h'] at hi
  have:=hA i (by simpa using hlt)
  rw [hi,hd] at this
  simp only [Bool.not_true,Bool.or_false,Bool.false_or,Bool.and_eq_true] at this
  exact ⟨this.2,(q7 this.1).ag⟩
 exact znz hh f hh hw
theorem DA.actL {kv:KV} {ls':Lcs} (ag':Bool) (ho:ops[k]? = some (opAt ops k)) (hr:(Region.ready .any ops la).contains k=true) (hc:closedOk ops.toList bs=true) (hw:wantV ops kn (opAt ops k)=some true) (hd:dstV n (opAt ops k)=true) (hl:locOp P kn ls (opAt ops k)=some (kv,ls'))
  (ha:((!demO ops A bs k||(ag&&notStore (opAt ops k)))&&(!ag'||(ag&&notStore (opAt ops k))))=true)
  (h:DA P ne m E n ops bs A H1 ls1 f (la.setIfInBounds k true) ag' (dropV (opAt ops k).dst knA) (putV kn (opAt ops k).dst kv) ls' H Q):DAk P ne m E n ops bs A H1 ls1 k f la ag knA kn ls H Q:=by
 intro w1 φ1 cs1 a w φ cs hd1 hle hs hka hpf hJ hag
 refine zf3 ho hs hw fun K hK=>?_
 refine znn hs hl hd fun v' w' cs' hs' hpf' hnw' hag'=>hK _ _ ?_
 have hkeep:(ag&&notStore (opAt ops k))=true→Agr m H1 w1 cs1 φ w' cs':=fun hh=>by
  rw [Bool.and_eq_true] at hh
  obtain ⟨h1,h2,h3⟩:=hag hh.1
  refine ⟨h1.trans' (hag' hh.2),h2,fun i c hi hc=>?_⟩
  rcases Nat.lt_or_ge i cs.length with hlt | hge
  ·rw [hpf' i cs[i] (List.getElem?_eq_getElem hlt)] at hc
   cases hc
   exact h3 i _ hi (List.getElem?_eq_getElem hlt)
  ·exact Nat.le_trans (zf8 h1) (hnw' i c hge hc)
 rw [Bool.and_eq_true] at ha
 refine ⟨fun hdm=>(hkeep (by have:=ha.1; rw [hdm] at this; simpa using this)).ag,h w1 φ1 cs1 _ _ φ cs' hd1 hle hs' (hka.drop _ _) (fun i c hc=>hpf' i c (hpf i c hc)) (zi7 hr hc hJ) fun hag2=>hkeep (by have:=ha.2; rw [hag2] at this; simpa using this)⟩
theorem zlm {φ φ':Inj} {H H':AH} {w w':World} {m m2:Nat} (hm:m≤m2) (h:Step m2 φ H w φ' H' w'):Step m φ H w φ' H' w' :=
 ⟨h.le,h.ext,fun id l h1 h2=>⟨(h.new id l h1 h2).1,(h.new id l h1 h2).2.imp (fun q=>q) fun ⟨id0,l0,q1,q2⟩=>⟨id0,l0,Nat.le_trans hm q1,q2⟩⟩,h.alv,h.size,fun c hc hno=>h.keep c hc fun id l hid=>hno id l (Nat.le_trans hm hid),h.os,h.tape,h.output⟩
theorem Agr.step {w1:World} {φ':Inj} {H':AH} {w':World} {m2:Nat} (h:Agr m H1 w1 cs1 φ w cs) (hi:Inv φ H w) (hm:m≤m2) (hm2:H.next≤m2∨H1.next≤m2) (hst:Step m2 φ H w φ' H' w'):Agr m H1 w1 cs1 φ' w' cs:=by
 have hsz:=zf8 h.ag
 have key:∀id l,m2≤id→φ id=some l→w1.heap.size≤l.blk:=fun id l h1 h2=>by
  rcases hm2 with h3 | h3
  ·have:=(hi.dom id l h2).1; omega
  ·exact h.jn id l (Nat.max_le.2 ⟨by omega,by omega⟩) h2
 refine ⟨fun c hc=>?_,fun id l h1 h2=>?_,h.nw⟩
 ·rw [hst.keep c (Nat.lt_of_lt_of_le hc hsz) fun id l hid _ hl e=>by have:=key id l hid hl; omega]
  exact h.ag c hc
 ·cases hq:φ id with
  | some l0 =>
   have:=hst.ext _ _ hq
   rw [h2] at this; cases this
   exact h.jn id l h1 hq
  | none =>
   rcases (hst.new id l h2 hq).2 with h3 | ⟨id0,l0,h3,_,h4,h5⟩
   ·omega
   ·rw [← h5]; exact key id0 l0 h3 h4
theorem DA.actH (m2:Nat) (ag':Bool) {v:Value} {H':AH} (ho:ops[k]? = some (opAt ops k)) (hr:(Region.ready .any ops la).contains k=true) (hc:closedOk ops.toList bs=true) (hB:opV P n ops kn (opAt ops k)=true) (hv:runOp P (NE.plain 0) ih0 m2 (opAt ops k) (evV kn) H=some (v,H')) (hn:noCall (opAt ops k)=true)
  (hm:m≤m2) (hm2:(demO ops A bs k||ag')=true→H.next≤m2∨H1.next≤m2) (ha:((!demO ops A bs k||ag)&&(!ag'||ag))=true)
  (h:DA P ne m E n ops bs A H1 ls1 f (la.setIfInBounds k true) ag' (dropV (opAt ops k).dst knA) (putV kn (opAt ops k).dst (.val v)) ls H' Q):DAk P ne m E n ops bs A H1 ls1 k f la ag knA kn ls H Q:=by
 intro w1 φ1 cs1 a w φ cs hd1 hle hs hka hpf hJ hag
 unfold opV at hB
 simp only [Bool.and_eq_true] at hB
 obtain ⟨⟨⟨hg,hx⟩,hkn⟩,hd⟩:=hB
 rw [Array.all_eq_true_iff_forall_mem] at hkn hx
 have hw:wantV ops kn (opAt ops k)=some true:=by
  split at hg
  ·assumption
  ·cases hg
 refine zf3 ho hs hw fun K hK=>?_
 have hr':runOp P ne ih0 m2 (opAt ops k) (evV kn) H=some (v,H'):=by
  rw [← hv]
  generalize opAt ops k=o at hn
  obtain ⟨dst,op,ty,pos,after,guard⟩:=o
  unfold runOp
  cases op with
  | call c =>
   obtain ⟨callee,args,ts⟩:=c
   cases callee with
   | value g=>cases hn
   | _=>rfl
  | _=>rfl
 refine z6s hs.sane zjk hr' hs.glob (fun x hxm=>hs.eval (hkn x hxm) (hx x hxm)) hs.inv fun φ' v' w' h1 h2 h3=>?_
 have hkeep:(demO ops A bs k||ag')=true→ag=true→Agr m H1 w1 cs1 φ' w' cs:=fun hh hag2=>(hag hag2).step hs.inv hm (hm2 hh) h3
 rw [Bool.and_eq_true] at ha
 refine hK _ _ ⟨fun hdm=>(hkeep (by rw [hdm]; rfl) (by have:=ha.1; rw [hdm] at this; simpa using this)).ag,h w1 φ1 cs1 _ _ φ' cs hd1 (fun id l hl=>h3.ext _ _ (hle _ _ hl)) ((hs.heap h2 (zlm hm h3)).put hd h1) (hka.drop _ _) hpf (zi7 hr hc hJ) fun hag2=>hkeep (by rw [hag2,Bool.or_true]) (by have:=ha.2; rw [hag2] at this; simpa using this)⟩
theorem DA.actC (m2:Nat) (ag':Bool) {v:Value} {H':AH} (g:Nat) (args:Array Value) (ho:ops[k]? = some (opAt ops k)) (hr:(Region.ready .any ops la).contains k=true) (hc:closedOk ops.toList bs=true) (hB:opV P n ops kn (opAt ops k)=true) (hcl:callV kn (opAt ops k)=some (g,args)) (hcs:CallS P ne m2 g args H v H')
  (hm:m≤m2) (hm2:(demO ops A bs k||ag')=true→H.next≤m2∨H1.next≤m2) (ha:((!demO ops A bs k||ag)&&(!ag'||ag))=true)
  (h:DA P ne m E n ops bs A H1 ls1 f (la.setIfInBounds k true) ag' (dropV (opAt ops k).dst knA) (putV kn (opAt ops k).dst (.val v)) ls H' Q):DAk P ne m E n ops bs A H1 ls1 k f la ag knA kn ls H Q:=by
 intro w1 φ1 cs1 a w φ cs hd1 hle hs hka hpf hJ hag
 unfold opV at hB
 simp only [Bool.and_eq_true] at hB
 obtain ⟨⟨⟨hg,hx⟩,hkn⟩,hd⟩:=hB
 have hw:wantV ops kn (opAt ops k)=some true:=by
  split at hg
  ·assumption
  ·cases hg
 refine zf3 ho hs hw fun K hK=>?_
 refine zrb hs hx hkn hcl hcs fun φ' v' w' h1 h2 h3=>?_
 have hkeep:(demO ops A bs k||ag')=true→ag=true→Agr m H1 w1 cs1 φ' w' cs:=fun hh hag2=>(hag hag2).step hs.inv hm (hm2 hh) h3
 rw [Bool.and_eq_true] at ha
 refine hK _ _ ⟨fun hdm=>(hkeep (by rw [hdm]; rfl) (by have:=ha.1; rw [hdm] at this; simpa using this)).ag,h w1 φ1 cs1 _ _ φ' cs hd1 (fun id l hl=>h3.ext _ _ (hle _ _ hl)) ((hs.heap h2 (zlm hm h3)).put hd h1) (hka.drop _ _) hpf (zi7 hr hc hJ) fun hag2=>hkeep (by rw [hag2,Bool.or_true]) (by have:=ha.2; rw [hag2] at this; simpa using this)⟩
theorem DA.fix (t:Nat) {b:Bool} (d:Bool) (hb:b=d) (hl:lkV kn t=some (.val (.bool b))) (h:DA P ne m E n ops bs A H1 ls1 f la ag ((t,.val (.bool d)) :: knA) ((t,.val (.bool d)) :: kn) ls H Q):DA P ne m E n ops bs A H1 ls1 f la ag knA kn ls H Q:=by
 subst hb
 intro w1 φ1 cs1 a w φ cs hd1 hle hs hka hpf hJ hag
 have hv:VR φ (.bool b) (a.tmps.getD t undef):=hs.slot t _ hl
 have hv1:VR φ1 (.bool b) (a.tmps.getD t undef):=by
  generalize a.tmps.getD t undef=u at hv
  cases hv; exact .bool b
 refine h w1 φ1 cs1 a w φ cs hd1 hle ⟨hs.glob,hs.inv,hs.step,hs.len,hs.loc,hs.inj,hs.low,fun s kv hh=>?_,hs.size,hs.defers,hs.sane,hs.inv0⟩ (fun s kv hh=>?_) hpf hJ hag
 ·simp only [lkV] at hh
  cases hq:Nat.beq t s with
  | true =>
   rw [hq] at hh
   have:=Nat.eq_of_beq_eq_true hq
   subst this
   cases hh
   exact hv
  | false=>rw [hq] at hh; exact hs.slot s kv hh
 ·simp only [lkV] at hh
  cases hq:Nat.beq t s with
  | true =>
   rw [hq] at hh
   have:=Nat.eq_of_beq_eq_true hq
   subst this
   cases hh
   exact hv1
  | false=>rw [hq] at hh; exact hka s kv hh
end
end Go.Abs
namespace Go.Abs
structure LC where
 run:{S R:Type}→(S→Option (Lp S R))→S→Option (S⊕R)
 fuel:Nat
 ok:∀{S R:Type} {body:S→Option (Lp S R)} {s:S} {o:S⊕R},run body s=some o→loopO body s=some o
def LCn (k j:Nat):LC:=⟨fun b s=>iterO b k s,j,fun h=>zh6.2 ⟨k,h⟩⟩
variable {P:Program} {ne:NE} {m:Nat} {ih:Ex} {ρ:Operand→Value} {o:Oper} {H H':AH}
theorem det_load {t:TypeId} {x:Operand} {a:Addr} {v:Value} (hop:o.op=.load t x) (hu:(P.underlying t).map isAggD=some false) (hi:(P.info? t).isSome=true) (hx:ρ x=.pointer (some a)) (h:H.cell a=some v):detOp P H o ρ=some v:=by
 obtain ⟨dst,op,ty,pos,after,guard⟩:=o
 simp only at hop
 subst hop
 obtain ⟨i,hi⟩:=Option.isSome_iff_exists.1 hi
 cases hd:P.underlying t with
 | none=>rw [hd] at hu; cases hu
 | some d =>
  rw [hd] at hu
  simp only [Option.map_some,Option.some.injEq] at hu
  simp only [detOp,tPure,hx,aLoad,hd,hi,hu,cond_false,h]
theorem det_loadA {t:TypeId} {x:Operand} {a:Addr} {l:List Value} {k:Nat} (hop:o.op=.load t x) (hu:(P.underlying t).map isAggD=some true) (hi:(P.info? t).map (·.size)=some k) (hx:ρ x=.pointer (some a)) (h:rdCells H a 0 k=some l):detOp P H o ρ=some (.agg l.toArray):=by
 obtain ⟨dst,op,ty,pos,after,guard⟩:=o
 simp only at hop
 subst hop
 cases hie:P.info? t with
 | none=>rw [hie] at hi; cases hi
 | some i =>
  rw [hie] at hi
  simp only [Option.map_some,Option.some.injEq] at hi
  subst hi
  cases hd:P.underlying t with
  | none=>rw [hd] at hu; cases hu
  | some d =>
   rw [hd] at hu
   simp only [Option.map_some,Option.some.injEq] at hu
   simp only [detOp,tPure,hx,aLoad,hd,hie,hu,cond_true,h]
theorem det_idx {t e:TypeId} {x y:Operand} {sz:Nat} {s:Sl3} {k:IntKind} {i:Int} {a:Addr} (hop:o.op=.indexAddr t x y) (hu:P.underlying t=some (.slice e)) (hi:(P.info? e).map (·.size)=some sz)
  (hx:ρ x=s.v) (hy:ρ y=.int k i) (h:idxA sz s i=some a):detOp P H o ρ=some (.pointer (some a)):=by
 obtain ⟨dst,op,ty,pos,after,guard⟩:=o
 simp only at hop
 subst hop
 obtain ⟨p,l,c⟩:=s
 cases hie:P.info? e with
 | none=>rw [hie] at hi; cases hi
 | some inf =>
  rw [hie] at hi
  simp only [Option.map_some,Option.some.injEq] at hi
  subst hi
  unfold idxA at h
  cases p with
  | none=>cases h
  | some b =>
   simp only at h
   split at h
   ·rename_i hb
    simp only [Option.some.injEq] at h
    subst h
    obtain ⟨j,rfl⟩:∃j:Nat,i=(j:Int):=⟨i.toNat,by omega⟩
    have hlt:Nat.blt j l=true:=Nat.ble_eq_true_of_le (by omega)
    have hp:tPure P ⟨dst,.indexAddr t x y,ty,pos,after,guard⟩ ρ=some (.pointer (some (b.add (j*inf.size)))):=by
     simp only [tPure,hu,hx,hy,Sl3.v,hie]
     show (match (Value.int k (Int.ofNat j)) with | .int _ (.ofNat i)=>_ | _=>none)=_
     simp only [hlt,cond_true]
    simp only [detOp,hp]
    simp
   ·cases h
theorem zpe {t:TypeId} {x:Operand} {a:Addr} {l:List Value} {k:Nat} (hop:o.op=.load t x) (hu:(P.underlying t).map isAggD=some true) (hi:(P.info? t).map (·.size)=some k) (hx:ρ x=.pointer (some a)) (h:rdCells H a 0 k=some l):runOp P ne ih m o ρ H=some (.agg l.toArray,H):=by
 obtain ⟨dst,op,ty,pos,after,guard⟩:=o
 simp only at hop
 subst hop
 cases hie:P.info? t with
 | none=>rw [hie] at hi; cases hi
 | some i =>
  rw [hie] at hi
  simp only [Option.map_some,Option.some.injEq] at hi
  subst hi
  cases hd:P.underlying t with
  | none=>rw [hd] at hu; cases hu
  | some d =>
   rw [hd] at hu
   simp only [Option.map_some,Option.some.injEq] at hu
   simp only [runOp,aOp,execOp,hx,bind]
   have hS:arun P m (Instr.loadAt t (.pointer (some a))) H=some (.agg l.toArray,H):=by
    unfold Instr.loadAt Go.loadVar Go.isAgg
    have hl:=zhn (P:=P) (m:=m) a i.size 0 #[] H
    rw [h] at hl
    simp only [Instr.sureAddr,Go.underlying,Go.program,Go.sizeOf,Go.typeInfo,bind,Pure.pure,Sem.bind,arun,hd]
    cases d <;> first | (simp only [isAggD] at hu; cases hu; done) | (simp only [Sem.bind,arun,if_true,hie,Go.loadCells]; rw [zk,hl]; simp [arun])
   rw [zk,hS]
   rfl
theorem run_storeA {t:TypeId} {x y:Operand} {a:Addr} {v:Value} (hop:o.op=.store t x y) (hu:(P.info? t).map (·.size)=some v.cells.size) (hx:ρ x=.pointer (some a)) (hy:ρ y=v) {l:List Value} (hl:v.cells.toList=l) (h:wrCells m a 0 l H=some H'):runOp P ne ih m o ρ H=some (undef,H'):=by
 subst hl
 exact zgv hop hu hx hy h
def idxR (sz n:Nat) (a:Addr) (i:Int):Option Addr:=if 0≤i∧i<n then some (a.add (i.toNat*sz)) else none
theorem run_idxR {t e:TypeId} {x y:Operand} {sz n:Nat} {a a':Addr} {k:IntKind} {i:Int} (hop:o.op=.indexAddr t x y) (hu:P.underlying t=some (.array n e)) (hi:(P.info? e).map (·.size)=some sz)
  (hx:ρ x=.pointer (some a)) (hy:ρ y=.int k i) (h:idxR sz n a i=some a'):runOp P ne ih m o ρ H=some (.pointer (some a'),H):=by
 obtain ⟨dst,op,ty,pos,after,guard⟩:=o
 simp only at hop
 subst hop
 cases hie:P.info? e with
 | none=>rw [hie] at hi; cases hi
 | some inf =>
  rw [hie] at hi
  simp only [Option.map_some,Option.some.injEq] at hi
  subst hi
  unfold idxR at h
  split at h
  ·rename_i hb
   simp only [Option.some.injEq] at h
   subst h
   simp only [runOp,aOp,execOp,hx,hy]
   have hS:arun P m (Instr.indexAt t (.pointer (some a)) (.int k i)) H=some (.pointer (some (a.add (i.toNat*inf.size))),H):=by
    unfold Instr.indexAt
    simp only [asIntOf,Go.underlying,Go.sizeOf,Go.typeInfo,Go.program,bind,Pure.pure,Sem.bind,arun,hu,hie,Instr.sureAddr]
    rw [if_pos hb]
    simp only [Sem.bind,arun,hie]
   simp only [bind]
   rw [zk,hS]
   rfl
  ·cases h
def mapB:Blk:={ obj:=.map #[] 0,opn:=false,esz:=0,ro:=false }
def lkM {α:Type} (P:Program) (t:TypeId) (de:Value→Option α) (H:AH) (m:Option Nat) (k:Value):Option (α×Bool) :=
 match aLookup P t (.map m) k true H with
 | some (.tuple cs)=>match cs.toList with
  | [x,.bool b]=>(de x).map (·,b)
  | _=>none
 | _=>none
def lk1 {α:Type} (P:Program) (t:TypeId) (de:Value→Option α) (H:AH) (m:Option Nat) (k:Value):Option α:=(aLookup P t (.map m) k false H).bind de
theorem lkM_eq {α:Type} {t:TypeId} {de:Value→Option α} {mm:Option Nat} {k:Value} {x:α} {b:Bool} {v:Value} (h:lkM P t de H mm k=some (x,b)) (hv:∀u,de u=some x→u=v):aLookup P t (.map mm) k true H=some (.tuple #[v,.bool b]):=by
 unfold lkM at h
 split at h
 ·rename_i cs hc
  split at h
  ·rename_i y c hl
   cases hd:de y with
   | none=>rw [hd] at h; cases h
   | some z =>
    rw [hd] at h
    simp only [Option.map_some,Option.some.injEq,Prod.mk.injEq] at h
    obtain ⟨rfl,rfl⟩:=h
    rw [hc,← hv y hd,z8v hl]
  ·cases h
 ·cases h
theorem lk1_eq {α:Type} {t:TypeId} {de:Value→Option α} {mm:Option Nat} {k:Value} {x:α} {v:Value} (h:lk1 P t de H mm k=some x) (hv:∀u,de u=some x→u=v):aLookup P t (.map mm) k false H=some v:=by
 obtain ⟨u,h1,h2⟩:=bind_some h
 rw [h1,hv u h2]
theorem run_look {t:TypeId} {x y:Operand} {ok:Bool} {mm:Option Nat} {k v:Value} (hop:o.op=.lookup t x y ok) (hx:ρ x=.map mm) (hy:ρ y=k) (hf:flat depth k=true) (h:aLookup P t (.map mm) k ok H=some v):runOp P ne ih m o ρ H=some (v,H):=by
 obtain ⟨dst,op,ty,pos,after,guard⟩:=o
 simp only at hop
 subst hop
 simp only [runOp,aOp,hx,hy,hf,cond_true,h]
theorem det_look {t:TypeId} {x y:Operand} {ok:Bool} {mm:Option Nat} {k v:Value} (hop:o.op=.lookup t x y ok) (hx:ρ x=.map mm) (hy:ρ y=k) (hf:flat depth k=true) (h:aLookup P t (.map mm) k ok H=some v):detOp P H o ρ=some v:=by
 obtain ⟨dst,op,ty,pos,after,guard⟩:=o
 simp only at hop
 subst hop
 simp only [detOp,tPure,hx,hy,hf,cond_true,h]
def upM (P:Program) (m:Nat) (t:TypeId) (H:AH) (mm:Option Nat) (k v:Value):Option AH :=
 match aUpdate P m t (.map mm) k v H with
 | some (.tuple cs,H')=>if cs.size=0 then some H' else none
 | _=>none
theorem run_upM {t:TypeId} {x y z:Operand} {mm:Option Nat} {k v:Value} (hop:o.op=.mapUpdate t x y z) (hx:ρ x=.map mm) (hy:ρ y=k) (hz:ρ z=v) (hf:flat depth k=true) (h:upM P m t H mm k v=some H'):runOp P ne ih m o ρ H=some (undef,H'):=by
 obtain ⟨dst,op,ty,pos,after,guard⟩:=o
 simp only at hop
 subst hop
 unfold upM at h
 split at h
 ·rename_i cs H1 hu
  split at h
  ·rename_i hs
   simp only [Option.some.injEq] at h
   subst h
   have e:cs=#[]:=Array.eq_empty_of_size_eq_zero hs
   subst e
   simp only [runOp,aOp,hx,hy,hz,hf,cond_true,hu]
   rfl
  ·cases h
 ·cases h
def deM:Value→Option (Option Nat)
 | .map r=>some r
 | _=>none
theorem z6z {x:Option Nat}:∀u,deM u=some x→u=.map x:=by
 intro u h
 cases u <;> simp only [deM] at h <;> cases h
 rfl
theorem z2 {a:Addr} {i k:Nat} {v:Value} {l:List Value} (h1:H.cell (a.add i)=some v) (h2:rdCells H a (i+1) k=some l):rdCells H a i (k+1)=some (v :: l):=by
 simp only [rdCells,h1,h2]
section
variable {E:Ent} {n:Nat} {kn:KN} {ls:Lcs} {ops:Array Oper} {k:Nat} {Q:Exit→Act→World→Prop}
end
end Go.Abs
namespace Go.Abs
variable {P:Program} {ne:NE} {m n:Nat}
variable {E:Ent} {kn knA:KN} {ls ls1:Lcs} {H H1 H':AH} {ops:Array Oper} {k:Nat} {Q:Exit→Act→World→Prop} {bs A:List Nat} {f:Nat} {la:Array Bool} {ag:Bool}
def newB (e:TypeId) (cells:List Value) (H:AH):Option (Addr×AH):=some (⟨H.next,0,none⟩,H.push (pubB e cells))
theorem run_newB {ih:Ex} {ρ:Operand→Value} {o:Oper} {e:TypeId} {cells:List Value} {p:Addr} (hr:runOp P ne ih m o ρ H=some (.pointer (some ⟨H.next,0,none⟩),H.push (pubB e cells))) (hx:newB e cells H=some (p,H')):runOp P ne ih m o ρ H=some (.pointer (some p),H'):=by
 cases hx
 exact hr
def newM (H:AH):Option (Nat×AH):=some (H.next,H.push mapB)
theorem run_newM {ih:Ex} {ρ:Operand→Value} {o:Oper} {p:Nat} (hr:runOp P ne ih m o ρ H=some (.map (some H.next),H.push mapB)) (hx:newM H=some (p,H')):runOp P ne ih m o ρ H=some (.map (some p),H'):=by
 cases hx
 exact hr
theorem RS.atD (d:Option Nat) (v:Value) (ho:ops[k]? = some (opAt ops k)) (hd:(opAt ops k).dst=d) (hB:(opV P n ops kn (opAt ops k)&&noCall (opAt ops k))=true) (hr:runOp P (NE.plain 0) ih0 m (opAt ops k) (evV kn) H=some (v,H'))
  (h:RS P ne m E n ops (k+1) (putV kn d (.val v)) ls H' Q):RS P ne m E n ops k kn ls H Q:=by
 subst hd
 exact RS.at v ho hB hr h
theorem RS.callD (d:Option Nat) {v:Value} (f:Nat) (args:Array Value) (ho:ops[k]? = some (opAt ops k)) (hd:(opAt ops k).dst=d) (hB:opV P n ops kn (opAt ops k)=true) (hc:callV kn (opAt ops k)=some (f,args)) (hr:CallS P ne m f args H v H')
  (h:RS P ne m E n ops (k+1) (putV kn d (.val v)) ls H' Q):RS P ne m E n ops k kn ls H Q:=by
 subst hd
 exact RS.call f args ho hB hc hr h
theorem WS.drawnX {c:Code} (ops:Array Oper) (A:List Nat) (bs:List Nat) (sz:Nat) (hc:regOf c=some (ops,true)) (hb:befores ops.toList=bs) (hs:ops.size=sz) (hB:closedOk ops.toList bs=true) (h:DA P ne m E n ops bs A H ls sz (Array.replicate sz false) true kn kn ls H Q):WS P ne m E n c kn ls H Q:=by
 subst hb hs
 exact WS.drawn ops A hc hB h
theorem DA.takeD (k:Nat) (d:Option Nat) (v:Value) (ho:ops[k]? = some (opAt ops k)) (hd:(opAt ops k).dst=d) (hB:takeB P n ops A la k (opAt ops k)=true) (hc:closedOk ops.toList bs=true) (hQ:∀c a w,¬Q (.panic c) a w)
  (hw:(wantV ops kn (opAt ops k),(opAt ops k).op.operands.all (okx P),(opAt ops k).op.operands.all (knownV knA))=(some true,true,true)) (hv:detOp P H1 (opAt ops k) (evV knA)=some v)
  (h:DA P ne m E n ops bs A H1 ls1 f (la.setIfInBounds k true) true (putV knA d (.val v)) (putV kn d (.val v)) ls H Q):DA P ne m E n ops bs A H1 ls1 (f+1) la true knA kn ls H Q:=by
 subst hd
 exact DA.take ho hB hc hQ hw hv h
theorem DA.tskipD (k:Nat) (d:Option Nat) (ho:ops[k]? = some (opAt ops k)) (hd:(opAt ops k).dst=d) (hB:takeB P n ops A la k (opAt ops k)=true) (hc:closedOk ops.toList bs=true) (hQ:∀c a w,¬Q (.panic c) a w) (hw:wantV ops kn (opAt ops k)=some false)
  (h:DA P ne m E n ops bs A H1 ls1 f (la.setIfInBounds k true) true (putV knA d (.val undef)) (putV kn d (.val undef)) ls H Q):DA P ne m E n ops bs A H1 ls1 (f+1) la true knA kn ls H Q:=by
 subst hd
 exact DA.tskip ho hB hc hQ hw h
theorem DA.takeLD (k:Nat) (d:Option Nat) (kv:KV) (ho:ops[k]? = some (opAt ops k)) (hd:(opAt ops k).dst=d) (hB:takeB P n ops A la k (opAt ops k)=true) (hc:closedOk ops.toList bs=true) (hQ:∀c a w,¬Q (.panic c) a w) (hw:wantV ops kn (opAt ops k)=some true) (hv:locDet P knA ls1 (opAt ops k)=some kv)
  (h:DA P ne m E n ops bs A H1 ls1 f (la.setIfInBounds k true) true (putV knA d kv) (putV kn d kv) ls H Q):DA P ne m E n ops bs A H1 ls1 (f+1) la true knA kn ls H Q:=by
 subst hd
 exact DA.takeL ho hB hc hQ hw hv h
theorem DA.actLD (k:Nat) (d:Option Nat) (kv:KV) (ls':Lcs) (ag':Bool) (ho:ops[k]? = some (opAt ops k)) (hdd:(opAt ops k).dst=d) (hr:(Region.ready .any ops la).contains k=true) (hc:closedOk ops.toList bs=true) (hw:wantV ops kn (opAt ops k)=some true) (hd:dstV n (opAt ops k)=true) (hl:locOp P kn ls (opAt ops k)=some (kv,ls'))
  (ha:((!demO ops A bs k||(ag&&notStore (opAt ops k)))&&(!ag'||(ag&&notStore (opAt ops k))))=true)
  (h:DA P ne m E n ops bs A H1 ls1 f (la.setIfInBounds k true) ag' (dropV d knA) (putV kn d kv) ls' H Q):DAk P ne m E n ops bs A H1 ls1 k f la ag knA kn ls H Q:=by
 subst hdd
 exact DA.actL ag' ho hr hc hw hd hl ha h
theorem DA.actHD (k:Nat) (d:Option Nat) (m2:Nat) (ag':Bool) (v:Value) (ho:ops[k]? = some (opAt ops k)) (hdd:(opAt ops k).dst=d) (hr:(Region.ready .any ops la).contains k=true) (hc:closedOk ops.toList bs=true) (hB:(opV P n ops kn (opAt ops k)&&noCall (opAt ops k))=true) (hv:runOp P (NE.plain 0) ih0 m2 (opAt ops k) (evV kn) H=some (v,H'))
  (hm:m≤m2) (hm2:(demO ops A bs k||ag')=true→H.next≤m2∨H1.next≤m2) (ha:((!demO ops A bs k||ag)&&(!ag'||ag))=true)
  (h:DA P ne m E n ops bs A H1 ls1 f (la.setIfInBounds k true) ag' (dropV d knA) (putV kn d (.val v)) ls H' Q):DAk P ne m E n ops bs A H1 ls1 k f la ag knA kn ls H Q:=by
 subst hdd
 rw [Bool.and_eq_true] at hB
 exact DA.actH m2 ag' ho hr hc hB.1 hv hB.2 hm hm2 ha h
theorem DA.actCD (k:Nat) (d:Option Nat) (m2:Nat) (ag':Bool) {v:Value} (g:Nat) (args:Array Value) (ho:ops[k]? = some (opAt ops k)) (hdd:(opAt ops k).dst=d) (hr:(Region.ready .any ops la).contains k=true) (hc:closedOk ops.toList bs=true) (hB:opV P n ops kn (opAt ops k)=true) (hcl:callV kn (opAt ops k)=some (g,args)) (hcs:CallS P ne m2 g args H v H')
  (hm:m≤m2) (hm2:(demO ops A bs k||ag')=true→H.next≤m2∨H1.next≤m2) (ha:((!demO ops A bs k||ag)&&(!ag'||ag))=true)
  (h:DA P ne m E n ops bs A H1 ls1 f (la.setIfInBounds k true) ag' (dropV d knA) (putV kn d (.val v)) ls H' Q):DAk P ne m E n ops bs A H1 ls1 k f la ag knA kn ls H Q:=by
 subst hdd
 exact DA.actC m2 ag' g args ho hr hc hB hcl hcs hm hm2 ha h
theorem zd {a:Addr} {i:Nat}:rdCells H a i 0=some []:=rfl
end Go.Abs
namespace Go.Abs
variable {P:Program} {ne:NE} {m n:Nat}
section
variable {E:Ent} {kn:KN} {ls:Lcs} {H:AH} {a:Act} {w:World} {φ:Inj} {cs:List Nat} {Q:Exit→Act→World→Prop}
def ldO (p:Nat) (t:TypeId):Oper:={ dst:=none,op:=.load t (.tmp p),type:=0,pos:=default,after:=#[],guard:=none }
def cellV (P:Program) (kn:KN) (ls:Lcs) (H:AH) (p:Nat) (t:TypeId):Option Value :=
 match lkV kn p with
 | some (.loc _ _)=>match locDet P kn ls (ldO p t) with
  | some (.val v)=>some v
  | _=>none
 | some (.val (.pointer (some q)))=>aLoad P t q H
 | _=>none
def resL (P:Program) (kn:KN) (ls:Lcs) (H:AH):List ResultVar→Option (List Value)
 | []=>some []
 | .tmp t :: l=>match lkV kn t,resL P kn ls H l with
  | some (.val u),some us=>some (u :: us)
  | _,_=>none
 | .cell p t :: l=>match cellV P kn ls H p t,resL P kn ls H l with
  | some u,some us=>some (u :: us)
  | _,_=>none
def resF (P:Program) (fn:Func) (kn:KN) (ls:Lcs) (H:AH):Option Value :=
 match resL P kn ls H fn.results.toList with
 | some [v]=>some v
 | some l=>some (.tuple l.toArray)
 | none=>none
def RT (P:Program) (ne:NE) (m:Nat) (E:Ent) (fn:Func) (v:Value) (H:AH) (a:Act) (w:World):Prop :=
 ∃n kn ls,SS P ne m E n kn ls H a w∧resF P fn kn ls H=some v
def retS (P:Program) (ne:NE) (m:Nat) (E:Ent) (fn:Func) (v:Value) (H:AH):Exit→Act→World→Prop
 | .normal,a,w | .ret,a,w=>RT P ne m E fn v H a w
 | _,_,_=>False
def argV:Nat→List Value→KN
 | _,[]=>[]
 | i,v :: l=>(i,.val v) :: argV (i+1) l
theorem zs8:∀(l:List Value) (i t:Nat) (kv:KV),lkV (argV i l) t=some kv→∃v,kv=.val v∧i≤t∧l[t - i]? = some v:=by
 intro l
 induction l with
 | nil=>intro i t kv h; cases h
 | cons v l ih =>
  intro i t kv h
  simp only [argV,lkV] at h
  cases hb:Nat.beq i t with
  | true =>
   rw [hb] at h
   have:=Nat.eq_of_beq_eq_true hb
   subst this
   cases h
   exact ⟨v,rfl,Nat.le_refl _,by simp⟩
  | false =>
   rw [hb] at h
   have hne:=Nat.ne_of_beq_eq_false hb
   obtain ⟨u,h1,h2,h3⟩:=ih _ _ _ h
   refine ⟨u,h1,by omega,?_⟩
   rw [show t - i=(t - (i+1))+1 by omega]
   simpa using h3
theorem zqr (hs:SSφ P ne m E n kn ls H a w φ cs) {p:Nat} {t:TypeId} {v:Value} (h:cellV P kn ls H p t=some v):∃v',(resV a.tmps (.cell p t)).run P w=.ok v' w∧VR φ v v':=by
 unfold cellV at h
 split at h
 ·rename_i i off hk
  split at h
  ·rename_i u hu
   simp only [Option.some.injEq] at h
   subst h
   obtain ⟨v',h1,h2⟩:=zlh hu (DC.mk hs.glob hs.inv (fun i c x h1 h2=>(hs.loc i c x h1 h2).2) hs.len) (fun t kv hl=>hs.slot t kv hl:KA φ cs kn a)
   refine ⟨v',?_,h1⟩
   have h3:=h2 w (agree.refl w)
   obtain ⟨c,_,hp⟩:=ze7 hs hk
   have he:a.eval (.tmp p)=.pointer (some ⟨c,off,none⟩):=hp
   simp only [ldO,execOp,he,Instr.loadAt,Instr.sureAddr,Sem.run_bind,Sem.run_pure,Result.andThen_ok] at h3
   simp only [resV,hp,asAddr,Sem.run_bind,Sem.run_pure,Result.andThen_ok]
   generalize (loadVar t ⟨c,off,none⟩).run P w=q at h3 ⊢
   cases q <;> simp [Result.andThen,Sem.run_pure] at h3
   obtain ⟨rfl,rfl⟩:=h3
   rfl
  ·cases h
 ·rename_i q hk
  have hp:=hs.slot p _ hk
  obtain ⟨q',hq2,hqa⟩:=VR.ptr_inv hp
  obtain ⟨v',h3,h4⟩:=zlk hs.inv h hqa
  refine ⟨v',?_,h4⟩
  simp only [resV,Sem.run_bind,hq2]
  exact h3
 ·cases h
theorem zqy (hs:SSφ P ne m E n kn ls H a w φ cs):∀{l:List ResultVar} {vs:List Value},resL P kn ls H l=some vs→∃vs',(l.mapM (resV a.tmps)).run P w=.ok vs' w∧LR φ vs vs':=by
 intro l
 induction l with
 | nil=>intro vs h; simp only [resL,Option.some.injEq] at h; subst h; exact ⟨[],rfl,.nil⟩
 | cons r l ih =>
  intro vs h
  cases r with
  | tmp t =>
   simp only [resL] at h
   split at h
   ·rename_i u us h1 h2
    simp only [Option.some.injEq] at h
    subst h
    obtain ⟨vs',h3,h4⟩:=ih h2
    refine ⟨a.tmps.getD t undef :: vs',?_,.cons (hs.slot t _ h1) h4⟩
    rw [List.mapM_cons]
    have hA:(resV a.tmps (.tmp t)).run P w=.ok (a.tmps.getD t undef) w:=rfl
    simp only [Sem.run_bind,hA,Sem.run_pure,Result.andThen_ok,h3]
   ·cases h
  | cell p t =>
   simp only [resL] at h
   split at h
   ·rename_i u us h1 h2
    simp only [Option.some.injEq] at h
    subst h
    obtain ⟨vs',h3,h4⟩:=ih h2
    obtain ⟨v',h5,h6⟩:=zqr hs h1
    refine ⟨v' :: vs',?_,.cons h6 h4⟩
    rw [List.mapM_cons]
    simp only [Sem.run_bind,h5,Sem.run_pure,Result.andThen_ok,h3]
   ·cases h
theorem CallS.mk {f:Nat} {fn:Func} {B:Code} {args:List Value} {H H':AH} {v:Value} (hf:P.funcs[f]? = some fn) (hb:fn.body=some B) (h:∀E:Ent,E.H=H→WS P ne m E fn.ntmps B (argV 0 args) [] H (retS P ne m E fn v H')):CallS P ne m f args.toArray H v H':=by
 intro hS
 refine ⟨⟨fn,B,hf,hb⟩,fun φ w args' hg ha hi=>?_⟩
 have hent:SS P ne m ⟨φ,H,w⟩ fn.ntmps (argV 0 args) [] H { tmps:=args'++Array.replicate (fn.ntmps - args'.size) undef,defers:=[] } w:=by
  refine ⟨φ,[],hg,hi,Step.refl _ _ _ _,rfl,fun i c x hc=>(by cases hc),fun i j c hc=>(by cases hc),fun i c hc=>(by cases hc),fun t kv hl=>?_,by simp; omega,rfl,hS,hi⟩
  obtain ⟨v,rfl,_,h2⟩:=zs8 _ _ _ _ hl
  rw [Nat.sub_zero] at h2
  have:args.toArray[t]? = some v:=by simpa using h2
  obtain ⟨y,hy,hv⟩:=ha.get this
  have hlt:t<args'.size:=by rw [Array.getElem?_eq_some_iff] at hy; exact hy.1
  show VR φ v _
  rw [Array.getD_eq_getD_getElem?,Array.getElem?_append,if_pos hlt,hy]
  exact hv
 have hw:=h ⟨φ,H,w⟩ rfl _ _ hent
 refine calls_of_wp hf hb (wp_mono hw fun e a w' hpost=>?_)
 have fin:RT P ne m ⟨φ,H,w⟩ fn v H' a w'→a.defers=[]∧∃v',(results fn a.tmps).run P w'=.ok v' w'∧(∃φ' v'',Ending.returned v'=.returned v''∧VR φ' v v''∧Inv φ' H' w'∧Step m φ H w φ' H' w'):=by
  rintro ⟨n,kn,ls,⟨φ',cs,hs⟩,hr⟩
  refine ⟨hs.defers,?_⟩
  have main:∃(vs vs':List Value),(fn.results.toList.mapM (resV a.tmps)).run P w'=.ok vs' w'∧LR φ' vs vs'∧v=(if h:vs.length=1 then vs[0]'(by omega) else .tuple vs.toArray):=by
   unfold resF at hr
   cases hl:resL P kn ls H' fn.results.toList with
   | none=>rw [hl] at hr; cases hr
   | some vs =>
    rw [hl] at hr
    obtain ⟨vs',h1,h2⟩:=zqy hs hl
    refine ⟨vs,vs',h1,h2,?_⟩
    split at hr
    ·rename_i u he
     cases he
     cases hr
     rfl
    ·rename_i l hne he
     cases he
     cases hr
     rw [dif_neg ?_]
     intro h1
     match vs,h1 with
     | [u],_=>exact hne u rfl
    ·cases hr
  obtain ⟨vs,vs',h1,h2,h3⟩:=main
  have hm:(fn.results.mapM (resV a.tmps)).run P w'=.ok vs'.toArray w':=by
   rw [Array.mapM_eq_mapM_toList]
   show Sem.run P (List.toArray <$> _) w'=_
   rw [Sem.run_map,h1]; rfl
  have hlen:=LR.length h2
  have hres:(results fn a.tmps).run P w'=.ok (if h:vs'.toArray.size=1 then vs'.toArray[0] else .tuple vs'.toArray) w':=by
   rw [zko,Sem.run_bind,hm,Result.andThen_ok]; rfl
  refine ⟨_,hres,φ',_,rfl,?_,hs.inv,hs.step⟩
  rw [h3]
  by_cases h1':vs.length=1
  ·rw [dif_pos h1',dif_pos (by simpa [← hlen] using h1')]
   cases h2 with
   | nil=>cases h1'
   | cons hv ht=>exact hv
  ·rw [dif_neg h1',dif_neg (by simpa [← hlen] using h1')]
   have:=AR_iff.2 (show LR φ' vs.toArray.toList vs'.toArray.toList by simpa using h2)
   exact .tuple _ _ this.1 this.2
 cases e with
 | normal=>exact fin hpost
 | ret=>exact fin hpost
 | _=>exact hpost.elim
theorem rtR {fn:Func} {v:Value} (h:RT P ne m E fn v H a w):retS P ne m E fn v H .ret a w:=h
theorem rtN {fn:Func} {v:Value} (h:RT P ne m E fn v H a w):retS P ne m E fn v H .normal a w:=h
theorem rtS {fn:Func} {v:Value} (hs:SS P ne m E n kn ls H a w) (h:resF P fn kn ls H=some v):RT P ne m E fn v H a w:=⟨n,kn,ls,hs,h⟩
theorem WS.toone {c:Code} (kn2:KN) (ls2:Lcs) (H2:AH) (h:WS P ne m E n c kn ls H (jnS P ne m E n kn2 ls2 H2 (fun _ _ _=>False))) (hN:∀a w,SS P ne m E n kn2 ls2 H2 a w→Q .normal a w):WS P ne m E n c kn ls H Q:=by
 refine fun a w hs=>wp_mono (h a w hs) fun e a w hq=>?_
 cases e with
 | normal=>exact hN a w hq
 | _=>exact hq.elim
end
end Go.Abs
namespace Go.Abs
variable {P:Program} {ne:NE} {m n:Nat}
def pureOp (P:Program) (o:Oper) (ρ:Operand→Value):Option Value :=
 match o.op with
 | .load ..=>none
 | .lookup ..=>none
 | _=>detOp P ⟨0,.nil⟩ o ρ
theorem zqf {φ:Inj} {o:Oper} {ρ ρ':Operand→Value} {v:Value} (hρ:∀x∈o.op.operands,VR φ (ρ x) (ρ' x)) (h:pureOp P o ρ=some v) :
  ∃v',VR φ v v'∧∀w,(execOp ρ' o).run P w=.ok (.value v') w:=by
 have hnl:(∀t x,o.op≠.load t x)∧(∀t x k ok,o.op≠.lookup t x k ok)∧detOp P ⟨0,.nil⟩ o ρ=some v:=by
  unfold pureOp at h
  split at h
  ·cases h
  ·cases h
  ·rename_i q1 q2; exact ⟨fun t x e=>q1 t x e,fun t x k ok e=>q2 t x k ok e,h⟩
 clear h
 obtain ⟨n1,n2,h⟩:=hnl
 unfold detOp at h
 cases ht:tPure P o ρ with
 | some u =>
  rw [ht] at h
  simp only [Option.some.injEq] at h
  subst h
  obtain ⟨v',h1,h2⟩:=zhs hρ ht
  exact ⟨v',h1,h2⟩
 | none =>
  rw [ht] at h
  simp only at h
  have fl:(match flatRun P o ρ ⟨0,.nil⟩ with | some (v,_)=>some v | none=>none)=some v→(∀w,∀nx,(execOp ρ' o).run P w=.ok nx w→nx≠.skip)→∃v',VR φ v v'∧∀w,(execOp ρ' o).run P w=.ok (.value v') w:=by
   intro h hns
   cases hf:flatRun P o ρ ⟨0,.nil⟩ with
   | none=>rw [hf] at h; cases h
   | some p =>
    obtain ⟨u,H'⟩:=p
    rw [hf] at h
    simp only [Option.some.injEq] at h
    subst h
    obtain ⟨v',h1,h2⟩:=zmr hρ hf hns
    exact ⟨v',h1,h2⟩
  obtain ⟨dst,op,ty,pos,after,guard⟩:=o
  simp only at h hρ n1 n2
  split at h
  ·exact (n1 _ _ rfl).elim
  ·exact (n2 _ _ _ _ rfl).elim
  ·rename_i x i
   have hx:=hρ x (by simp [Op.operands])
   split at h
   ·rename_i cs hc
    rw [hc] at hx
    generalize hq:ρ' x=q at hx
    cases hx with
    | tuple f f' hf h1 =>
     have hlt:i<f'.size:=by
      rw [Array.getElem?_eq_some_iff] at h
      obtain ⟨h,_⟩:=h
      omega
     refine ⟨f'[i],h1 i _ _ h (by simp [hlt]),fun w=>?_⟩
     have hrun:(Instr.extract (.tuple f') i).run P w=.ok f'[i] w:=by
      simp only [Instr.extract]
      simp [hlt]
     simp only [execOp,hq,Sem.run_bind,hrun,Result.andThen_ok]
     rfl
   ·cases h
  ·rename_i args ts
   split at h
   ·rename_i e b k c hu hl
    simp only [Option.some.injEq] at h
    subst h
    have hargs:AR φ (args.map ρ) (args.map ρ'):=ar_map args fun x hx=>hρ x (by simp [Op.operands,Call.operands,hx])
    obtain ⟨_,x',hx',hv⟩:=ar_one hargs hl
    obtain ⟨b',c',rfl⟩:=z73 hv
    refine ⟨goInt k,.int _ _,fun w=>?_⟩
    cases hts:ts[0]? with
    | none=>rw [hts] at hu; cases hu
    | some t =>
     rw [hts] at hu
     have hu:P.underlying t=some (.slice e):=hu
     have hrun:(Builtin.len_ ts ty (args.map ρ')).run P w=.ok (goInt k) w:=by
      rw [hx']
      simp [Builtin.len_,hts,z8 hu]
     show (do pure (Next.value (← Builtin.len_ ts ty (args.map ρ'))):Sem Next).run P w=_
     rw [Sem.run_bind,hrun]; rfl
   ·exact fl h fun w nx hr=>z15 (s:=Builtin.len_ ts ty (args.map ρ')) hr
  ·rename_i bo t x y u
   exact fl h fun w nx hr=>z15 (s:=(do eqGuard bo t x y (ρ' x) (ρ' y); binOp bo t (ρ' x) (ρ' y))) hr
  ·rename_i uo t x
   exact fl h fun w nx hr=>z15 (s:=Op.unary uo (ρ' x)) hr
  ·rename_i t ps
   exact fl h fun w nx hr=>z15 (s:=Instr.build t (ps.map fun (i,x)=>(i,ρ' x))) hr
  ·rename_i c x y
   exact fl h fun w nx hr=>by
    simp only [execOp,Sem.run_bind] at hr
    cases hb:(asBool (ρ' c)).run P w with
    | ok b w' =>
     rw [hb] at hr
     have:Result.ok (Next.value (if b then ρ' x else ρ' y)) w'=Result.ok nx w:=hr
     simp only [Result.ok.injEq] at this
     rw [← this.1]; intro e; cases e
    | halt z w'=>rw [hb] at hr; cases hr
  ·rename_i t x f
   exact fl h fun w nx hr=>z15 (s:=Instr.field t (ρ' x) f) hr
  ·rename_i t x y
   exact fl h fun w nx hr=>z15 (s:=Instr.index t (ρ' x) (ρ' y)) hr
  ·rename_i s d x
   split at h
   ·exact fl h fun w nx hr=>z15 (s:=convert s d (ρ' x)) hr
   ·exact fl h fun w nx hr=>z15 (s:=convert s d (ρ' x)) hr
   ·cases h
  ·cases h
variable {ops:Array Oper} {Q:Exit→Act→World→Prop} {bs A:List Nat} {w1:World}
theorem zai {i:Nat} {oi:Oper} {v:Value} (hi:ops[i]? = some oi) (hc:closedOk ops.toList bs=true) (hsel:∀(j:Nat) (o:Oper) cs b,ops[j]? = some o→o.op≠.select cs b)
  (hQ:∀c a w,¬Q (.panic c) a w) :
  ∀(fuel:Nat) (la:Array Bool) (a:Act) (w:World),JC ops bs la →
   (∀j oj,ops[j]? = some oj→j≠i→la.getD j true=false→(∀e∈oj.after,Region.binds .any e=true→e.on≠i)→oi.apart ops oj=true) →
   i∈Region.ready .any ops la→YieldsIf P ops (fun _=>True) oi v a→demO ops A bs i=false →
   wpAnyD P ops Q bs A w1 fuel (la.setIfInBounds i true) (a.put oi.dst v) w→wpAnyD P ops Q bs A w1 (fuel+1) la a w:=by
 intro fuel
 induction fuel with
 | zero =>
  intro la a w hJ _ hr hy hS H
  refine ⟨fun h=>(by rw [h] at hr; cases hr),fun j hj=>?_⟩
  by_cases hji:j=i
  ·subst hji; exact hy.wpOp hi trivial ⟨fun hh=>(by rw [hS] at hh; cases hh),H⟩
  ·have:=ready_mono hj hji
   rw [H.1] at this
   cases this
 | succ fuel ih =>
  intro la a w hJ hfree hr hy hS H
  refine ⟨fun h=>(by rw [h] at hr; cases hr),fun j hj=>?_⟩
  by_cases hji:j=i
  ·subst hji; exact hy.wpOp hi trivial ⟨fun hh=>(by rw [hS] at hh; cases hh),H⟩
  ·have h1:=H.2 j (ready_mono hj hji)
   have r:=rdy_of hc hJ hj
   have ri:=rdy_of hc hJ hr
   obtain ⟨hjun,oj,hoj,hall⟩:=mem_ready.1 hj
   have hnot:∀e∈oj.after,Region.binds .any e=true→e.on≠i:=fun e he hb heq=>by
    have h1:=hall e he hb
    have h0:=(mem_ready.1 hr).1
    rw [heq] at h1
    rcases Nat.lt_or_ge i la.size with h' | h'
    ·simp [h'] at h0 h1; rw [h0] at h1; cases h1
    ·simp [Array.getElem?_eq_none h'] at h1
   have h2:=wpOp_putIf hoj (hfree j oj hoj hji hjun hnot) (fun cs b=>hsel i oi cs b hi) (fun cs b=>hsel j oj cs b hoj) (fun c a w h=>absurd h (hQ c _ w)) hy h1
   have hfree':∀k ok,ops[k]? = some ok→k≠i→(la.setIfInBounds j true).getD k true=false →
     (∀e∈ok.after,Region.binds .any e=true→e.on≠i)→oi.apart ops ok=true:=fun k ok hk hki hun hno=>by
    refine hfree k ok hk hki ?_ hno
    by_cases hjk:j=k
    ·subst hjk; exact hjun
    ·rw [getD_set_ne true hjk] at hun; exact hun
   refine wpOp_mono (fun a' w' h3=>⟨h3.2.1,ih (la.setIfInBounds j true) a' w' (hJ.next r) hfree' (ready_mono hr (Ne.symm hji)) h3.1 hS ?_⟩) h2
   rw [Array.setIfInBounds_comm _ _ hji]
   exact h3.2.2
theorem zpk {φ1:Inj} {cs1:List Nat} {knA:KN} {ls1:Lcs} {a:Act} {o:Oper} {kv:KV} (hnl:∀t x,o.op≠.load t x) (h:locDet P knA ls1 o=some kv) (hka:KA φ1 cs1 knA a):∃v',KR φ1 cs1 kv v'∧∀w,(execOp a.eval o).run P w=.ok (.value v') w:=by
 unfold locDet at h
 have hl:∃ls',locOp P knA ls1 o=some (kv,ls'):=by
  split at h
  all_goals first | (cases hq:locOp P knA ls1 o with | none=>rw [hq] at h; cases h | some p=>obtain ⟨x,y⟩:=p; rw [hq] at h; simp only [Option.map_some,Option.some.injEq] at h; subst h; exact ⟨y,rfl⟩) | cases h
 obtain ⟨ls',hl⟩:=hl
 obtain ⟨dst,op,ty,pos,after,guard⟩:=o
 unfold locOp at hl
 simp only at hl h hnl
 split at hl
 ·rename_i t
  split at hl
  ·rename_i i off hk
   simp only [Option.some.injEq,Prod.mk.injEq] at hl
   obtain ⟨rfl,rfl⟩:=hl
   exact ⟨a.tmps.getD t undef,hka t _ hk,fun w=>rfl⟩
  ·cases hl
 ·rename_i t
  split at hl
  ·rename_i i off hk
   simp only [Option.some.injEq,Prod.mk.injEq] at hl
   obtain ⟨rfl,rfl⟩:=hl
   exact ⟨a.tmps.getD t undef,hka t _ hk,fun w=>rfl⟩
  ·cases hl
 ·rename_i t
  split at hl
  ·rename_i i off hk
   simp only [Option.some.injEq,Prod.mk.injEq] at hl
   obtain ⟨rfl,rfl⟩:=hl
   refine ⟨a.tmps.getD t undef,hka t _ hk,fun w=>?_⟩
   obtain ⟨c,h1,h2⟩:=hka t _ hk
   have:a.eval (.tmp t)=.pointer (some ⟨c,off,none⟩):=h2
   simp only [execOp,this]
   rw [h2]; rfl
  ·cases hl
 ·rename_i s t f
  split at hl
  ·rename_i i off fs hk hu
   cases hf:fs[f]? with
   | none=>rw [hf] at hl; cases hl
   | some fd =>
    rw [hf] at hl
    simp only at hl
    cases hi:P.info? fd.type with
    | none=>rw [hi] at hl; cases hl
    | some inf =>
     rw [hi] at hl
     simp only at hl
     cases hz:Nat.beq inf.size 0 with
     | true=>rw [hz] at hl; cases hl
     | false =>
      rw [hz] at hl
      simp only [cond_false,Option.some.injEq,Prod.mk.injEq] at hl
      obtain ⟨rfl,rfl⟩:=hl
      obtain ⟨c,h1,h2⟩:=hka t _ hk
      have he:a.eval (.tmp t)=.pointer (some ⟨c,off,none⟩):=h2
      refine ⟨.pointer (some ⟨c,off+fd.offset,none⟩),⟨c,h1,rfl⟩,fun w=>?_⟩
      have hne:=Nat.ne_of_beq_eq_false hz
      have hrun:(Instr.fieldAt s (.pointer (some ⟨c,off,none⟩)) f).run P w=.ok (.pointer (some ⟨c,off+fd.offset,none⟩)) w:=by
       simp only [Instr.fieldAt,Sem.run_bind,z8 hu,Result.andThen_ok,hf,Instr.sureAddr,Sem.run_pure,fieldPlace,z14 hi]
       rw [if_neg hne]
       simp only [Sem.run_pure,Result.andThen_ok,Addr.add_lit]
      simp only [execOp,he,Sem.run_bind,hrun,Result.andThen_ok]
      rfl
  ·cases hl
 ·exact (hnl _ _ rfl).elim
 all_goals first | (simp only [reduceCtorEq] at h; done) | (cases hl; done)
section
variable {E:Ent} {knA kn:KN} {ls ls1:Lcs} {H H1:AH} {f k:Nat} {la:Array Bool} {ag:Bool}
def takeQ (P:Program) (n:Nat) (ops:Array Oper) (A bs:List Nat) (la:Array Bool) (k:Nat) (o:Oper):Bool :=
 !(demO ops A bs k)&&Region.noSelect ops&&Region.free .any ops la k&&(Region.ready .any ops la).contains k&&dstV n o
theorem DA.takeP (k:Nat) (d:Option Nat) (v:Value) (ho:ops[k]? = some (opAt ops k)) (hd:(opAt ops k).dst=d) (hB:takeQ P n ops A bs la k (opAt ops k)=true) (hc:closedOk ops.toList bs=true) (hQ:∀c a w,¬Q (.panic c) a w)
  (hw:(wantV ops kn (opAt ops k),(opAt ops k).op.operands.all (okx P),(opAt ops k).op.operands.all (knownV kn))=(some true,true,true)) (hv:pureOp P (opAt ops k) (evV kn)=some v)
  (h:DA P ne m E n ops bs A H1 ls1 f (la.setIfInBounds k true) ag (dropV d knA) (putV kn d (.val v)) ls H Q):DA P ne m E n ops bs A H1 ls1 (f+1) la ag knA kn ls H Q:=by
 subst hd
 intro w1 φ1 cs1 a w φ cs hd hle hs hka hpf hJ hag
 unfold takeQ at hB
 simp only [Bool.and_eq_true] at hB
 obtain ⟨⟨⟨⟨b1,b2⟩,b3⟩,b4⟩,b5⟩:=hB
 have hr:k∈Region.ready .any ops la:=by simpa using b4
 simp only [Prod.mk.injEq] at hw
 obtain ⟨hw1,hw2,hw3⟩:=hw
 rw [Array.all_eq_true_iff_forall_mem] at hw2 hw3
 obtain ⟨v',h1,h2⟩:=zqf (ρ':=a.eval) (fun x hx=>hs.eval (hw3 x hx) (hw2 x hx)) hv
 refine zai ho hc (Region.noSelect_spec b2) hQ f la a w hJ (Region.free_spec ho b3) hr (.inl ⟨z22 hs hw1,fun w _=>h2 w⟩) (by simpa using b1) ?_
 exact h w1 φ1 cs1 _ w φ cs hd hle (hs.put b5 h1) (hka.drop _ _) hpf (hJ.next (rdy_of hc hJ hr)) hag
theorem DA.takePL (k:Nat) (d:Option Nat) (kv:KV) (ho:ops[k]? = some (opAt ops k)) (hd:(opAt ops k).dst=d) (hB:takeQ P n ops A bs la k (opAt ops k)=true) (hc:closedOk ops.toList bs=true) (hQ:∀c a w,¬Q (.panic c) a w)
  (hw:wantV ops kn (opAt ops k)=some true) (hv:(match (opAt ops k).op with | .load ..=>none | _=>locDet P kn ls (opAt ops k))=some kv)
  (h:DA P ne m E n ops bs A H1 ls1 f (la.setIfInBounds k true) ag (dropV d knA) (putV kn d kv) ls H Q):DA P ne m E n ops bs A H1 ls1 (f+1) la ag knA kn ls H Q:=by
 subst hd
 intro w1 φ1 cs1 a w φ cs hd hle hs hka hpf hJ hag
 unfold takeQ at hB
 simp only [Bool.and_eq_true] at hB
 obtain ⟨⟨⟨⟨b1,b2⟩,b3⟩,b4⟩,b5⟩:=hB
 have hr:k∈Region.ready .any ops la:=by simpa using b4
 have hv2:locDet P kn ls (opAt ops k)=some kv:=by
  split at hv
  ·cases hv
  ·exact hv
 have hnl:∀t x,(opAt ops k).op≠.load t x:=by
  intro t x e
  rw [e] at hv
  cases hv
 obtain ⟨v',h1,h2⟩:=zpk hnl hv2 (fun t kv hl=>hs.slot t kv hl:KA φ cs kn a)
 refine zai ho hc (Region.noSelect_spec b2) hQ f la a w hJ (Region.free_spec ho b3) hr (.inl ⟨z22 hs hw,fun w _=>h2 w⟩) (by simpa using b1) ?_
 exact h w1 φ1 cs1 _ w φ cs hd hle (hs.put b5 h1) (hka.drop _ _) hpf (hJ.next (rdy_of hc hJ hr)) hag
theorem DA.tskipP (k:Nat) (d:Option Nat) (ho:ops[k]? = some (opAt ops k)) (hd:(opAt ops k).dst=d) (hB:takeQ P n ops A bs la k (opAt ops k)=true) (hc:closedOk ops.toList bs=true) (hQ:∀c a w,¬Q (.panic c) a w) (hw:wantV ops kn (opAt ops k)=some false)
  (h:DA P ne m E n ops bs A H1 ls1 f (la.setIfInBounds k true) ag (dropV d knA) (putV kn d (.val undef)) ls H Q):DA P ne m E n ops bs A H1 ls1 (f+1) la ag knA kn ls H Q:=by
 subst hd
 intro w1 φ1 cs1 a w φ cs hd hle hs hka hpf hJ hag
 unfold takeQ at hB
 simp only [Bool.and_eq_true] at hB
 obtain ⟨⟨⟨⟨b1,b2⟩,b3⟩,b4⟩,b5⟩:=hB
 have hr:k∈Region.ready .any ops la:=by simpa using b4
 refine zai (v:=undef) ho hc (Region.noSelect_spec b2) hQ f la a w hJ (Region.free_spec ho b3) hr (.inr ⟨z22 hs hw,rfl⟩) (by simpa using b1) ?_
 exact h w1 φ1 cs1 _ w φ cs hd hle (hs.put b5 (kv:=.val undef) (z2h _)) (hka.drop _ _) hpf (hJ.next (rdy_of hc hJ hr)) hag
end
def notRead (o:Oper):Bool:=match o.op with
 | .load ..=>false
 | .lookup ..=>false
 | _=>true
theorem zq0 {o:Oper} {ρ:Operand→Value} {v:Value} (hn:notRead o=true) (h:detOp P ⟨0,.nil⟩ o ρ=some v):pureOp P o ρ=some v:=by
 unfold pureOp
 unfold notRead at hn
 split
 ·rename_i e; rw [e] at hn; cases hn
 ·rename_i e; rw [e] at hn; cases hn
 ·exact h
theorem det_strcat {o:Oper} {ρ:Operand→Value} {H:AH} {t u:TypeId} {x y:Operand} {a b c:ByteArray} (hop:o.op=.binOp .add t x y u) (hx:ρ x=.string a) (hy:ρ y=.string b) (h:strcat a b=some c):detOp P H o ρ=some (.string c):=by
 obtain ⟨dst,op,ty,pos,after,guard⟩:=o
 simp only at hop
 subst hop
 unfold strcat at h
 rcases z0 h with ⟨_,h⟩ | ⟨hp,h⟩
 ·cases h
 ·cases h
  have hp':peval P (execOp ρ { dst,op:=.binOp .add t x y u,type:=ty,pos,after,guard })=some (.value (.string (a++b))):=by
   simp only [execOp,hx,hy,eqGuard,binOp,Op.stringOp,hp,if_false,bind,Pure.pure]
   rfl
  simp only [detOp,tPure,flatRun,Op.operands,hp',hx,hy]
  simp [hx,hy,flat,asVal]
end Go.Abs
namespace Go.Abs
variable {P:Program} {ne:NE} {m n:Nat}
variable {E:Ent} {kn knA:KN} {ls ls1:Lcs} {H H1 H':AH} {ops:Array Oper} {k:Nat} {Q:Exit→Act→World→Prop} {bs A:List Nat} {f:Nat} {la:Array Bool} {ag:Bool}
def bsB (P:Program) (t:TypeId) (len:Nat) (ps:Array (Nat×Value)):Option (TypeId×List Value) :=
 match P.underlying t with
 | some (.slice e)=>match P.info? e with
  | some inf=>match inf.zero with
   | some z=>bif Nat.ble (len*inf.size) 1000000&&flat depth z&&!(Nat.beq (len*inf.size) 0)&&Nat.blt len OPEN then
     (Instr.fill (fun i=>some (i*inf.size,inf.size)) ((Array.range (len*inf.size)).map (z.cells[· % z.cells.size]!)) ps.toList).map fun cs=>(e,cs.toList)
    else none
   | none=>none
  | none=>none
 | _=>none
theorem bs_run {φ:Inj} {t:TypeId} {len:Nat} {ps ps':Array (Nat×Value)} {e:TypeId} {l:List Value} (h:bsB P t len ps=some (e,l)) (hp:F2 (PR φ) ps.toList ps'.toList) (w:World) :
  len≠OPEN∧∃cs',(Instr.buildSlice t len ps').run P w=.ok (.slice (some ⟨w.heap.size,0,none⟩) len len) { w with heap:=w.heap.push (.cells cs' e (0,0)) }∧AR φ l.toArray cs':=by
 unfold bsB at h
 split at h
 ·rename_i el hu
  cases hi:P.info? el with
  | none=>rw [hi] at h; cases h
  | some inf =>
   rw [hi] at h
   simp only at h
   cases hz:inf.zero with
   | none=>rw [hz] at h; cases h
   | some z =>
    rw [hz] at h
    simp only at h
    cases hc:(Nat.ble (len*inf.size) 1000000&&flat depth z&&!(Nat.beq (len*inf.size) 0)&&Nat.blt len OPEN) with
    | false=>rw [hc] at h; cases h
    | true =>
     rw [hc] at h
     simp only [cond_true] at h
     simp only [Bool.and_eq_true] at hc
     obtain ⟨⟨⟨c1,c2⟩,c3⟩,c4⟩:=hc
     have c1:=Nat.le_of_ble_eq_true c1
     have c3:len*inf.size≠0:=by
      intro e0
      rw [e0] at c3
      cases c3
     have c4:=blt_lt c4
     refine ⟨fun e0=>by rw [e0] at c4; exact absurd c4 (Nat.lt_irrefl _),?_⟩
     have hzc:AR φ z.cells z.cells:=z33 c2
     rcases zi8 (φ:=φ) (fun i=>some (i*inf.size,inf.size)) _ _ _ _ hp (zfg hzc (len*inf.size)) with ⟨e1,e2⟩ | ⟨o,o',e1,e2,ho⟩
     ·rw [e1] at h; cases h
     ·rw [e1] at h
      simp only [Option.map_some,Option.some.injEq,Prod.mk.injEq] at h
      obtain ⟨rfl,rfl⟩:=h
      refine ⟨o',?_,by simpa using ho⟩
      have hzr:(zeroValue el).run P w=.ok z w:=z94 (by rw [hi]; exact hz) w
      unfold Instr.buildSlice
      simp only [Sem.run_bind,z8 hu,Result.andThen_ok,z14 hi]
      rw [if_neg (by omega),if_neg c3]
      simp only [Sem.run_bind,hzr,Result.andThen_ok,Sem.run_pure,e2]
      rfl
 ·cases h
def lsBS (P:Program) (kn:KN) (ls:Lcs) (o:Oper):Option (KV×Lcs) :=
 match o.op with
 | .buildSlice t len ps=>match bsB P t len (ps.map fun (i,x)=>(i,evV kn x)) with
  | some (e,l)=>some (.sli ls.length len,ls++[some (e,l)])
  | none=>none
 | _=>none
theorem DA.actS (k:Nat) (d:Option Nat) (kv:KV) (ls':Lcs) (ho:ops[k]? = some (opAt ops k)) (hdd:(opAt ops k).dst=d) (hr:(Region.ready .any ops la).contains k=true) (hc:closedOk ops.toList bs=true) (hB:opV P n ops kn (opAt ops k)=true) (hl:lsBS P kn ls (opAt ops k)=some (kv,ls'))
  (ha:(!demO ops A bs k||ag)=true)
  (h:DA P ne m E n ops bs A H1 ls1 f (la.setIfInBounds k true) ag (dropV d knA) (putV kn d kv) ls' H Q):DAk P ne m E n ops bs A H1 ls1 k f la ag knA kn ls H Q:=by
 subst hdd
 intro w1 φ1 cs1 a w φ cs hd1 hle hs hka hpf hJ hag
 unfold opV at hB
 simp only [Bool.and_eq_true] at hB
 obtain ⟨⟨⟨hg,hx⟩,hkn⟩,hd⟩:=hB
 rw [Array.all_eq_true_iff_forall_mem] at hkn hx
 have hw:wantV ops kn (opAt ops k)=some true:=by
  split at hg
  ·assumption
  ·cases hg
 refine zf3 ho hs hw fun K hK=>?_
 have hev:∀x∈(opAt ops k).op.operands,VR φ (evV kn x) (a.eval x):=fun x hxm=>hs.eval (hkn x hxm) (hx x hxm)
 have hh:=h w1 φ1 cs1
 obtain ⟨oo,hoo⟩:∃oo,opAt ops k=oo:=⟨_,rfl⟩
 rw [hoo] at hl hd hev hh ⊢
 obtain ⟨dst,op,ty,pos,after,guard⟩:=oo
 unfold lsBS at hl
 simp only at hl hd
 cases op with
 | buildSlice t len ps =>
  simp only at hl
  cases hb:bsB P t len (ps.map fun (i,x)=>(i,evV kn x)) with
  | none=>rw [hb] at hl; cases hl
  | some p =>
   obtain ⟨e,l⟩:=p
   rw [hb] at hl
   simp only [Option.some.injEq,Prod.mk.injEq] at hl
   obtain ⟨rfl,rfl⟩:=hl
   obtain ⟨hno,cs',hrun,har⟩:=bs_run hb (zh2 ps (ρ:=evV kn) (ρ':=a.eval) hev) w
   obtain ⟨cs2,hs2,hp2,hq2,hn2⟩:=hs.new (e:=e) (v:=.agg l.toArray) (v':=.agg cs') (.agg _ _ har.1 har.2) (d:=none) rfl
   have hs3:=hs2.put (d:=dst) hd (kv:=.sli ls.length len) (v':=.slice (some ⟨w.heap.size,0,none⟩) len len) ⟨⟨_,hq2,rfl⟩,hno⟩
   have hex:(execOp a.eval ⟨dst,.buildSlice t len ps,ty,pos,after,guard⟩).run P w=.ok (.value (.slice (some ⟨w.heap.size,0,none⟩) len len)) { w with heap:=w.heap.push (.cells cs' e (0,0)) }:=by
    simp only [execOp,Sem.run_bind,hrun,Result.andThen_ok]; rfl
   unfold Oper.wp
   rw [hex]
   have hag':ag=true→Agr m H1 w1 cs1 φ { w with heap:=w.heap.push (.cells cs' e (0,0)) } cs2:=fun h1=>by
    obtain ⟨q1,q2,q3⟩:=hag h1
    refine ⟨q1.trans' (zfm _ _),q2,fun i c hi hc=>?_⟩
    rcases Nat.lt_or_ge i cs.length with hlt | hge
    ·rw [hp2 i cs[i] (List.getElem?_eq_getElem hlt)] at hc
     cases hc
     exact q3 i _ hi (List.getElem?_eq_getElem hlt)
    ·exact Nat.le_trans (zf8 q1) (hn2 i c hge hc)
   refine hK _ _ ⟨fun hdm=>(hag' (by rw [hdm] at ha; simpa using ha)).ag,?_⟩
   exact hh _ _ φ cs2 hd1 hle (by simpa [putV,Act.put,Value.cells] using hs3) (by simpa using hka.drop dst _) (fun i c hc=>hp2 i c (hpf i c hc)) (zi7 hr hc hJ) hag'
 | _=>cases hl
def newS (e:TypeId) (cells:List Value) (H:AH):Option (Nat×AH):=some (H.next,H.push (pubB e cells))
theorem DA.pubK (i:Nat) {e:TypeId} {cells:List Value} {id:Nat} (kn':KN) (ls':Lcs) (hx:newS e cells H=some (id,H')) (hi:ls[i]? = some (some (e,cells))) (hk:pubK i id kn=kn') (hl:ls.set i none=ls')
  (h:DAk P ne m E n ops bs A H1 ls1 k f la ag knA kn' ls' H' Q) (hnw:(!ag||Nat.ble ls1.length i)=true:=by kernel_rfl):DAk P ne m E n ops bs A H1 ls1 k f la ag knA kn ls H Q:=by
 cases hx
 subst hk hl
 intro w1 φ1 cs1 a w φ cs hd1 hle hs hka hpf hJ hag
 obtain ⟨φ',h1,h3,h2⟩:=hs.pub i hi
 refine h w1 φ1 cs1 a w φ' cs hd1 (fun id l hl=>h1 _ _ (hle _ _ hl)) h2 hka hpf hJ fun hg=>⟨(hag hg).ag,fun id l hid hl=>?_,(hag hg).nw⟩
 rcases h3 id l hl with h4 | h4
 ·exact (hag hg).jn id l hid h4
 ·rw [hg] at hnw
  exact (hag hg).nw i _ (by rw [hd1.len]; simpa using hnw) h4
def isScope:Code→Bool | .scope _=>true | _=>false
theorem WS.scope {c:Code} (hc:isScope c=true) (h:WS P ne m E n (cfst c) kn ls H (Exit.noGoto Q)):WS P ne m E n c kn ls H Q:=by
 cases c with
 | scope b=>exact fun a w hs=>wp_scope_straight (h a w hs)
 | _=>cases hc
theorem sgR {a:Act} {w:World} (h:Q .ret a w):Exit.noGoto Q .ret a w:=h
section
variable {S R:Type} {knOf:S→KN} {lsOf:S→Lcs} {hOf:S→AH} {i:Nat} {QR:R→Exit→Act→World→Prop} {a:Act} {w:World}
def lpX (P:Program) (ne:NE) (m:Nat) (E:Ent) (n:Nat) (knOf:S→KN) (lsOf:S→Lcs) (hOf:S→AH) (i:Nat) (QR:R→Exit→Act→World→Prop) (o:Lp S R):Exit→Act→World→Prop
 | .normal,a,w=>∃s,o=.next s∧SS P ne m E n (knOf s) (lsOf s) (hOf s) a w
 | e,a,w=>(∃s,o=.brk s∧e=.exit i∧SS P ne m E n (knOf s) (lsOf s) (hOf s) a w)∨∃r,o=.ret r∧QR r e a w
theorem lxB {o:Lp S R} {s:S} (ho:o=.brk s) (h:SS P ne m E n (knOf s) (lsOf s) (hOf s) a w):lpX P ne m E n knOf lsOf hOf i QR o (.exit i) a w:=.inl ⟨s,ho,rfl,h⟩
theorem zps {c:Code} {body:S→Option (Lp S R)}
  (hbody:∀s o,body s=some o→WS P ne m E n c (knOf s) (lsOf s) (hOf s) (lpX P ne m E n knOf lsOf hOf i QR o)) :
  ∀(k:Nat) (s:S) (o:S⊕R),iterO body k s=some o→∀{Q:Exit→Act→World→Prop},(∀s',o=.inl s'→∀a w,SS P ne m E n (knOf s') (lsOf s') (hOf s') a w→Q (.exit i) a w)→(∀r,o=.inr r→∀e a w,QR r e a w→Q e a w) →
   ∀a w,SS P ne m E n (knOf s) (lsOf s) (hOf s) a w→Code.rounds P c Q k a w:=by
 intro k
 induction k with
 | zero=>intro s o h; cases h
 | succ k ih =>
  intro s o h Q h1 h2 a w hs
  rw [rounds_succ]
  simp only [iterO] at h
  cases hb:body s with
  | none=>rw [hb] at h; cases h
  | some l =>
   rw [hb] at h
   have other:∀e a' w',((∃s,l=.brk s∧e=.exit i∧SS P ne m E n (knOf s) (lsOf s) (hOf s) a' w')∨∃r,l=.ret r∧QR r e a' w')→Q e a' w':=by
    rintro e a' w' (⟨s',rfl,rfl,hs'⟩ | ⟨r,rfl,hr⟩)
    ·simp only [Option.some.injEq] at h
     exact h1 s' h.symm a' w' hs'
    ·simp only [Option.some.injEq] at h
     exact h2 r h.symm _ a' w' hr
   refine wp_mono (hbody s l hb a w hs) fun e a' w' hq=>?_
   cases e with
   | normal =>
    obtain ⟨s',rfl,hs'⟩:=hq
    exact ih s' o h h1 h2 a' w' hs'
   | _=>exact other _ a' w' hq
theorem WS.loopX_ {c:Code} (hc:isLoop c=true) (body:S→Option (Lp S R)) (knOf:S→KN) (lsOf:S→Lcs) (hOf:S→AH) (i:Nat) (QR:R→Exit→Act→World→Prop)
  (hbody:∀s o,body s=some o→WS P ne m E n (cfst c) (knOf s) (lsOf s) (hOf s) (lpX P ne m E n knOf lsOf hOf i QR o)) {s:S} {o:S⊕R} (hl:loopO body s=some o) (k:Nat) (hsub:SubV (knOf s) kn) (hls:ls.take k=lsOf s) (hbl:belowL k (knOf s)=true) (hH:H=hOf s)
  (h1:∀s',o=.inl s'→∀a w,SS P ne m E n (knOf s') (lsOf s') (hOf s') a w→Q (.exit i) a w) (h2:∀r,o=.inr r→∀e a w,QR r e a w→Q e a w):WS P ne m E n c kn ls H Q:=by
 cases c with
 | loop body' =>
  intro a w hs
  obtain ⟨k',hk⟩:=zh6.1 hl
  subst hH
  exact wp_loop_rounds k' (zps hbody k' s o hk h1 h2 a w (hs.sub hsub k hls hbl))
 | _=>cases hc
theorem WS.loopXI {c:Code} (hc:isLoop c=true) (body:S→Option (Lp S R)) (knOf:S→KN) (lsOf:S→Lcs) (hOf:S→AH) (i:Nat) (QR:R→Exit→Act→World→Prop)
  (hbody:∀s o,body s=some o→WS P ne m E n (cfst c) (knOf s) (lsOf s) (hOf s) (lpX P ne m E n knOf lsOf hOf i QR o)) {s s':S} (hl:loopO body s=some (.inl s')) (k:Nat) (hsub:SubV (knOf s) kn) (hls:ls.take k=lsOf s) (hbl:belowL k (knOf s)=true) (hH:H=hOf s)
  (h1:∀a w,SS P ne m E n (knOf s') (lsOf s') (hOf s') a w→Q (.exit i) a w):WS P ne m E n c kn ls H Q :=
 WS.loopX_ hc body knOf lsOf hOf i QR hbody hl k hsub hls hbl hH (fun s2 e=>by cases e; exact h1) (fun r e=>by cases e)
theorem WS.loopXR {c:Code} (hc:isLoop c=true) (body:S→Option (Lp S R)) (knOf:S→KN) (lsOf:S→Lcs) (hOf:S→AH) (i:Nat) (QR:R→Exit→Act→World→Prop)
  (hbody:∀s o,body s=some o→WS P ne m E n (cfst c) (knOf s) (lsOf s) (hOf s) (lpX P ne m E n knOf lsOf hOf i QR o)) {s:S} {r:R} (hl:loopO body s=some (.inr r)) (k:Nat) (hsub:SubV (knOf s) kn) (hls:ls.take k=lsOf s) (hbl:belowL k (knOf s)=true) (hH:H=hOf s)
  (h2:∀e a w,QR r e a w→Q e a w):WS P ne m E n c kn ls H Q :=
 WS.loopX_ hc body knOf lsOf hOf i QR hbody hl k hsub hls hbl hH (fun s2 e=>by cases e) (fun r2 e=>by cases e; exact h2)
end
def gOp {α:Type} (P:Program) (m:Nat) (ops:Array Oper) (k:Nat) (kn:KN) (de:Value→Option α) (H:AH):Option (α×AH) :=
 match runOp P (NE.plain 0) ih0 m (opAt ops k) (evV kn) H with
 | some (v,H')=>(de v).map fun x=>(x,H')
 | none=>none
theorem zec {α:Type} {knS:KN} {de:Value→Option α} {x:α} {v:Value} (hx:gOp P m ops k knS de H=some (x,H')) (hv:∀u,de u=some x→u=v) (he:runOp P (NE.plain 0) ih0 m (opAt ops k) (evV knS) H=runOp P (NE.plain 0) ih0 m (opAt ops k) (evV kn) H):runOp P (NE.plain 0) ih0 m (opAt ops k) (evV kn) H=some (v,H'):=by
 rw [← he]
 unfold gOp at hx
 split at hx
 ·rename_i u H1 hu
  cases hd:de u with
  | none=>rw [hd] at hx; cases hx
  | some y =>
   rw [hd] at hx
   simp only [Option.map_some,Option.some.injEq,Prod.mk.injEq] at hx
   obtain ⟨rfl,rfl⟩:=hx
   rw [hu,hv u hd]
 ·cases hx
def gOp1 {α:Type} (P:Program) (ops:Array Oper) (k:Nat) (kn:KN) (de:Value→Option α) (H:AH):Option α :=
 (gOp P 0 ops k kn de H).map (·.1)
theorem znf {α:Type} {knS:KN} {de:Value→Option α} {x:α} {v:Value} (hx:gOp1 P ops k knS de H=some x) (hv:∀u,de u=some x→u=v) (hq:quiet P (opAt ops k)=true) (he:runOp P (NE.plain 0) ih0 0 (opAt ops k) (evV knS) H=runOp P (NE.plain 0) ih0 m (opAt ops k) (evV kn) H):runOp P (NE.plain 0) ih0 m (opAt ops k) (evV kn) H=some (v,H):=by
 unfold gOp1 at hx
 cases hg:gOp P 0 ops k knS de H with
 | none=>rw [hg] at hx; cases hx
 | some p =>
  obtain ⟨y,H1⟩:=p
  rw [hg] at hx
  simp only [Option.map_some,Option.some.injEq] at hx
  subst hx
  rw [← he]
  have h1:runOp P (NE.plain 0) ih0 0 (opAt ops k) (evV knS) H=some (v,H1):=zec hg hv rfl
  rw [h1,zjx hq h1]
theorem RS.esc {f:Nat} (d:Option Nat) (v:Value) (ho:ops[k]? = some (opAt ops k)) (hd:(opAt ops k).dst=d) (hB:opV P n ops kn (opAt ops k)=true) (hr:runOp P (NE.plain f) ih0 m (opAt ops k) (evV kn) H=some (v,H'))
  (h:RS P (NE.plain f) m E n ops (k+1) (putV kn d (.val v)) ls H' Q):RS P (NE.plain f) m E n ops k kn ls H Q:=by
 subst hd
 intro a w hs
 obtain ⟨φ,cs,hs⟩:=hs
 unfold opV at hB
 simp only [Bool.and_eq_true] at hB
 obtain ⟨⟨⟨hg,hx⟩,hkn⟩,hd⟩:=hB
 rw [Array.all_eq_true_iff_forall_mem] at hkn hx
 have hw:wantV ops kn (opAt ops k)=some true:=by
  split at hg
  ·assumption
  ·cases hg
 rw [z7b ho,wpOps_cons]
 unfold wpOp
 rw [ho]
 simp only [z22 hs hw,if_true]
 left
 refine z6s hs.sane zjk hr hs.glob (fun x hxm=>hs.eval (hkn x hxm) (hx x hxm)) hs.inv fun φ' v' w' h1 h2 h3=>?_
 exact h _ _ ⟨φ',cs,(hs.heap h2 h3).put hd h1⟩
end Go.Abs
namespace Go.Abs
variable {P:Program} {m:Nat}
open Go.RowKit in
theorem zm4 {ne:NE} (hS:Sane P ne) {f:Nat} {args args':Array Value} {tabs:List Tab} {H':AH}
  (h:CallS P ne P.globals.size f args (startH P tabs) (.bool true) H') (ha:AR (φg P) args args') {W:World} (hW:P.globals.size≤W.heap.size) (hB:tabsB P tabs=true)
  (ht:∀x∈tabs,∃fr,W.heap[x.1]? = some (.cells x.2.2 x.2.1 fr)):Calls P f args' W fun e W'=>e=.returned (.bool true)∧Below W.heap.size W W':=by
 refine ((h hS).2 (φg P) W args' zs5 ha (zqt hW hB ht)).mono fun e W' hpost=>?_
 obtain ⟨φ',v',rfl,hv,_,hst⟩:=hpost
 cases hv
 refine ⟨rfl,hst.os,hst.tape,hst.output,hst.size,fun k hk=>hst.keep k hk fun id l hm hs _=>?_⟩
 obtain ⟨b,hb⟩:=Option.isSome_iff_exists.1 hs
 obtain ⟨x,hx,rfl,_⟩:=zfu hb
 unfold tabsB at hB
 rw [List.all_eq_true] at hB
 have:=hB x hx
 simp only [Bool.and_eq_true] at this
 have:=blt_lt this.1
 omega
theorem zmw {H:Type} {enc:TypeId×Value→H} {a:Assume} {C:Checked} {os:Os} {f:FuncId} {fn:Func} {s:ChangeSpec} {conds:List PathCond} {apart fresh handsOn:Bool} {X:World→Array Value→Prop} {ne:NE} {tabs:List Tab}
  (own:ownKnob C.prog.godebug=none) (started:os.Started) (noInit:C.prog.inits.idxOf? f=none) (hfn:C.prog.funcs[f]? = some fn) (hbody:fn.body.isSome=true)
  (hS:Sane C.prog ne) (hgb:globalsB C.prog=true) (hl:laidOutB C.prog=true) (hts:readB C.prog fn=true) (hv:s.vars=[]) (hres:boolRes C.prog fn=true)
  (hspec:∀ds:List (DataW H),ds.length=fn.params.size→(s.fn H ds).results=[.lit (.bool true)]∧(s.fn H ds).args=ds∧(s.fn H ds).vars=[])
  (hB:tabsB C.prog tabs=true) (hX:∀(w w':World) (args:Array Value),w.heap=w'.heap→X w args→X w' args) (ht:∀W args,X W args→W.ShapedOpen C.prog→∀x∈tabs,∃fr,W.heap[x.1]? = some (.cells x.2.2 x.2.1 fr))
  (hrun:∃H',CallS C.prog ne C.prog.globals.size f (fn.params.map (anyArg C.prog)) (startH C.prog tabs) (.bool true) H')
  (witness:∃(w:World) (tape:Tape) (i:Input),w.os=os∧(w.forCall tape i).Shaped C.prog∧i.vars=[]∧Input.okWide C.prog (w.forCall tape i) .any w.heap.size f i ∧
   ((s.pre enc C.prog fn conds apart (w.forCall tape i).memory i.args∧X (w.forCall tape i).memory i.args)∧sizedMet enc C.prog fn (OpenSpec.ofChange s) apart (w.forCall tape i).memory i.args)∧a.holds C.prog (lone (Frame.enter C.prog f i.args .normal) [] (w.forCall tape i))) :
  ReturnsInHanded a C os f .any (fun w args=>(s.pre enc C.prog fn conds apart w args∧X w args)∧sizedMet enc C.prog fn (OpenSpec.ofChange s) apart w args) (s.post enc C.prog fn apart fresh handsOn false):=by
 obtain ⟨c,hbody⟩:=Option.isSome_iff_exists.1 hbody
 obtain ⟨tb,hres,hbool⟩:=zp6 hres
 have hts:=zr1 hts
 refine returnsInHanded_of_calls own started noInit witness ?_
 intro w tape i _ hsh _ hok hpre hholds
 obtain ⟨_,_,_,fn',hfn',_,_,_,hsz,hval⟩:=hok
 have e:fn'=fn:=Option.some.inj (hfn'.symm.trans hfn)
 subst e
 obtain ⟨⟨⟨ds,gs,before,hw,hc⟩,hx⟩,_⟩:=hpre
 have hw':=DataW.Whole.of_heap (w':=w.forCall tape i) (by rfl) hw
 have hx':=hX _ (w.forCall tape i) _ (by rfl) hx
 have hlen:ds.length=fn'.params.size:=by
  obtain ⟨p,q,hA,_⟩:=hw'
  have key:∀(ts:List TypeId) (vs:List Value) (ds:List (DataW H)) (ps:List MemPlace),DataW.TrodAll enc C.prog (w.forCall tape i) 0 (fun _=>true) true ts vs ds ps→ds.length=ts.length:=by
   intro ts
   induction ts with
   | nil=>intro vs ds ps h; obtain ⟨_,rfl,_⟩:=ChangeShapes.trodAll_nil h; rfl
   | cons t ts ih=>intro vs ds ps h; obtain ⟨v,vs',d,ds',p,q,_,rfl,_,_,h2⟩:=ChangeShapes.trodAll_cons h; simp [ih _ _ _ h2]
  simpa using key _ _ _ _ hA
 obtain ⟨H',hrun⟩:=hrun
 refine (zm4 hS hrun (zov hsz hval) (zlv hgb hsh) hB (ht _ _ hx' hsh)).mono fun e W' ⟨he,hb⟩=>?_
 subst he
 exact ChangeSpec.post_blind (zrl hl hts hv hres hbool hw' (hspec ds hlen) hb)
theorem zi9 {laid:List (String×DataW Unit)} {W:World} {name:String} {k:IntKind} {zs:List Int} {g:Nat} {e t te:TypeId} {n:Nat} (hL:laidMet P laid W) (hf:laid.filter (fun x=>x.1 == name)=[(name,Lib.tabData k zs)])
  (hg:P.globalNamed name=some g) (hty:(P.globals[g]?).map (·.type)=some t) (ht:P.underlying t=some (.array n te)) (he:P.underlying te=some (.int k)) (hce:P.cellsOf te=1) (hct:P.cellsOf t=n) (hlt:g<P.globals.size)
  (hrow:(((begin P (fun _ _=>0) default).world.heap[g]?).bind Obj.row?).map (·.2)=some e) (hsh:W.ShapedOpen P):∃fr,W.heap[g]? = some (.cells (zs.map fun z=>Value.int k z).toArray e fr):=by
 have h1:=laidMet.filter (fun x=>x.1 == name) hL
 rw [hf] at h1
 exact ⟨(0,0),zpz hg hlt hrow hsh (Lib.tabIs_of_head hg hty ht he hce hct h1)⟩
def zsOf:DataW Unit→List Int
 | .agg l=>l.map fun | .lit (.int _ z)=>z | _=>0
 | _=>[]
end Go.Abs
namespace Go.Abs
variable {P:Program} {ne:NE} {m n:Nat}
variable {E:Ent} {kn knA:KN} {ls ls1:Lcs} {H H1 H':AH} {ops:Array Oper} {k:Nat} {Q:Exit→Act→World→Prop} {bs A:List Nat} {f:Nat} {la:Array Bool} {ag:Bool} {c:Code}
theorem WS.sq (h:WS P ne m E n (cfst c) kn ls H (Exit.then ((csnd c).wp P Q) Q)) (hc:isSeq c=true:=by kernel_rfl):WS P ne m E n c kn ls H Q:=WS.seq hc h
theorem WS.sk (h:∀a w,SS P ne m E n kn ls H a w→Q .normal a w) (hc:isSkip c=true:=by kernel_rfl):WS P ne m E n c kn ls H Q:=WS.skip hc h
theorem WS.rt (h:∀a w,SS P ne m E n kn ls H a w→Q .ret a w) (hc:isRet c=true:=by kernel_rfl):WS P ne m E n c kn ls H Q:=WS.ret hc h
theorem WS.ex (i:Nat) (h:∀a w,SS P ne m E n kn ls H a w→Q (.exit i) a w) (hc:isExit i c=true:=by kernel_rfl):WS P ne m E n c kn ls H Q:=WS.exit i hc h
theorem WS.bk (i:Nat) (h:WS P ne m E n (cfst c) kn ls H (blkS i Q)) (hc:isBlock i c=true:=by kernel_rfl):WS P ne m E n c kn ls H Q:=WS.blk i hc h
theorem WS.cT (h:WS P ne m E n (cfst c) kn ls H Q) (hc:(condOf c).map (fun x=>(knownV kn x,evV kn x))=some (true,.bool true):=by kernel_rfl):WS P ne m E n c kn ls H Q:=WS.condT true rfl hc h
theorem WS.cF (h:WS P ne m E n (csnd c) kn ls H Q) (hc:(condOf c).map (fun x=>(knownV kn x,evV kn x))=some (true,.bool false):=by kernel_rfl):WS P ne m E n c kn ls H Q:=WS.condF false rfl hc h
theorem WS.fx (t:Nat) {b:Bool} (d:Bool) (hb:b=d) (h:WS P ne m E n c ((t,.val (.bool d)) :: kn) ls H Q) (hl:lkV kn t=some (.val (.bool b)):=by kernel_rfl):WS P ne m E n c kn ls H Q:=WS.fix t d hb hl h
theorem RS.fx (t:Nat) {b:Bool} (d:Bool) (hb:b=d) (h:RS P ne m E n ops k ((t,.val (.bool d)) :: kn) ls H Q) (hl:lkV kn t=some (.val (.bool b)):=by kernel_rfl):RS P ne m E n ops k kn ls H Q:=RS.fix t d hb hl h
theorem DA.fx (t:Nat) {b:Bool} (d:Bool) (hb:b=d) (h:DA P ne m E n ops bs A H1 ls1 f la ag ((t,.val (.bool d)) :: knA) ((t,.val (.bool d)) :: kn) ls H Q) (hl:lkV kn t=some (.val (.bool b)):=by kernel_rfl):DA P ne m E n ops bs A H1 ls1 f la ag knA kn ls H Q:=DA.fix t d hb hl h
theorem WS.rg (h:RS P ne m E n (opsOf c) 0 kn ls H Q) (hc:(regOf c).map (·.2)=some false:=by kernel_rfl):WS P ne m E n c kn ls H Q:=by
 refine WS.region (opsOf c) ?_ h
 cases c with
 | region id ops d =>
  simp only [regOf,Option.map_some,Option.some.injEq] at hc
  subst hc; rfl
 | _=>cases hc
theorem RS.dn (h:∀a w,SS P ne m E n kn ls H a w→Q .normal a w) (hk:Nat.ble ops.size k=true:=by kernel_rfl):RS P ne m E n ops k kn ls H Q:=RS.done hk h
theorem RS.mS (j:Nat) (new:KN) (h:RS P ne m E n ops (k+j) (new++kn) ls H Q) (hr:runLs P m n ops j k kn ls H=some (new++kn,ls,H):=by kernel_rfl):RS P ne m E n ops k kn ls H Q:=RS.many j new ls hr h
theorem RS.mL (j:Nat) (new:KN) (ls':Lcs) (h:RS P ne m E n ops (k+j) (new++kn) ls' H Q) (hr:runLs P m n ops j k kn ls H=some (new++kn,ls',H):=by kernel_rfl):RS P ne m E n ops k kn ls H Q:=RS.many j new ls' hr h
theorem RS.o (d:Option Nat) (v:Value) (hr:runOp P (NE.plain 0) ih0 m (opAt ops k) (evV kn) H=some (v,H')) (h:RS P ne m E n ops (k+1) (putV kn d (.val v)) ls H' Q)
  (ho:ops[k]? = some (opAt ops k):=by kernel_rfl) (hd:(opAt ops k).dst=d:=by kernel_rfl) (hB:(opV P n ops kn (opAt ops k)&&noCall (opAt ops k))=true:=by kernel_rfl):RS P ne m E n ops k kn ls H Q:=RS.atD d v ho hd hB hr h
theorem RS.cl (d:Option Nat) {v:Value} (g:Nat) (args:Array Value) (hr:CallS P ne m g args H v H') (h:RS P ne m E n ops (k+1) (putV kn d (.val v)) ls H' Q)
  (ho:ops[k]? = some (opAt ops k):=by kernel_rfl) (hd:(opAt ops k).dst=d:=by kernel_rfl) (hB:opV P n ops kn (opAt ops k)=true:=by kernel_rfl) (hc:callV kn (opAt ops k)=some (g,args):=by kernel_rfl):RS P ne m E n ops k kn ls H Q:=RS.callD d g args ho hd hB hc hr h
theorem WS.dr (A:List Nat) (bs:List Nat) (sz:Nat) (h:closedOk (opsOf c).toList bs=true→DA P ne m E n (opsOf c) bs A H ls sz (Array.replicate sz false) true kn kn ls H Q) (hc:regOf c=some (opsOf c,true):=by kernel_rfl) (hb:befores (opsOf c).toList=bs:=by kernel_rfl) (hs:(opsOf c).size=sz:=by kernel_rfl) (hB:closedOk (opsOf c).toList bs=true:=by kernel_rfl):WS P ne m E n c kn ls H Q:=WS.drawnX (opsOf c) A bs sz hc hb hs hB (h hB)
theorem DA.dn (h:∀a w,SS P ne m E n kn ls H a w→Q .normal a w) (hr:readyIs ops la []=true:=by kernel_rfl):DA P ne m E n ops bs A H1 ls1 f la ag knA kn ls H Q:=DA.done hr h
theorem DA.on (k:Nat) (h:DAk P ne m E n ops bs A H1 ls1 k f la ag knA kn ls H Q) (hr:readyIs ops la [k]=true:=by kernel_rfl):DA P ne m E n ops bs A H1 ls1 (f+1) la ag knA kn ls H Q:=DA.one k hr h
theorem DA.tD (k:Nat) (d:Option Nat) (v:Value) (hv:detOp P H1 (opAt ops k) (evV knA)=some v) (h:DA P ne m E n ops bs A H1 ls1 f (la.setIfInBounds k true) true (putV knA d (.val v)) (putV kn d (.val v)) ls H Q)
  (hc:closedOk ops.toList bs=true:=by assumption) (ho:ops[k]? = some (opAt ops k):=by kernel_rfl) (hd:(opAt ops k).dst=d:=by kernel_rfl) (hB:takeB P n ops A la k (opAt ops k)=true:=by kernel_rfl) (hQ:∀c a w,¬Q (.panic c) a w:=by exact fun _ _ _ h=>h)
  (hw:(wantV ops kn (opAt ops k),(opAt ops k).op.operands.all (okx P),(opAt ops k).op.operands.all (knownV knA))=(some true,true,true):=by kernel_rfl):DA P ne m E n ops bs A H1 ls1 (f+1) la true knA kn ls H Q:=DA.takeD k d v ho hd hB hc hQ hw hv h
theorem DA.tK (k:Nat) (d:Option Nat) (v:Value) (h:DA P ne m E n ops bs A H1 ls1 f (la.setIfInBounds k true) true (putV knA d (.val v)) (putV kn d (.val v)) ls H Q)
  (hc:closedOk ops.toList bs=true:=by assumption) (ho:ops[k]? = some (opAt ops k):=by kernel_rfl) (hd:(opAt ops k).dst=d:=by kernel_rfl) (hB:takeB P n ops A la k (opAt ops k)=true:=by kernel_rfl) (hQ:∀c a w,¬Q (.panic c) a w:=by exact fun _ _ _ h=>h)
  (hw:(wantV ops kn (opAt ops k),(opAt ops k).op.operands.all (okx P),(opAt ops k).op.operands.all (knownV knA))=(some true,true,true):=by kernel_rfl) (hv:detOp P H1 (opAt ops k) (evV knA)=some v:=by kernel_rfl):DA P ne m E n ops bs A H1 ls1 (f+1) la true knA kn ls H Q:=DA.takeD k d v ho hd hB hc hQ hw hv h
theorem DA.tL (k:Nat) (d:Option Nat) (kv:KV) (h:DA P ne m E n ops bs A H1 ls1 f (la.setIfInBounds k true) true (putV knA d kv) (putV kn d kv) ls H Q)
  (hc:closedOk ops.toList bs=true:=by assumption) (ho:ops[k]? = some (opAt ops k):=by kernel_rfl) (hd:(opAt ops k).dst=d:=by kernel_rfl) (hB:takeB P n ops A la k (opAt ops k)=true:=by kernel_rfl) (hQ:∀c a w,¬Q (.panic c) a w:=by exact fun _ _ _ h=>h)
  (hw:wantV ops kn (opAt ops k)=some true:=by kernel_rfl) (hv:locDet P knA ls1 (opAt ops k)=some kv:=by kernel_rfl):DA P ne m E n ops bs A H1 ls1 (f+1) la true knA kn ls H Q:=DA.takeLD k d kv ho hd hB hc hQ hw hv h
theorem DA.tP (k:Nat) (d:Option Nat) (v:Value) (h:DA P ne m E n ops bs A H1 ls1 f (la.setIfInBounds k true) ag (dropV d knA) (putV kn d (.val v)) ls H Q)
  (hc:closedOk ops.toList bs=true:=by assumption) (ho:ops[k]? = some (opAt ops k):=by kernel_rfl) (hd:(opAt ops k).dst=d:=by kernel_rfl) (hB:takeQ P n ops A bs la k (opAt ops k)=true:=by kernel_rfl) (hQ:∀c a w,¬Q (.panic c) a w:=by exact fun _ _ _ h=>h)
  (hw:(wantV ops kn (opAt ops k),(opAt ops k).op.operands.all (okx P),(opAt ops k).op.operands.all (knownV kn))=(some true,true,true):=by kernel_rfl) (hv:pureOp P (opAt ops k) (evV kn)=some v:=by kernel_rfl):DA P ne m E n ops bs A H1 ls1 (f+1) la ag knA kn ls H Q:=DA.takeP k d v ho hd hB hc hQ hw hv h
theorem DA.tPx (k:Nat) (d:Option Nat) (v:Value) (hv:detOp P ⟨0,.nil⟩ (opAt ops k) (evV kn)=some v) (h:DA P ne m E n ops bs A H1 ls1 f (la.setIfInBounds k true) ag (dropV d knA) (putV kn d (.val v)) ls H Q)
  (hc:closedOk ops.toList bs=true:=by assumption) (ho:ops[k]? = some (opAt ops k):=by kernel_rfl) (hd:(opAt ops k).dst=d:=by kernel_rfl) (hB:takeQ P n ops A bs la k (opAt ops k)=true:=by kernel_rfl) (hQ:∀c a w,¬Q (.panic c) a w:=by exact fun _ _ _ h=>h)
  (hw:(wantV ops kn (opAt ops k),(opAt ops k).op.operands.all (okx P),(opAt ops k).op.operands.all (knownV kn))=(some true,true,true):=by kernel_rfl) (hn:notRead (opAt ops k)=true:=by kernel_rfl):DA P ne m E n ops bs A H1 ls1 (f+1) la ag knA kn ls H Q:=DA.takeP k d v ho hd hB hc hQ hw (zq0 hn hv) h
theorem DA.tPL (k:Nat) (d:Option Nat) (kv:KV) (h:DA P ne m E n ops bs A H1 ls1 f (la.setIfInBounds k true) ag (dropV d knA) (putV kn d kv) ls H Q)
  (hc:closedOk ops.toList bs=true:=by assumption) (ho:ops[k]? = some (opAt ops k):=by kernel_rfl) (hd:(opAt ops k).dst=d:=by kernel_rfl) (hB:takeQ P n ops A bs la k (opAt ops k)=true:=by kernel_rfl) (hQ:∀c a w,¬Q (.panic c) a w:=by exact fun _ _ _ h=>h)
  (hw:wantV ops kn (opAt ops k)=some true:=by kernel_rfl) (hv:(match (opAt ops k).op with | .load ..=>none | _=>locDet P kn ls (opAt ops k))=some kv:=by kernel_rfl):DA P ne m E n ops bs A H1 ls1 (f+1) la ag knA kn ls H Q:=DA.takePL k d kv ho hd hB hc hQ hw hv h
theorem DA.aL (k:Nat) (d:Option Nat) (kv:KV) (ls':Lcs) (ag':Bool) (h:DA P ne m E n ops bs A H1 ls1 f (la.setIfInBounds k true) ag' (dropV d knA) (putV kn d kv) ls' H Q)
  (hc:closedOk ops.toList bs=true:=by assumption) (ho:ops[k]? = some (opAt ops k):=by kernel_rfl) (hdd:(opAt ops k).dst=d:=by kernel_rfl) (hr:(Region.ready .any ops la).contains k=true:=by kernel_rfl) (hw:wantV ops kn (opAt ops k)=some true:=by kernel_rfl) (hd:dstV n (opAt ops k)=true:=by kernel_rfl) (hl:locOp P kn ls (opAt ops k)=some (kv,ls'):=by kernel_rfl)
  (ha:((!demO ops A bs k||(ag&&notStore (opAt ops k)))&&(!ag'||(ag&&notStore (opAt ops k))))=true:=by kernel_rfl):DAk P ne m E n ops bs A H1 ls1 k f la ag knA kn ls H Q:=DA.actLD k d kv ls' ag' ho hdd hr hc hw hd hl ha h
theorem DA.aH (k:Nat) (d:Option Nat) (v:Value) (hv:runOp P (NE.plain 0) ih0 m (opAt ops k) (evV kn) H=some (v,H')) (h:DA P ne m E n ops bs A H1 ls1 f (la.setIfInBounds k true) false (dropV d knA) (putV kn d (.val v)) ls H' Q)
  (hc:closedOk ops.toList bs=true:=by assumption) (ho:ops[k]? = some (opAt ops k):=by kernel_rfl) (hdd:(opAt ops k).dst=d:=by kernel_rfl) (hr:(Region.ready .any ops la).contains k=true:=by kernel_rfl) (hB:(opV P n ops kn (opAt ops k)&&noCall (opAt ops k))=true:=by kernel_rfl) (hd:demO ops A bs k=false:=by kernel_rfl):DAk P ne m E n ops bs A H1 ls1 k f la ag knA kn ls H Q :=
 DA.actHD k d m false v ho hdd hr hc hB hv (Nat.le_refl _) (fun hh=>by rw [hd] at hh; cases hh) (by rw [hd]; rfl) h
theorem DA.aHj (k:Nat) (d:Option Nat) (ag':Bool) (v:Value) (hv:runOp P (NE.plain 0) ih0 (Nat.max m H1.next) (opAt ops k) (evV kn) H=some (v,H')) (h:DA P ne m E n ops bs A H1 ls1 f (la.setIfInBounds k true) ag' (dropV d knA) (putV kn d (.val v)) ls H' Q)
  (hc:closedOk ops.toList bs=true:=by assumption) (ho:ops[k]? = some (opAt ops k):=by kernel_rfl) (hdd:(opAt ops k).dst=d:=by kernel_rfl) (hr:(Region.ready .any ops la).contains k=true:=by kernel_rfl) (hB:(opV P n ops kn (opAt ops k)&&noCall (opAt ops k))=true:=by kernel_rfl) (ha:((!demO ops A bs k||ag)&&(!ag'||ag))=true:=by kernel_rfl):DAk P ne m E n ops bs A H1 ls1 k f la ag knA kn ls H Q :=
 DA.actHD k d (Nat.max m H1.next) ag' v ho hdd hr hc hB hv (Nat.le_max_left _ _) (fun _=>.inr (Nat.le_max_right _ _)) ha h
theorem DA.aC (k:Nat) (d:Option Nat) {v:Value} (g:Nat) (args:Array Value) (hcs:CallS P ne m g args H v H') (h:DA P ne m E n ops bs A H1 ls1 f (la.setIfInBounds k true) false (dropV d knA) (putV kn d (.val v)) ls H' Q)
  (hc:closedOk ops.toList bs=true:=by assumption) (ho:ops[k]? = some (opAt ops k):=by kernel_rfl) (hdd:(opAt ops k).dst=d:=by kernel_rfl) (hr:(Region.ready .any ops la).contains k=true:=by kernel_rfl) (hB:opV P n ops kn (opAt ops k)=true:=by kernel_rfl) (hcl:callV kn (opAt ops k)=some (g,args):=by kernel_rfl) (hd:demO ops A bs k=false:=by kernel_rfl):DAk P ne m E n ops bs A H1 ls1 k f la ag knA kn ls H Q :=
 DA.actCD k d m false g args ho hdd hr hc hB hcl hcs (Nat.le_refl _) (fun hh=>by rw [hd] at hh; cases hh) (by rw [hd]; rfl) h
theorem DA.aCj (k:Nat) (d:Option Nat) (ag':Bool) {v:Value} (g:Nat) (args:Array Value) (hcs:CallS P ne (Nat.max m H1.next) g args H v H') (h:DA P ne m E n ops bs A H1 ls1 f (la.setIfInBounds k true) ag' (dropV d knA) (putV kn d (.val v)) ls H' Q)
  (hc:closedOk ops.toList bs=true:=by assumption) (ho:ops[k]? = some (opAt ops k):=by kernel_rfl) (hdd:(opAt ops k).dst=d:=by kernel_rfl) (hr:(Region.ready .any ops la).contains k=true:=by kernel_rfl) (hB:opV P n ops kn (opAt ops k)=true:=by kernel_rfl) (hcl:callV kn (opAt ops k)=some (g,args):=by kernel_rfl) (ha:((!demO ops A bs k||ag)&&(!ag'||ag))=true:=by kernel_rfl):DAk P ne m E n ops bs A H1 ls1 k f la ag knA kn ls H Q :=
 DA.actCD k d (Nat.max m H1.next) ag' g args ho hdd hr hc hB hcl hcs (Nat.le_max_left _ _) (fun _=>.inr (Nat.le_max_right _ _)) ha h
theorem SubV.of:∀{kn' kn:KN},kn'.map (fun p=>lkV kn p.1)=kn'.map (fun p=>some p.2)→SubV kn' kn:=by
 intro kn'
 induction kn' with
 | nil=>intro kn _; trivial
 | cons p l ih =>
  intro kn h
  obtain ⟨t,v⟩:=p
  simp only [List.map_cons,List.cons.injEq] at h
  exact ⟨h.1,ih h.2⟩
theorem SS.sb {a:Act} {w:World} (h:SS P ne m E n kn ls H a w) {kn':KN} (k:Nat) {ls':Lcs} (hs:kn'.map (fun p=>lkV kn p.1)=kn'.map (fun p=>some p.2):=by kernel_rfl) (hl:ls.take k=ls':=by kernel_rfl) (hb:belowL k kn'=true:=by kernel_rfl):SS P ne m E n kn' ls' H a w:=h.sub (SubV.of hs) k hl hb
theorem rS {fn:Func} {v:Value} {a:Act} {w:World} (hs:SS P ne m E n kn ls H a w) (h:resF P fn kn ls H=some v:=by kernel_rfl):RT P ne m E fn v H a w:=rtS hs h
section
variable {S R:Type} {body:S→Option (Lp S R)} {knOf:S→KN} {lsOf:S→Lcs} {hOf:S→AH} {i:Nat}
theorem WS.lI {QR:R→Act→World→Prop} (hbody:∀s o,body s=some o→WS P ne m E n (cfst c) (knOf s) (lsOf s) (hOf s) (lpS P ne m E n knOf lsOf hOf i QR o)) {s s':S} (hl:loopO body s=some (.inl s')) (k:Nat) (h1:∀a w,SS P ne m E n (knOf s') (lsOf s') (hOf s') a w→Q (.exit i) a w)
  (hc:isLoop c=true:=by kernel_rfl) (hs:(knOf s).map (fun p=>lkV kn p.1)=(knOf s).map (fun p=>some p.2):=by kernel_rfl) (hls:ls.take k=lsOf s:=by kernel_rfl) (hbl:belowL k (knOf s)=true:=by kernel_rfl) (hH:H=hOf s:=by rfl):WS P ne m E n c kn ls H Q :=
 WS.loopI hc body knOf lsOf hOf i QR hbody hl k (SubV.of hs) hls hbl hH h1
theorem WS.lR {QR:R→Act→World→Prop} (hbody:∀s o,body s=some o→WS P ne m E n (cfst c) (knOf s) (lsOf s) (hOf s) (lpS P ne m E n knOf lsOf hOf i QR o)) {s:S} {r:R} (hl:loopO body s=some (.inr r)) (k:Nat) (h2:∀a w,QR r a w→Q .ret a w)
  (hc:isLoop c=true:=by kernel_rfl) (hs:(knOf s).map (fun p=>lkV kn p.1)=(knOf s).map (fun p=>some p.2):=by kernel_rfl) (hls:ls.take k=lsOf s:=by kernel_rfl) (hbl:belowL k (knOf s)=true:=by kernel_rfl) (hH:H=hOf s:=by rfl):WS P ne m E n c kn ls H Q :=
 WS.loopR hc body knOf lsOf hOf i QR hbody hl k (SubV.of hs) hls hbl hH h2
theorem WS.lXI {QR:R→Exit→Act→World→Prop} (hbody:∀s o,body s=some o→WS P ne m E n (cfst c) (knOf s) (lsOf s) (hOf s) (lpX P ne m E n knOf lsOf hOf i QR o)) {s s':S} (hl:loopO body s=some (.inl s')) (k:Nat) (h1:∀a w,SS P ne m E n (knOf s') (lsOf s') (hOf s') a w→Q (.exit i) a w)
  (hc:isLoop c=true:=by kernel_rfl) (hs:(knOf s).map (fun p=>lkV kn p.1)=(knOf s).map (fun p=>some p.2):=by kernel_rfl) (hls:ls.take k=lsOf s:=by kernel_rfl) (hbl:belowL k (knOf s)=true:=by kernel_rfl) (hH:H=hOf s:=by rfl):WS P ne m E n c kn ls H Q :=
 WS.loopXI hc body knOf lsOf hOf i QR hbody hl k (SubV.of hs) hls hbl hH h1
theorem WS.lXR {QR:R→Exit→Act→World→Prop} (hbody:∀s o,body s=some o→WS P ne m E n (cfst c) (knOf s) (lsOf s) (hOf s) (lpX P ne m E n knOf lsOf hOf i QR o)) {s:S} {r:R} (hl:loopO body s=some (.inr r)) (k:Nat) (h2:∀e a w,QR r e a w→Q e a w)
  (hc:isLoop c=true:=by kernel_rfl) (hs:(knOf s).map (fun p=>lkV kn p.1)=(knOf s).map (fun p=>some p.2):=by kernel_rfl) (hls:ls.take k=lsOf s:=by kernel_rfl) (hbl:belowL k (knOf s)=true:=by kernel_rfl) (hH:H=hOf s:=by rfl):WS P ne m E n c kn ls H Q :=
 WS.loopXR hc body knOf lsOf hOf i QR hbody hl k (SubV.of hs) hls hbl hH h2
end
end Go.Abs
namespace Go.Abs
variable {P:Program} {ne:NE} {m:Nat} {H:AH}
structure UnderRes (P:Program) (φ:Inj) (H:AH) (w:World) (v:Value) (H1:AH) (v':Value) (w':World) (φ1:Inj):Prop where
 vr:VR φ1 v v'
 inv:Inv φ1 H1 w'
 new:∀l,φ1 P.globals.size=some l→w.heap.size≤l.blk
 size:w.heap.size≤w'.heap.size
 keep:∀c,c<w.heap.size→w'.heap[c]? = w.heap[c]?
 os:w'.os=w.os
 tape:w'.tape=w.tape
 output:w'.output=w.output
end Go.Abs
namespace Go.Abs
instance:DecidableEq Sl3:=fun a b =>
 if h:a.p=b.p∧a.n=b.n∧a.c=b.c then isTrue (by cases a; cases b; obtain ⟨rfl,rfl,rfl⟩:=h; rfl)
 else isFalse fun e=>h (by subst e; exact ⟨rfl,rfl,rfl⟩)
@[reducible] def kI (t:Nat) (x:Int):Nat×KV:=(t,.val (.int .i64 x))
@[reducible] def kB (t:Nat) (x:Bool):Nat×KV:=(t,.val (.bool x))
@[reducible] def kS (t:Nat) (x:Sl3):Nat×KV:=(t,.val x.v)
@[reducible] def kP (t:Nat) (x:Addr):Nat×KV:=(t,.val (.pointer (some x)))
@[reducible] def kT (t:Nat) (x:ByteArray):Nat×KV:=(t,.val (.string x))
@[reducible] def kA (t:Nat) (x:Array Value):Nat×KV:=(t,.val (.agg x))
@[reducible] def kU (t:Nat):Nat×KV:=(t,.val undef)
@[reducible] def kL (t i o:Nat):Nat×KV:=(t,.loc i o)
variable {P:Program} {ne:NE} {m n:Nat}
variable {E:Ent} {kn:KN} {ls:Lcs} {H H':AH} {ops:Array Oper} {k:Nat} {Q:Exit→Act→World→Prop}
def LoopF (P:Program) (ne:NE) (m:Nat) (E:Ent) (fn:Func) (c:Code) {S R:Type} (st:S→KN×Lcs) (hOf:S→AH) (i:Nat) (enc:R→Value) (hp:R→AH) (body:S→Option (Lp S R)):Prop :=
 ∀s o,body s=some o→WS P ne m E fn.ntmps (cfst c) (st s).1 (st s).2 (hOf s) (lpS P ne m E fn.ntmps (fun s=>(st s).1) (fun s=>(st s).2) hOf i (fun r=>RT P ne m E fn (enc r) (hp r)) o)
section
variable {ih:Ex} {ρ:Operand→Value} {o:Oper}
end
theorem RS.ix (d:Nat) (t e:TypeId) (x y:Operand) {sz:Nat} {s:Sl3} {i:Int} {a:Addr} (hx:idxA sz s i=some a) (h:RS P ne m E n ops (k+1) (putV kn (some d) (.val (.pointer (some a)))) ls H Q)
  (hop:(opAt ops k).op=.indexAddr t x y:=by kernel_rfl) (hu:P.underlying t=some (.slice e):=by kernel_rfl) (hi:(P.info? e).map (·.size)=some sz:=by kernel_rfl) (h1:evV kn x=s.v:=by kernel_rfl) (h2:evV kn y=.int .i64 i:=by kernel_rfl)
  (ho:ops[k]? = some (opAt ops k):=by kernel_rfl) (hd:(opAt ops k).dst=some d:=by kernel_rfl) (hB:(opV P n ops kn (opAt ops k)&&noCall (opAt ops k))=true:=by kernel_rfl):RS P ne m E n ops k kn ls H Q :=
 RS.o (some d) _ (zrw hop hu hi h1 h2 hx) h ho hd hB
theorem RS.ld (d:Nat) (t:TypeId) (x:Operand) {a:Addr} {v:Value} (hx:H.cell a=some v) (h:RS P ne m E n ops (k+1) (putV kn (some d) (.val v)) ls H Q)
  (hop:(opAt ops k).op=.load t x:=by kernel_rfl) (hu:(P.underlying t).map isAggD=some false:=by kernel_rfl) (h1:evV kn x=.pointer (some a):=by kernel_rfl)
  (ho:ops[k]? = some (opAt ops k):=by kernel_rfl) (hd:(opAt ops k).dst=some d:=by kernel_rfl) (hB:(opV P n ops kn (opAt ops k)&&noCall (opAt ops k))=true:=by kernel_rfl):RS P ne m E n ops k kn ls H Q :=
 RS.o (some d) _ (run_load hop hu h1 hx) h ho hd hB
theorem RS.la (d:Nat) (t:TypeId) (x:Operand) (c:Nat) {a:Addr} {l:List Value} (hx:rdCells H a 0 c=some l) (h:RS P ne m E n ops (k+1) (putV kn (some d) (.val (.agg l.toArray))) ls H Q)
  (hop:(opAt ops k).op=.load t x:=by kernel_rfl) (hu:(P.underlying t).map isAggD=some true:=by kernel_rfl) (hi:(P.info? t).map (·.size)=some c:=by kernel_rfl) (h1:evV kn x=.pointer (some a):=by kernel_rfl)
  (ho:ops[k]? = some (opAt ops k):=by kernel_rfl) (hd:(opAt ops k).dst=some d:=by kernel_rfl) (hB:(opV P n ops kn (opAt ops k)&&noCall (opAt ops k))=true:=by kernel_rfl):RS P ne m E n ops k kn ls H Q :=
 RS.o (some d) _ (zpe hop hu hi h1 hx) h ho hd hB
end Go.Abs
namespace Go.Abs
variable {P:Program} {ne:NE}
def OrOK (P:Program) (ne:NE) (o:Nat→FuncId→Array Value→AH→Option (Value×AH)):Prop:=∀m f args H v H',o m f args H=some (v,H')→CallS P ne m f args H v H'
theorem Sane.orcs {o:Nat→FuncId→Array Value→AH→Option (Value×AH)} (h:Sane P ne) (ho:OrOK P ne o):Sane P ⟨ne.esc,o⟩ :=
 ⟨h.mixed,h.noNum,h.esc,fun m f args H v H' hh=>ho m f args H v H' hh h⟩
theorem CallS.ofRun {o:Nat→FuncId→Array Value→AH→Option (Value×AH)} {n m f:Nat} {args:Array Value} {H H':AH} {v:Value} {fn:Func} {c:Code} (ho:OrOK P ne o) (hf:P.funcs[f]? = some fn) (hb:fn.body=some c) (h:acall P ⟨ne.esc,o⟩ n m f args H=some (v,H')):CallS P ne m f args H v H' :=
 fun hs=>⟨⟨fn,c,hf,hb⟩,fun _ _ _ hg ha hi=>zrm (hs.orcs ho) hf hb h hg ha hi⟩
structure Dc (α:Type) where
 de:Value→Option α
 en:α→Value
 inv:∀v a,de v=some a→v=en a
structure DcL (α:Type) where
 de:List Value→Option α
 en:α→List Value
 inv:∀v a,de v=some a→v=en a
def dcI (k:IntKind):Dc Int:=⟨deI k,fun a=>.int k a,fun u _ h=>z5 u h⟩
def dcS:Dc ByteArray:=⟨deS,fun a=>.string a,fun u _ h=>z9 u h⟩
def dcSl:Dc Sl3:=⟨deSl,fun a=>a.v,fun u _ h=>z3 u h⟩
def dcP:Dc (Option Addr):=⟨deP,fun a=>.pointer a,fun u _ h=>zr u h⟩
def dcN:DcL Unit:=⟨fun | []=>some () | _=>none,fun _=>[],fun v a h=>by cases v with | nil=>rfl | cons x l=>cases h⟩
def dcC {α β:Type} (x:Dc α) (y:DcL β):DcL (α×β):=⟨fun | []=>none | v :: l=>(x.de v).bind fun a=>(y.de l).map fun b=>(a,b),fun p=>x.en p.1 :: y.en p.2,fun v p h=>by
 cases v with
 | nil=>cases h
 | cons v l =>
  simp only at h
  cases hx:x.de v with
  | none=>rw [hx] at h; cases h
  | some a =>
   cases hy:y.de l with
   | none=>rw [hx,hy] at h; cases h
   | some b =>
    rw [hx,hy] at h
    cases h
    rw [x.inv v a hx,y.inv l b hy]⟩
def dcG {α:Type} (l:DcL α):Dc α:=⟨fun | .agg c=>l.de c.toList | _=>none,fun a=>.agg (l.en a).toArray,fun v a h=>by
 cases v with
 | agg c=>rw [← l.inv _ _ h]
 | _=>cases h⟩
def dcT {α:Type} (l:DcL α):Dc α:=⟨fun | .tuple c=>l.de c.toList | _=>none,fun a=>.tuple (l.en a).toArray,fun v a h=>by
 cases v with
 | tuple c=>rw [← l.inv _ _ h]
 | _=>cases h⟩
def orF {α:Type} (g:FuncId) (d:DcL α) (run:Nat→AH→α→Option (Value×AH)):Nat→FuncId→Array Value→AH→Option (Value×AH):=fun m f args H=>bif Nat.beq f g then (d.de args.toList).bind fun a=>run m H a else none
def orO (o1 o2:Nat→FuncId→Array Value→AH→Option (Value×AH)):Nat→FuncId→Array Value→AH→Option (Value×AH):=fun m f args H=>match o1 m f args H with
 | some r=>some r
 | none=>o2 m f args H
def orN:Nat→FuncId→Array Value→AH→Option (Value×AH):=fun _ _ _ _=>none
theorem orN_ok:OrOK P ne orN:=fun _ _ _ _ _ _ h=>by cases h
theorem orO_ok {o1 o2:Nat→FuncId→Array Value→AH→Option (Value×AH)} (h1:OrOK P ne o1) (h2:OrOK P ne o2):OrOK P ne (orO o1 o2):=fun m f args H v H' h=>by
 unfold orO at h
 cases hq:o1 m f args H with
 | some r=>rw [hq] at h; cases h; exact h1 m f args H v H' hq
 | none=>rw [hq] at h; exact h2 m f args H v H' h
theorem orF_ok {α:Type} {g:FuncId} {d:DcL α} {run:Nat→AH→α→Option (Value×AH)} (h:∀m H a v H',run m H a=some (v,H')→CallS P ne m g (d.en a).toArray H v H'):OrOK P ne (orF g d run):=fun m f args H v H' hh=>by
 unfold orF at hh
 cases hb:Nat.beq f g with
 | false=>rw [hb] at hh; cases hh
 | true =>
  rw [hb] at hh
  simp only [cond_true] at hh
  have:=Nat.eq_of_beq_eq_true hb
  subst this
  cases hq:d.de args.toList with
  | none=>rw [hq] at hh; cases hh
  | some a =>
   rw [hq] at hh
   have e:=d.inv _ _ hq
   have:=h m H a v H' hh
   rw [← e] at this
   exact this
theorem z3p {α:Type} {x:Option α} {e:α→Value} {p:α→AH} {v:Value} {H':AH} (h:(x.map fun r=>(e r,p r))=some (v,H')):∃r,x=some r∧e r=v∧p r=H':=by
 cases x with
 | none=>cases h
 | some r=>cases h; exact ⟨r,rfl,rfl,rfl⟩
def byRun {α β:Type} (P:Program) (esc:Nat) (o:Nat→FuncId→Array Value→AH→Option (Value×AH)) (m f:Nat) (args:Array Value) (H:AH) (d:Dc α) (k:α→AH→β):Option β :=
 match acall P ⟨esc,o⟩ 100000 m f args H with
 | some (v,H')=>(d.de v).map fun a=>k a H'
 | none=>none
theorem zn7 {α β:Type} {o:Nat→FuncId→Array Value→AH→Option (Value×AH)} {m f:Nat} {args:Array Value} {H:AH} {d:Dc α} {k:α→AH→β} {r:β} {fn:Func} {c:Code} {esc:Nat} (ho:OrOK P (NE.plain esc) o) (hf:P.funcs[f]? = some fn) (hb:fn.body=some c) (h:byRun P esc o m f args H d k=some r):∃a H',k a H'=r∧CallS P (NE.plain esc) m f args H (d.en a) H':=by
 unfold byRun at h
 cases hq:acall P ⟨esc,o⟩ 100000 m f args H with
 | none=>rw [hq] at h; cases h
 | some p =>
  obtain ⟨v,H'⟩:=p
  rw [hq] at h
  simp only at h
  cases hd:d.de v with
  | none=>rw [hd] at h; cases h
  | some a =>
   rw [hd] at h
   cases h
   have:=CallS.ofRun (ne:=NE.plain esc) ho hf hb hq
   rw [d.inv v a hd] at this
   exact ⟨a,H',rfl,this⟩
end Go.Abs
namespace Go.Abs
open Go
variable {P:Program} {ne:NE} {m n:Nat} {E:Ent} {kn:KN} {ls:Lcs}
structure HSub (K H:AH):Prop where
 next:K.next=H.next
 get:∀id b,K.get id=some b→H.get id=some b
theorem zrc {φ:Inj} {K H:AH} {w:World} (h:HSub K H) (hi:Inv φ H w):Inv φ K w :=
 ⟨fun id l hl=>by rw [h.next]; exact hi.dom id l hl,fun id b hb=>hi.obj id b (h.get _ _ hb),fun id id' b b' l l' hb hb'=>hi.sep id id' b b' l l' (h.get _ _ hb) (h.get _ _ hb')⟩
theorem zq6 {φ φ':Inj} {H0 K H:AH} {w w':World} (h:HSub K H) (hs:Step m φ H0 w φ' H w'):Step m φ H0 w φ' K w' :=
 ⟨by rw [h.next]; exact hs.le,hs.ext,hs.new,fun id hh=>hs.alv id (by
  obtain ⟨b,hb⟩:=Option.isSome_iff_exists.1 hh
  rw [h.get _ _ hb]; rfl),hs.size,hs.keep,hs.os,hs.tape,hs.output⟩
theorem SS.hsub {K H:AH} {a:Act} {w:World} (h:HSub K H) (hs:SS P ne m E n kn ls H a w):SS P ne m E n kn ls K a w:=by
 obtain ⟨φ,cs,hs⟩:=hs
 exact ⟨φ,cs,hs.glob,zrc h hs.inv,zq6 h hs.step,hs.len,hs.loc,hs.inj,hs.low,hs.slot,hs.size,hs.defers,hs.sane,hs.inv0⟩
def meetT {α:Type} (eq:α→α→Bool):Tr α→Tr α→Tr α
 | .nil,_=>.nil
 | .node _ _ _,.nil=>.nil
 | .node v l r,.node v' l' r'=>.node (match v,v' with
  | some x,some y=>bif eq x y then some x else none
  | _,_=>none) (meetT eq l l') (meetT eq r r')
theorem zln {α:Type} {eq:α→α→Bool}:∀(s t:Tr α) (i:Nat) (x:α),(meetT eq s t).get i=some x→s.get i=some x∧∃y,t.get i=some y∧eq x y=true:=by
 intro s
 induction s with
 | nil=>intro t i x h; cases h
 | node v l r ihl ihr =>
  intro t i x h
  cases t with
  | nil=>cases h
  | node v' l' r' =>
   simp only [meetT,Tr.get] at h ⊢
   cases hi:Nat.beq i 0 with
   | true =>
    rw [hi] at h
    simp only [cond_true] at h ⊢
    cases v with
    | none=>cases h
    | some a =>
     cases v' with
     | none=>cases h
     | some b =>
      simp only at h
      cases he:eq a b with
      | false=>rw [he] at h; cases h
      | true=>rw [he] at h; cases h; exact ⟨rfl,b,rfl,he⟩
   | false =>
    rw [hi] at h
    simp only [cond_false] at h ⊢
    cases hj:Nat.beq (i % 2) 1 with
    | true=>rw [hj] at h; simp only [cond_true] at h ⊢; exact ihl _ _ _ h
    | false=>rw [hj] at h; simp only [cond_false] at h ⊢; exact ihr _ _ _ h
def cellsEq (c d:Array Value):Bool:=Nat.beq c.size d.size&&(c.toList.zip d.toList).all fun (x,y)=>veq depth x y
theorem zip_eq:∀(l k:List Value),l.length=k.length→((l.zip k).all fun (x,y)=>veq depth x y)=true→l=k
 | [],[],_,_=>rfl
 | x :: l,y :: k,hl,h=>by
  simp only [List.zip_cons_cons,List.all_cons,Bool.and_eq_true] at h
  rw [veq_eq _ h.1,zip_eq l k (by simpa using hl) h.2]
theorem zpr {c d:Array Value} (h:cellsEq c d=true):c=d:=by
 unfold cellsEq at h
 simp only [Bool.and_eq_true] at h
 have:=zip_eq c.toList d.toList (by simpa using Nat.eq_of_beq_eq_true h.1) h.2
 exact Array.ext' this
def entEq (a b:MapEntry):Bool:=veq depth a.key b.key&&veq depth a.val b.val&&Nat.beq a.born b.born
theorem zrk {a b:MapEntry} (h:entEq a b=true):a=b:=by
 unfold entEq at h
 simp only [Bool.and_eq_true] at h
 obtain ⟨k,v,n⟩:=a
 obtain ⟨k',v',n'⟩:=b
 simp only at h
 rw [veq_eq _ h.1.1,veq_eq _ h.1.2,Nat.eq_of_beq_eq_true h.2]
def entsEq (c d:Array MapEntry):Bool:=Nat.beq c.size d.size&&(c.toList.zip d.toList).all fun (x,y)=>entEq x y
theorem zoq:∀(l k:List MapEntry),l.length=k.length→((l.zip k).all fun (x,y)=>entEq x y)=true→l=k
 | [],[],_,_=>rfl
 | x :: l,y :: k,hl,h=>by
  simp only [List.zip_cons_cons,List.all_cons,Bool.and_eq_true] at h
  rw [zrk h.1,zoq l k (by simpa using hl) h.2]
theorem zqo {c d:Array MapEntry} (h:entsEq c d=true):c=d:=by
 unfold entsEq at h
 simp only [Bool.and_eq_true] at h
 exact Array.ext' (zoq c.toList d.toList (by simpa using Nat.eq_of_beq_eq_true h.1) h.2)
def objEq:Obj→Obj→Bool
 | .cells c e f,.cells c' e' f'=>cellsEq c c'&&Nat.beq e e'&&Nat.beq f.1 f'.1&&Nat.beq f.2 f'.2
 | .map es k,.map es' k'=>entsEq es es'&&Nat.beq k k'
 | _,_=>false
theorem zra {a b:Obj} (h:objEq a b=true):a=b:=by
 unfold objEq at h
 split at h
 ·rename_i c e f c' e' f'
  simp only [Bool.and_eq_true] at h
  obtain ⟨f1,f2⟩:=f
  obtain ⟨g1,g2⟩:=f'
  rw [zpr h.1.1.1,Nat.eq_of_beq_eq_true h.1.1.2]
  have h1:=Nat.eq_of_beq_eq_true h.1.2
  have h2:=Nat.eq_of_beq_eq_true h.2
  simp only at h1 h2
  rw [h1,h2]
 ·simp only [Bool.and_eq_true] at h
  rw [zqo h.1,Nat.eq_of_beq_eq_true h.2]
 ·cases h
def blkEq (a b:Blk):Bool:=objEq a.obj b.obj&&(a.opn == b.opn)&&Nat.beq a.esz b.esz&&(a.ro == b.ro)
theorem zr0 {a b:Blk} (h:blkEq a b=true):a=b:=by
 unfold blkEq at h
 simp only [Bool.and_eq_true] at h
 obtain ⟨o,p,z,r⟩:=a
 obtain ⟨o',p',z',r'⟩:=b
 simp only at h
 rw [zra h.1.1.1,eq_of_beq h.1.1.2,Nat.eq_of_beq_eq_true h.1.2,eq_of_beq h.2]
def coinJ (A B:Option AH):Option AH :=
 match A,B with
 | some a,some b=>bif Nat.beq a.next b.next then some ⟨a.next,meetT blkEq a.mem b.mem⟩ else none
 | _,_=>none
theorem zq5 {A B:Option AH} {r:AH} (h:coinJ A B=some r):∃a b,A=some a∧B=some b∧HSub r a∧HSub r b:=by
 unfold coinJ at h
 split at h
 ·rename_i a b
  cases hn:Nat.beq a.next b.next with
  | false=>rw [hn] at h; cases h
  | true =>
   rw [hn] at h
   cases h
   refine ⟨a,b,rfl,rfl,⟨rfl,fun id x hx=>(zln _ _ _ _ hx).1⟩,⟨Nat.eq_of_beq_eq_true hn,fun id x hx=>?_⟩⟩
   obtain ⟨_,y,h1,h2⟩:=zln _ _ _ _ hx
   rw [zr0 h2]
   exact h1
 ·cases h
end Go.Abs
namespace Go.Proofs.YtpcckomdlmpckaaGreatDoor
open Go Go.Abs
set_option maxRecDepth 100000
noncomputable def B29:Code:=(Tryz.f29.body).getD .skip
def z9y:Bool→Value
 | r0=>(Value.bool r0)
def zbl (H:AH):Bool→AH:=fun _=>H
noncomputable def zb9 (_L:LC) (_H:AH) (_a0_0 a0_1 _a0_2:Sl3):(Int×Int)→Option (Lp (Int×Int) Bool):=fun (v3_1,v24_2) =>
 if v24_2<(a0_1.n:Int) then
  none
 else
  some (.brk (v3_1,v24_2))
def zkc (_L:LC) (_H:AH) (a0_0 a0_1 a0_2:Sl3):(Int×Int)→KN×Lcs:=fun (v3_1,v24_2)=>([kI 3 v3_1,kI 24 v24_2,kL 1 0 0,kS 22 a0_1,kI 23 (a0_1.n:Int)],[some (30,[(Sl3.v a0_0),(Sl3.v a0_1),(Sl3.v a0_2)])])
noncomputable def zc3 (_L:LC) (H:AH) (_a0_0 _a0_1 a0_2:Sl3) (_v3_3:Int):Int→Option (Lp Int Bool):=fun v64_5 =>
 if v64_5<(a0_2.n:Int) then
  Option.bind (idxA 6 a0_2 v64_5) fun p6 =>
  Option.bind (rd deS H (Addr.add p6 0)) fun _ =>
  Option.bind (rd deSl H (Addr.add p6 1)) fun x7_1 =>
  Option.bind (rd (deI .i64) H (Addr.add p6 2)) fun _ =>
  Option.bind (rd (deI .i64) H (Addr.add p6 3)) fun _ =>
  Option.bind (rd deS H (Addr.add p6 4)) fun _ =>
  Option.bind (rd deSl H (Addr.add p6 5)) fun _ =>
  if (x7_1.n:Int) > 64 then
   none
  else
   some (.next (IntKind.i64.wrap (v64_5+1)))
 else
  some (.brk v64_5)
def zk3 (_L:LC) (_H:AH) (a0_0 a0_1 a0_2:Sl3) (v3_3:Int):Int→KN×Lcs:=fun v64_5=>([kI 64 v64_5,kI 3 v3_3,kS 62 a0_2,kI 63 (a0_2.n:Int)],[some (30,[(Sl3.v a0_0),(Sl3.v a0_1),(Sl3.v a0_2)])])
noncomputable def zi5 (L:LC) (H:AH) (a0_0 a0_1 a0_2:Sl3):Option Bool :=
 Option.bind (L.run (zb9 L H a0_0 a0_1 a0_2) ((IntKind.i64.wrap ((IntKind.i64.wrap ((a0_0.n:Int)+(a0_1.n:Int)))+(a0_2.n:Int))),0)) fun o=>match o with
 | .inl (v3_3,_) =>
  Option.bind (L.run (zc3 L H a0_0 a0_1 a0_2 v3_3) 0) fun o=>match o with
  | .inl _ =>
   some (decide (v3_3 > 4096))
  | .inr r=>some r
 | .inr r=>some r
theorem zd2 {E m L H a0_0 a0_1 a0_2} :LoopF Tryz.prog (NE.plain 148) m E Tryz.f29 ((cfst (csnd (cfst (csnd (csnd B29)))))) (zkc L H a0_0 a0_1 a0_2) (fun _=>H) 0 z9y (zbl H) (zb9 L H a0_0 a0_1 a0_2):=by
 rintro ⟨v3_1,v24_2⟩ o h
 unfold zb9 at h
 try dsimp only at h
 refine WS.sq (WS.rg (RS.mS 1 [kB 25 (decide (v24_2<(a0_1.n:Int)))] (RS.dn (WS.nxt (WS.sq ?_)))))
 rcases z0 h with ⟨hp,h⟩ | ⟨hp,h⟩
 ·refine WS.fx 25 true (decide_eq_true hp) (WS.cT ?_)
  cases h
 ·refine WS.fx 25 false (decide_eq_false hp) (WS.cF (WS.ex 0 ?_))
  cases h
  exact fun a w hs=>sqE (lsB rfl (hs.sb 1))
theorem zcp {E m L H a0_0 a0_1 a0_2 v3_3} :LoopF Tryz.prog (NE.plain 148) m E Tryz.f29 ((cfst (csnd (cfst (csnd (csnd (csnd B29))))))) (zk3 L H a0_0 a0_1 a0_2 v3_3) (fun _=>H) 4 z9y (zbl H) (zc3 L H a0_0 a0_1 a0_2 v3_3):=by
 rintro v64_5 o h
 unfold zc3 at h
 try dsimp only at h
 refine WS.sq (WS.rg (RS.mS 1 [kB 65 (decide (v64_5<(a0_2.n:Int)))] (RS.dn (WS.nxt (WS.sq ?_)))))
 rcases z0 h with ⟨hp,h⟩ | ⟨hp,h⟩
 ·refine WS.fx 65 true (decide_eq_true hp) (WS.cT (WS.sk (WS.nxt (WS.sq (WS.bk 5 (WS.sq (WS.rg ?_)))))))
  obtain ⟨p6,hx,h⟩:=bind_some h
  refine RS.ix 66 28 66 (.tmp 62) (.tmp 64) hx ?_
  obtain ⟨x7_0,hx0,h⟩:=bind_some h
  obtain ⟨x7_1,hx1,h⟩:=bind_some h
  obtain ⟨x7_2,hx2,h⟩:=bind_some h
  obtain ⟨x7_3,hx3,h⟩:=bind_some h
  obtain ⟨x7_4,hx4,h⟩:=bind_some h
  obtain ⟨x7_5,hx5,h⟩:=bind_some h
  refine RS.la 67 66 (.tmp 66) 6 (z2 (z1 hx0 z9) (z2 (z1 hx1 z3) (z2 (z1 hx2 z5) (z2 (z1 hx3 z5) (z2 (z1 hx4 z9) (z2 (z1 hx5 z3) zd)))))) (RS.mL 2 [kL 9 1 0] ([some (30,[(Sl3.v a0_0),(Sl3.v a0_1),(Sl3.v a0_2)]),some (66,[(Value.string x7_0),(Sl3.v x7_1),(Value.int .i64 x7_2),(Value.int .i64 x7_3),(Value.string x7_4),(Sl3.v x7_5)])]) (RS.dn (WS.nxt (WS.sq (WS.rg (RS.mS 4 [kB 71 (decide ((x7_1.n:Int) > 64)),kI 70 (x7_1.n:Int),kS 69 x7_1,kL 68 1 1] (RS.dn (WS.nxt ?_))))))))
  rcases z0 h with ⟨hp,h⟩ | ⟨hp,h⟩
  ·refine WS.fx 71 true (decide_eq_true hp) (WS.cT ?_)
   cases h
  ·refine WS.fx 71 false (decide_eq_false hp) (WS.cF (WS.sk ?_))
   refine fun a w hs=>bkN ((WS.nxt ?_ a w hs))
   refine WS.rg (RS.mS 2 [kI 64 (IntKind.i64.wrap (v64_5+1)),kI 72 (IntKind.i64.wrap (v64_5+1))] (RS.dn ?_))
   cases h
   exact fun a w hs=>lsN rfl (hs.sb 1)
 ·refine WS.fx 65 false (decide_eq_false hp) (WS.cF (WS.ex 4 ?_))
  cases h
  exact fun a w hs=>sqE (lsB rfl (hs.sb 1))
theorem zml {L:LC} {m:Nat} {H:AH} {a0_0 a0_1 a0_2:Sl3} {r:Bool} (h:zi5 L H a0_0 a0_1 a0_2=some r) :
  CallS Tryz.prog (NE.plain 148) m 29 #[(Value.agg #[(Sl3.v a0_0),(Sl3.v a0_1),(Sl3.v a0_2)])] H (z9y r) (zbl H r):=by
 refine CallS.mk (args:=[(Value.agg #[(Sl3.v a0_0),(Sl3.v a0_1),(Sl3.v a0_2)])]) Tryz.func29 (B:=B29) (by kernel_rfl) (fun E _=>?_)
 unfold zi5 at h
 refine WS.sq (WS.rg (RS.mL 2 [kB 2 false,kL 1 0 0] ([some (30,[(Sl3.v a0_0),(Sl3.v a0_1),(Sl3.v a0_2)])]) (RS.dn (WS.nxt (WS.sq (WS.rg (RS.mS 12 [kI 3 (IntKind.i64.wrap ((IntKind.i64.wrap ((a0_0.n:Int)+(a0_1.n:Int)))+(a0_2.n:Int))),kI 20 (IntKind.i64.wrap ((IntKind.i64.wrap ((a0_0.n:Int)+(a0_1.n:Int)))+(a0_2.n:Int))),kI 19 (a0_2.n:Int),kS 18 a0_2,kL 17 0 2,kI 16 (IntKind.i64.wrap ((a0_0.n:Int)+(a0_1.n:Int))),kI 15 (a0_1.n:Int),kS 14 a0_1,kL 13 0 1,kI 12 (a0_0.n:Int),kS 11 a0_0,kL 10 0 0] (RS.dn (WS.nxt ?_)))))))))
 refine WS.sq (WS.sq (WS.rg (RS.mS 4 [kI 24 0,kI 23 (a0_1.n:Int),kS 22 a0_1,kL 21 0 1] (RS.dn (WS.nxt (WS.bk 0 ?_))))))
 obtain ⟨o,hl,h⟩:=bind_some h
 rcases o with ⟨v3_3,v24_4⟩ | r
 ·try dsimp only at h
  refine WS.lI (zd2 (L:=L) (E:=E) (m:=m) (H:=H)) (L.ok hl) 1 ?_
  clear hl
  refine fun a w hs=>bkE ((WS.nxt ?_ a w hs))
  refine WS.sq (WS.sq (WS.rg (RS.mS 4 [kI 64 0,kI 63 (a0_2.n:Int),kS 62 a0_2,kL 61 0 2] (RS.dn (WS.nxt (WS.bk 4 ?_))))))
  obtain ⟨o,hl,h⟩:=bind_some h
  rcases o with v64_8 | r
  ·try dsimp only at h
   refine WS.lI (zcp (L:=L) (E:=E) (m:=m) (H:=H)) (L.ok hl) 1 ?_
   clear hl
   refine fun a w hs=>bkE ((WS.nxt ?_ a w hs))
   refine WS.sq (WS.rg (RS.mS 3 [kB 2 (decide (v3_3 > 4096)),kB 74 (decide (v3_3 > 4096)),kI 73 v3_3] (RS.dn (WS.nxt (WS.rt ?_)))))
   cases h
   exact fun a w hs=>rtR (rS hs)
  ·try dsimp only at h
   refine WS.lR (zcp (L:=L) (E:=E) (m:=m) (H:=H)) (L.ok hl) 1 ?_
   cases h
   exact fun a w hq=>bkR (sqR (rtR hq))
 ·try dsimp only at h
  refine WS.lR (zd2 (L:=L) (E:=E) (m:=m) (H:=H)) (L.ok hl) 1 ?_
  cases h
  exact fun a w hq=>bkR (sqR (rtR hq))
noncomputable def B31:Code:=(Tryz.f31.body).getD .skip
def zgh:(Sl3×AH)→Value
 | (r0,_)=>(Sl3.v r0)
def zhh (_:AH):(Sl3×AH)→AH:=fun r=>r.2
noncomputable def z31 (_L:LC) (_m:Nat) (H:AH) (a0:Sl3):Option (Sl3×AH) :=
 if (isNilS a0)=true then
  some (Sl3.nil,H)
 else
  none
theorem z4w {L:LC} {m:Nat} {H:AH} {a0:Sl3} {r:(Sl3×AH)} (h:z31 L m H a0=some r) :
  CallS Tryz.prog (NE.plain 148) m 31 #[(Sl3.v a0)] H (zgh r) (zhh H r):=by
 refine CallS.mk (args:=[(Sl3.v a0)]) Tryz.func31 (B:=B31) (by kernel_rfl) (fun E _=>?_)
 unfold z31 at h
 refine WS.sq (WS.rg (RS.mS 1 [kS 2 Sl3.nil] (RS.dn (WS.nxt (WS.sq (WS.sq (WS.rg (RS.mS 1 [kS 3 a0] (RS.o (H':=H) (some 4) (Value.bool (isNilS a0)) (z9a (t:=26) (e:=9) (u:=26) (x:=.tmp 3) (y:=.const (Sl3.v Sl3.nil)) (s:=a0) (by kernel_rfl) (by kernel_rfl) (by kernel_rfl) (by kernel_rfl)) ?_)))))))))
 refine RS.dn (WS.nxt ?_)
 rcases z0 h with ⟨hp,h⟩ | ⟨hp,h⟩
 ·refine WS.fx 4 true hp (WS.cT (WS.sq (WS.rg (RS.mS 1 [kS 2 Sl3.nil] (RS.dn (WS.nxt (WS.rt ?_)))))))
  cases h
  exact fun a w hs=>sqR (rtR (rS hs))
 ·refine WS.fx 4 false (b_not hp) (WS.cF ?_)
  cases h
noncomputable def B30:Code:=(Tryz.f30.body).getD .skip
def z96:(Sl3×Sl3×AH)→Value
 | (r0,r1,_)=>(Value.tuple #[(Sl3.v r0),(Sl3.v r1)])
def za2 (_:AH):(Sl3×Sl3×AH)→AH:=fun r=>r.2.2
noncomputable def z9z (_L:LC) (_a0_0 a0_1 _a0_2:Sl3):(AH×Sl3×Sl3×Int)→Option (Lp (AH×Sl3×Sl3×Int) (Sl3×Sl3×AH)):=fun (H3,v4_4,v5_5,v20_6) =>
 if v20_6<(a0_1.n:Int) then
  none
 else
  some (.brk (H3,v4_4,v5_5,v20_6))
def zjm (_L:LC) (a0_0 a0_1 a0_2:Sl3):(AH×Sl3×Sl3×Int)→KN×Lcs:=fun (_,v4_4,v5_5,v20_6)=>([kS 4 v4_4,kS 5 v5_5,kI 20 v20_6,kL 1 0 0,kS 18 a0_1,kI 19 (a0_1.n:Int)],[some (30,[(Sl3.v a0_0),(Sl3.v a0_1),(Sl3.v a0_2)])])
noncomputable def zal (_L:LC) (m:Nat) (_a0_0 _a0_1:Sl3) (a0_2 _v4_8:Sl3):(AH×Sl3×Int)→Option (Lp (AH×Sl3×Int) (Sl3×Sl3×AH)):=fun (H11,v5_12,v59_13) =>
 if v59_13<(a0_2.n:Int) then
  Option.bind (idxA 6 a0_2 v59_13) fun p14 =>
  Option.bind (rd deS H11 (Addr.add p14 0)) fun x15_0 =>
  Option.bind (rd deSl H11 (Addr.add p14 1)) fun _ =>
  Option.bind (rd (deI .i64) H11 (Addr.add p14 2)) fun _ =>
  Option.bind (rd (deI .i64) H11 (Addr.add p14 3)) fun _ =>
  Option.bind (rd deS H11 (Addr.add p14 4)) fun _ =>
  Option.bind (rd deSl H11 (Addr.add p14 5)) fun _ =>
  Option.bind (newR 9 1 #[(Value.string x15_0)] H11) fun (s16,H17) =>
  Option.bind (appS m 9 1 16 H17 v5_12 s16) fun (s18,H19) =>
  some (.next (H19,s18,(IntKind.i64.wrap (v59_13+1))))
 else
  some (.brk (H11,v5_12,v59_13))
def zj3 (_L:LC) (_m:Nat) (a0_0 a0_1:Sl3) (a0_2 v4_8:Sl3):(AH×Sl3×Int)→KN×Lcs:=fun (_,v5_12,v59_13)=>([kS 5 v5_12,kI 59 v59_13,kS 4 v4_8,kS 57 a0_2,kI 58 (a0_2.n:Int)],[some (30,[(Sl3.v a0_0),(Sl3.v a0_1),(Sl3.v a0_2)])])
noncomputable def zff (L:LC) (m:Nat) (H:AH) (a0_0 a0_1 a0_2:Sl3):Option (Sl3×Sl3×AH) :=
 Option.bind (z31 L m H a0_0) fun (x1,H2) =>
 Option.bind (L.run (z9z L a0_0 a0_1 a0_2) (H2,x1,Sl3.nil,0)) fun o=>match o with
 | .inl (H7,v4_8,v5_9,_) =>
  Option.bind (L.run (zal L m a0_0 a0_1 a0_2 v4_8) (H7,v5_9,0)) fun o=>match o with
  | .inl (H20,v5_21,_) =>
   some (v4_8,v5_21,H20)
  | .inr r=>some r
 | .inr r=>some r
theorem zbc {E m H L a0_0 a0_1 a0_2} :LoopF Tryz.prog (NE.plain 148) m E Tryz.f30 ((cfst (csnd (cfst (csnd (csnd (csnd B30))))))) (zjm L a0_0 a0_1 a0_2) (fun s=>s.1) 0 z96 (za2 H) (z9z L a0_0 a0_1 a0_2):=by
 rintro ⟨H3,v4_4,v5_5,v20_6⟩ o h
 unfold z9z at h
 try dsimp only at h
 refine WS.sq (WS.rg (RS.mS 1 [kB 21 (decide (v20_6<(a0_1.n:Int)))] (RS.dn (WS.nxt (WS.sq ?_)))))
 rcases z0 h with ⟨hp,h⟩ | ⟨hp,h⟩
 ·refine WS.fx 21 true (decide_eq_true hp) (WS.cT ?_)
  cases h
 ·refine WS.fx 21 false (decide_eq_false hp) (WS.cF (WS.ex 0 ?_))
  cases h
  exact fun a w hs=>sqE (lsB rfl (hs.sb 1))
theorem zbz {E H L m a0_0 a0_1 a0_2 v4_8} :LoopF Tryz.prog (NE.plain 148) m E Tryz.f30 ((cfst (csnd (cfst (csnd (csnd (csnd (csnd B30)))))))) (zj3 L m a0_0 a0_1 a0_2 v4_8) (fun s=>s.1) 6 z96 (za2 H) (zal L m a0_0 a0_1 a0_2 v4_8):=by
 rintro ⟨H11,v5_12,v59_13⟩ o h
 unfold zal at h
 try dsimp only at h
 refine WS.sq (WS.rg (RS.mS 1 [kB 60 (decide (v59_13<(a0_2.n:Int)))] (RS.dn (WS.nxt (WS.sq ?_)))))
 rcases z0 h with ⟨hp,h⟩ | ⟨hp,h⟩
 ·refine WS.fx 60 true (decide_eq_true hp) (WS.cT (WS.sk (WS.nxt (WS.sq (WS.bk 7 (WS.sq (WS.rg ?_)))))))
  obtain ⟨p14,hx,h⟩:=bind_some h
  refine RS.ix 61 28 66 (.tmp 57) (.tmp 59) hx ?_
  obtain ⟨x15_0,hx0,h⟩:=bind_some h
  obtain ⟨x15_1,hx1,h⟩:=bind_some h
  obtain ⟨x15_2,hx2,h⟩:=bind_some h
  obtain ⟨x15_3,hx3,h⟩:=bind_some h
  obtain ⟨x15_4,hx4,h⟩:=bind_some h
  obtain ⟨x15_5,hx5,h⟩:=bind_some h
  refine RS.la 62 66 (.tmp 61) 6 (z2 (z1 hx0 z9) (z2 (z1 hx1 z3) (z2 (z1 hx2 z5) (z2 (z1 hx3 z5) (z2 (z1 hx4 z9) (z2 (z1 hx5 z3) zd)))))) (RS.mL 2 [kL 13 1 0] ([some (30,[(Sl3.v a0_0),(Sl3.v a0_1),(Sl3.v a0_2)]),some (66,[(Value.string x15_0),(Sl3.v x15_1),(Value.int .i64 x15_2),(Value.int .i64 x15_3),(Value.string x15_4),(Sl3.v x15_5)])]) (RS.dn (WS.nxt (WS.rg (RS.mS 3 [kT 65 x15_0,kL 64 1 0,kS 63 v5_12] ?_)))))
  obtain ⟨⟨s16,H17⟩,hx,h⟩:=bind_some h
  try dsimp only at h
  refine RS.o (H':=H17) (some 66) (Sl3.v s16) (Abs.run_newR (by kernel_rfl) (by kernel_rfl) hx) ?_
  obtain ⟨⟨s18,H19⟩,hx,h⟩:=bind_some h
  try dsimp only at h
  refine RS.o (H':=H19) (some 67) (Sl3.v s18) (Abs.run_app (x:=.tmp 63) (y:=.tmp 66) (ts:=#[26,26]) (s:=v5_12) (z:=s16) (by kernel_rfl) (by kernel_rfl) (by kernel_rfl) (by kernel_rfl) hx) (RS.mS 1 [kS 5 s18] (RS.dn ?_))
  refine fun a w hs=>bkN ((WS.nxt ?_ a w hs))
  refine WS.rg (RS.mS 2 [kI 59 (IntKind.i64.wrap (v59_13+1)),kI 68 (IntKind.i64.wrap (v59_13+1))] (RS.dn ?_))
  cases h
  exact fun a w hs=>lsN rfl (hs.sb 1)
 ·refine WS.fx 60 false (decide_eq_false hp) (WS.cF (WS.ex 6 ?_))
  cases h
  exact fun a w hs=>sqE (lsB rfl (hs.sb 1))
theorem zmj {L:LC} {m:Nat} {H:AH} {a0_0 a0_1 a0_2:Sl3} {r:(Sl3×Sl3×AH)} (h:zff L m H a0_0 a0_1 a0_2=some r) :
  CallS Tryz.prog (NE.plain 148) m 30 #[(Value.agg #[(Sl3.v a0_0),(Sl3.v a0_1),(Sl3.v a0_2)])] H (z96 r) (za2 H r):=by
 refine CallS.mk (args:=[(Value.agg #[(Sl3.v a0_0),(Sl3.v a0_1),(Sl3.v a0_2)])]) Tryz.func30 (B:=B30) (by kernel_rfl) (fun E _=>?_)
 unfold zff at h
 refine WS.sq (WS.rg (RS.mL 3 [kS 3 Sl3.nil,kS 2 Sl3.nil,kL 1 0 0] ([some (30,[(Sl3.v a0_0),(Sl3.v a0_1),(Sl3.v a0_2)])]) (RS.dn (WS.nxt (WS.sq (WS.rg (RS.mS 2 [kS 15 a0_0,kL 14 0 0] ?_)))))))
 obtain ⟨⟨x1,H2⟩,hx,h⟩:=bind_some h
 try dsimp only at h
 refine RS.cl (some 16) (v:=(Sl3.v x1)) 31 #[(Sl3.v a0_0)] (z4w hx) (RS.mS 1 [kS 4 x1] (RS.dn (WS.nxt (WS.sq (WS.rg (RS.mS 1 [kS 5 Sl3.nil] (RS.dn (WS.nxt (WS.sq ?_)))))))))
 refine WS.sq (WS.rg (RS.mS 4 [kI 20 0,kI 19 (a0_1.n:Int),kS 18 a0_1,kL 17 0 1] (RS.dn (WS.nxt (WS.bk 0 ?_)))))
 obtain ⟨o,hl,h⟩:=bind_some h
 rcases o with ⟨H7,v4_8,v5_9,v20_10⟩ | r
 ·try dsimp only at h
  refine WS.lI (zbc (L:=L) (E:=E) (m:=m) (H:=H)) (L.ok hl) 1 ?_
  clear hl
  refine fun a w hs=>bkE ((WS.nxt ?_ a w hs))
  refine WS.sq (WS.sq (WS.rg (RS.mS 4 [kI 59 0,kI 58 (a0_2.n:Int),kS 57 a0_2,kL 56 0 2] (RS.dn (WS.nxt (WS.bk 6 ?_))))))
  obtain ⟨o,hl,h⟩:=bind_some h
  rcases o with ⟨H20,v5_21,v59_22⟩ | r
  ·try dsimp only at h
   refine WS.lI (zbz (L:=L) (E:=E) (m:=m) (H:=H)) (L.ok hl) 1 ?_
   clear hl
   refine fun a w hs=>bkE ((WS.nxt ?_ a w hs))
   refine WS.sq (WS.rg (RS.mS 4 [kS 3 v5_21,kS 2 v4_8,kS 70 v5_21,kS 69 v4_8] (RS.dn (WS.nxt (WS.rt ?_)))))
   cases h
   exact fun a w hs=>rtR (rS hs)
  ·try dsimp only at h
   refine WS.lR (zbz (L:=L) (E:=E) (m:=m) (H:=H)) (L.ok hl) 1 ?_
   cases h
   exact fun a w hq=>bkR (sqR (rtR hq))
 ·try dsimp only at h
  refine WS.lR (zbc (L:=L) (E:=E) (m:=m) (H:=H)) (L.ok hl) 1 ?_
  cases h
  exact fun a w hq=>bkR (sqR (rtR hq))
noncomputable def B32:Code:=(Tryz.f32.body).getD .skip
def zfy:Bool→Value
 | r0=>(Value.bool r0)
def zh5 (H:AH):Bool→AH:=fun _=>H
noncomputable def zc1 (_L:LC) (a0:ByteArray):Int→Option (Lp Int Bool):=fun v24_3 =>
 if v24_3<(a0.size:Int) then
  Option.bind (bytA a0 v24_3) fun x4 =>
  if x4<32 then
   none
  else
   Option.bind (bytA a0 v24_3) fun x5 =>
   if x5 > 126 then
    none
   else
    Option.bind (bytA a0 v24_3) fun x6 =>
    if x6=124 then
     none
    else
     Option.bind (bytA a0 v24_3) fun x7 =>
     if x7=92 then
      none
     else
      some (.next (IntKind.i64.wrap (v24_3+1)))
 else
  some (.brk v24_3)
def zk4 (_L:LC) (a0:ByteArray):Int→KN×Lcs:=fun v24_3=>([kI 24 v24_3,kT 0 a0,kI 23 (a0.size:Int)],[])
noncomputable def zcz (L:LC) (a0:ByteArray):Option Bool :=
 if (a0.size:Int)<1 then
  none
 else
  if (a0.size:Int) > 200 then
   none
  else
   Option.bind (bytA a0 0) fun x1 =>
   if x1=64 then
    none
   else
    Option.bind (bytA a0 0) fun x2 =>
    if x2=46 then
     none
    else
     Option.bind (L.run (zc1 L a0) 0) fun o=>match o with
     | .inl _ =>
      some true
     | .inr r=>some r
theorem zcr {E m H L a0} :LoopF Tryz.prog (NE.plain 148) m E Tryz.f32 ((cfst (csnd (cfst (csnd (csnd B32)))))) (zk4 L a0) (fun _=>H) 0 zfy (zh5 H) (zc1 L a0):=by
 rintro v24_3 o h
 unfold zc1 at h
 try dsimp only at h
 refine WS.sq (WS.rg (RS.mS 1 [kB 25 (decide (v24_3<(a0.size:Int)))] (RS.dn (WS.nxt (WS.sq ?_)))))
 rcases z0 h with ⟨hp,h⟩ | ⟨hp,h⟩
 ·refine WS.fx 25 true (decide_eq_true hp) (WS.cT (WS.sk (WS.nxt (WS.sq (WS.bk 1 (WS.sq (WS.rg (RS.mS 2 [kI 3 v24_3,kI 26 v24_3] (RS.dn ?_)))))))))
  refine WS.nxt (WS.sq (WS.rg (RS.mS 2 [kI 28 v24_3,kT 27 a0] ?_)))
  obtain ⟨x4,hx,h⟩:=bind_some h
  refine RS.o (H':=H) (some 29) (Value.int .u8 x4) (Abs.run_byt (t:=9) (x:=.tmp 27) (y:=.tmp 28) (s:=a0) (k:=.i64) (i:=v24_3) (by kernel_rfl) (by kernel_rfl) (by kernel_rfl) (by kernel_rfl) hx) (RS.mS 2 [kB 31 (decide (x4<32)),kB 30 (decide (x4<32))] ?_)
  rcases z0 h with ⟨hp,h⟩ | ⟨hp,h⟩
  ·refine RS.fx 31 true (decide_eq_true hp) ?_
   cases h
  ·refine RS.fx 31 false (decide_eq_false hp) (RS.mS 2 [kI 33 v24_3,kT 32 a0] ?_)
   obtain ⟨x5,hx,h⟩:=bind_some h
   refine RS.o (H':=H) (some 34) (Value.int .u8 x5) (Abs.run_byt (t:=9) (x:=.tmp 32) (y:=.tmp 33) (s:=a0) (k:=.i64) (i:=v24_3) (by kernel_rfl) (by kernel_rfl) (by kernel_rfl) (by kernel_rfl) hx) (RS.mS 3 [kB 37 (decide (x5 > 126)),kB 36 (decide (x5 > 126)),kB 35 (decide (x5 > 126))] ?_)
   rcases z0 h with ⟨hp,h⟩ | ⟨hp,h⟩
   ·refine RS.fx 37 true (decide_eq_true hp) ?_
    cases h
   ·refine RS.fx 37 false (decide_eq_false hp) (RS.mS 2 [kI 39 v24_3,kT 38 a0] ?_)
    obtain ⟨x6,hx,h⟩:=bind_some h
    refine RS.o (H':=H) (some 40) (Value.int .u8 x6) (Abs.run_byt (t:=9) (x:=.tmp 38) (y:=.tmp 39) (s:=a0) (k:=.i64) (i:=v24_3) (by kernel_rfl) (by kernel_rfl) (by kernel_rfl) (by kernel_rfl) hx) (RS.mS 3 [kB 43 (decide (x6=124)),kB 42 (decide (x6=124)),kB 41 (decide (x6=124))] ?_)
    rcases z0 h with ⟨hp,h⟩ | ⟨hp,h⟩
    ·refine RS.fx 43 true (decide_eq_true hp) ?_
     cases h
    ·refine RS.fx 43 false (decide_eq_false hp) (RS.mS 2 [kI 45 v24_3,kT 44 a0] ?_)
     obtain ⟨x7,hx,h⟩:=bind_some h
     refine RS.o (H':=H) (some 46) (Value.int .u8 x7) (Abs.run_byt (t:=9) (x:=.tmp 44) (y:=.tmp 45) (s:=a0) (k:=.i64) (i:=v24_3) (by kernel_rfl) (by kernel_rfl) (by kernel_rfl) (by kernel_rfl) hx) (RS.mS 2 [kB 48 (decide (x7=92)),kB 47 (decide (x7=92))] (RS.dn (WS.nxt ?_)))
     rcases z0 h with ⟨hp,h⟩ | ⟨hp,h⟩
     ·refine WS.fx 48 true (decide_eq_true hp) (WS.cT ?_)
      cases h
     ·refine WS.fx 48 false (decide_eq_false hp) (WS.cF (WS.sk ?_))
      refine fun a w hs=>bkN ((WS.nxt ?_ a w hs))
      refine WS.rg (RS.mS 2 [kI 24 (IntKind.i64.wrap (v24_3+1)),kI 49 (IntKind.i64.wrap (v24_3+1))] (RS.dn ?_))
      cases h
      exact fun a w hs=>lsN rfl (hs.sb 0)
 ·refine WS.fx 25 false (decide_eq_false hp) (WS.cF (WS.ex 0 ?_))
  cases h
  exact fun a w hs=>sqE (lsB rfl (hs.sb 0))
theorem zhu {L:LC} {m:Nat} {H:AH} {a0:ByteArray} {r:Bool} (h:zcz L a0=some r) :
  CallS Tryz.prog (NE.plain 148) m 32 #[(Value.string a0)] H (zfy r) (zh5 H r):=by
 refine CallS.mk (args:=[(Value.string a0)]) Tryz.func32 (B:=B32) (by kernel_rfl) (fun E _=>?_)
 unfold zcz at h
 refine WS.sq (WS.rg (RS.mS 1 [kB 2 false] (RS.dn (WS.nxt (WS.sq (WS.sq (WS.rg (RS.mS 4 [kB 7 (decide ((a0.size:Int)<1)),kB 6 (decide ((a0.size:Int)<1)),kI 5 (a0.size:Int),kT 4 a0] ?_))))))))
 rcases z0 h with ⟨hp,h⟩ | ⟨hp,h⟩
 ·refine RS.fx 7 true (decide_eq_true hp) ?_
  cases h
 ·refine RS.fx 7 false (decide_eq_false hp) (RS.mS 5 [kB 12 (decide ((a0.size:Int) > 200)),kB 11 (decide ((a0.size:Int) > 200)),kB 10 (decide ((a0.size:Int) > 200)),kI 9 (a0.size:Int),kT 8 a0] ?_)
  rcases z0 h with ⟨hp,h⟩ | ⟨hp,h⟩
  ·refine RS.fx 12 true (decide_eq_true hp) ?_
   cases h
  ·refine RS.fx 12 false (decide_eq_false hp) (RS.mS 1 [kT 13 a0] ?_)
   obtain ⟨x1,hx,h⟩:=bind_some h
   refine RS.o (H':=H) (some 14) (Value.int .u8 x1) (Abs.run_byt (t:=9) (x:=.tmp 13) (y:=.const (Value.int .i64 0)) (s:=a0) (k:=.i64) (i:=0) (by kernel_rfl) (by kernel_rfl) (by kernel_rfl) (by kernel_rfl) hx) (RS.mS 3 [kB 17 (decide (x1=64)),kB 16 (decide (x1=64)),kB 15 (decide (x1=64))] ?_)
   rcases z0 h with ⟨hp,h⟩ | ⟨hp,h⟩
   ·refine RS.fx 17 true (decide_eq_true hp) ?_
    cases h
   ·refine RS.fx 17 false (decide_eq_false hp) (RS.mS 1 [kT 18 a0] ?_)
    obtain ⟨x2,hx,h⟩:=bind_some h
    refine RS.o (H':=H) (some 19) (Value.int .u8 x2) (Abs.run_byt (t:=9) (x:=.tmp 18) (y:=.const (Value.int .i64 0)) (s:=a0) (k:=.i64) (i:=0) (by kernel_rfl) (by kernel_rfl) (by kernel_rfl) (by kernel_rfl) hx) (RS.mS 2 [kB 21 (decide (x2=46)),kB 20 (decide (x2=46))] (RS.dn (WS.nxt ?_)))
    rcases z0 h with ⟨hp,h⟩ | ⟨hp,h⟩
    ·refine WS.fx 21 true (decide_eq_true hp) (WS.cT ?_)
     cases h
    ·refine WS.fx 21 false (decide_eq_false hp) (WS.cF (WS.sk (WS.nxt (WS.sq (WS.sq (WS.rg (RS.mS 3 [kI 24 0,kI 23 (a0.size:Int),kT 22 a0] (RS.dn (WS.nxt ?_)))))))))
     refine WS.bk 0 ?_
     obtain ⟨o,hl,h⟩:=bind_some h
     rcases o with v24_8 | r
     ·try dsimp only at h
      refine WS.lI (zcr (L:=L) (E:=E) (m:=m) (H:=H)) (L.ok hl) 0 ?_
      clear hl
      refine fun a w hs=>bkE ((WS.nxt ?_ a w hs))
      refine WS.sq (WS.rg (RS.mS 1 [kB 2 true] (RS.dn (WS.nxt (WS.rt ?_)))))
      cases h
      exact fun a w hs=>rtR (rS hs)
     ·try dsimp only at h
      refine WS.lR (zcr (L:=L) (E:=E) (m:=m) (H:=H)) (L.ok hl) 0 ?_
      cases h
      exact fun a w hq=>bkR (sqR (rtR hq))
noncomputable def B33:Code:=(Tryz.f33.body).getD .skip
def ze8:(Bool×AH)→Value
 | (r0,_)=>(Value.bool r0)
def zg0 (_:AH):(Bool×AH)→AH:=fun r=>r.2
noncomputable def zad (_L:LC) (m:Nat) (a0:Sl3) (p1:Nat):(AH×Int)→Option (Lp (AH×Int) (Bool×AH)):=fun (H3,v9_4) =>
 if v9_4<(a0.n:Int) then
  Option.bind (idxA 1 a0 v9_4) fun p5 =>
  Option.bind (rd deS H3 p5) fun x6 =>
  Option.bind (lk1 Tryz.prog 157 deB H3 (some p1) (Value.string x6)) fun x7 =>
  if x7=true then
   none
  else
   Option.bind (upM Tryz.prog m 157 H3 (some p1) (Value.string x6) (Value.bool true)) fun H8 =>
   some (.next (H8,(IntKind.i64.wrap (v9_4+1))))
 else
  some (.brk (H3,v9_4))
def zj5 (_L:LC) (_m:Nat) (a0:Sl3) (p1:Nat):(AH×Int)→KN×Lcs:=fun (_,v9_4)=>([kI 9 v9_4,(3,.val (Value.map (some p1))),kS 7 a0,kI 8 (a0.n:Int)],[])
noncomputable def zaz (L:LC) (m:Nat) (H:AH) (a0:Sl3):Option (Bool×AH) :=
 Option.bind (newM H) fun (p1,H2) =>
 Option.bind (L.run (zad L m a0 p1) (H2,0)) fun o=>match o with
 | .inl (H9,_) =>
  some (false,H9)
 | .inr r=>some r
theorem zbo {E H L m a0 p1} :LoopF Tryz.prog (NE.plain 148) m E Tryz.f33 ((cfst (csnd (cfst (csnd (csnd B33)))))) (zj5 L m a0 p1) (fun s=>s.1) 0 ze8 (zg0 H) (zad L m a0 p1):=by
 rintro ⟨H3,v9_4⟩ o h
 unfold zad at h
 try dsimp only at h
 refine WS.sq (WS.rg (RS.mS 1 [kB 10 (decide (v9_4<(a0.n:Int)))] (RS.dn (WS.nxt (WS.sq ?_)))))
 rcases z0 h with ⟨hp,h⟩ | ⟨hp,h⟩
 ·refine WS.fx 10 true (decide_eq_true hp) (WS.cT (WS.sk (WS.nxt (WS.sq (WS.bk 1 (WS.sq (WS.rg ?_)))))))
  obtain ⟨p5,hx,h⟩:=bind_some h
  refine RS.ix 11 26 9 (.tmp 7) (.tmp 9) hx ?_
  obtain ⟨x6,hx,h⟩:=bind_some h
  refine RS.ld 12 9 (.tmp 11) (z1 hx z9) (RS.mS 1 [kT 5 x6] (RS.dn (WS.nxt (WS.sq (WS.sq (WS.rg (RS.mS 2 [kT 14 x6,(13,.val (Value.map (some p1)))] ?_)))))))
  obtain ⟨x7,hx,h⟩:=bind_some h
  refine RS.o (H':=H3) (some 15) (Value.bool x7) (Abs.run_look (t:=157) (x:=.tmp 13) (y:=.tmp 14) (mm:=(some p1)) (k:=(Value.string x6)) (by kernel_rfl) (by kernel_rfl) (by kernel_rfl) (by kernel_rfl) (lk1_eq hx zdz)) (RS.dn (WS.nxt ?_))
  rcases z0 h with ⟨hp,h⟩ | ⟨hp,h⟩
  ·refine WS.fx 15 true hp (WS.cT ?_)
   cases h
  ·refine WS.fx 15 false (b_not hp) (WS.cF (WS.sk (WS.nxt (WS.rg (RS.mS 2 [kT 17 x6,(16,.val (Value.map (some p1)))] ?_)))))
   obtain ⟨H8,hx,h⟩:=bind_some h
   refine RS.o (H':=H8) none undef (Abs.run_upM (t:=157) (x:=.tmp 16) (y:=.tmp 17) (z:=.const (Value.bool true)) (mm:=(some p1)) (k:=(Value.string x6)) (v:=(Value.bool true)) (by kernel_rfl) (by kernel_rfl) (by kernel_rfl) (by kernel_rfl) (by kernel_rfl) hx) (RS.dn ?_)
   refine fun a w hs=>bkN ((WS.nxt ?_ a w hs))
   refine WS.rg (RS.mS 2 [kI 9 (IntKind.i64.wrap (v9_4+1)),kI 18 (IntKind.i64.wrap (v9_4+1))] (RS.dn ?_))
   cases h
   exact fun a w hs=>lsN rfl (hs.sb 0)
 ·refine WS.fx 10 false (decide_eq_false hp) (WS.cF (WS.ex 0 ?_))
  cases h
  exact fun a w hs=>sqE (lsB rfl (hs.sb 0))
theorem zg3 {L:LC} {m:Nat} {H:AH} {a0:Sl3} {r:(Bool×AH)} (h:zaz L m H a0=some r) :
  CallS Tryz.prog (NE.plain 148) m 33 #[(Sl3.v a0)] H (ze8 r) (zg0 H r):=by
 refine CallS.mk (args:=[(Sl3.v a0)]) Tryz.func33 (B:=B33) (by kernel_rfl) (fun E _=>?_)
 unfold zaz at h
 refine WS.sq (WS.rg (RS.mS 1 [kB 2 false] (RS.dn (WS.nxt (WS.sq (WS.rg ?_))))))
 obtain ⟨⟨p1,H2⟩,hx,h⟩:=bind_some h
 try dsimp only at h
 refine RS.o (H':=H2) (some 6) (Value.map (some p1)) (Abs.run_newM (by kernel_rfl) hx) (RS.mS 1 [(3,.val (Value.map (some p1)))] (RS.dn (WS.nxt (WS.sq (WS.sq (WS.rg (RS.mS 3 [kI 9 0,kI 8 (a0.n:Int),kS 7 a0] (RS.dn (WS.nxt ?_)))))))))
 refine WS.bk 0 ?_
 obtain ⟨o,hl,h⟩:=bind_some h
 rcases o with ⟨H9,v9_10⟩ | r
 ·try dsimp only at h
  refine WS.lI (zbo (L:=L) (E:=E) (m:=m) (H:=H)) (L.ok hl) 0 ?_
  clear hl
  refine fun a w hs=>bkE ((WS.nxt ?_ a w hs))
  refine WS.sq (WS.rg (RS.mS 1 [kB 2 false] (RS.dn (WS.nxt (WS.rt ?_)))))
  cases h
  exact fun a w hs=>rtR (rS hs)
 ·try dsimp only at h
  refine WS.lR (zbo (L:=L) (E:=E) (m:=m) (H:=H)) (L.ok hl) 0 ?_
  cases h
  exact fun a w hq=>bkR (sqR (rtR hq))
noncomputable def B34:Code:=(Tryz.f34.body).getD .skip
def za8:((Option Addr)×AH)→Value
 | (r0,_)=>(Value.pointer r0)
def zbi (_:AH):((Option Addr)×AH)→AH:=fun r=>r.2
noncomputable def zbk (_L:LC) (a0_0 _a0_1 _a0_2:Sl3) (_p3:Addr):(AH×Int)→Option (Lp (AH×Int) ((Option Addr)×AH)):=fun (H5,v17_6) =>
 if v17_6<(a0_0.n:Int) then
  none
 else
  some (.brk (H5,v17_6))
def zjs (_L:LC) (a0_0 a0_1 a0_2:Sl3) (p3:Addr):(AH×Int)→KN×Lcs:=fun (_,v17_6)=>([kI 17 v17_6,kL 1 0 0,kP 3 p3,kS 15 a0_0,kI 16 (a0_0.n:Int)],[some (30,[(Sl3.v a0_0),(Sl3.v a0_1),(Sl3.v a0_2)])])
noncomputable def zby (_L:LC) (_a0_0 a0_1 _a0_2:Sl3) (_p3:Addr):(AH×Int)→Option (Lp (AH×Int) ((Option Addr)×AH)):=fun (H9,v31_10) =>
 if v31_10<(a0_1.n:Int) then
  none
 else
  some (.brk (H9,v31_10))
def zjz (_L:LC) (a0_0 a0_1 a0_2:Sl3) (p3:Addr):(AH×Int)→KN×Lcs:=fun (_,v31_10)=>([kI 31 v31_10,kP 3 p3,kS 29 a0_1,kI 30 (a0_1.n:Int)],[some (30,[(Sl3.v a0_0),(Sl3.v a0_1),(Sl3.v a0_2)])])
noncomputable def zhl (L:LC) (_m:Nat) (H:AH) (a0_0 a0_1 a0_2:Sl3):Option ((Option Addr)×AH) :=
 Option.bind (newM H) fun (p1,H2) =>
 Option.bind (newB 160 [(Sl3.v a0_0),(Sl3.v a0_1),(Sl3.v a0_2),(Value.map (some p1))] H2) fun (p3,H4) =>
 Option.bind (L.run (zbk L a0_0 a0_1 a0_2 p3) (H4,0)) fun o=>match o with
 | .inl (H7,_) =>
  Option.bind (L.run (zby L a0_0 a0_1 a0_2 p3) (H7,0)) fun o=>match o with
  | .inl (H11,_) =>
   some ((some p3),H11)
  | .inr r=>some r
 | .inr r=>some r
theorem zd0 {E m H L a0_0 a0_1 a0_2 p3} :LoopF Tryz.prog (NE.plain 148) m E Tryz.f34 ((cfst (csnd (cfst (csnd (csnd B34)))))) (zjs L a0_0 a0_1 a0_2 p3) (fun s=>s.1) 0 za8 (zbi H) (zbk L a0_0 a0_1 a0_2 p3):=by
 rintro ⟨H5,v17_6⟩ o h
 unfold zbk at h
 try dsimp only at h
 refine WS.sq (WS.rg (RS.mS 1 [kB 18 (decide (v17_6<(a0_0.n:Int)))] (RS.dn (WS.nxt (WS.sq ?_)))))
 rcases z0 h with ⟨hp,h⟩ | ⟨hp,h⟩
 ·refine WS.fx 18 true (decide_eq_true hp) (WS.cT ?_)
  cases h
 ·refine WS.fx 18 false (decide_eq_false hp) (WS.cF (WS.ex 0 ?_))
  cases h
  exact fun a w hs=>sqE (lsB rfl (hs.sb 1))
theorem zd3 {E m H L a0_0 a0_1 a0_2 p3} :LoopF Tryz.prog (NE.plain 148) m E Tryz.f34 ((cfst (csnd (cfst (csnd (csnd (csnd B34))))))) (zjz L a0_0 a0_1 a0_2 p3) (fun s=>s.1) 2 za8 (zbi H) (zby L a0_0 a0_1 a0_2 p3):=by
 rintro ⟨H9,v31_10⟩ o h
 unfold zby at h
 try dsimp only at h
 refine WS.sq (WS.rg (RS.mS 1 [kB 32 (decide (v31_10<(a0_1.n:Int)))] (RS.dn (WS.nxt (WS.sq ?_)))))
 rcases z0 h with ⟨hp,h⟩ | ⟨hp,h⟩
 ·refine WS.fx 32 true (decide_eq_true hp) (WS.cT ?_)
  cases h
 ·refine WS.fx 32 false (decide_eq_false hp) (WS.cF (WS.ex 2 ?_))
  cases h
  exact fun a w hs=>sqE (lsB rfl (hs.sb 1))
theorem zmy {L:LC} {m:Nat} {H:AH} {a0_0 a0_1 a0_2:Sl3} {r:((Option Addr)×AH)} (h:zhl L m H a0_0 a0_1 a0_2=some r) :
  CallS Tryz.prog (NE.plain 148) m 34 #[(Value.agg #[(Sl3.v a0_0),(Sl3.v a0_1),(Sl3.v a0_2)])] H (za8 r) (zbi H r):=by
 refine CallS.mk (args:=[(Value.agg #[(Sl3.v a0_0),(Sl3.v a0_1),(Sl3.v a0_2)])]) Tryz.func34 (B:=B34) (by kernel_rfl) (fun E _=>?_)
 unfold zhl at h
 refine WS.sq (WS.rg (RS.mL 2 [(2,.val (Value.pointer none)),kL 1 0 0] ([some (30,[(Sl3.v a0_0),(Sl3.v a0_1),(Sl3.v a0_2)])]) (RS.dn (WS.nxt (WS.sq (WS.rg (RS.mS 1 [kA 10 #[(Sl3.v a0_0),(Sl3.v a0_1),(Sl3.v a0_2)]] ?_)))))))
 obtain ⟨⟨p1,H2⟩,hx,h⟩:=bind_some h
 try dsimp only at h
 refine RS.o (H':=H2) (some 11) (Value.map (some p1)) (Abs.run_newM (by kernel_rfl) hx) (RS.mS 1 [kA 12 #[(Sl3.v a0_0),(Sl3.v a0_1),(Sl3.v a0_2),(Value.map (some p1))]] ?_)
 obtain ⟨⟨p3,H4⟩,hx,h⟩:=bind_some h
 try dsimp only at h
 refine RS.o (H':=H4) (some 13) (Value.pointer (some p3)) (Abs.run_newB (by kernel_rfl) hx) (RS.mS 1 [kP 3 p3] (RS.dn (WS.nxt (WS.sq (WS.sq (WS.rg (RS.mS 4 [kI 17 0,kI 16 (a0_0.n:Int),kS 15 a0_0,kL 14 0 0] (RS.dn (WS.nxt ?_)))))))))
 refine WS.bk 0 ?_
 obtain ⟨o,hl,h⟩:=bind_some h
 rcases o with ⟨H7,v17_8⟩ | r
 ·try dsimp only at h
  refine WS.lI (zd0 (L:=L) (E:=E) (m:=m) (H:=H)) (L.ok hl) 1 ?_
  clear hl
  refine fun a w hs=>bkE ((WS.nxt ?_ a w hs))
  refine WS.sq (WS.sq (WS.rg (RS.mS 4 [kI 31 0,kI 30 (a0_1.n:Int),kS 29 a0_1,kL 28 0 1] (RS.dn (WS.nxt (WS.bk 2 ?_))))))
  obtain ⟨o,hl,h⟩:=bind_some h
  rcases o with ⟨H11,v31_12⟩ | r
  ·try dsimp only at h
   refine WS.lI (zd3 (L:=L) (E:=E) (m:=m) (H:=H)) (L.ok hl) 1 ?_
   clear hl
   refine fun a w hs=>bkE ((WS.nxt ?_ a w hs))
   refine WS.sq (WS.rg (RS.mS 2 [kP 2 p3,kP 58 p3] (RS.dn (WS.nxt (WS.rt ?_)))))
   cases h
   exact fun a w hs=>rtR (rS hs)
  ·try dsimp only at h
   refine WS.lR (zd3 (L:=L) (E:=E) (m:=m) (H:=H)) (L.ok hl) 1 ?_
   cases h
   exact fun a w hq=>bkR (sqR (rtR hq))
 ·try dsimp only at h
  refine WS.lR (zd0 (L:=L) (E:=E) (m:=m) (H:=H)) (L.ok hl) 1 ?_
  cases h
  exact fun a w hq=>bkR (sqR (rtR hq))
noncomputable def B13:Code:=(Tryz.f13.body).getD .skip
def zj9:(Sl3×AH)→Value
 | (r0,_)=>(Sl3.v r0)
def zkb (_:AH):(Sl3×AH)→AH:=fun r=>r.2
noncomputable def zc7 (_L:LC) (_m:Nat) (H:AH) (a0:Sl3):Option (Sl3×AH) :=
 if (isNilS a0)=true then
  some (Sl3.nil,H)
 else
  none
theorem z82 {L:LC} {m:Nat} {H:AH} {a0:Sl3} {r:(Sl3×AH)} (h:zc7 L m H a0=some r) :
  CallS Tryz.prog (NE.plain 148) m 13 #[(Sl3.v a0)] H (zj9 r) (zkb H r):=by
 refine CallS.mk (args:=[(Sl3.v a0)]) Tryz.func13 (B:=B13) (by kernel_rfl) (fun E _=>?_)
 unfold zc7 at h
 refine WS.sq (WS.rg (RS.mS 1 [kS 2 Sl3.nil] (RS.dn (WS.nxt (WS.sq (WS.sq (WS.rg (RS.mS 1 [kS 3 a0] (RS.o (H':=H) (some 4) (Value.bool (isNilS a0)) (z9a (t:=36) (e:=57) (u:=36) (x:=.tmp 3) (y:=.const (Sl3.v Sl3.nil)) (s:=a0) (by kernel_rfl) (by kernel_rfl) (by kernel_rfl) (by kernel_rfl)) ?_)))))))))
 refine RS.dn (WS.nxt ?_)
 rcases z0 h with ⟨hp,h⟩ | ⟨hp,h⟩
 ·refine WS.fx 4 true hp (WS.cT (WS.sq (WS.rg (RS.mS 1 [kS 2 Sl3.nil] (RS.dn (WS.nxt (WS.rt ?_)))))))
  cases h
  exact fun a w hs=>sqR (rtR (rS hs))
 ·refine WS.fx 4 false (b_not hp) (WS.cF ?_)
  cases h
noncomputable def B127:Code:=(Tryz.f127.body).getD .skip
def z2b:(Int×Bool)→Value
 | (r0,r1)=>(Value.tuple #[(Value.int .i64 r0),(Value.bool r1)])
def z2u (H:AH):(Int×Bool)→AH:=fun _=>H
noncomputable def zaa (_L:LC) (rec_sort_parts:AH→Int→Int→ByteArray→Sl3→Int→Option (Int×Bool)) (H:AH) (_a0_0 _a0_1:Int) (_a0_2:ByteArray) (a0_3:Sl3) (a1:Int):(Int×Int)→Option (Lp (Int×Int) (Int×Bool)):=fun (v6_1,v16_2) =>
 if v16_2<(a0_3.n:Int) then
  Option.bind (idxA 4 a0_3 v16_2) fun p3 =>
  Option.bind (rd (deI .i64) H (Addr.add p3 0)) fun x4_0 =>
  Option.bind (rd (deI .i64) H (Addr.add p3 1)) fun x4_1 =>
  Option.bind (rd deS H (Addr.add p3 2)) fun x4_2 =>
  Option.bind (rd deSl H (Addr.add p3 3)) fun x4_3 =>
  Option.bind (rec_sort_parts H x4_0 x4_1 x4_2 x4_3 (IntKind.i64.wrap (a1+1))) fun (x5,x6) =>
  if x6=true then
   if (IntKind.i64.wrap (v6_1+x5)) > 256 then
    none
   else
    some (.next ((IntKind.i64.wrap (v6_1+x5)),(IntKind.i64.wrap (v16_2+1))))
  else
   none
 else
  some (.brk (v6_1,v16_2))
def zj8 (_L:LC) (_rec_sort_parts:AH→Int→Int→ByteArray→Sl3→Int→Option (Int×Bool)) (_H:AH) (a0_0 a0_1:Int) (a0_2:ByteArray) (a0_3:Sl3) (a1:Int):(Int×Int)→KN×Lcs:=fun (v6_1,v16_2)=>([kI 6 v6_1,kI 16 v16_2,kI 1 a1,kS 14 a0_3,kI 15 (a0_3.n:Int)],[some (57,[(Value.int .i64 a0_0),(Value.int .i64 a0_1),(Value.string a0_2),(Sl3.v a0_3)])])
noncomputable def z81 (L:LC) (rec_sort_parts:AH→Int→Int→ByteArray→Sl3→Int→Option (Int×Bool)) (H:AH) (a0_0 a0_1:Int) (a0_2:ByteArray) (a0_3:Sl3) (a1:Int):Option (Int×Bool) :=
 if a1 > 16 then
  none
 else
  Option.bind (L.run (zaa L rec_sort_parts H a0_0 a0_1 a0_2 a0_3 a1) (1,0)) fun o=>match o with
  | .inl (v6_7,_) =>
   some (v6_7,true)
  | .inr r=>some r
noncomputable def zed (L:LC) (n:Nat):(AH→Int→Int→ByteArray→Sl3→Int→Option (Int×Bool)):=Nat.rec (motive:=fun _=>(AH→Int→Int→ByteArray→Sl3→Int→Option (Int×Bool))) (fun _ _ _ _ _ _=>none) (fun _ p=>z81 L p) n
noncomputable def zkk (L:LC) (H:AH) (a0_0 a0_1:Int) (a0_2:ByteArray) (a0_3:Sl3) (a1:Int):Option (Int×Bool):=(zed L L.fuel) H a0_0 a0_1 a0_2 a0_3 a1
theorem zbh {E m L rec_sort_parts H a0_0 a0_1 a0_2 a0_3 a1} (hrec_sort_parts:∀(m:Nat) (H:AH) (a0_0 a0_1:Int) (a0_2:ByteArray) (a0_3:Sl3) (a1:Int) (r:(Int×Bool)),rec_sort_parts H a0_0 a0_1 a0_2 a0_3 a1=some r→CallS Tryz.prog (NE.plain 148) m 127 #[(Value.agg #[(Value.int .i64 a0_0),(Value.int .i64 a0_1),(Value.string a0_2),(Sl3.v a0_3)]),(Value.int .i64 a1)] H (z2b r) (z2u H r)):LoopF Tryz.prog (NE.plain 148) m E Tryz.f127 ((cfst (csnd (cfst (csnd (csnd (csnd B127))))))) (zj8 L rec_sort_parts H a0_0 a0_1 a0_2 a0_3 a1) (fun _=>H) 0 z2b (z2u H) (zaa L rec_sort_parts H a0_0 a0_1 a0_2 a0_3 a1):=by
 rintro ⟨v6_1,v16_2⟩ o h
 unfold zaa at h
 try dsimp only at h
 refine WS.sq (WS.rg (RS.mS 1 [kB 17 (decide (v16_2<(a0_3.n:Int)))] (RS.dn (WS.nxt (WS.sq ?_)))))
 rcases z0 h with ⟨hp,h⟩ | ⟨hp,h⟩
 ·refine WS.fx 17 true (decide_eq_true hp) (WS.cT (WS.sk (WS.nxt (WS.sq (WS.bk 1 (WS.sq (WS.rg ?_)))))))
  obtain ⟨p3,hx,h⟩:=bind_some h
  refine RS.ix 18 36 57 (.tmp 14) (.tmp 16) hx ?_
  obtain ⟨x4_0,hx0,h⟩:=bind_some h
  obtain ⟨x4_1,hx1,h⟩:=bind_some h
  obtain ⟨x4_2,hx2,h⟩:=bind_some h
  obtain ⟨x4_3,hx3,h⟩:=bind_some h
  refine RS.la 19 57 (.tmp 18) 4 (z2 (z1 hx0 z5) (z2 (z1 hx1 z5) (z2 (z1 hx2 z9) (z2 (z1 hx3 z3) zd)))) (RS.mL 2 [kL 8 1 0] ([some (57,[(Value.int .i64 a0_0),(Value.int .i64 a0_1),(Value.string a0_2),(Sl3.v a0_3)]),some (57,[(Value.int .i64 x4_0),(Value.int .i64 x4_1),(Value.string x4_2),(Sl3.v x4_3)])]) (RS.dn (WS.nxt (WS.sq (WS.rg (RS.mS 3 [kI 23 (IntKind.i64.wrap (a1+1)),kI 22 a1,kA 21 #[(Value.int .i64 x4_0),(Value.int .i64 x4_1),(Value.string x4_2),(Sl3.v x4_3)]] ?_))))))
  obtain ⟨⟨x5,x6⟩,hx,h⟩:=bind_some h
  try dsimp only at h
  refine RS.cl (some 24) (v:=(Value.tuple #[(Value.int .i64 x5),(Value.bool x6)])) 127 #[(Value.agg #[(Value.int .i64 x4_0),(Value.int .i64 x4_1),(Value.string x4_2),(Sl3.v x4_3)]),(Value.int .i64 (IntKind.i64.wrap (a1+1)))] (hrec_sort_parts _ _ _ _ _ _ _ _ hx) (RS.mS 5 [kB 10 x6,kI 9 x5,kB 26 x6,kI 25 x5,(20,.val (Value.tuple #[(Value.int .i64 x5),(Value.bool x6)]))] (RS.dn (WS.nxt (WS.sq (WS.rg (RS.mS 4 [kI 6 (IntKind.i64.wrap (v6_1+x5)),kI 29 (IntKind.i64.wrap (v6_1+x5)),kI 28 x5,kI 27 v6_1] (RS.dn (WS.nxt (WS.sq ?_)))))))))
  refine WS.rg (RS.mS 3 [kB 32 (!x6),kB 31 (!x6),kB 30 x6] ?_)
  rcases z0 h with ⟨hp,h⟩ | ⟨hp,h⟩
  ·refine RS.fx 32 false (nb_not hp) (RS.mS 3 [kB 35 (decide ((IntKind.i64.wrap (v6_1+x5)) > 256)),kB 34 (decide ((IntKind.i64.wrap (v6_1+x5)) > 256)),kI 33 (IntKind.i64.wrap (v6_1+x5))] (RS.dn (WS.nxt ?_)))
   rcases z0 h with ⟨hp,h⟩ | ⟨hp,h⟩
   ·refine WS.fx 35 true (decide_eq_true hp) (WS.cT ?_)
    cases h
   ·refine WS.fx 35 false (decide_eq_false hp) (WS.cF (WS.sk ?_))
    refine fun a w hs=>bkN ((WS.nxt ?_ a w hs))
    refine WS.rg (RS.mS 2 [kI 16 (IntKind.i64.wrap (v16_2+1)),kI 37 (IntKind.i64.wrap (v16_2+1))] (RS.dn ?_))
    cases h
    exact fun a w hs=>lsN rfl (hs.sb 1)
  ·refine RS.fx 32 true (zi hp) ?_
   cases h
 ·refine WS.fx 17 false (decide_eq_false hp) (WS.cF (WS.ex 0 ?_))
  cases h
  exact fun a w hs=>sqE (lsB rfl (hs.sb 1))
theorem zht {L:LC} {rec_sort_parts:AH→Int→Int→ByteArray→Sl3→Int→Option (Int×Bool)} (hrec_sort_parts:∀(m:Nat) (H:AH) (a0_0 a0_1:Int) (a0_2:ByteArray) (a0_3:Sl3) (a1:Int) (r:(Int×Bool)),rec_sort_parts H a0_0 a0_1 a0_2 a0_3 a1=some r→CallS Tryz.prog (NE.plain 148) m 127 #[(Value.agg #[(Value.int .i64 a0_0),(Value.int .i64 a0_1),(Value.string a0_2),(Sl3.v a0_3)]),(Value.int .i64 a1)] H (z2b r) (z2u H r)) {m:Nat} {H:AH} {a0_0 a0_1:Int} {a0_2:ByteArray} {a0_3:Sl3} {a1:Int} {r:(Int×Bool)} (h:z81 L rec_sort_parts H a0_0 a0_1 a0_2 a0_3 a1=some r) :
  CallS Tryz.prog (NE.plain 148) m 127 #[(Value.agg #[(Value.int .i64 a0_0),(Value.int .i64 a0_1),(Value.string a0_2),(Sl3.v a0_3)]),(Value.int .i64 a1)] H (z2b r) (z2u H r):=by
 refine CallS.mk (args:=[(Value.agg #[(Value.int .i64 a0_0),(Value.int .i64 a0_1),(Value.string a0_2),(Sl3.v a0_3)]),(Value.int .i64 a1)]) Tryz.func127 (B:=B127) (by kernel_rfl) (fun E _=>?_)
 unfold z81 at h
 refine WS.sq (WS.rg (RS.mL 3 [kB 5 false,kI 4 0,kL 2 0 0] ([some (57,[(Value.int .i64 a0_0),(Value.int .i64 a0_1),(Value.string a0_2),(Sl3.v a0_3)])]) (RS.dn (WS.nxt (WS.sq (WS.sq (WS.rg (RS.mS 2 [kB 12 (decide (a1 > 16)),kI 11 a1] (RS.dn ?_)))))))))
 refine WS.nxt ?_
 rcases z0 h with ⟨hp,h⟩ | ⟨hp,h⟩
 ·refine WS.fx 12 true (decide_eq_true hp) (WS.cT ?_)
  cases h
 ·refine WS.fx 12 false (decide_eq_false hp) (WS.cF (WS.sk (WS.nxt (WS.sq (WS.rg (RS.mS 1 [kI 6 1] (RS.dn (WS.nxt (WS.sq ?_)))))))))
  refine WS.sq (WS.rg (RS.mS 4 [kI 16 0,kI 15 (a0_3.n:Int),kS 14 a0_3,kL 13 0 3] (RS.dn (WS.nxt (WS.bk 0 ?_)))))
  obtain ⟨o,hl,h⟩:=bind_some h
  rcases o with ⟨v6_7,v16_8⟩ | r
  ·try dsimp only at h
   refine WS.lI (zbh (L:=L) (E:=E) (m:=m) (H:=H) hrec_sort_parts) (L.ok hl) 1 ?_
   clear hl
   refine fun a w hs=>bkE ((WS.nxt ?_ a w hs))
   refine WS.sq (WS.rg (RS.mS 3 [kB 5 true,kI 4 v6_7,kI 38 v6_7] (RS.dn (WS.nxt (WS.rt ?_)))))
   cases h
   exact fun a w hs=>rtR (rS hs)
  ·try dsimp only at h
   refine WS.lR (zbh (L:=L) (E:=E) (m:=m) (H:=H) hrec_sort_parts) (L.ok hl) 1 ?_
   cases h
   exact fun a w hq=>bkR (sqR (rtR hq))
theorem zil {L:LC}:∀n,(∀(m:Nat) (H:AH) (a0_0 a0_1:Int) (a0_2:ByteArray) (a0_3:Sl3) (a1:Int) (r:(Int×Bool)),((zed L n)) H a0_0 a0_1 a0_2 a0_3 a1=some r→CallS Tryz.prog (NE.plain 148) m 127 #[(Value.agg #[(Value.int .i64 a0_0),(Value.int .i64 a0_1),(Value.string a0_2),(Sl3.v a0_3)]),(Value.int .i64 a1)] H (z2b r) (z2u H r)):=by
 intro n
 induction n with
 | zero=>exact (fun _ _ _ _ _ _ _ _ h=>(Option.some_ne_none _ h.symm).elim)
 | succ n ih=>exact (fun _ _ _ _ _ _ _ _ h=>zht (L:=L) ih h)
theorem zmc {L:LC} {m:Nat} {H:AH} {a0_0 a0_1:Int} {a0_2:ByteArray} {a0_3:Sl3} {a1:Int} {r:(Int×Bool)} (h:zkk L H a0_0 a0_1 a0_2 a0_3 a1=some r) :
  CallS Tryz.prog (NE.plain 148) m 127 #[(Value.agg #[(Value.int .i64 a0_0),(Value.int .i64 a0_1),(Value.string a0_2),(Sl3.v a0_3)]),(Value.int .i64 a1)] H (z2b r) (z2u H r) :=
 (zil _) _ _ _ _ _ _ _ _ h
end Go.Proofs.YtpcckomdlmpckaaGreatDoor
namespace Go.Proofs.YtpcckomdlmpckaaGreatDoor
open Go Go.Abs
set_option maxRecDepth 100000
noncomputable def B128:Code:=(Tryz.f128.body).getD .skip
def z1z:Bool→Value
 | r0=>(Value.bool r0)
def z2d (H:AH):Bool→AH:=fun _=>H
noncomputable def z8o (_L:LC) (rec_sort_shaped:AH→Int→Int→ByteArray→Sl3→Option Bool) (H:AH) (_a0_0 _a0_1:Int) (_a0_2:ByteArray) (a0_3:Sl3):(Bool×Int)→Option (Lp (Bool×Int) Bool):=fun (v3_2,v82_3) =>
 if v82_3<(a0_3.n:Int) then
  Option.bind (idxA 4 a0_3 v82_3) fun p4 =>
  Option.bind (rd (deI .i64) H (Addr.add p4 0)) fun x5_0 =>
  Option.bind (rd (deI .i64) H (Addr.add p4 1)) fun x5_1 =>
  Option.bind (rd deS H (Addr.add p4 2)) fun x5_2 =>
  Option.bind (rd deSl H (Addr.add p4 3)) fun x5_3 =>
  if v3_2=true then
   Option.bind (rec_sort_shaped H x5_0 x5_1 x5_2 x5_3) fun x6 =>
   some (.next (x6,(IntKind.i64.wrap (v82_3+1))))
  else
   none
 else
  some (.brk (v3_2,v82_3))
def zin (_L:LC) (_rec_sort_shaped:AH→Int→Int→ByteArray→Sl3→Option Bool) (_H:AH) (a0_0 a0_1:Int) (a0_2:ByteArray) (a0_3:Sl3):(Bool×Int)→KN×Lcs:=fun (v3_2,v82_3)=>([kB 3 v3_2,kI 82 v82_3,kS 80 a0_3,kI 81 (a0_3.n:Int)],[some (57,[(Value.int .i64 a0_0),(Value.int .i64 a0_1),(Value.string a0_2),(Sl3.v a0_3)])])
noncomputable def z6u (L:LC) (rec_sort_shaped:AH→Int→Int→ByteArray→Sl3→Option Bool) (H:AH) (a0_0 a0_1:Int) (a0_2:ByteArray) (a0_3:Sl3):Option Bool :=
 Option.bind (α:=Bool) (
  if a0_0=1 then
   none
  else
   if a0_0=2 then
    if a0_1=0 then
     if (a0_2.toList == (⟨#[]⟩:ByteArray).toList)=true then
      some (decide ((a0_3.n:Int)=0))
     else
      none
    else
     none
   else
    if a0_0=3 then
     none
    else
     if a0_0=4 then
      if a0_1=0 then
       if (a0_2.toList == (⟨#[]⟩:ByteArray).toList)=true then
        some (decide ((a0_3.n:Int)=2))
       else
        none
      else
       none
     else
      none) fun v3_1 =>
 Option.bind (L.run (z8o L rec_sort_shaped H a0_0 a0_1 a0_2 a0_3) (v3_1,0)) fun o=>match o with
 | .inl (v3_7,_) =>
  some v3_7
 | .inr r=>some r
noncomputable def zcs (L:LC) (n:Nat):(AH→Int→Int→ByteArray→Sl3→Option Bool):=Nat.rec (motive:=fun _=>(AH→Int→Int→ByteArray→Sl3→Option Bool)) (fun _ _ _ _ _=>none) (fun _ p=>z6u L p) n
noncomputable def zj2 (L:LC) (H:AH) (a0_0 a0_1:Int) (a0_2:ByteArray) (a0_3:Sl3):Option Bool:=(zcs L L.fuel) H a0_0 a0_1 a0_2 a0_3
theorem zax {E m L rec_sort_shaped H a0_0 a0_1 a0_2 a0_3} (hrec_sort_shaped:∀(m:Nat) (H:AH) (a0_0 a0_1:Int) (a0_2:ByteArray) (a0_3:Sl3) (r:Bool),rec_sort_shaped H a0_0 a0_1 a0_2 a0_3=some r→CallS Tryz.prog (NE.plain 148) m 128 #[(Value.agg #[(Value.int .i64 a0_0),(Value.int .i64 a0_1),(Value.string a0_2),(Sl3.v a0_3)])] H (z1z r) (z2d H r)):LoopF Tryz.prog (NE.plain 148) m E Tryz.f128 ((cfst (csnd (cfst (csnd (csnd (csnd B128))))))) (zin L rec_sort_shaped H a0_0 a0_1 a0_2 a0_3) (fun _=>H) 1 z1z (z2d H) (z8o L rec_sort_shaped H a0_0 a0_1 a0_2 a0_3):=by
 rintro ⟨v3_2,v82_3⟩ o h
 unfold z8o at h
 try dsimp only at h
 refine WS.sq (WS.rg (RS.mS 1 [kB 83 (decide (v82_3<(a0_3.n:Int)))] (RS.dn (WS.nxt (WS.sq ?_)))))
 rcases z0 h with ⟨hp,h⟩ | ⟨hp,h⟩
 ·refine WS.fx 83 true (decide_eq_true hp) (WS.cT (WS.sk (WS.nxt (WS.sq (WS.bk 2 (WS.sq (WS.rg ?_)))))))
  obtain ⟨p4,hx,h⟩:=bind_some h
  refine RS.ix 84 36 57 (.tmp 80) (.tmp 82) hx ?_
  obtain ⟨x5_0,hx0,h⟩:=bind_some h
  obtain ⟨x5_1,hx1,h⟩:=bind_some h
  obtain ⟨x5_2,hx2,h⟩:=bind_some h
  obtain ⟨x5_3,hx3,h⟩:=bind_some h
  refine RS.la 85 57 (.tmp 84) 4 (z2 (z1 hx0 z5) (z2 (z1 hx1 z5) (z2 (z1 hx2 z9) (z2 (z1 hx3 z3) zd)))) (RS.mL 2 [kL 5 1 0] ([some (57,[(Value.int .i64 a0_0),(Value.int .i64 a0_1),(Value.string a0_2),(Sl3.v a0_3)]),some (57,[(Value.int .i64 x5_0),(Value.int .i64 x5_1),(Value.string x5_2),(Sl3.v x5_3)])]) (RS.dn (WS.nxt (WS.rg (RS.mS 2 [kB 87 v3_2,kB 86 v3_2] ?_)))))
  rcases z0 h with ⟨hp,h⟩ | ⟨hp,h⟩
  ·refine RS.fx 87 true hp (RS.mS 1 [kA 88 #[(Value.int .i64 x5_0),(Value.int .i64 x5_1),(Value.string x5_2),(Sl3.v x5_3)]] ?_)
   obtain ⟨x6,hx,h⟩:=bind_some h
   refine RS.cl (some 89) (v:=(Value.bool x6)) 128 #[(Value.agg #[(Value.int .i64 x5_0),(Value.int .i64 x5_1),(Value.string x5_2),(Sl3.v x5_3)])] (hrec_sort_shaped _ _ _ _ _ _ _ hx) (RS.mS 2 [kB 3 x6,kB 90 x6] (RS.dn ?_))
   refine fun a w hs=>bkN ((WS.nxt ?_ a w hs))
   refine WS.rg (RS.mS 2 [kI 82 (IntKind.i64.wrap (v82_3+1)),kI 91 (IntKind.i64.wrap (v82_3+1))] (RS.dn ?_))
   cases h
   exact fun a w hs=>lsN rfl (hs.sb 1)
  ·refine RS.fx 87 false (b_not hp) ?_
   cases h
 ·refine WS.fx 83 false (decide_eq_false hp) (WS.cF (WS.ex 1 ?_))
  cases h
  exact fun a w hs=>sqE (lsB rfl (hs.sb 1))
theorem zgt {L:LC} {rec_sort_shaped:AH→Int→Int→ByteArray→Sl3→Option Bool} (hrec_sort_shaped:∀(m:Nat) (H:AH) (a0_0 a0_1:Int) (a0_2:ByteArray) (a0_3:Sl3) (r:Bool),rec_sort_shaped H a0_0 a0_1 a0_2 a0_3=some r→CallS Tryz.prog (NE.plain 148) m 128 #[(Value.agg #[(Value.int .i64 a0_0),(Value.int .i64 a0_1),(Value.string a0_2),(Sl3.v a0_3)])] H (z1z r) (z2d H r)) {m:Nat} {H:AH} {a0_0 a0_1:Int} {a0_2:ByteArray} {a0_3:Sl3} {r:Bool} (h:z6u L rec_sort_shaped H a0_0 a0_1 a0_2 a0_3=some r) :
  CallS Tryz.prog (NE.plain 148) m 128 #[(Value.agg #[(Value.int .i64 a0_0),(Value.int .i64 a0_1),(Value.string a0_2),(Sl3.v a0_3)])] H (z1z r) (z2d H r):=by
 refine CallS.mk (args:=[(Value.agg #[(Value.int .i64 a0_0),(Value.int .i64 a0_1),(Value.string a0_2),(Sl3.v a0_3)])]) Tryz.func128 (B:=B128) (by kernel_rfl) (fun E _=>?_)
 unfold z6u at h
 refine WS.sq (WS.rg (RS.mL 2 [kB 2 false,kL 1 0 0] ([some (57,[(Value.int .i64 a0_0),(Value.int .i64 a0_1),(Value.string a0_2),(Sl3.v a0_3)])]) (RS.dn (WS.nxt (WS.sq (WS.rg (RS.mS 1 [kB 3 false] (RS.dn (WS.nxt ?_)))))))))
 obtain ⟨v3_1,hx,h⟩:=bind_some h
 refine WS.sq ?_
 refine WS.join ([kB 3 v3_1,kL 1 0 0]) ([some (57,[(Value.int .i64 a0_0),(Value.int .i64 a0_1),(Value.string a0_2),(Sl3.v a0_3)])]) H ?_ (fun a w hs=>WS.nxt ?_ a w hs)
 ·clear h; rename _=>h
  refine WS.sq (WS.rg (RS.mS 2 [kI 7 a0_0,kL 6 0 0] (RS.dn (WS.nxt (WS.bk 0 (WS.sq (WS.sq (WS.rg (RS.mS 2 [kB 8 (decide (a0_0=1)),kB 9 (decide (a0_0=1))] ?_)))))))))
  refine RS.dn (WS.nxt ?_)
  rcases z0 h with ⟨hp,h⟩ | ⟨hp,h⟩
  ·refine WS.fx 8 true (decide_eq_true hp) (WS.cT ?_)
   cases h
  ·refine WS.fx 8 false (decide_eq_false hp) (WS.cF (WS.rg (RS.mS 2 [kB 8 (decide (a0_0=2)),kB 10 (decide (a0_0=2))] (RS.dn (WS.nxt ?_)))))
   rcases z0 h with ⟨hp,h⟩ | ⟨hp,h⟩
   ·refine WS.fx 8 true (decide_eq_true hp) (WS.cT (WS.rg (RS.mS 4 [kB 14 (decide (a0_1=0)),kB 13 (decide (a0_1=0)),kI 12 a0_1,kL 11 0 1] ?_)))
    rcases z0 h with ⟨hp,h⟩ | ⟨hp,h⟩
    ·refine RS.fx 14 true (decide_eq_true hp) (RS.mS 5 [kB 19 (a0_2.toList == (⟨#[]⟩:ByteArray).toList),kB 18 (a0_2.toList == (⟨#[]⟩:ByteArray).toList),kB 17 (a0_2.toList == (⟨#[]⟩:ByteArray).toList),kT 16 a0_2,kL 15 0 2] ?_)
     rcases z0 h with ⟨hp,h⟩ | ⟨hp,h⟩
     ·refine RS.fx 19 true hp (RS.mS 6 [kB 3 (decide ((a0_3.n:Int)=0)),kB 24 (decide ((a0_3.n:Int)=0)),kB 23 (decide ((a0_3.n:Int)=0)),kI 22 (a0_3.n:Int),kS 21 a0_3,kL 20 0 3] (RS.dn ?_))
      cases h
      exact fun a w hs=>bkN ((jsN (hs.sb 1)))
     ·refine RS.fx 19 false (b_not hp) ?_
      cases h
    ·refine RS.fx 14 false (decide_eq_false hp) ?_
     cases h
   ·refine WS.fx 8 false (decide_eq_false hp) (WS.cF (WS.sq (WS.rg (RS.mS 2 [kB 25 (decide (a0_0=3)),kB 26 (decide (a0_0=3))] (RS.dn (WS.nxt ?_))))))
    rcases z0 h with ⟨hp,h⟩ | ⟨hp,h⟩
    ·refine WS.fx 25 true (decide_eq_true hp) (WS.cT ?_)
     cases h
    ·refine WS.fx 25 false (decide_eq_false hp) (WS.cF (WS.sq (WS.rg (RS.mS 2 [kB 46 (decide (a0_0=4)),kB 47 (decide (a0_0=4))] (RS.dn (WS.nxt ?_))))))
     rcases z0 h with ⟨hp,h⟩ | ⟨hp,h⟩
     ·refine WS.fx 46 true (decide_eq_true hp) (WS.cT (WS.rg (RS.mS 4 [kB 51 (decide (a0_1=0)),kB 50 (decide (a0_1=0)),kI 49 a0_1,kL 48 0 1] ?_)))
      rcases z0 h with ⟨hp,h⟩ | ⟨hp,h⟩
      ·refine RS.fx 51 true (decide_eq_true hp) (RS.mS 5 [kB 56 (a0_2.toList == (⟨#[]⟩:ByteArray).toList),kB 55 (a0_2.toList == (⟨#[]⟩:ByteArray).toList),kB 54 (a0_2.toList == (⟨#[]⟩:ByteArray).toList),kT 53 a0_2,kL 52 0 2] ?_)
       rcases z0 h with ⟨hp,h⟩ | ⟨hp,h⟩
       ·refine RS.fx 56 true hp (RS.mS 6 [kB 3 (decide ((a0_3.n:Int)=2)),kB 61 (decide ((a0_3.n:Int)=2)),kB 60 (decide ((a0_3.n:Int)=2)),kI 59 (a0_3.n:Int),kS 58 a0_3,kL 57 0 3] (RS.dn ?_))
        cases h
        exact fun a w hs=>bkN ((jsN (hs.sb 1)))
       ·refine RS.fx 56 false (b_not hp) ?_
        cases h
      ·refine RS.fx 51 false (decide_eq_false hp) ?_
       cases h
     ·refine WS.fx 46 false (decide_eq_false hp) (WS.cF ?_)
      cases h
 ·clear hx
  refine WS.sq (WS.sq (WS.rg (RS.mS 4 [kI 82 0,kI 81 (a0_3.n:Int),kS 80 a0_3,kL 79 0 3] (RS.dn (WS.nxt (WS.bk 1 ?_))))))
  obtain ⟨o,hl,h⟩:=bind_some h
  rcases o with ⟨v3_7,v82_8⟩ | r
  ·try dsimp only at h
   refine WS.lI (zax (L:=L) (E:=E) (m:=m) (H:=H) hrec_sort_shaped) (L.ok hl) 1 ?_
   clear hl
   refine fun a w hs=>bkE ((WS.nxt ?_ a w hs))
   refine WS.sq (WS.rg (RS.mS 2 [kB 2 v3_7,kB 92 v3_7] (RS.dn (WS.nxt (WS.rt ?_)))))
   cases h
   exact fun a w hs=>rtR (rS hs)
  ·try dsimp only at h
   refine WS.lR (zax (L:=L) (E:=E) (m:=m) (H:=H) hrec_sort_shaped) (L.ok hl) 1 ?_
   cases h
   exact fun a w hq=>bkR (sqR (rtR hq))
theorem zhy {L:LC}:∀n,(∀(m:Nat) (H:AH) (a0_0 a0_1:Int) (a0_2:ByteArray) (a0_3:Sl3) (r:Bool),((zcs L n)) H a0_0 a0_1 a0_2 a0_3=some r→CallS Tryz.prog (NE.plain 148) m 128 #[(Value.agg #[(Value.int .i64 a0_0),(Value.int .i64 a0_1),(Value.string a0_2),(Sl3.v a0_3)])] H (z1z r) (z2d H r)):=by
 intro n
 induction n with
 | zero=>exact (fun _ _ _ _ _ _ _ h=>(Option.some_ne_none _ h.symm).elim)
 | succ n ih=>exact (fun _ _ _ _ _ _ _ h=>zgt (L:=L) ih h)
theorem zl2 {L:LC} {m:Nat} {H:AH} {a0_0 a0_1:Int} {a0_2:ByteArray} {a0_3:Sl3} {r:Bool} (h:zj2 L H a0_0 a0_1 a0_2 a0_3=some r) :
  CallS Tryz.prog (NE.plain 148) m 128 #[(Value.agg #[(Value.int .i64 a0_0),(Value.int .i64 a0_1),(Value.string a0_2),(Sl3.v a0_3)])] H (z1z r) (z2d H r) :=
 (zhy _) _ _ _ _ _ _ _ h
noncomputable def B88:Code:=(Tryz.f88.body).getD .skip
def zl1:Int→Value
 | r0=>(Value.int .i64 r0)
def zm0 (H:AH):Int→AH:=fun _=>H
noncomputable def zb1 (L:LC) (H:AH) (a0_0 a0_1:Int) (a0_2:ByteArray) (a0_3:Sl3):Option Int :=
 Option.bind (zkk L H a0_0 a0_1 a0_2 a0_3 1) fun (_,x2) =>
 if x2=true then
  Option.bind (zj2 L H a0_0 a0_1 a0_2 a0_3) fun x3 =>
  if x3=true then
   some 0
  else
   none
 else
  none
theorem zfz {L:LC} {m:Nat} {H:AH} {a0_0 a0_1:Int} {a0_2:ByteArray} {a0_3:Sl3} {r:Int} (h:zb1 L H a0_0 a0_1 a0_2 a0_3=some r) :
  CallS Tryz.prog (NE.plain 148) m 88 #[(Value.agg #[(Value.int .i64 a0_0),(Value.int .i64 a0_1),(Value.string a0_2),(Sl3.v a0_3)])] H (zl1 r) (zm0 H r):=by
 refine CallS.mk (args:=[(Value.agg #[(Value.int .i64 a0_0),(Value.int .i64 a0_1),(Value.string a0_2),(Sl3.v a0_3)])]) Tryz.func88 (B:=B88) (by kernel_rfl) (fun E _=>?_)
 unfold zb1 at h
 refine WS.sq (WS.rg (RS.mL 2 [kI 2 0,kL 1 0 0] ([some (57,[(Value.int .i64 a0_0),(Value.int .i64 a0_1),(Value.string a0_2),(Sl3.v a0_3)])]) (RS.dn (WS.nxt (WS.sq (WS.sq (WS.rg (RS.mS 1 [kA 6 #[(Value.int .i64 a0_0),(Value.int .i64 a0_1),(Value.string a0_2),(Sl3.v a0_3)]] ?_))))))))
 obtain ⟨⟨x1,x2⟩,hx,h⟩:=bind_some h
 try dsimp only at h
 refine RS.cl (some 7) (v:=(Value.tuple #[(Value.int .i64 x1),(Value.bool x2)])) 127 #[(Value.agg #[(Value.int .i64 a0_0),(Value.int .i64 a0_1),(Value.string a0_2),(Sl3.v a0_3)]),(Value.int .i64 1)] (zmc hx) (RS.mS 5 [kB 4 x2,kI 3 x1,kB 9 x2,kI 8 x1,(5,.val (Value.tuple #[(Value.int .i64 x1),(Value.bool x2)]))] (RS.dn (WS.nxt (WS.sq (WS.rg (RS.mS 2 [kB 11 (!x2),kB 10 x2] (RS.dn (WS.nxt ?_))))))))
 rcases z0 h with ⟨hp,h⟩ | ⟨hp,h⟩
 ·refine WS.fx 11 false (nb_not hp) (WS.cF (WS.sk (WS.nxt (WS.sq (WS.sq (WS.rg (RS.mS 1 [kA 12 #[(Value.int .i64 a0_0),(Value.int .i64 a0_1),(Value.string a0_2),(Sl3.v a0_3)]] ?_)))))))
  obtain ⟨x3,hx,h⟩:=bind_some h
  refine RS.cl (some 13) (v:=(Value.bool x3)) 128 #[(Value.agg #[(Value.int .i64 a0_0),(Value.int .i64 a0_1),(Value.string a0_2),(Sl3.v a0_3)])] (zl2 hx) (RS.mS 1 [kB 14 (!x3)] (RS.dn (WS.nxt ?_)))
  rcases z0 h with ⟨hp,h⟩ | ⟨hp,h⟩
  ·refine WS.fx 14 false (nb_not hp) (WS.cF (WS.sk (WS.nxt (WS.sq (WS.rg (RS.mS 1 [kI 2 0] (RS.dn (WS.nxt (WS.rt ?_)))))))))
   cases h
   exact fun a w hs=>rtR (rS hs)
  ·refine WS.fx 14 true (zi hp) (WS.cT ?_)
   cases h
 ·refine WS.fx 11 true (zi hp) (WS.cT ?_)
  cases h
noncomputable def B95:Code:=(Tryz.f95.body).getD .skip
def z18:Bool→Value
 | r0=>(Value.bool r0)
def z1b (H:AH):Bool→AH:=fun _=>H
noncomputable def z4u (_L:LC) (rec_sort_book_known:AH→(Option Addr)→Int→Int→ByteArray→Sl3→Option Bool) (H:AH) (a0:Option Addr) (_a1_0 _a1_1:Int) (_a1_2:ByteArray) (a1_3:Sl3):Int→Option (Lp Int Bool):=fun v34_1 =>
 if v34_1<(a1_3.n:Int) then
  Option.bind (idxA 4 a1_3 v34_1) fun p2 =>
  Option.bind (rd (deI .i64) H (Addr.add p2 0)) fun x3_0 =>
  Option.bind (rd (deI .i64) H (Addr.add p2 1)) fun x3_1 =>
  Option.bind (rd deS H (Addr.add p2 2)) fun x3_2 =>
  Option.bind (rd deSl H (Addr.add p2 3)) fun x3_3 =>
  Option.bind (rec_sort_book_known H a0 x3_0 x3_1 x3_2 x3_3) fun x4 =>
  if x4=true then
   some (.next (IntKind.i64.wrap (v34_1+1)))
  else
   none
 else
  some (.brk v34_1)
def ze9 (_L:LC) (_rec_sort_book_known:AH→(Option Addr)→Int→Int→ByteArray→Sl3→Option Bool) (_H:AH) (a0:Option Addr) (a1_0 a1_1:Int) (a1_2:ByteArray) (a1_3:Sl3):Int→KN×Lcs:=fun v34_1=>([kI 34 v34_1,(0,.val (Value.pointer a0)),kS 32 a1_3,kI 33 (a1_3.n:Int)],[some (57,[(Value.int .i64 a1_0),(Value.int .i64 a1_1),(Value.string a1_2),(Sl3.v a1_3)])])
noncomputable def z3t (L:LC) (rec_sort_book_known:AH→(Option Addr)→Int→Int→ByteArray→Sl3→Option Bool) (H:AH) (a0:Option Addr) (a1_0 a1_1:Int) (a1_2:ByteArray) (a1_3:Sl3):Option Bool :=
 if a1_0=5 then
  none
 else
  if a1_0=6 then
   none
  else
   Option.bind (L.run (z4u L rec_sort_book_known H a0 a1_0 a1_1 a1_2 a1_3) 0) fun o=>match o with
   | .inl _ =>
    some true
   | .inr r=>some r
noncomputable def z8h (L:LC) (n:Nat):(AH→(Option Addr)→Int→Int→ByteArray→Sl3→Option Bool):=Nat.rec (motive:=fun _=>(AH→(Option Addr)→Int→Int→ByteArray→Sl3→Option Bool)) (fun _ _ _ _ _ _=>none) (fun _ p=>z3t L p) n
noncomputable def zcu (L:LC) (H:AH) (a0:Option Addr) (a1_0 a1_1:Int) (a1_2:ByteArray) (a1_3:Sl3):Option Bool:=(z8h L L.fuel) H a0 a1_0 a1_1 a1_2 a1_3
theorem z6w {E m L rec_sort_book_known H a0 a1_0 a1_1 a1_2 a1_3} (hrec_sort_book_known:∀(m:Nat) (H:AH) (a0:Option Addr) (a1_0 a1_1:Int) (a1_2:ByteArray) (a1_3:Sl3) (r:Bool),rec_sort_book_known H a0 a1_0 a1_1 a1_2 a1_3=some r→CallS Tryz.prog (NE.plain 148) m 95 #[(Value.pointer a0),(Value.agg #[(Value.int .i64 a1_0),(Value.int .i64 a1_1),(Value.string a1_2),(Sl3.v a1_3)])] H (z18 r) (z1b H r)):LoopF Tryz.prog (NE.plain 148) m E Tryz.f95 ((cfst (csnd (cfst (csnd (csnd B95)))))) (ze9 L rec_sort_book_known H a0 a1_0 a1_1 a1_2 a1_3) (fun _=>H) 0 z18 (z1b H) (z4u L rec_sort_book_known H a0 a1_0 a1_1 a1_2 a1_3):=by
 rintro v34_1 o h
 unfold z4u at h
 try dsimp only at h
 refine WS.sq (WS.rg (RS.mS 1 [kB 35 (decide (v34_1<(a1_3.n:Int)))] (RS.dn (WS.nxt (WS.sq ?_)))))
 rcases z0 h with ⟨hp,h⟩ | ⟨hp,h⟩
 ·refine WS.fx 35 true (decide_eq_true hp) (WS.cT (WS.sk (WS.nxt (WS.sq (WS.bk 1 (WS.sq (WS.rg ?_)))))))
  obtain ⟨p2,hx,h⟩:=bind_some h
  refine RS.ix 36 36 57 (.tmp 32) (.tmp 34) hx ?_
  obtain ⟨x3_0,hx0,h⟩:=bind_some h
  obtain ⟨x3_1,hx1,h⟩:=bind_some h
  obtain ⟨x3_2,hx2,h⟩:=bind_some h
  obtain ⟨x3_3,hx3,h⟩:=bind_some h
  refine RS.la 37 57 (.tmp 36) 4 (z2 (z1 hx0 z5) (z2 (z1 hx1 z5) (z2 (z1 hx2 z9) (z2 (z1 hx3 z3) zd)))) (RS.mL 2 [kL 8 1 0] ([some (57,[(Value.int .i64 a1_0),(Value.int .i64 a1_1),(Value.string a1_2),(Sl3.v a1_3)]),some (57,[(Value.int .i64 x3_0),(Value.int .i64 x3_1),(Value.string x3_2),(Sl3.v x3_3)])]) (RS.dn (WS.nxt (WS.sq (WS.rg (RS.mS 2 [kA 39 #[(Value.int .i64 x3_0),(Value.int .i64 x3_1),(Value.string x3_2),(Sl3.v x3_3)],(38,.val (Value.pointer a0))] ?_))))))
  obtain ⟨x4,hx,h⟩:=bind_some h
  refine RS.cl (some 40) (v:=(Value.bool x4)) 95 #[(Value.pointer a0),(Value.agg #[(Value.int .i64 x3_0),(Value.int .i64 x3_1),(Value.string x3_2),(Sl3.v x3_3)])] (hrec_sort_book_known _ _ _ _ _ _ _ _ hx) (RS.mS 1 [kB 41 (!x4)] (RS.dn (WS.nxt ?_)))
  rcases z0 h with ⟨hp,h⟩ | ⟨hp,h⟩
  ·refine WS.fx 41 false (nb_not hp) (WS.cF (WS.sk ?_))
   refine fun a w hs=>bkN ((WS.nxt ?_ a w hs))
   refine WS.rg (RS.mS 2 [kI 34 (IntKind.i64.wrap (v34_1+1)),kI 42 (IntKind.i64.wrap (v34_1+1))] (RS.dn ?_))
   cases h
   exact fun a w hs=>lsN rfl (hs.sb 1)
  ·refine WS.fx 41 true (zi hp) (WS.cT ?_)
   cases h
 ·refine WS.fx 35 false (decide_eq_false hp) (WS.cF (WS.ex 0 ?_))
  cases h
  exact fun a w hs=>sqE (lsB rfl (hs.sb 1))
theorem zcm {L:LC} {rec_sort_book_known:AH→(Option Addr)→Int→Int→ByteArray→Sl3→Option Bool} (hrec_sort_book_known:∀(m:Nat) (H:AH) (a0:Option Addr) (a1_0 a1_1:Int) (a1_2:ByteArray) (a1_3:Sl3) (r:Bool),rec_sort_book_known H a0 a1_0 a1_1 a1_2 a1_3=some r→CallS Tryz.prog (NE.plain 148) m 95 #[(Value.pointer a0),(Value.agg #[(Value.int .i64 a1_0),(Value.int .i64 a1_1),(Value.string a1_2),(Sl3.v a1_3)])] H (z18 r) (z1b H r)) {m:Nat} {H:AH} {a0:Option Addr} {a1_0 a1_1:Int} {a1_2:ByteArray} {a1_3:Sl3} {r:Bool} (h:z3t L rec_sort_book_known H a0 a1_0 a1_1 a1_2 a1_3=some r) :
  CallS Tryz.prog (NE.plain 148) m 95 #[(Value.pointer a0),(Value.agg #[(Value.int .i64 a1_0),(Value.int .i64 a1_1),(Value.string a1_2),(Sl3.v a1_3)])] H (z18 r) (z1b H r):=by
 refine CallS.mk (args:=[(Value.pointer a0),(Value.agg #[(Value.int .i64 a1_0),(Value.int .i64 a1_1),(Value.string a1_2),(Sl3.v a1_3)])]) Tryz.func95 (B:=B95) (by kernel_rfl) (fun E _=>?_)
 unfold z3t at h
 refine WS.sq (WS.rg (RS.mL 2 [kB 4 false,kL 3 0 0] ([some (57,[(Value.int .i64 a1_0),(Value.int .i64 a1_1),(Value.string a1_2),(Sl3.v a1_3)])]) (RS.dn (WS.nxt (WS.sq (WS.sq (WS.rg (RS.mS 4 [kB 12 (decide (a1_0=5)),kB 11 (decide (a1_0=5)),kI 10 a1_0,kL 9 0 0] ?_))))))))
 rcases z0 h with ⟨hp,h⟩ | ⟨hp,h⟩
 ·refine RS.fx 12 true (decide_eq_true hp) ?_
  cases h
 ·refine RS.fx 12 false (decide_eq_false hp) (RS.mS 4 [kB 16 (decide (a1_0=6)),kB 15 (decide (a1_0=6)),kI 14 a1_0,kL 13 0 0] (RS.dn (WS.nxt ?_)))
  rcases z0 h with ⟨hp,h⟩ | ⟨hp,h⟩
  ·refine WS.fx 16 true (decide_eq_true hp) (WS.cT ?_)
   cases h
  ·refine WS.fx 16 false (decide_eq_false hp) (WS.cF (WS.sk (WS.nxt (WS.sq (WS.sq (WS.rg (RS.mS 4 [kI 34 0,kI 33 (a1_3.n:Int),kS 32 a1_3,kL 31 0 3] (RS.dn (WS.nxt ?_)))))))))
   refine WS.bk 0 ?_
   obtain ⟨o,hl,h⟩:=bind_some h
   rcases o with v34_5 | r
   ·try dsimp only at h
    refine WS.lI (z6w (L:=L) (E:=E) (m:=m) (H:=H) hrec_sort_book_known) (L.ok hl) 1 ?_
    clear hl
    refine fun a w hs=>bkE ((WS.nxt ?_ a w hs))
    refine WS.sq (WS.rg (RS.mS 1 [kB 4 true] (RS.dn (WS.nxt (WS.rt ?_)))))
    cases h
    exact fun a w hs=>rtR (rS hs)
   ·try dsimp only at h
    refine WS.lR (z6w (L:=L) (E:=E) (m:=m) (H:=H) hrec_sort_book_known) (L.ok hl) 1 ?_
    cases h
    exact fun a w hq=>bkR (sqR (rtR hq))
theorem zdr {L:LC}:∀n,(∀(m:Nat) (H:AH) (a0:Option Addr) (a1_0 a1_1:Int) (a1_2:ByteArray) (a1_3:Sl3) (r:Bool),((z8h L n)) H a0 a1_0 a1_1 a1_2 a1_3=some r→CallS Tryz.prog (NE.plain 148) m 95 #[(Value.pointer a0),(Value.agg #[(Value.int .i64 a1_0),(Value.int .i64 a1_1),(Value.string a1_2),(Sl3.v a1_3)])] H (z18 r) (z1b H r)):=by
 intro n
 induction n with
 | zero=>exact (fun _ _ _ _ _ _ _ _ h=>(Option.some_ne_none _ h.symm).elim)
 | succ n ih=>exact (fun _ _ _ _ _ _ _ _ h=>zcm (L:=L) ih h)
theorem zhc {L:LC} {m:Nat} {H:AH} {a0:Option Addr} {a1_0 a1_1:Int} {a1_2:ByteArray} {a1_3:Sl3} {r:Bool} (h:zcu L H a0 a1_0 a1_1 a1_2 a1_3=some r) :
  CallS Tryz.prog (NE.plain 148) m 95 #[(Value.pointer a0),(Value.agg #[(Value.int .i64 a1_0),(Value.int .i64 a1_1),(Value.string a1_2),(Sl3.v a1_3)])] H (z18 r) (z1b H r) :=
 (zdr _) _ _ _ _ _ _ _ _ h
noncomputable def B64:Code:=(Tryz.f64.body).getD .skip
def zgl:Int→Value
 | r0=>(Value.int .i64 r0)
def zha (H:AH):Int→AH:=fun _=>H
noncomputable def z80 (L:LC) (H:AH) (a0:Option Addr) (a1_0 a1_1:Int) (a1_2:ByteArray) (a1_3:Sl3):Option Int :=
 Option.bind (zb1 L H a1_0 a1_1 a1_2 a1_3) fun x1 =>
 if x1=0 then
  Option.bind (zcu L H a0 a1_0 a1_1 a1_2 a1_3) fun x2 =>
  if x2=true then
   some 0
  else
   none
 else
  none
theorem zho {L:LC} {m:Nat} {H:AH} {a0:Option Addr} {a1_0 a1_1:Int} {a1_2:ByteArray} {a1_3:Sl3} {r:Int} (h:z80 L H a0 a1_0 a1_1 a1_2 a1_3=some r) :
  CallS Tryz.prog (NE.plain 148) m 64 #[(Value.pointer a0),(Value.agg #[(Value.int .i64 a1_0),(Value.int .i64 a1_1),(Value.string a1_2),(Sl3.v a1_3)])] H (zgl r) (zha H r):=by
 refine CallS.mk (args:=[(Value.pointer a0),(Value.agg #[(Value.int .i64 a1_0),(Value.int .i64 a1_1),(Value.string a1_2),(Sl3.v a1_3)])]) Tryz.func64 (B:=B64) (by kernel_rfl) (fun E _=>?_)
 unfold z80 at h
 refine WS.sq (WS.rg (RS.mL 2 [kI 4 0,kL 3 0 0] ([some (57,[(Value.int .i64 a1_0),(Value.int .i64 a1_1),(Value.string a1_2),(Sl3.v a1_3)])]) (RS.dn (WS.nxt (WS.sq (WS.sq (WS.rg (RS.mS 1 [kA 6 #[(Value.int .i64 a1_0),(Value.int .i64 a1_1),(Value.string a1_2),(Sl3.v a1_3)]] ?_))))))))
 obtain ⟨x1,hx,h⟩:=bind_some h
 refine RS.cl (some 7) (v:=(Value.int .i64 x1)) 88 #[(Value.agg #[(Value.int .i64 a1_0),(Value.int .i64 a1_1),(Value.string a1_2),(Sl3.v a1_3)])] (zfz hx) (RS.mS 1 [kI 5 x1] (RS.dn (WS.nxt (WS.sq (WS.rg (RS.mS 2 [kB 9 (!decide (x1=0)),kI 8 x1] (RS.dn (WS.nxt ?_))))))))
 rcases z0 h with ⟨hp,h⟩ | ⟨hp,h⟩
 ·refine WS.fx 9 false (zj hp) (WS.cF (WS.sk (WS.nxt (WS.sq (WS.sq (WS.rg (RS.mS 2 [kA 12 #[(Value.int .i64 a1_0),(Value.int .i64 a1_1),(Value.string a1_2),(Sl3.v a1_3)],(11,.val (Value.pointer a0))] ?_)))))))
  obtain ⟨x2,hx,h⟩:=bind_some h
  refine RS.cl (some 13) (v:=(Value.bool x2)) 95 #[(Value.pointer a0),(Value.agg #[(Value.int .i64 a1_0),(Value.int .i64 a1_1),(Value.string a1_2),(Sl3.v a1_3)])] (zhc hx) (RS.mS 1 [kB 14 (!x2)] (RS.dn (WS.nxt ?_)))
  rcases z0 h with ⟨hp,h⟩ | ⟨hp,h⟩
  ·refine WS.fx 14 false (nb_not hp) (WS.cF (WS.sk (WS.nxt (WS.sq (WS.rg (RS.mS 1 [kI 4 0] (RS.dn (WS.nxt (WS.rt ?_)))))))))
   cases h
   exact fun a w hs=>rtR (rS hs)
  ·refine WS.fx 14 true (zi hp) (WS.cT ?_)
   cases h
 ·refine WS.fx 9 true (ze hp) (WS.cT ?_)
  cases h
noncomputable def B35:Code:=(Tryz.f35.body).getD .skip
def z1t:(Int×AH)→Value
 | (r0,_)=>(Value.int .i64 r0)
def z1y (_:AH):(Int×AH)→AH:=fun r=>r.2
noncomputable def z3d (_L:LC) (_H:AH) (_q1:Addr) (x2:Sl3):Int→Option (Lp Int (Int×AH)):=fun v21_3 =>
 if v21_3<(x2.n:Int) then
  none
 else
  some (.brk v21_3)
def zc5 (_L:LC) (_H:AH) (q1:Addr) (x2:Sl3):Int→KN×Lcs:=fun v21_3=>([kI 21 v21_3,kP 0 q1,kS 19 x2,kI 20 (x2.n:Int)],[])
noncomputable def z3h (L:LC) (q1:Addr) (_x5:Sl3) (_v55_7:Int) (_x9_0:ByteArray) (_x9_1:Sl3) (_x9_2 _x9_3:Int) (_x9_4:ByteArray) (_x9_5 s14:Sl3) (H15:AH):Int→Option (Lp Int (Int×AH)):=fun v67_16 =>
 if v67_16<(s14.n:Int) then
  Option.bind (idxA 4 s14 v67_16) fun p17 =>
  Option.bind (rd (deI .i64) H15 (Addr.add p17 0)) fun x18_0 =>
  Option.bind (rd (deI .i64) H15 (Addr.add p17 1)) fun x18_1 =>
  Option.bind (rd deS H15 (Addr.add p17 2)) fun x18_2 =>
  Option.bind (rd deSl H15 (Addr.add p17 3)) fun x18_3 =>
  Option.bind (z80 L H15 (some q1) x18_0 x18_1 x18_2 x18_3) fun x19 =>
  if x19=0 then
   some (.next (IntKind.i64.wrap (v67_16+1)))
  else
   none
 else
  some (.brk v67_16)
def zbm (_L:LC) (q1:Addr) (x5:Sl3) (v55_7:Int) (x9_0:ByteArray) (x9_1:Sl3) (x9_2 x9_3:Int) (x9_4:ByteArray) (x9_5 s14:Sl3) (_H15:AH):Int→KN×Lcs:=fun v67_16=>([kI 67 v67_16,kP 0 q1,kS 53 x5,kI 54 (x5.n:Int),kI 55 v55_7,kS 65 s14,kI 66 (s14.n:Int)],[some (66,[(Value.string x9_0),(Sl3.v x9_1),(Value.int .i64 x9_2),(Value.int .i64 x9_3),(Value.string x9_4),(Sl3.v x9_5)]),none])
noncomputable def z3g (L:LC) (m:Nat) (q1:Addr) (x5:Sl3):(AH×Int)→Option (Lp (AH×Int) (Int×AH)):=fun (H6,v55_7) =>
 if v55_7<(x5.n:Int) then
  Option.bind (idxA 6 x5 v55_7) fun p8 =>
  Option.bind (rd deS H6 (Addr.add p8 0)) fun x9_0 =>
  Option.bind (rd deSl H6 (Addr.add p8 1)) fun x9_1 =>
  Option.bind (rd (deI .i64) H6 (Addr.add p8 2)) fun x9_2 =>
  Option.bind (rd (deI .i64) H6 (Addr.add p8 3)) fun x9_3 =>
  Option.bind (rd deS H6 (Addr.add p8 4)) fun x9_4 =>
  Option.bind (rd deSl H6 (Addr.add p8 5)) fun x9_5 =>
  Option.bind (zc7 L (Nat.max m H6.next) H6 x9_1) fun (x10,H11) =>
  Option.bind (newS 57 [(Value.int .i64 x9_2),(Value.int .i64 x9_3),(Value.string x9_4),(Sl3.v x9_5)] H11) fun (k12,H13) =>
  Option.bind (appS m 57 4 56 H13 x10 (⟨some ⟨k12,0,none⟩,1,1⟩:Sl3)) fun (s14,H15) =>
  Option.bind (L.run (z3h L q1 x5 v55_7 x9_0 x9_1 x9_2 x9_3 x9_4 x9_5 s14 H15) 0) fun o=>match o with
  | .inl _ =>
   some (.next (H15,(IntKind.i64.wrap (v55_7+1))))
  | .inr r=>some (.ret r)
 else
  some (.brk (H6,v55_7))
def zc8 (_L:LC) (_m:Nat) (q1:Addr) (x5:Sl3):(AH×Int)→KN×Lcs:=fun (_,v55_7)=>([kI 55 v55_7,kP 0 q1,kS 53 x5,kI 54 (x5.n:Int)],[])
noncomputable def z55 (L:LC) (m:Nat) (H:AH) (a0:Option Addr):Option (Int×AH) :=
 Option.bind a0 fun q1 =>
 Option.bind (rd deSl H (Addr.add (Addr.add q1 0) 1)) fun x2 =>
 Option.bind (L.run (z3d L H q1 x2) 0) fun o=>match o with
 | .inl _ =>
  Option.bind (rd deSl H (Addr.add (Addr.add q1 0) 2)) fun x5 =>
  Option.bind (L.run (z3g L m q1 x5) (H,0)) fun o=>match o with
  | .inl (H21,_) =>
   some (0,H21)
  | .inr r=>some r
 | .inr r=>some r
theorem z4y {E m L H q1 x2} :LoopF Tryz.prog (NE.plain 148) m E Tryz.f35 ((cfst (csnd (cfst (csnd B35))))) (zc5 L H q1 x2) (fun _=>H) 0 z1t (z1y H) (z3d L H q1 x2):=by
 rintro v21_3 o h
 unfold z3d at h
 try dsimp only at h
 refine WS.sq (WS.rg (RS.mS 1 [kB 22 (decide (v21_3<(x2.n:Int)))] (RS.dn (WS.nxt (WS.sq ?_)))))
 rcases z0 h with ⟨hp,h⟩ | ⟨hp,h⟩
 ·refine WS.fx 22 true (decide_eq_true hp) (WS.cT ?_)
  cases h
 ·refine WS.fx 22 false (decide_eq_false hp) (WS.cF (WS.ex 0 ?_))
  cases h
  exact fun a w hs=>sqE (lsB rfl (hs.sb 0))
theorem z4z {E m H L q1 x5 v55_7 x9_0 x9_1 x9_2 x9_3 x9_4 x9_5 s14 H15} :LoopF Tryz.prog (NE.plain 148) m E Tryz.f35 ((cfst (csnd (csnd (cfst (cfst (csnd (csnd (cfst (cfst (csnd (cfst (csnd (csnd B35)))))))))))))) (zbm L q1 x5 v55_7 x9_0 x9_1 x9_2 x9_3 x9_4 x9_5 s14 H15) (fun _=>H15) 8 z1t (z1y H) (z3h L q1 x5 v55_7 x9_0 x9_1 x9_2 x9_3 x9_4 x9_5 s14 H15):=by
 rintro v67_16 o h
 unfold z3h at h
 try dsimp only at h
 refine WS.sq (WS.rg (RS.mS 1 [kB 68 (decide (v67_16<(s14.n:Int)))] (RS.dn (WS.nxt (WS.sq ?_)))))
 rcases z0 h with ⟨hp,h⟩ | ⟨hp,h⟩
 ·refine WS.fx 68 true (decide_eq_true hp) (WS.cT (WS.sk (WS.nxt (WS.sq (WS.bk 9 (WS.sq (WS.rg ?_)))))))
  obtain ⟨p17,hx,h⟩:=bind_some h
  refine RS.ix 69 36 57 (.tmp 65) (.tmp 67) hx ?_
  obtain ⟨x18_0,hx0,h⟩:=bind_some h
  obtain ⟨x18_1,hx1,h⟩:=bind_some h
  obtain ⟨x18_2,hx2,h⟩:=bind_some h
  obtain ⟨x18_3,hx3,h⟩:=bind_some h
  refine RS.la 70 57 (.tmp 69) 4 (z2 (z1 hx0 z5) (z2 (z1 hx1 z5) (z2 (z1 hx2 z9) (z2 (z1 hx3 z3) zd)))) (RS.mL 2 [kL 13 2 0] ([some (66,[(Value.string x9_0),(Sl3.v x9_1),(Value.int .i64 x9_2),(Value.int .i64 x9_3),(Value.string x9_4),(Sl3.v x9_5)]),none,some (57,[(Value.int .i64 x18_0),(Value.int .i64 x18_1),(Value.string x18_2),(Sl3.v x18_3)])]) (RS.dn (WS.nxt (WS.sq (WS.rg (RS.mS 2 [kA 72 #[(Value.int .i64 x18_0),(Value.int .i64 x18_1),(Value.string x18_2),(Sl3.v x18_3)],kP 71 q1] ?_))))))
  obtain ⟨x19,hx,h⟩:=bind_some h
  refine RS.cl (some 73) (v:=(Value.int .i64 x19)) 64 #[(Value.pointer (some q1)),(Value.agg #[(Value.int .i64 x18_0),(Value.int .i64 x18_1),(Value.string x18_2),(Sl3.v x18_3)])] (zho hx) (RS.mS 1 [kI 14 x19] (RS.dn (WS.nxt (WS.sq (WS.rg (RS.mS 2 [kB 75 (!decide (x19=0)),kI 74 x19] (RS.dn (WS.nxt ?_))))))))
  rcases z0 h with ⟨hp,h⟩ | ⟨hp,h⟩
  ·refine WS.fx 75 false (zj hp) (WS.cF (WS.sk ?_))
   refine fun a w hs=>bkN ((WS.nxt ?_ a w hs))
   refine WS.rg (RS.mS 2 [kI 67 (IntKind.i64.wrap (v67_16+1)),kI 77 (IntKind.i64.wrap (v67_16+1))] (RS.dn ?_))
   cases h
   exact fun a w hs=>lsN rfl (hs.sb 2)
  ·refine WS.fx 75 true (ze hp) (WS.cT ?_)
   cases h
 ·refine WS.fx 68 false (decide_eq_false hp) (WS.cF (WS.ex 8 ?_))
  cases h
  exact fun a w hs=>sqE (lsB rfl (hs.sb 2))
theorem z59 {E H L m q1 x5} :LoopF Tryz.prog (NE.plain 148) m E Tryz.f35 ((cfst (csnd (cfst (csnd (csnd B35)))))) (zc8 L m q1 x5) (fun s=>s.1) 6 z1t (z1y H) (z3g L m q1 x5):=by
 rintro ⟨H6,v55_7⟩ o h
 unfold z3g at h
 try dsimp only at h
 refine WS.sq (WS.rg (RS.mS 1 [kB 56 (decide (v55_7<(x5.n:Int)))] (RS.dn (WS.nxt (WS.sq ?_)))))
 rcases z0 h with ⟨hp,h⟩ | ⟨hp,h⟩
 ·refine WS.fx 56 true (decide_eq_true hp) (WS.cT (WS.sk (WS.nxt (WS.sq (WS.bk 7 (WS.sq (WS.rg ?_)))))))
  obtain ⟨p8,hx,h⟩:=bind_some h
  refine RS.ix 57 28 66 (.tmp 53) (.tmp 55) hx ?_
  obtain ⟨x9_0,hx0,h⟩:=bind_some h
  obtain ⟨x9_1,hx1,h⟩:=bind_some h
  obtain ⟨x9_2,hx2,h⟩:=bind_some h
  obtain ⟨x9_3,hx3,h⟩:=bind_some h
  obtain ⟨x9_4,hx4,h⟩:=bind_some h
  obtain ⟨x9_5,hx5,h⟩:=bind_some h
  refine RS.la 58 66 (.tmp 57) 6 (z2 (z1 hx0 z9) (z2 (z1 hx1 z3) (z2 (z1 hx2 z5) (z2 (z1 hx3 z5) (z2 (z1 hx4 z9) (z2 (z1 hx5 z3) zd)))))) (RS.mL 2 [kL 11 0 0] ([some (66,[(Value.string x9_0),(Sl3.v x9_1),(Value.int .i64 x9_2),(Value.int .i64 x9_3),(Value.string x9_4),(Sl3.v x9_5)])]) (RS.dn (WS.nxt (WS.sq ?_))))
  obtain ⟨⟨x10,H11⟩,hx_2,h⟩:=bind_some h
  try dsimp only at h
  obtain ⟨⟨k12,H13⟩,hx_k12,h⟩:=bind_some h
  try dsimp only at h
  obtain ⟨⟨s14,H15⟩,hx_6,h⟩:=bind_some h
  try dsimp only at h
  refine WS.toone ([kP 0 q1,kS 53 x5,kI 54 (x5.n:Int),kI 55 v55_7,kS 65 s14,kI 66 (s14.n:Int),kI 67 0]) ([some (66,[(Value.string x9_0),(Sl3.v x9_1),(Value.int .i64 x9_2),(Value.int .i64 x9_3),(Value.string x9_4),(Sl3.v x9_5)]),none]) H15 ?_ ?_
  ·clear h
   refine WS.dr [0,1] [0,1,3,0,8,24,63,127,0] 9 (fun hcl=>?_)
   refine DA.tL 0 (some 59) (.loc 0 1) (DA.tL 1 (some 60) (.val (Sl3.v x9_1)) (DA.tP 8 (some 67) (Value.int .i64 0) (DA.restart [0,1,3] (by kernel_rfl) (DA.tL 3 (some 62) (.loc 0 2) ?_))))
   refine DA.two 2 4 (by kernel_rfl) ?_ ?_
   ·refine DA.aCj 2 (some 61) true (v:=(Sl3.v x10)) 13 #[(Sl3.v x9_1)] (z82 hx_2) (DA.on 4 (DA.aL 4 (some 63) (.val (Value.agg #[(Value.int .i64 x9_2),(Value.int .i64 x9_3),(Value.string x9_4),(Sl3.v x9_5)])) ([some (66,[(Value.string x9_0),(Sl3.v x9_1),(Value.int .i64 x9_2),(Value.int .i64 x9_3),(Value.string x9_4),(Sl3.v x9_5)])]) true (DA.on 5 (DA.actS 5 (some 64) (.sli 1 1) ([some (66,[(Value.string x9_0),(Sl3.v x9_1),(Value.int .i64 x9_2),(Value.int .i64 x9_3),(Value.string x9_4),(Sl3.v x9_5)]),some (57,[(Value.int .i64 x9_2),(Value.int .i64 x9_3),(Value.string x9_4),(Sl3.v x9_5)])]) (by kernel_rfl) (by kernel_rfl) (by kernel_rfl) hcl (by kernel_rfl) (by kernel_rfl) (by kernel_rfl) (DA.on 6 (DA.pubK 1 _ _ hx_k12 (by kernel_rfl) rfl rfl (DA.aH (H':=H15) 6 (some 65) (Sl3.v s14) (Abs.run_app (x:=.tmp 61) (y:=.tmp 64) (ts:=#[36,36]) (s:=x10) (z:=(⟨some ⟨k12,0,none⟩,1,1⟩:Sl3)) (by kernel_rfl) (by kernel_rfl) (by kernel_rfl) (by kernel_rfl) hx_6) (DA.tP 7 (some 66) (Value.int .i64 (s14.n:Int)) (DA.dn ?_)))))))))
    exact fun a w hs=>jsN (hs.sb 2)
   ·refine DA.aL 4 (some 63) (.val (Value.agg #[(Value.int .i64 x9_2),(Value.int .i64 x9_3),(Value.string x9_4),(Sl3.v x9_5)])) ([some (66,[(Value.string x9_0),(Sl3.v x9_1),(Value.int .i64 x9_2),(Value.int .i64 x9_3),(Value.string x9_4),(Sl3.v x9_5)])]) true ?_
    refine DA.two 2 5 (by kernel_rfl) ?_ ?_
    ·refine DA.aCj 2 (some 61) true (v:=(Sl3.v x10)) 13 #[(Sl3.v x9_1)] (z82 hx_2) (DA.on 5 (DA.actS 5 (some 64) (.sli 1 1) ([some (66,[(Value.string x9_0),(Sl3.v x9_1),(Value.int .i64 x9_2),(Value.int .i64 x9_3),(Value.string x9_4),(Sl3.v x9_5)]),some (57,[(Value.int .i64 x9_2),(Value.int .i64 x9_3),(Value.string x9_4),(Sl3.v x9_5)])]) (by kernel_rfl) (by kernel_rfl) (by kernel_rfl) hcl (by kernel_rfl) (by kernel_rfl) (by kernel_rfl) (DA.on 6 (DA.pubK 1 _ _ hx_k12 (by kernel_rfl) rfl rfl (DA.aH (H':=H15) 6 (some 65) (Sl3.v s14) (Abs.run_app (x:=.tmp 61) (y:=.tmp 64) (ts:=#[36,36]) (s:=x10) (z:=(⟨some ⟨k12,0,none⟩,1,1⟩:Sl3)) (by kernel_rfl) (by kernel_rfl) (by kernel_rfl) (by kernel_rfl) hx_6) (DA.tP 7 (some 66) (Value.int .i64 (s14.n:Int)) (DA.dn ?_)))))))
     exact fun a w hs=>jsN (hs.sb 2)
    ·refine DA.actS 5 (some 64) (.sli 1 1) ([some (66,[(Value.string x9_0),(Sl3.v x9_1),(Value.int .i64 x9_2),(Value.int .i64 x9_3),(Value.string x9_4),(Sl3.v x9_5)]),some (57,[(Value.int .i64 x9_2),(Value.int .i64 x9_3),(Value.string x9_4),(Sl3.v x9_5)])]) (by kernel_rfl) (by kernel_rfl) (by kernel_rfl) hcl (by kernel_rfl) (by kernel_rfl) (by kernel_rfl) (DA.on 2 (DA.aCj 2 (some 61) false (v:=(Sl3.v x10)) 13 #[(Sl3.v x9_1)] (z82 hx_2) (DA.on 6 (DA.pubK 1 _ _ hx_k12 (by kernel_rfl) rfl rfl (DA.aH (H':=H15) 6 (some 65) (Sl3.v s14) (Abs.run_app (x:=.tmp 61) (y:=.tmp 64) (ts:=#[36,36]) (s:=x10) (z:=(⟨some ⟨k12,0,none⟩,1,1⟩:Sl3)) (by kernel_rfl) (by kernel_rfl) (by kernel_rfl) (by kernel_rfl) hx_6) (DA.tP 7 (some 66) (Value.int .i64 (s14.n:Int)) (DA.dn ?_)))))))
     exact fun a w hs=>jsN (hs.sb 2)
  ·refine WS.nxt (WS.bk 8 ?_)
   obtain ⟨o,hl,h⟩:=bind_some h
   rcases o with v67_20 | r
   ·try dsimp only at h
    refine WS.lI (z4z (L:=L) (E:=E) (m:=m) (H:=H)) (L.ok hl) 2 ?_
    clear hl
    refine fun a w hs=>bkE (bkN ((WS.nxt ?_ a w hs)))
    refine WS.rg (RS.mS 2 [kI 55 (IntKind.i64.wrap (v55_7+1)),kI 78 (IntKind.i64.wrap (v55_7+1))] (RS.dn ?_))
    cases h
    exact fun a w hs=>lsN rfl (hs.sb 0)
   ·try dsimp only at h
    refine WS.lR (z4z (L:=L) (E:=E) (m:=m) (H:=H)) (L.ok hl) 2 ?_
    cases h
    exact fun a w hq=>bkR (bkR (sqR (lsR rfl hq)))
 ·refine WS.fx 56 false (decide_eq_false hp) (WS.cF (WS.ex 6 ?_))
  cases h
  exact fun a w hs=>sqE (lsB rfl (hs.sb 0))
theorem ze1 {L:LC} {m:Nat} {H:AH} {a0:Option Addr} {r:(Int×AH)} (h:z55 L m H a0=some r) :
  CallS Tryz.prog (NE.plain 148) m 35 #[(Value.pointer a0)] H (z1t r) (z1y H r):=by
 refine CallS.mk (args:=[(Value.pointer a0)]) Tryz.func35 (B:=B35) (by kernel_rfl) (fun E _=>?_)
 unfold z55 at h
 refine WS.sq (WS.rg (RS.mS 1 [kI 2 0] (RS.dn (WS.nxt (WS.sq (WS.sq (WS.rg (RS.mS 1 [(15,.val (Value.pointer a0))] ?_))))))))
 obtain ⟨q1,hx,hq1⟩:=bind_some h
 subst hx
 have h:=hq1
 refine RS.mS 3 [(18,.val (Value.pointer (some (Addr.add (Addr.add q1 0) 1)))),(17,.val (Value.pointer (some (Addr.add q1 0)))),kP 16 q1] ?_
 obtain ⟨x2,hx,h⟩:=bind_some h
 refine RS.ld 19 27 (.tmp 18) (z1 hx z3) (RS.mS 2 [kI 21 0,kI 20 (x2.n:Int)] (RS.dn (WS.nxt (WS.bk 0 ?_))))
 obtain ⟨o,hl,h⟩:=bind_some h
 rcases o with v21_4 | r
 ·try dsimp only at h
  refine WS.lI (z4y (L:=L) (E:=E) (m:=m) (H:=H)) (L.ok hl) 0 ?_
  clear hl
  refine fun a w hs=>bkE ((WS.nxt ?_ a w hs))
  refine WS.sq (WS.sq (WS.rg (RS.mS 4 [(52,.val (Value.pointer (some (Addr.add (Addr.add q1 0) 2)))),(51,.val (Value.pointer (some (Addr.add q1 0)))),kP 50 q1,kP 49 q1] ?_)))
  obtain ⟨x5,hx,h⟩:=bind_some h
  refine RS.ld 53 28 (.tmp 52) (z1 hx z3) (RS.mS 2 [kI 55 0,kI 54 (x5.n:Int)] (RS.dn (WS.nxt (WS.bk 6 ?_))))
  obtain ⟨o,hl,h⟩:=bind_some h
  rcases o with ⟨H21,v55_22⟩ | r
  ·try dsimp only at h
   refine WS.lI (z59 (L:=L) (E:=E) (m:=m) (H:=H)) (L.ok hl) 0 ?_
   clear hl
   refine fun a w hs=>bkE ((WS.nxt ?_ a w hs))
   refine WS.sq (WS.rg (RS.mS 1 [kI 2 0] (RS.dn (WS.nxt (WS.rt ?_)))))
   cases h
   exact fun a w hs=>rtR (rS hs)
  ·try dsimp only at h
   refine WS.lR (z59 (L:=L) (E:=E) (m:=m) (H:=H)) (L.ok hl) 0 ?_
   cases h
   exact fun a w hq=>bkR (sqR (rtR hq))
 ·try dsimp only at h
  refine WS.lR (z4y (L:=L) (E:=E) (m:=m) (H:=H)) (L.ok hl) 0 ?_
  cases h
  exact fun a w hq=>bkR (sqR (rtR hq))
noncomputable def B36:Code:=(Tryz.f36.body).getD .skip
def z8a:(Bool×AH)→Value
 | (r0,_)=>(Value.bool r0)
def z8i (_:AH):(Bool×AH)→AH:=fun r=>r.2
noncomputable def z4f (_L:LC) (_a1:Sl3) (_q1:Addr) (x2:Sl3):(AH×Int)→Option (Lp (AH×Int) (Bool×AH)):=fun (H3,v19_4) =>
 if v19_4<(x2.n:Int) then
  none
 else
  some (.brk (H3,v19_4))
def zdt (_L:LC) (a1:Sl3) (q1:Addr) (x2:Sl3):(AH×Int)→KN×Lcs:=fun (_,v19_4)=>([kI 19 v19_4,kP 0 q1,kS 1 a1,kS 17 x2,kI 18 (x2.n:Int)],[])
noncomputable def z6o (L:LC) (_m:Nat) (H:AH) (a0:Option Addr) (a1:Sl3):Option (Bool×AH) :=
 Option.bind a0 fun q1 =>
 Option.bind (rd deSl H (Addr.add (Addr.add q1 0) 1)) fun x2 =>
 Option.bind (L.run (z4f L a1 q1 x2) (H,0)) fun o=>match o with
 | .inl (H5,_) =>
  some (false,H5)
 | .inr r=>some r
theorem z6a {E m H L a1 q1 x2} :LoopF Tryz.prog (NE.plain 148) m E Tryz.f36 ((cfst (csnd (cfst (csnd B36))))) (zdt L a1 q1 x2) (fun s=>s.1) 0 z8a (z8i H) (z4f L a1 q1 x2):=by
 rintro ⟨H3,v19_4⟩ o h
 unfold z4f at h
 try dsimp only at h
 refine WS.sq (WS.rg (RS.mS 1 [kB 20 (decide (v19_4<(x2.n:Int)))] (RS.dn (WS.nxt (WS.sq ?_)))))
 rcases z0 h with ⟨hp,h⟩ | ⟨hp,h⟩
 ·refine WS.fx 20 true (decide_eq_true hp) (WS.cT ?_)
  cases h
 ·refine WS.fx 20 false (decide_eq_false hp) (WS.cF (WS.ex 0 ?_))
  cases h
  exact fun a w hs=>sqE (lsB rfl (hs.sb 0))
theorem zg9 {L:LC} {m:Nat} {H:AH} {a0:Option Addr} {a1:Sl3} {r:(Bool×AH)} (h:z6o L m H a0 a1=some r) :
  CallS Tryz.prog (NE.plain 148) m 36 #[(Value.pointer a0),(Sl3.v a1)] H (z8a r) (z8i H r):=by
 refine CallS.mk (args:=[(Value.pointer a0),(Sl3.v a1)]) Tryz.func36 (B:=B36) (by kernel_rfl) (fun E _=>?_)
 unfold z6o at h
 refine WS.sq (WS.rg (RS.mS 1 [kB 4 false] (RS.dn (WS.nxt (WS.sq (WS.sq (WS.rg (RS.mS 1 [(13,.val (Value.pointer a0))] ?_))))))))
 obtain ⟨q1,hx,hq1⟩:=bind_some h
 subst hx
 have h:=hq1
 refine RS.mS 3 [(16,.val (Value.pointer (some (Addr.add (Addr.add q1 0) 1)))),(15,.val (Value.pointer (some (Addr.add q1 0)))),kP 14 q1] ?_
 obtain ⟨x2,hx,h⟩:=bind_some h
 refine RS.ld 17 27 (.tmp 16) (z1 hx z3) (RS.mS 2 [kI 19 0,kI 18 (x2.n:Int)] (RS.dn (WS.nxt (WS.bk 0 ?_))))
 obtain ⟨o,hl,h⟩:=bind_some h
 rcases o with ⟨H5,v19_6⟩ | r
 ·try dsimp only at h
  refine WS.lI (z6a (L:=L) (E:=E) (m:=m) (H:=H)) (L.ok hl) 0 ?_
  clear hl
  refine fun a w hs=>bkE ((WS.nxt ?_ a w hs))
  refine WS.sq (WS.rg (RS.mS 1 [kB 4 false] (RS.dn (WS.nxt (WS.rt ?_)))))
  cases h
  exact fun a w hs=>rtR (rS hs)
 ·try dsimp only at h
  refine WS.lR (z6a (L:=L) (E:=E) (m:=m) (H:=H)) (L.ok hl) 0 ?_
  cases h
  exact fun a w hq=>bkR (sqR (rtR hq))
noncomputable def B37:Code:=(Tryz.f37.body).getD .skip
def z8j:(Sl3×AH)→Value
 | (r0,_)=>(Sl3.v r0)
def z9c (_:AH):(Sl3×AH)→AH:=fun r=>r.2
noncomputable def z5b (_L:LC) (_q1:Addr) (x2 _s3:Sl3):(AH×Int)→Option (Lp (AH×Int) (Sl3×AH)):=fun (H5,v17_6) =>
 if v17_6<(x2.n:Int) then
  none
 else
  some (.brk (H5,v17_6))
def zel (_L:LC) (q1:Addr) (x2 s3:Sl3):(AH×Int)→KN×Lcs:=fun (_,v17_6)=>([kI 17 v17_6,kP 0 q1,kI 3 (x2.n:Int),kS 4 s3,kI 16 (x2.n:Int)],[])
noncomputable def z7s (L:LC) (_m:Nat) (H:AH) (a0:Option Addr):Option (Sl3×AH) :=
 Option.bind a0 fun q1 =>
 Option.bind (rd deSl H (Addr.add (Addr.add q1 0) 1)) fun x2 =>
 Option.bind (mkS 111 1 24 #[(Sl3.v Sl3.nil)] H (x2.n:Int) (x2.n:Int)) fun (s3,H4) =>
 Option.bind (L.run (z5b L q1 x2 s3) (H4,0)) fun o=>match o with
 | .inl (H7,_) =>
  some (s3,H7)
 | .inr r=>some r
theorem z71 {E m H L q1 x2 s3} :LoopF Tryz.prog (NE.plain 148) m E Tryz.f37 ((cfst (csnd (cfst (csnd (csnd (csnd B37))))))) (zel L q1 x2 s3) (fun s=>s.1) 0 z8j (z9c H) (z5b L q1 x2 s3):=by
 rintro ⟨H5,v17_6⟩ o h
 unfold z5b at h
 try dsimp only at h
 refine WS.sq (WS.rg (RS.mS 1 [kB 18 (decide (v17_6<(x2.n:Int)))] (RS.dn (WS.nxt (WS.sq ?_)))))
 rcases z0 h with ⟨hp,h⟩ | ⟨hp,h⟩
 ·refine WS.fx 18 true (decide_eq_true hp) (WS.cT ?_)
  cases h
 ·refine WS.fx 18 false (decide_eq_false hp) (WS.cF (WS.ex 0 ?_))
  cases h
  exact fun a w hs=>sqE (lsB rfl (hs.sb 0))
theorem zh1 {L:LC} {m:Nat} {H:AH} {a0:Option Addr} {r:(Sl3×AH)} (h:z7s L m H a0=some r) :
  CallS Tryz.prog (NE.plain 148) m 37 #[(Value.pointer a0)] H (z8j r) (z9c H r):=by
 refine CallS.mk (args:=[(Value.pointer a0)]) Tryz.func37 (B:=B37) (by kernel_rfl) (fun E _=>?_)
 unfold z7s at h
 refine WS.sq (WS.rg (RS.mS 1 [kS 2 Sl3.nil] (RS.dn (WS.nxt (WS.sq (WS.rg (RS.mS 1 [(8,.val (Value.pointer a0))] ?_)))))))
 obtain ⟨q1,hx,hq1⟩:=bind_some h
 subst hx
 have h:=hq1
 refine RS.mS 3 [(11,.val (Value.pointer (some (Addr.add (Addr.add q1 0) 1)))),(10,.val (Value.pointer (some (Addr.add q1 0)))),kP 9 q1] ?_
 obtain ⟨x2,hx,h⟩:=bind_some h
 refine RS.ld 12 27 (.tmp 11) (z1 hx z3) (RS.mS 2 [kI 3 (x2.n:Int),kI 13 (x2.n:Int)] (RS.dn (WS.nxt (WS.sq (WS.rg (RS.mS 1 [kI 14 (x2.n:Int)] ?_))))))
 obtain ⟨⟨s3,H4⟩,hx,h⟩:=bind_some h
 try dsimp only at h
 refine RS.o (H':=H4) (some 15) (Sl3.v s3) (Abs.run_mk (t:=108) (x:=.tmp 14) (y:=.tmp 14) (k1:=.i64) (k2:=.i64) (by kernel_rfl) (by kernel_rfl) (by kernel_rfl) (by kernel_rfl) hx) (RS.mS 1 [kS 4 s3] (RS.dn (WS.nxt (WS.sq (WS.sq (WS.rg (RS.mS 2 [kI 17 0,kI 16 (x2.n:Int)] (RS.dn (WS.nxt ?_)))))))))
 refine WS.bk 0 ?_
 obtain ⟨o,hl,h⟩:=bind_some h
 rcases o with ⟨H7,v17_8⟩ | r
 ·try dsimp only at h
  refine WS.lI (z71 (L:=L) (E:=E) (m:=m) (H:=H)) (L.ok hl) 0 ?_
  clear hl
  refine fun a w hs=>bkE ((WS.nxt ?_ a w hs))
  refine WS.sq (WS.rg (RS.mS 2 [kS 2 s3,kS 56 s3] (RS.dn (WS.nxt (WS.rt ?_)))))
  cases h
  exact fun a w hs=>rtR (rS hs)
 ·try dsimp only at h
  refine WS.lR (z71 (L:=L) (E:=E) (m:=m) (H:=H)) (L.ok hl) 0 ?_
  cases h
  exact fun a w hq=>bkR (sqR (rtR hq))
noncomputable def B67:Code:=(Tryz.f67.body).getD .skip
def zbp:Int→Value
 | r0=>(Value.int .i64 r0)
def zcn (H:AH):Int→AH:=fun _=>H
noncomputable def z7v (_L:LC) (_H:AH) (a0:Sl3) (_a1:Bool):Int→Option (Lp Int Int):=fun v8_1 =>
 if v8_1<(a0.n:Int) then
  none
 else
  some (.brk v8_1)
def zi0 (_L:LC) (_H:AH) (a0:Sl3) (a1:Bool):Int→KN×Lcs:=fun v8_1=>([kI 8 v8_1,kS 0 a0,kB 1 a1,kI 7 (a0.n:Int)],[])
noncomputable def zbu (L:LC) (H:AH) (a0:Sl3) (a1:Bool):Option Int :=
 Option.bind (L.run (z7v L H a0 a1) 0) fun o=>match o with
 | .inl _ =>
  some (-1)
 | .inr r=>some r
theorem z9q {E m L H a0 a1} :LoopF Tryz.prog (NE.plain 148) m E Tryz.f67 ((cfst (csnd (cfst (csnd B67))))) (zi0 L H a0 a1) (fun _=>H) 0 zbp (zcn H) (z7v L H a0 a1):=by
 rintro v8_1 o h
 unfold z7v at h
 try dsimp only at h
 refine WS.sq (WS.rg (RS.mS 1 [kB 9 (decide (v8_1<(a0.n:Int)))] (RS.dn (WS.nxt (WS.sq ?_)))))
 rcases z0 h with ⟨hp,h⟩ | ⟨hp,h⟩
 ·refine WS.fx 9 true (decide_eq_true hp) (WS.cT ?_)
  cases h
 ·refine WS.fx 9 false (decide_eq_false hp) (WS.cF (WS.ex 0 ?_))
  cases h
  exact fun a w hs=>sqE (lsB rfl (hs.sb 0))
theorem zk8 {L:LC} {m:Nat} {H:AH} {a0:Sl3} {a1:Bool} {r:Int} (h:zbu L H a0 a1=some r) :
  CallS Tryz.prog (NE.plain 148) m 67 #[(Sl3.v a0),(Value.bool a1)] H (zbp r) (zcn H r):=by
 refine CallS.mk (args:=[(Sl3.v a0),(Value.bool a1)]) Tryz.func67 (B:=B67) (by kernel_rfl) (fun E _=>?_)
 unfold zbu at h
 refine WS.sq (WS.rg (RS.mS 1 [kI 4 0] (RS.dn (WS.nxt (WS.sq (WS.sq (WS.rg (RS.mS 3 [kI 8 0,kI 7 (a0.n:Int),kS 6 a0] (RS.dn ?_)))))))))
 refine WS.nxt (WS.bk 0 ?_)
 obtain ⟨o,hl,h⟩:=bind_some h
 rcases o with v8_2 | r
 ·try dsimp only at h
  refine WS.lI (z9q (L:=L) (E:=E) (m:=m) (H:=H)) (L.ok hl) 0 ?_
  clear hl
  refine fun a w hs=>bkE ((WS.nxt ?_ a w hs))
  refine WS.sq (WS.rg (RS.mS 1 [kI 4 (-1)] (RS.dn (WS.nxt (WS.rt ?_)))))
  cases h
  exact fun a w hs=>rtR (rS hs)
 ·try dsimp only at h
  refine WS.lR (z9q (L:=L) (E:=E) (m:=m) (H:=H)) (L.ok hl) 0 ?_
  cases h
  exact fun a w hq=>bkR (sqR (rtR hq))
noncomputable def B38:Code:=(Tryz.f38.body).getD .skip
def zgb:Bool→Value
 | r0=>(Value.bool r0)
def zhg (H:AH):Bool→AH:=fun _=>H
noncomputable def z7q (L:LC) (H:AH) (a0:Sl3) (a1:Bool):Option Bool :=
 Option.bind (zbu L H a0 a1) fun x1 =>
 some (decide (x1≥0))
theorem zh3 {L:LC} {m:Nat} {H:AH} {a0:Sl3} {a1 r:Bool} (h:z7q L H a0 a1=some r) :
  CallS Tryz.prog (NE.plain 148) m 38 #[(Sl3.v a0),(Value.bool a1)] H (zgb r) (zhg H r):=by
 refine CallS.mk (args:=[(Sl3.v a0),(Value.bool a1)]) Tryz.func38 (B:=B38) (by kernel_rfl) (fun E _=>?_)
 unfold z7q at h
 refine WS.sq (WS.rg (RS.mS 1 [kB 4 false] (RS.dn (WS.nxt (WS.sq (WS.rg (RS.mS 2 [kB 6 a1,kS 5 a0] ?_)))))))
 obtain ⟨x1,hx,h⟩:=bind_some h
 refine RS.cl (some 7) (v:=(Value.int .i64 x1)) 67 #[(Sl3.v a0),(Value.bool a1)] (zk8 hx) (RS.mS 2 [kB 4 (decide (x1≥0)),kB 8 (decide (x1≥0))] (RS.dn (WS.nxt (WS.rt ?_))))
 cases h
 exact fun a w hs=>rtR (rS hs)
end Go.Proofs.YtpcckomdlmpckaaGreatDoor
namespace Go.Proofs.YtpcckomdlmpckaaGreatDoor
open Go Go.Abs
set_option maxRecDepth 100000
noncomputable def B39:Code:=(Tryz.f39.body).getD .skip
def z3r:(Sl3×AH)→Value
 | (r0,_)=>(Sl3.v r0)
def z48 (_:AH):(Sl3×AH)→AH:=fun r=>r.2
noncomputable def z45 (_L:LC) (_p1 _p8:Addr) (x14:Sl3):(AH×Int)→Option (Lp (AH×Int) ((Sl3×AH)⊕AH)):=fun (H16,v21_17) =>
 if v21_17<(x14.n:Int) then
  none
 else
  some (.brk (H16,v21_17))
def z6b (_L:LC) (p1 p8:Addr) (x14:Sl3):(AH×Int)→KN:=fun (_,v21_17)=>[kI 21 v21_17,kP 1 p1,kP 3 p8,kS 19 x14,kI 20 (x14.n:Int)]
def z64 (_L:LC) (_p1 _p8:Addr) (_x14:Sl3):(AH×Int)→Lcs:=fun (_,_)=>[]
def zci (_L:LC) (p1 p8:Addr) (_x14:Sl3):AH→KN:=fun _=>[kP 1 p1,kP 3 p8]
def zcd (_L:LC) (_p1 _p8:Addr) (_x14:Sl3):AH→Lcs:=fun _=>[]
noncomputable def z46 (L:LC) (p1 p8:Addr):AH→Option (Lp AH (Sl3×AH)):=fun H11 =>
 Option.bind (rd deP H11 p1) fun x12 =>
 Option.bind x12 fun q13 =>
 Option.bind (rd deSl H11 (Addr.add (Addr.add q13 0) 1)) fun x14 =>
 Option.bind (L.run (z45 L p1 p8 x14) (H11,0)) fun o=>match o with
 | .inl (H18,_) =>
  some (.brk H18)
 | .inr (.inl r)=>some (.ret r)
 | .inr (.inr H20) =>
  some (.next H20)
def zdk (_L:LC) (p1 p8:Addr):AH→KN×Lcs:=fun _=>([kP 1 p1,kP 3 p8],[])
noncomputable def z6j (L:LC) (m:Nat) (H:AH) (a0:Option Addr):Option (Sl3×AH) :=
 Option.bind (newB 104 [(Value.pointer a0)] H) fun (p1,H2) =>
 Option.bind (rd deP H2 p1) fun x3 =>
 Option.bind x3 fun q4 =>
 Option.bind (rd deSl H2 (Addr.add (Addr.add q4 0) 1)) fun x5 =>
 Option.bind (mkS 4 1 1 #[(Value.bool false)] H2 (x5.n:Int) (x5.n:Int)) fun (s6,H7) =>
 Option.bind (newB 111 [(Sl3.v Sl3.nil)] H7) fun (p8,H9) =>
 Option.bind (H9.setCell m p8 (Sl3.v s6)) fun H10 =>
 Option.bind (L.run (z46 L p1 p8) H10) fun o=>match o with
 | .inl H21 =>
  Option.bind (rd deSl H21 p8) fun x22 =>
  some (x22,H21)
 | .inr r=>some r
theorem z38 {E:Ent} {m:Nat} {H:AH} {L:LC} {p1 p8:Addr} {x14:Sl3} :∀s o,z45 L p1 p8 x14 s=some o →
  WS Tryz.prog (NE.plain 148) m E Tryz.f39.ntmps (cfst (cfst (csnd (cfst (cfst (cfst (cfst (cfst (csnd (csnd (cfst (csnd B39)))))))))))) (z6b L p1 p8 x14 s) (z64 L p1 p8 x14 s) ((fun s=>s.1) s) (lpX Tryz.prog (NE.plain 148) m E Tryz.f39.ntmps (z6b L p1 p8 x14) (z64 L p1 p8 x14) (fun s=>s.1) 2 (fun r e a w=>match r with | .inl r=>e=.ret∧RT Tryz.prog (NE.plain 148) m E Tryz.f39 (z3r r) (z48 H r) a w | .inr x=>e=.exit 1∧SS Tryz.prog (NE.plain 148) m E Tryz.f39.ntmps (zci L p1 p8 x14 x) (zcd L p1 p8 x14 x) ((fun s=>s) x) a w) o):=by
 rintro ⟨H16,v21_17⟩ o h
 unfold z45 at h
 try dsimp only at h
 refine WS.sq (WS.rg (RS.mS 1 [kB 22 (decide (v21_17<(x14.n:Int)))] (RS.dn (WS.nxt (WS.sq ?_)))))
 rcases z0 h with ⟨hp,h⟩ | ⟨hp,h⟩
 ·refine WS.fx 22 true (decide_eq_true hp) (WS.cT ?_)
  cases h
 ·refine WS.fx 22 false (decide_eq_false hp) (WS.cF (WS.ex 2 ?_))
  cases h
  exact fun a w hs=>sqE (lxB rfl (hs.sb 0))
theorem z66 {E m H L p1 p8} :LoopF Tryz.prog (NE.plain 148) m E Tryz.f39 ((cfst (cfst (csnd (csnd (cfst (csnd B39))))))) (zdk L p1 p8) (fun s=>s) 0 z3r (z48 H) (z46 L p1 p8):=by
 rintro H11 o h
 unfold z46 at h
 try dsimp only at h
 refine WS.bk 1 (WS.sq (WS.sq (WS.rg ?_)))
 obtain ⟨x12,hx,h⟩:=bind_some h
 refine RS.ld 15 104 (.tmp 1) (z1 hx zr) ?_
 obtain ⟨q13,hx,hq13⟩:=bind_some h
 subst hx
 have h:=hq13
 refine RS.mS 3 [(18,.val (Value.pointer (some (Addr.add (Addr.add q13 0) 1)))),(17,.val (Value.pointer (some (Addr.add q13 0)))),kP 16 q13] ?_
 obtain ⟨x14,hx,h⟩:=bind_some h
 refine RS.ld 19 27 (.tmp 18) (z1 hx z3) (RS.mS 2 [kI 21 0,kI 20 (x14.n:Int)] (RS.dn (WS.nxt (WS.bk 2 ?_))))
 obtain ⟨o,hl,h⟩:=bind_some h
 rcases o with ⟨H18,v21_19⟩ | (r | H20)
 ·try dsimp only at h
  refine WS.lXI (z38 (L:=L) (E:=E) (m:=m) (H:=H)) (L.ok hl) 0 ?_
  clear hl
  refine fun a w hs=>bkE ((WS.nxt ?_ a w hs))
  refine WS.ex 0 ?_
  cases h
  exact fun a w hs=>bkX (by kernel_rfl) (lsB rfl (hs.sb 0))
 ·try dsimp only at h
  refine WS.lXR (z38 (L:=L) (E:=E) (m:=m) (H:=H)) (L.ok hl) 0 ?_
  cases h
  refine fun e a w hq=>?_
  obtain ⟨rfl,hq⟩:=hq
  exact bkR (sqR (bkR (lsR rfl hq)))
 ·try dsimp only at h
  refine WS.lXR (z38 (L:=L) (E:=E) (m:=m) (H:=H)) (L.ok hl) 0 ?_
  clear hl
  refine fun e a w hs=>?_
  obtain ⟨rfl,hs⟩:=hs
  revert hs
  revert w
  revert a
  cases h
  exact fun a w hs=>bkX (by kernel_rfl) (sqE (bkE (lsN rfl (hs.sb 0))))
theorem zgi {L:LC} {m:Nat} {H:AH} {a0:Option Addr} {r:(Sl3×AH)} (h:z6j L m H a0=some r) :
  CallS Tryz.prog (NE.plain 148) m 39 #[(Value.pointer a0)] H (z3r r) (z48 H r):=by
 refine CallS.mk (args:=[(Value.pointer a0)]) Tryz.func39 (B:=B39) (by kernel_rfl) (fun E _=>?_)
 unfold z6j at h
 refine WS.sq (WS.rg ?_)
 obtain ⟨⟨p1,H2⟩,hx,h⟩:=bind_some h
 try dsimp only at h
 refine RS.o (H':=H2) (some 1) (Value.pointer (some p1)) (Abs.run_newB (by kernel_rfl) hx) (RS.mS 1 [kS 2 Sl3.nil] (RS.dn (WS.nxt (WS.scope (by kernel_rfl) (WS.sq (WS.rg ?_))))))
 obtain ⟨x3,hx,h⟩:=bind_some h
 refine RS.ld 8 104 (.tmp 1) (z1 hx zr) ?_
 obtain ⟨q4,hx,hq4⟩:=bind_some h
 subst hx
 have h:=hq4
 refine RS.mS 3 [(11,.val (Value.pointer (some (Addr.add (Addr.add q4 0) 1)))),(10,.val (Value.pointer (some (Addr.add q4 0)))),kP 9 q4] ?_
 obtain ⟨x5,hx,h⟩:=bind_some h
 refine RS.ld 12 27 (.tmp 11) (z1 hx z3) (RS.mS 1 [kI 13 (x5.n:Int)] ?_)
 obtain ⟨⟨s6,H7⟩,hx,h⟩:=bind_some h
 try dsimp only at h
 refine RS.o (H':=H7) (some 14) (Sl3.v s6) (Abs.run_mk (t:=111) (x:=.tmp 13) (y:=.tmp 13) (k1:=.i64) (k2:=.i64) (by kernel_rfl) (by kernel_rfl) (by kernel_rfl) (by kernel_rfl) hx) ?_
 obtain ⟨⟨p8,H9⟩,hx,h⟩:=bind_some h
 try dsimp only at h
 refine RS.o (H':=H9) (some 3) (Value.pointer (some p8)) (Abs.run_newB (by kernel_rfl) hx) ?_
 obtain ⟨H10,hx,h⟩:=bind_some h
 refine RS.o (H':=H10) none undef (Abs.run_store1 (t:=111) (x:=.tmp 3) (y:=.tmp 14) (a:=p8) (v:=(Sl3.v s6)) (by kernel_rfl) (by kernel_rfl) (by kernel_rfl) (by kernel_rfl) (by kernel_rfl) hx) (RS.dn (WS.nxt (WS.sq (WS.sk (WS.nxt (WS.sq (WS.bk 0 ?_)))))))
 obtain ⟨o,hl,h⟩:=bind_some h
 rcases o with H21 | r
 ·try dsimp only at h
  refine WS.lI (z66 (L:=L) (E:=E) (m:=m) (H:=H)) (L.ok hl) 0 ?_
  clear hl
  refine fun a w hs=>bkE ((WS.nxt ?_ a w hs))
  refine WS.sq (WS.rg ?_)
  obtain ⟨x22,hx,h⟩:=bind_some h
  refine RS.ld 47 111 (.tmp 3) (z1 hx z3) (RS.mS 1 [kS 2 x22] (RS.dn (WS.nxt (WS.rt ?_))))
  cases h
  exact fun a w hs=>sgR (rtR (rS hs))
 ·try dsimp only at h
  refine WS.lR (z66 (L:=L) (E:=E) (m:=m) (H:=H)) (L.ok hl) 0 ?_
  cases h
  exact fun a w hq=>bkR (sqR (sgR (rtR hq)))
noncomputable def B10:Code:=(Tryz.f10.body).getD .skip
def zat:(Int×AH)→Value
 | (r0,_)=>(Value.int .i64 r0)
def zba (_:AH):(Int×AH)→AH:=fun r=>r.2
noncomputable def z6n (L:LC) (_a0_0 _a0_1:Sl3) (_a0_2 _x2:Sl3) (_x3 s7:Sl3) (H8:AH):Int→Option (Lp Int (Int×AH)):=fun v21_9 =>
 if v21_9<(s7.n:Int) then
  Option.bind (idxA 1 s7 v21_9) fun p10 =>
  Option.bind (rd deS H8 p10) fun x11 =>
  Option.bind (zcz L x11) fun x12 =>
  if x12=true then
   some (.next (IntKind.i64.wrap (v21_9+1)))
  else
   none
 else
  some (.brk v21_9)
def zgm (_L:LC) (a0_0 a0_1:Sl3) (a0_2 x2:Sl3) (x3 s7:Sl3) (_H8:AH):Int→KN×Lcs:=fun v21_9=>([kI 21 v21_9,kL 1 0 0,kS 3 x2,kS 4 x3,kS 19 s7,kI 20 (s7.n:Int)],[some (30,[(Sl3.v a0_0),(Sl3.v a0_1),(Sl3.v a0_2)])])
noncomputable def za1 (L:LC) (m:Nat) (H:AH) (a0_0 a0_1 a0_2:Sl3):Option (Int×AH) :=
 Option.bind (zi5 L H a0_0 a0_1 a0_2) fun x1 =>
 if x1=true then
  none
 else
  Option.bind (zff L m H a0_0 a0_1 a0_2) fun (x2,x3,H4) =>
  Option.bind (z31 L m H4 x2) fun (x5,H6) =>
  Option.bind (appS m 9 1 16 H6 x5 x3) fun (s7,H8) =>
  Option.bind (L.run (z6n L a0_0 a0_1 a0_2 x2 x3 s7 H8) 0) fun o=>match o with
  | .inl _ =>
   Option.bind (zaz L m H8 x2) fun (x14,H15) =>
   if x14=true then
    none
   else
    Option.bind (zaz L m H15 x3) fun (x16,H17) =>
    if x16=true then
     none
    else
     Option.bind (zhl L m H17 a0_0 a0_1 a0_2) fun (x18,H19) =>
     Option.bind (z55 L m H19 x18) fun (x20,H21) =>
     if x20=0 then
      Option.bind (z7s L m H21 x18) fun (x22,H23) =>
      Option.bind (z6o L m H23 x18 x22) fun (x24,H25) =>
      if x24=true then
       none
      else
       Option.bind (z6j L m H25 x18) fun (x26,H27) =>
       Option.bind (z7q L H27 x26 false) fun x28 =>
       if x28=true then
        none
       else
        some (0,H27)
     else
      none
  | .inr r=>some r
theorem z8m {E m H L a0_0 a0_1 a0_2 x2 x3 s7 H8} :LoopF Tryz.prog (NE.plain 148) m E Tryz.f10 ((cfst (csnd (cfst (csnd (csnd (csnd B10))))))) (zgm L a0_0 a0_1 a0_2 x2 x3 s7 H8) (fun _=>H8) 0 zat (zba H) (z6n L a0_0 a0_1 a0_2 x2 x3 s7 H8):=by
 rintro v21_9 o h
 unfold z6n at h
 try dsimp only at h
 refine WS.sq (WS.rg (RS.mS 1 [kB 22 (decide (v21_9<(s7.n:Int)))] (RS.dn (WS.nxt (WS.sq ?_)))))
 rcases z0 h with ⟨hp,h⟩ | ⟨hp,h⟩
 ·refine WS.fx 22 true (decide_eq_true hp) (WS.cT (WS.sk (WS.nxt (WS.sq (WS.bk 1 (WS.sq (WS.rg ?_)))))))
  obtain ⟨p10,hx,h⟩:=bind_some h
  refine RS.ix 23 26 9 (.tmp 19) (.tmp 21) hx ?_
  obtain ⟨x11,hx,h⟩:=bind_some h
  refine RS.ld 24 9 (.tmp 23) (z1 hx z9) (RS.mS 1 [kT 6 x11] (RS.dn (WS.nxt (WS.sq (WS.rg (RS.mS 1 [kT 25 x11] ?_))))))
  obtain ⟨x12,hx,h⟩:=bind_some h
  refine RS.cl (some 26) (v:=(Value.bool x12)) 32 #[(Value.string x11)] (zhu hx) (RS.mS 1 [kB 27 (!x12)] (RS.dn (WS.nxt ?_)))
  rcases z0 h with ⟨hp,h⟩ | ⟨hp,h⟩
  ·refine WS.fx 27 false (nb_not hp) (WS.cF (WS.sk ?_))
   refine fun a w hs=>bkN ((WS.nxt ?_ a w hs))
   refine WS.rg (RS.mS 2 [kI 21 (IntKind.i64.wrap (v21_9+1)),kI 28 (IntKind.i64.wrap (v21_9+1))] (RS.dn ?_))
   cases h
   exact fun a w hs=>lsN rfl (hs.sb 1)
  ·refine WS.fx 27 true (zi hp) (WS.cT ?_)
   cases h
 ·refine WS.fx 22 false (decide_eq_false hp) (WS.cF (WS.ex 0 ?_))
  cases h
  exact fun a w hs=>sqE (lsB rfl (hs.sb 1))
theorem zjd {L:LC} {m:Nat} {H:AH} {a0_0 a0_1 a0_2:Sl3} {r:(Int×AH)} (h:za1 L m H a0_0 a0_1 a0_2=some r) :
  CallS Tryz.prog (NE.plain 148) m 10 #[(Value.agg #[(Sl3.v a0_0),(Sl3.v a0_1),(Sl3.v a0_2)])] H (zat r) (zba H r):=by
 refine CallS.mk (args:=[(Value.agg #[(Sl3.v a0_0),(Sl3.v a0_1),(Sl3.v a0_2)])]) Tryz.func10 (B:=B10) (by kernel_rfl) (fun E _=>?_)
 unfold za1 at h
 refine WS.sq (WS.rg (RS.mL 2 [kI 2 0,kL 1 0 0] ([some (30,[(Sl3.v a0_0),(Sl3.v a0_1),(Sl3.v a0_2)])]) (RS.dn (WS.nxt (WS.sq (WS.sq (WS.rg (RS.mS 1 [kA 9 #[(Sl3.v a0_0),(Sl3.v a0_1),(Sl3.v a0_2)]] ?_))))))))
 obtain ⟨x1,hx,h⟩:=bind_some h
 refine RS.cl (some 10) (v:=(Value.bool x1)) 29 #[(Value.agg #[(Sl3.v a0_0),(Sl3.v a0_1),(Sl3.v a0_2)])] (zml hx) (RS.dn (WS.nxt ?_))
 rcases z0 h with ⟨hp,h⟩ | ⟨hp,h⟩
 ·refine WS.fx 10 true hp (WS.cT ?_)
  cases h
 ·refine WS.fx 10 false (b_not hp) (WS.cF (WS.sk (WS.nxt (WS.sq (WS.rg (RS.mS 1 [kA 12 #[(Sl3.v a0_0),(Sl3.v a0_1),(Sl3.v a0_2)]] ?_))))))
  obtain ⟨⟨x2,x3,H4⟩,hx,h⟩:=bind_some h
  try dsimp only at h
  refine RS.cl (some 13) (v:=(Value.tuple #[(Sl3.v x2),(Sl3.v x3)])) 30 #[(Value.agg #[(Sl3.v a0_0),(Sl3.v a0_1),(Sl3.v a0_2)])] (zmj hx) (RS.mS 5 [kS 4 x3,kS 3 x2,kS 15 x3,kS 14 x2,(11,.val (Value.tuple #[(Sl3.v x2),(Sl3.v x3)]))] (RS.dn (WS.nxt (WS.sq (WS.sq (WS.rg (RS.mS 1 [kS 16 x2] ?_)))))))
  obtain ⟨⟨x5,H6⟩,hx,h⟩:=bind_some h
  try dsimp only at h
  refine RS.cl (some 17) (v:=(Sl3.v x5)) 31 #[(Sl3.v x2)] (z4w hx) (RS.mS 1 [kS 18 x3] ?_)
  obtain ⟨⟨s7,H8⟩,hx,h⟩:=bind_some h
  try dsimp only at h
  refine RS.o (H':=H8) (some 19) (Sl3.v s7) (Abs.run_app (x:=.tmp 17) (y:=.tmp 18) (ts:=#[26,26]) (s:=x5) (z:=x3) (by kernel_rfl) (by kernel_rfl) (by kernel_rfl) (by kernel_rfl) hx) (RS.mS 2 [kI 21 0,kI 20 (s7.n:Int)] (RS.dn (WS.nxt (WS.bk 0 ?_))))
  obtain ⟨o,hl,h⟩:=bind_some h
  rcases o with v21_13 | r
  ·try dsimp only at h
   refine WS.lI (z8m (L:=L) (E:=E) (m:=m) (H:=H)) (L.ok hl) 1 ?_
   clear hl
   refine fun a w hs=>bkE ((WS.nxt ?_ a w hs))
   refine WS.sq (WS.sq (WS.rg (RS.mS 1 [kS 29 x2] ?_)))
   obtain ⟨⟨x14,H15⟩,hx,h⟩:=bind_some h
   try dsimp only at h
   refine RS.cl (some 30) (v:=(Value.bool x14)) 33 #[(Sl3.v x2)] (zg3 hx) (RS.mS 1 [kB 31 x14] ?_)
   rcases z0 h with ⟨hp,h⟩ | ⟨hp,h⟩
   ·refine RS.fx 31 true hp ?_
    cases h
   ·refine RS.fx 31 false (b_not hp) (RS.mS 1 [kS 32 x3] ?_)
    obtain ⟨⟨x16,H17⟩,hx,h⟩:=bind_some h
    try dsimp only at h
    refine RS.cl (some 33) (v:=(Value.bool x16)) 33 #[(Sl3.v x3)] (zg3 hx) (RS.mS 1 [kB 34 x16] (RS.dn (WS.nxt ?_)))
    rcases z0 h with ⟨hp,h⟩ | ⟨hp,h⟩
    ·refine WS.fx 34 true hp (WS.cT ?_)
     cases h
    ·refine WS.fx 34 false (b_not hp) (WS.cF (WS.sk (WS.nxt (WS.sq (WS.rg (RS.mS 1 [kA 35 #[(Sl3.v a0_0),(Sl3.v a0_1),(Sl3.v a0_2)]] ?_))))))
     obtain ⟨⟨x18,H19⟩,hx,h⟩:=bind_some h
     try dsimp only at h
     refine RS.cl (some 36) (v:=(Value.pointer x18)) 34 #[(Value.agg #[(Sl3.v a0_0),(Sl3.v a0_1),(Sl3.v a0_2)])] (zmy hx) (RS.mS 1 [(7,.val (Value.pointer x18))] (RS.dn (WS.nxt (WS.sq (WS.sq (WS.rg (RS.mS 1 [(37,.val (Value.pointer x18))] ?_)))))))
     obtain ⟨⟨x20,H21⟩,hx,h⟩:=bind_some h
     try dsimp only at h
     refine RS.cl (some 38) (v:=(Value.int .i64 x20)) 35 #[(Value.pointer x18)] (ze1 hx) (RS.mS 1 [kI 8 x20] (RS.dn (WS.nxt (WS.sq (WS.rg (RS.mS 2 [kB 40 (!decide (x20=0)),kI 39 x20] (RS.dn (WS.nxt ?_))))))))
     rcases z0 h with ⟨hp,h⟩ | ⟨hp,h⟩
     ·refine WS.fx 40 false (zj hp) (WS.cF (WS.sk (WS.nxt (WS.sq (WS.sq (WS.rg (RS.mS 2 [(43,.val (Value.pointer x18)),(42,.val (Value.pointer x18))] ?_)))))))
      obtain ⟨⟨x22,H23⟩,hx,h⟩:=bind_some h
      try dsimp only at h
      refine RS.cl (some 44) (v:=(Sl3.v x22)) 37 #[(Value.pointer x18)] (zh1 hx) ?_
      obtain ⟨⟨x24,H25⟩,hx,h⟩:=bind_some h
      try dsimp only at h
      refine RS.cl (some 45) (v:=(Value.bool x24)) 36 #[(Value.pointer x18),(Sl3.v x22)] (zg9 hx) (RS.dn (WS.nxt ?_))
      rcases z0 h with ⟨hp,h⟩ | ⟨hp,h⟩
      ·refine WS.fx 45 true hp (WS.cT ?_)
       cases h
      ·refine WS.fx 45 false (b_not hp) (WS.cF (WS.sk (WS.nxt (WS.sq (WS.sq (WS.rg (RS.mS 1 [(46,.val (Value.pointer x18))] ?_)))))))
       obtain ⟨⟨x26,H27⟩,hx,h⟩:=bind_some h
       try dsimp only at h
       refine RS.cl (some 47) (v:=(Sl3.v x26)) 39 #[(Value.pointer x18)] (zgi hx) ?_
       obtain ⟨x28,hx,h⟩:=bind_some h
       refine RS.cl (some 48) (v:=(Value.bool x28)) 38 #[(Sl3.v x26),(Value.bool false)] (zh3 hx) (RS.dn (WS.nxt ?_))
       rcases z0 h with ⟨hp,h⟩ | ⟨hp,h⟩
       ·refine WS.fx 48 true hp (WS.cT ?_)
        cases h
       ·refine WS.fx 48 false (b_not hp) (WS.cF (WS.sk (WS.nxt (WS.sq (WS.rg (RS.mS 1 [kI 2 0] (RS.dn (WS.nxt (WS.rt ?_)))))))))
        cases h
        exact fun a w hs=>rtR (rS hs)
     ·refine WS.fx 40 true (ze hp) (WS.cT ?_)
      cases h
  ·try dsimp only at h
   refine WS.lR (z8m (L:=L) (E:=E) (m:=m) (H:=H)) (L.ok hl) 1 ?_
   cases h
   exact fun a w hq=>bkR (sqR (rtR hq))
noncomputable def B40:Code:=(Tryz.f40.body).getD .skip
def z1k:(Int×Int×ByteArray×Sl3×AH)→Value
 | (r0,r1,r2,r3,_)=>(Value.agg #[(Value.int .i64 r0),(Value.int .i64 r1),(Value.string r2),(Sl3.v r3)])
def z1p (_:AH):(Int×Int×ByteArray×Sl3×AH)→AH:=fun r=>r.2.2.2.2
noncomputable def z6q (_L:LC) (rec_term_copySort:Nat→AH→Int→Int→ByteArray→Sl3→Option (Int×Int×ByteArray×Sl3×AH)) (m:Nat) (_a0_0 _a0_1:Int) (_a0_2:ByteArray) (a0_3:Sl3):(AH×Sl3×Int)→Option (Lp (AH×Sl3×Int) (Int×Int×ByteArray×Sl3×AH)):=fun (H1,v3_2,v9_3) =>
 if v9_3<(a0_3.n:Int) then
  Option.bind (idxA 4 a0_3 v9_3) fun p4 =>
  Option.bind (rd (deI .i64) H1 (Addr.add p4 0)) fun x5_0 =>
  Option.bind (rd (deI .i64) H1 (Addr.add p4 1)) fun x5_1 =>
  Option.bind (rd deS H1 (Addr.add p4 2)) fun x5_2 =>
  Option.bind (rd deSl H1 (Addr.add p4 3)) fun x5_3 =>
  Option.bind (rec_term_copySort m H1 x5_0 x5_1 x5_2 x5_3) fun (x6_0,x6_1,x6_2,x6_3,H7) =>
  Option.bind (newR 57 1 #[(Value.int .i64 x6_0),(Value.int .i64 x6_1),(Value.string x6_2),(Sl3.v x6_3)] H7) fun (s8,H9) =>
  Option.bind (appS m 57 4 56 H9 v3_2 s8) fun (s10,H11) =>
  some (.next (H11,s10,(IntKind.i64.wrap (v9_3+1))))
 else
  some (.brk (H1,v3_2,v9_3))
def zgp (_L:LC) (_rec_term_copySort:Nat→AH→Int→Int→ByteArray→Sl3→Option (Int×Int×ByteArray×Sl3×AH)) (_m:Nat) (a0_0 a0_1:Int) (a0_2:ByteArray) (a0_3:Sl3):(AH×Sl3×Int)→KN×Lcs:=fun (_,v3_2,v9_3)=>([kS 3 v3_2,kI 9 v9_3,kL 1 0 0,kL 2 1 0,kS 7 a0_3,kI 8 (a0_3.n:Int)],[some (57,[(Value.int .i64 a0_0),(Value.int .i64 a0_1),(Value.string a0_2),(Sl3.v a0_3)]),some (57,[(Value.int .i64 0),(Value.int .i64 0),(Value.string (⟨#[]⟩:ByteArray)),(Sl3.v Sl3.nil)])])
noncomputable def z5a (L:LC) (rec_term_copySort:Nat→AH→Int→Int→ByteArray→Sl3→Option (Int×Int×ByteArray×Sl3×AH)) (m:Nat) (H:AH) (a0_0 a0_1:Int) (a0_2:ByteArray) (a0_3:Sl3):Option (Int×Int×ByteArray×Sl3×AH) :=
 Option.bind (L.run (z6q L rec_term_copySort m a0_0 a0_1 a0_2 a0_3) (H,Sl3.nil,0)) fun o=>match o with
 | .inl (H12,v3_13,_) =>
  some (a0_0,a0_1,a0_2,v3_13,H12)
 | .inr r=>some r
noncomputable def zar (L:LC) (n:Nat):(Nat→AH→Int→Int→ByteArray→Sl3→Option (Int×Int×ByteArray×Sl3×AH)):=Nat.rec (motive:=fun _=>(Nat→AH→Int→Int→ByteArray→Sl3→Option (Int×Int×ByteArray×Sl3×AH))) (fun _ _ _ _ _ _=>none) (fun _ p=>z5a L p) n
noncomputable def z6h (L:LC) (m:Nat) (H:AH) (a0_0 a0_1:Int) (a0_2:ByteArray) (a0_3:Sl3):Option (Int×Int×ByteArray×Sl3×AH):=(zar L L.fuel) m H a0_0 a0_1 a0_2 a0_3
theorem z8f {E H L rec_term_copySort m a0_0 a0_1 a0_2 a0_3} (hrec_term_copySort:∀(m:Nat) (H:AH) (a0_0 a0_1:Int) (a0_2:ByteArray) (a0_3:Sl3) (r:(Int×Int×ByteArray×Sl3×AH)),rec_term_copySort m H a0_0 a0_1 a0_2 a0_3=some r→CallS Tryz.prog (NE.plain 148) m 40 #[(Value.agg #[(Value.int .i64 a0_0),(Value.int .i64 a0_1),(Value.string a0_2),(Sl3.v a0_3)])] H (z1k r) (z1p H r)):LoopF Tryz.prog (NE.plain 148) m E Tryz.f40 ((cfst (csnd (cfst (csnd (csnd B40)))))) (zgp L rec_term_copySort m a0_0 a0_1 a0_2 a0_3) (fun s=>s.1) 0 z1k (z1p H) (z6q L rec_term_copySort m a0_0 a0_1 a0_2 a0_3):=by
 rintro ⟨H1,v3_2,v9_3⟩ o h
 unfold z6q at h
 try dsimp only at h
 refine WS.sq (WS.rg (RS.mS 1 [kB 10 (decide (v9_3<(a0_3.n:Int)))] (RS.dn (WS.nxt (WS.sq ?_)))))
 rcases z0 h with ⟨hp,h⟩ | ⟨hp,h⟩
 ·refine WS.fx 10 true (decide_eq_true hp) (WS.cT (WS.sk (WS.nxt (WS.sq (WS.bk 1 (WS.sq (WS.rg ?_)))))))
  obtain ⟨p4,hx,h⟩:=bind_some h
  refine RS.ix 11 36 57 (.tmp 7) (.tmp 9) hx ?_
  obtain ⟨x5_0,hx0,h⟩:=bind_some h
  obtain ⟨x5_1,hx1,h⟩:=bind_some h
  obtain ⟨x5_2,hx2,h⟩:=bind_some h
  obtain ⟨x5_3,hx3,h⟩:=bind_some h
  refine RS.la 12 57 (.tmp 11) 4 (z2 (z1 hx0 z5) (z2 (z1 hx1 z5) (z2 (z1 hx2 z9) (z2 (z1 hx3 z3) zd)))) (RS.mL 2 [kL 5 2 0] ([some (57,[(Value.int .i64 a0_0),(Value.int .i64 a0_1),(Value.string a0_2),(Sl3.v a0_3)]),some (57,[(Value.int .i64 0),(Value.int .i64 0),(Value.string (⟨#[]⟩:ByteArray)),(Sl3.v Sl3.nil)]),some (57,[(Value.int .i64 x5_0),(Value.int .i64 x5_1),(Value.string x5_2),(Sl3.v x5_3)])]) (RS.dn (WS.nxt (WS.rg (RS.mS 2 [kA 14 #[(Value.int .i64 x5_0),(Value.int .i64 x5_1),(Value.string x5_2),(Sl3.v x5_3)],kS 13 v3_2] ?_)))))
  obtain ⟨⟨x6_0,x6_1,x6_2,x6_3,H7⟩,hx,h⟩:=bind_some h
  try dsimp only at h
  refine RS.cl (some 15) (v:=(Value.agg #[(Value.int .i64 x6_0),(Value.int .i64 x6_1),(Value.string x6_2),(Sl3.v x6_3)])) 40 #[(Value.agg #[(Value.int .i64 x5_0),(Value.int .i64 x5_1),(Value.string x5_2),(Sl3.v x5_3)])] (hrec_term_copySort _ _ _ _ _ _ _ hx) ?_
  obtain ⟨⟨s8,H9⟩,hx,h⟩:=bind_some h
  try dsimp only at h
  refine RS.o (H':=H9) (some 16) (Sl3.v s8) (Abs.run_newR (by kernel_rfl) (by kernel_rfl) hx) ?_
  obtain ⟨⟨s10,H11⟩,hx,h⟩:=bind_some h
  try dsimp only at h
  refine RS.o (H':=H11) (some 17) (Sl3.v s10) (Abs.run_app (x:=.tmp 13) (y:=.tmp 16) (ts:=#[36,36]) (s:=v3_2) (z:=s8) (by kernel_rfl) (by kernel_rfl) (by kernel_rfl) (by kernel_rfl) hx) (RS.mS 1 [kS 3 s10] (RS.dn ?_))
  refine fun a w hs=>bkN ((WS.nxt ?_ a w hs))
  refine WS.rg (RS.mS 2 [kI 9 (IntKind.i64.wrap (v9_3+1)),kI 18 (IntKind.i64.wrap (v9_3+1))] (RS.dn ?_))
  cases h
  exact fun a w hs=>lsN rfl (hs.sb 2)
 ·refine WS.fx 10 false (decide_eq_false hp) (WS.cF (WS.ex 0 ?_))
  cases h
  exact fun a w hs=>sqE (lsB rfl (hs.sb 2))
theorem ze5 {L:LC} {rec_term_copySort:Nat→AH→Int→Int→ByteArray→Sl3→Option (Int×Int×ByteArray×Sl3×AH)} (hrec_term_copySort:∀(m:Nat) (H:AH) (a0_0 a0_1:Int) (a0_2:ByteArray) (a0_3:Sl3) (r:(Int×Int×ByteArray×Sl3×AH)),rec_term_copySort m H a0_0 a0_1 a0_2 a0_3=some r→CallS Tryz.prog (NE.plain 148) m 40 #[(Value.agg #[(Value.int .i64 a0_0),(Value.int .i64 a0_1),(Value.string a0_2),(Sl3.v a0_3)])] H (z1k r) (z1p H r)) {m:Nat} {H:AH} {a0_0 a0_1:Int} {a0_2:ByteArray} {a0_3:Sl3} {r:(Int×Int×ByteArray×Sl3×AH)} (h:z5a L rec_term_copySort m H a0_0 a0_1 a0_2 a0_3=some r) :
  CallS Tryz.prog (NE.plain 148) m 40 #[(Value.agg #[(Value.int .i64 a0_0),(Value.int .i64 a0_1),(Value.string a0_2),(Sl3.v a0_3)])] H (z1k r) (z1p H r):=by
 refine CallS.mk (args:=[(Value.agg #[(Value.int .i64 a0_0),(Value.int .i64 a0_1),(Value.string a0_2),(Sl3.v a0_3)])]) Tryz.func40 (B:=B40) (by kernel_rfl) (fun E _=>?_)
 unfold z5a at h
 refine WS.sq (WS.rg (RS.mL 2 [kL 2 1 0,kL 1 0 0] ([some (57,[(Value.int .i64 a0_0),(Value.int .i64 a0_1),(Value.string a0_2),(Sl3.v a0_3)]),some (57,[(Value.int .i64 0),(Value.int .i64 0),(Value.string (⟨#[]⟩:ByteArray)),(Sl3.v Sl3.nil)])]) (RS.dn (WS.nxt (WS.sq (WS.rg (RS.mS 1 [kS 3 Sl3.nil] (RS.dn (WS.nxt ?_)))))))))
 refine WS.sq (WS.sq (WS.rg (RS.mS 4 [kI 9 0,kI 8 (a0_3.n:Int),kS 7 a0_3,kL 6 0 3] (RS.dn (WS.nxt (WS.bk 0 ?_))))))
 obtain ⟨o,hl,h⟩:=bind_some h
 rcases o with ⟨H12,v3_13,v9_14⟩ | r
 ·try dsimp only at h
  refine WS.lI (z8f (L:=L) (E:=E) (m:=m) (H:=H) hrec_term_copySort) (L.ok hl) 2 ?_
  clear hl
  refine fun a w hs=>bkE ((WS.nxt ?_ a w hs))
  refine WS.sq (WS.rg (RS.mL 3 [kL 20 0 3,kS 19 v3_13] ([some (57,[(Value.int .i64 a0_0),(Value.int .i64 a0_1),(Value.string a0_2),(Sl3.v v3_13)]),some (57,[(Value.int .i64 0),(Value.int .i64 0),(Value.string (⟨#[]⟩:ByteArray)),(Sl3.v Sl3.nil)])]) (RS.dn (WS.nxt (WS.sq (WS.rg (RS.mL 2 [kA 21 #[(Value.int .i64 a0_0),(Value.int .i64 a0_1),(Value.string a0_2),(Sl3.v v3_13)]] ([some (57,[(Value.int .i64 a0_0),(Value.int .i64 a0_1),(Value.string a0_2),(Sl3.v v3_13)]),some (57,[(Value.int .i64 a0_0),(Value.int .i64 a0_1),(Value.string a0_2),(Sl3.v v3_13)])]) (RS.dn (WS.nxt ?_)))))))))
  refine WS.rt ?_
  cases h
  exact fun a w hs=>rtR (rS hs)
 ·try dsimp only at h
  refine WS.lR (z8f (L:=L) (E:=E) (m:=m) (H:=H) hrec_term_copySort) (L.ok hl) 2 ?_
  cases h
  exact fun a w hq=>bkR (sqR (rtR hq))
theorem zfa {L:LC}:∀n,(∀(m:Nat) (H:AH) (a0_0 a0_1:Int) (a0_2:ByteArray) (a0_3:Sl3) (r:(Int×Int×ByteArray×Sl3×AH)),((zar L n)) m H a0_0 a0_1 a0_2 a0_3=some r→CallS Tryz.prog (NE.plain 148) m 40 #[(Value.agg #[(Value.int .i64 a0_0),(Value.int .i64 a0_1),(Value.string a0_2),(Sl3.v a0_3)])] H (z1k r) (z1p H r)):=by
 intro n
 induction n with
 | zero=>exact (fun _ _ _ _ _ _ _ h=>(Option.some_ne_none _ h.symm).elim)
 | succ n ih=>exact (fun _ _ _ _ _ _ _ h=>ze5 (L:=L) ih h)
theorem z10 {L:LC} {m:Nat} {H:AH} {a0_0 a0_1:Int} {a0_2:ByteArray} {a0_3:Sl3} {r:(Int×Int×ByteArray×Sl3×AH)} (h:z6h L m H a0_0 a0_1 a0_2 a0_3=some r) :
  CallS Tryz.prog (NE.plain 148) m 40 #[(Value.agg #[(Value.int .i64 a0_0),(Value.int .i64 a0_1),(Value.string a0_2),(Sl3.v a0_3)])] H (z1k r) (z1p H r) :=
 (zfa _) _ _ _ _ _ _ _ h
noncomputable def B11:Code:=(Tryz.f11.body).getD .skip
def z3v:(Sl3×Sl3×Sl3×AH)→Value
 | (r0,r1,r2,_)=>(Value.agg #[(Sl3.v r0),(Sl3.v r1),(Sl3.v r2)])
def z4s (_:AH):(Sl3×Sl3×Sl3×AH)→AH:=fun r=>r.2.2.2
noncomputable def z89 (_L:LC) (_a0_0 a0_1 _a0_2:Sl3):(AH×Int×Sl3×Sl3×Sl3)→Option (Lp (AH×Int×Sl3×Sl3×Sl3) (Sl3×Sl3×Sl3×AH)):=fun (H3,v24_4,w2_5,w2_6,w2_7) =>
 if v24_4<(a0_1.n:Int) then
  none
 else
  some (.brk (H3,v24_4,w2_5,w2_6,w2_7))
def zhq (_L:LC) (a0_0 a0_1 a0_2:Sl3):(AH×Int×Sl3×Sl3×Sl3)→KN×Lcs:=fun (_,v24_4,w2_5,w2_6,w2_7)=>([kI 24 v24_4,kL 1 0 0,kL 2 1 0,kL 3 2 0,kS 22 a0_1,kI 23 (a0_1.n:Int)],[some (30,[(Sl3.v a0_0),(Sl3.v a0_1),(Sl3.v a0_2)]),some (30,[(Sl3.v Sl3.nil),(Sl3.v Sl3.nil),(Sl3.v Sl3.nil)]),some (30,[(Sl3.v w2_5),(Sl3.v w2_6),(Sl3.v w2_7)])])
noncomputable def z78 (_L:LC) (_a0_0 _a0_1 _a0_2:Sl3) (_v77_14:Int) (_w2_15 _w2_16 _w2_17:Sl3) (_x19_0:ByteArray) (x19_1:Sl3) (_x19_2 _x19_3:Int) (_x19_4:ByteArray) (_x19_5:Sl3):(AH×Int×ByteArray×Sl3×Int×Int×ByteArray×Sl3)→Option (Lp (AH×Int×ByteArray×Sl3×Int×Int×ByteArray×Sl3) (Sl3×Sl3×Sl3×AH)):=fun (H22,v90_23,w4_24,w4_25,w4_26,w4_27,w4_28,w4_29) =>
 if v90_23<(x19_1.n:Int) then
  none
 else
  some (.brk (H22,v90_23,w4_24,w4_25,w4_26,w4_27,w4_28,w4_29))
def zi2 (_L:LC) (a0_0 a0_1 a0_2:Sl3) (v77_14:Int) (w2_15 w2_16 w2_17:Sl3) (x19_0:ByteArray) (x19_1:Sl3) (x19_2 x19_3:Int) (x19_4:ByteArray) (x19_5:Sl3):(AH×Int×ByteArray×Sl3×Int×Int×ByteArray×Sl3)→KN×Lcs:=fun (_,v90_23,w4_24,w4_25,w4_26,w4_27,w4_28,w4_29)=>([kI 90 v90_23,kL 2 1 0,kL 3 2 0,kL 14 4 0,kS 75 a0_2,kI 76 (a0_2.n:Int),kI 77 v77_14,kS 88 x19_1,kI 89 (x19_1.n:Int)],[some (30,[(Sl3.v a0_0),(Sl3.v a0_1),(Sl3.v a0_2)]),some (30,[(Sl3.v Sl3.nil),(Sl3.v Sl3.nil),(Sl3.v Sl3.nil)]),some (30,[(Sl3.v w2_15),(Sl3.v w2_16),(Sl3.v w2_17)]),some (66,[(Value.string x19_0),(Sl3.v x19_1),(Value.int .i64 x19_2),(Value.int .i64 x19_3),(Value.string x19_4),(Sl3.v x19_5)]),some (66,[(Value.string w4_24),(Sl3.v w4_25),(Value.int .i64 w4_26),(Value.int .i64 w4_27),(Value.string w4_28),(Sl3.v w4_29)])])
noncomputable def z7h (L:LC) (m:Nat) (a0_0 a0_1 a0_2:Sl3):(AH×Int×Sl3×Sl3×Sl3)→Option (Lp (AH×Int×Sl3×Sl3×Sl3) (Sl3×Sl3×Sl3×AH)):=fun (H13,v77_14,w2_15,w2_16,w2_17) =>
 if v77_14<(a0_2.n:Int) then
  Option.bind (idxA 6 a0_2 v77_14) fun p18 =>
  Option.bind (rd deS H13 (Addr.add p18 0)) fun x19_0 =>
  Option.bind (rd deSl H13 (Addr.add p18 1)) fun x19_1 =>
  Option.bind (rd (deI .i64) H13 (Addr.add p18 2)) fun x19_2 =>
  Option.bind (rd (deI .i64) H13 (Addr.add p18 3)) fun x19_3 =>
  Option.bind (rd deS H13 (Addr.add p18 4)) fun x19_4 =>
  Option.bind (rd deSl H13 (Addr.add p18 5)) fun x19_5 =>
  Option.bind (z6h L (Nat.max m H13.next) H13 x19_2 x19_3 x19_4 x19_5) fun (x20_0,x20_1,x20_2,x20_3,H21) =>
  Option.bind (L.run (z78 L a0_0 a0_1 a0_2 v77_14 w2_15 w2_16 w2_17 x19_0 x19_1 x19_2 x19_3 x19_4 x19_5) (H21,0,x19_0,Sl3.nil,x20_0,x20_1,x20_2,x20_3)) fun o=>match o with
  | .inl (H30,_,w4_32,w4_33,w4_34,w4_35,w4_36,w4_37) =>
   Option.bind (newR 66 1 #[(Value.string w4_32),(Sl3.v w4_33),(Value.int .i64 w4_34),(Value.int .i64 w4_35),(Value.string w4_36),(Sl3.v w4_37)] H30) fun (s38,H39) =>
   Option.bind (appS m 66 6 96 H39 w2_17 s38) fun (s40,H41) =>
   some (.next (H41,(IntKind.i64.wrap (v77_14+1)),w2_15,w2_16,s40))
  | .inr r=>some (.ret r)
 else
  some (.brk (H13,v77_14,w2_15,w2_16,w2_17))
def zh7 (_L:LC) (_m:Nat) (a0_0 a0_1 a0_2:Sl3):(AH×Int×Sl3×Sl3×Sl3)→KN×Lcs:=fun (_,v77_14,w2_15,w2_16,w2_17)=>([kI 77 v77_14,kL 2 1 0,kL 3 2 0,kS 75 a0_2,kI 76 (a0_2.n:Int)],[some (30,[(Sl3.v a0_0),(Sl3.v a0_1),(Sl3.v a0_2)]),some (30,[(Sl3.v Sl3.nil),(Sl3.v Sl3.nil),(Sl3.v Sl3.nil)]),some (30,[(Sl3.v w2_15),(Sl3.v w2_16),(Sl3.v w2_17)])])
noncomputable def z83 (L:LC) (m:Nat) (H:AH) (a0_0 a0_1 a0_2:Sl3):Option (Sl3×Sl3×Sl3×AH) :=
 Option.bind (z31 L m H a0_0) fun (x1,H2) =>
 Option.bind (L.run (z89 L a0_0 a0_1 a0_2) (H2,0,x1,Sl3.nil,Sl3.nil)) fun o=>match o with
 | .inl (H8,_,w2_10,w2_11,w2_12) =>
  Option.bind (L.run (z7h L m a0_0 a0_1 a0_2) (H8,0,w2_10,w2_11,w2_12)) fun o=>match o with
  | .inl (H42,_,w2_44,w2_45,w2_46) =>
   some (w2_44,w2_45,w2_46,H42)
  | .inr r=>some r
 | .inr r=>some r
theorem z9n {E m H L a0_0 a0_1 a0_2} :LoopF Tryz.prog (NE.plain 148) m E Tryz.f11 ((cfst (csnd (cfst (csnd (csnd B11)))))) (zhq L a0_0 a0_1 a0_2) (fun s=>s.1) 0 z3v (z4s H) (z89 L a0_0 a0_1 a0_2):=by
 rintro ⟨H3,v24_4,w2_5,w2_6,w2_7⟩ o h
 unfold z89 at h
 try dsimp only at h
 refine WS.sq (WS.rg (RS.mS 1 [kB 25 (decide (v24_4<(a0_1.n:Int)))] (RS.dn (WS.nxt (WS.sq ?_)))))
 rcases z0 h with ⟨hp,h⟩ | ⟨hp,h⟩
 ·refine WS.fx 25 true (decide_eq_true hp) (WS.cT ?_)
  cases h
 ·refine WS.fx 25 false (decide_eq_false hp) (WS.cF (WS.ex 0 ?_))
  cases h
  exact fun a w hs=>sqE (lsB rfl (hs.sb 3))
theorem z9t {E m H L a0_0 a0_1 a0_2 v77_14 w2_15 w2_16 w2_17 x19_0 x19_1 x19_2 x19_3 x19_4 x19_5} :LoopF Tryz.prog (NE.plain 148) m E Tryz.f11 ((cfst (csnd (cfst (csnd (csnd (cfst (cfst (csnd (csnd (cfst (cfst (csnd (cfst (csnd (csnd (csnd B11))))))))))))))))) (zi2 L a0_0 a0_1 a0_2 v77_14 w2_15 w2_16 w2_17 x19_0 x19_1 x19_2 x19_3 x19_4 x19_5) (fun s=>s.1) 8 z3v (z4s H) (z78 L a0_0 a0_1 a0_2 v77_14 w2_15 w2_16 w2_17 x19_0 x19_1 x19_2 x19_3 x19_4 x19_5):=by
 rintro ⟨H22,v90_23,w4_24,w4_25,w4_26,w4_27,w4_28,w4_29⟩ o h
 unfold z78 at h
 try dsimp only at h
 refine WS.sq (WS.rg (RS.mS 1 [kB 91 (decide (v90_23<(x19_1.n:Int)))] (RS.dn (WS.nxt (WS.sq ?_)))))
 rcases z0 h with ⟨hp,h⟩ | ⟨hp,h⟩
 ·refine WS.fx 91 true (decide_eq_true hp) (WS.cT ?_)
  cases h
 ·refine WS.fx 91 false (decide_eq_false hp) (WS.cF (WS.ex 8 ?_))
  cases h
  exact fun a w hs=>sqE (lsB rfl (hs.sb 5))
theorem z9s {E H L m a0_0 a0_1 a0_2} :LoopF Tryz.prog (NE.plain 148) m E Tryz.f11 ((cfst (csnd (cfst (csnd (csnd (csnd B11))))))) (zh7 L m a0_0 a0_1 a0_2) (fun s=>s.1) 6 z3v (z4s H) (z7h L m a0_0 a0_1 a0_2):=by
 rintro ⟨H13,v77_14,w2_15,w2_16,w2_17⟩ o h
 unfold z7h at h
 try dsimp only at h
 refine WS.sq (WS.rg (RS.mS 1 [kB 78 (decide (v77_14<(a0_2.n:Int)))] (RS.dn (WS.nxt (WS.sq ?_)))))
 rcases z0 h with ⟨hp,h⟩ | ⟨hp,h⟩
 ·refine WS.fx 78 true (decide_eq_true hp) (WS.cT (WS.sk (WS.nxt (WS.sq (WS.bk 7 (WS.sq (WS.rg ?_)))))))
  obtain ⟨p18,hx,h⟩:=bind_some h
  refine RS.ix 79 28 66 (.tmp 75) (.tmp 77) hx ?_
  obtain ⟨x19_0,hx0,h⟩:=bind_some h
  obtain ⟨x19_1,hx1,h⟩:=bind_some h
  obtain ⟨x19_2,hx2,h⟩:=bind_some h
  obtain ⟨x19_3,hx3,h⟩:=bind_some h
  obtain ⟨x19_4,hx4,h⟩:=bind_some h
  obtain ⟨x19_5,hx5,h⟩:=bind_some h
  refine RS.la 80 66 (.tmp 79) 6 (z2 (z1 hx0 z9) (z2 (z1 hx1 z3) (z2 (z1 hx2 z5) (z2 (z1 hx3 z5) (z2 (z1 hx4 z9) (z2 (z1 hx5 z3) zd)))))) (RS.mL 2 [kL 13 3 0] ([some (30,[(Sl3.v a0_0),(Sl3.v a0_1),(Sl3.v a0_2)]),some (30,[(Sl3.v Sl3.nil),(Sl3.v Sl3.nil),(Sl3.v Sl3.nil)]),some (30,[(Sl3.v w2_15),(Sl3.v w2_16),(Sl3.v w2_17)]),some (66,[(Value.string x19_0),(Sl3.v x19_1),(Value.int .i64 x19_2),(Value.int .i64 x19_3),(Value.string x19_4),(Sl3.v x19_5)])]) (RS.dn (WS.nxt (WS.sq ?_))))
  obtain ⟨⟨x20_0,x20_1,x20_2,x20_3,H21⟩,hx_4,h⟩:=bind_some h
  try dsimp only at h
  refine WS.toone ([kL 2 1 0,kL 3 2 0,kL 13 3 0,kL 14 4 0,kS 75 a0_2,kI 76 (a0_2.n:Int),kI 77 v77_14]) ([some (30,[(Sl3.v a0_0),(Sl3.v a0_1),(Sl3.v a0_2)]),some (30,[(Sl3.v Sl3.nil),(Sl3.v Sl3.nil),(Sl3.v Sl3.nil)]),some (30,[(Sl3.v w2_15),(Sl3.v w2_16),(Sl3.v w2_17)]),some (66,[(Value.string x19_0),(Sl3.v x19_1),(Value.int .i64 x19_2),(Value.int .i64 x19_3),(Value.string x19_4),(Sl3.v x19_5)]),some (66,[(Value.string x19_0),(Sl3.v Sl3.nil),(Value.int .i64 x20_0),(Value.int .i64 x20_1),(Value.string x20_2),(Sl3.v x20_3)])]) H21 ?_ ?_
  ·clear h
   refine WS.dr [2,3] [0,1,0,4,12,31,0,127] 8 (fun hcl=>?_)
   refine DA.tL 2 (some 83) (.loc 3 2) (DA.tL 3 (some 84) (.val (Value.agg #[(Value.int .i64 x19_2),(Value.int .i64 x19_3),(Value.string x19_4),(Sl3.v x19_5)])) (DA.restart [0,2,3] (by kernel_rfl) (DA.tL 0 (some 81) (.loc 3 0) ?_)))
   refine DA.three 1 4 6 (by kernel_rfl) ?_ ?_ ?_
   ·refine DA.aL 1 (some 82) (.val (Value.string x19_0)) ([some (30,[(Sl3.v a0_0),(Sl3.v a0_1),(Sl3.v a0_2)]),some (30,[(Sl3.v Sl3.nil),(Sl3.v Sl3.nil),(Sl3.v Sl3.nil)]),some (30,[(Sl3.v w2_15),(Sl3.v w2_16),(Sl3.v w2_17)]),some (66,[(Value.string x19_0),(Sl3.v x19_1),(Value.int .i64 x19_2),(Value.int .i64 x19_3),(Value.string x19_4),(Sl3.v x19_5)])]) true ?_
    refine DA.two 4 6 (by kernel_rfl) ?_ ?_
    ·refine DA.aCj 4 (some 85) true (v:=(Value.agg #[(Value.int .i64 x20_0),(Value.int .i64 x20_1),(Value.string x20_2),(Sl3.v x20_3)])) 40 #[(Value.agg #[(Value.int .i64 x19_2),(Value.int .i64 x19_3),(Value.string x19_4),(Sl3.v x19_5)])] (z10 hx_4) ?_
     refine DA.two 5 6 (by kernel_rfl) ?_ ?_
     ·refine DA.aHj (H':=H21) 5 (some 86) true (Value.agg #[(Value.string x19_0),(Sl3.v Sl3.nil),(Value.int .i64 x20_0),(Value.int .i64 x20_1),(Value.string x20_2),(Sl3.v x20_3)]) (by kernel_rfl) (DA.on 6 (DA.aL 6 (some 14) (.loc 4 0) ([some (30,[(Sl3.v a0_0),(Sl3.v a0_1),(Sl3.v a0_2)]),some (30,[(Sl3.v Sl3.nil),(Sl3.v Sl3.nil),(Sl3.v Sl3.nil)]),some (30,[(Sl3.v w2_15),(Sl3.v w2_16),(Sl3.v w2_17)]),some (66,[(Value.string x19_0),(Sl3.v x19_1),(Value.int .i64 x19_2),(Value.int .i64 x19_3),(Value.string x19_4),(Sl3.v x19_5)]),some (66,[(Value.string (⟨#[]⟩:ByteArray)),(Sl3.v Sl3.nil),(Value.int .i64 0),(Value.int .i64 0),(Value.string (⟨#[]⟩:ByteArray)),(Sl3.v Sl3.nil)])]) false (DA.on 7 (DA.aL 7 none (.val undef) ([some (30,[(Sl3.v a0_0),(Sl3.v a0_1),(Sl3.v a0_2)]),some (30,[(Sl3.v Sl3.nil),(Sl3.v Sl3.nil),(Sl3.v Sl3.nil)]),some (30,[(Sl3.v w2_15),(Sl3.v w2_16),(Sl3.v w2_17)]),some (66,[(Value.string x19_0),(Sl3.v x19_1),(Value.int .i64 x19_2),(Value.int .i64 x19_3),(Value.string x19_4),(Sl3.v x19_5)]),some (66,[(Value.string x19_0),(Sl3.v Sl3.nil),(Value.int .i64 x20_0),(Value.int .i64 x20_1),(Value.string x20_2),(Sl3.v x20_3)])]) false (DA.dn ?_)))))
      exact fun a w hs=>jsN (hs.sb 5)
     ·refine DA.aL 6 (some 14) (.loc 4 0) ([some (30,[(Sl3.v a0_0),(Sl3.v a0_1),(Sl3.v a0_2)]),some (30,[(Sl3.v Sl3.nil),(Sl3.v Sl3.nil),(Sl3.v Sl3.nil)]),some (30,[(Sl3.v w2_15),(Sl3.v w2_16),(Sl3.v w2_17)]),some (66,[(Value.string x19_0),(Sl3.v x19_1),(Value.int .i64 x19_2),(Value.int .i64 x19_3),(Value.string x19_4),(Sl3.v x19_5)]),some (66,[(Value.string (⟨#[]⟩:ByteArray)),(Sl3.v Sl3.nil),(Value.int .i64 0),(Value.int .i64 0),(Value.string (⟨#[]⟩:ByteArray)),(Sl3.v Sl3.nil)])]) false (DA.on 5 (DA.aH (H':=H21) 5 (some 86) (Value.agg #[(Value.string x19_0),(Sl3.v Sl3.nil),(Value.int .i64 x20_0),(Value.int .i64 x20_1),(Value.string x20_2),(Sl3.v x20_3)]) (by kernel_rfl) (DA.on 7 (DA.aL 7 none (.val undef) ([some (30,[(Sl3.v a0_0),(Sl3.v a0_1),(Sl3.v a0_2)]),some (30,[(Sl3.v Sl3.nil),(Sl3.v Sl3.nil),(Sl3.v Sl3.nil)]),some (30,[(Sl3.v w2_15),(Sl3.v w2_16),(Sl3.v w2_17)]),some (66,[(Value.string x19_0),(Sl3.v x19_1),(Value.int .i64 x19_2),(Value.int .i64 x19_3),(Value.string x19_4),(Sl3.v x19_5)]),some (66,[(Value.string x19_0),(Sl3.v Sl3.nil),(Value.int .i64 x20_0),(Value.int .i64 x20_1),(Value.string x20_2),(Sl3.v x20_3)])]) false (DA.dn ?_)))))
      exact fun a w hs=>jsN (hs.sb 5)
    ·refine DA.aL 6 (some 14) (.loc 4 0) ([some (30,[(Sl3.v a0_0),(Sl3.v a0_1),(Sl3.v a0_2)]),some (30,[(Sl3.v Sl3.nil),(Sl3.v Sl3.nil),(Sl3.v Sl3.nil)]),some (30,[(Sl3.v w2_15),(Sl3.v w2_16),(Sl3.v w2_17)]),some (66,[(Value.string x19_0),(Sl3.v x19_1),(Value.int .i64 x19_2),(Value.int .i64 x19_3),(Value.string x19_4),(Sl3.v x19_5)]),some (66,[(Value.string (⟨#[]⟩:ByteArray)),(Sl3.v Sl3.nil),(Value.int .i64 0),(Value.int .i64 0),(Value.string (⟨#[]⟩:ByteArray)),(Sl3.v Sl3.nil)])]) true (DA.on 4 (DA.aCj 4 (some 85) false (v:=(Value.agg #[(Value.int .i64 x20_0),(Value.int .i64 x20_1),(Value.string x20_2),(Sl3.v x20_3)])) 40 #[(Value.agg #[(Value.int .i64 x19_2),(Value.int .i64 x19_3),(Value.string x19_4),(Sl3.v x19_5)])] (z10 hx_4) (DA.on 5 (DA.aH (H':=H21) 5 (some 86) (Value.agg #[(Value.string x19_0),(Sl3.v Sl3.nil),(Value.int .i64 x20_0),(Value.int .i64 x20_1),(Value.string x20_2),(Sl3.v x20_3)]) (by kernel_rfl) (DA.on 7 (DA.aL 7 none (.val undef) ([some (30,[(Sl3.v a0_0),(Sl3.v a0_1),(Sl3.v a0_2)]),some (30,[(Sl3.v Sl3.nil),(Sl3.v Sl3.nil),(Sl3.v Sl3.nil)]),some (30,[(Sl3.v w2_15),(Sl3.v w2_16),(Sl3.v w2_17)]),some (66,[(Value.string x19_0),(Sl3.v x19_1),(Value.int .i64 x19_2),(Value.int .i64 x19_3),(Value.string x19_4),(Sl3.v x19_5)]),some (66,[(Value.string x19_0),(Sl3.v Sl3.nil),(Value.int .i64 x20_0),(Value.int .i64 x20_1),(Value.string x20_2),(Sl3.v x20_3)])]) false (DA.dn ?_)))))))
     exact fun a w hs=>jsN (hs.sb 5)
   ·refine DA.aCj 4 (some 85) true (v:=(Value.agg #[(Value.int .i64 x20_0),(Value.int .i64 x20_1),(Value.string x20_2),(Sl3.v x20_3)])) 40 #[(Value.agg #[(Value.int .i64 x19_2),(Value.int .i64 x19_3),(Value.string x19_4),(Sl3.v x19_5)])] (z10 hx_4) ?_
    refine DA.two 1 6 (by kernel_rfl) ?_ ?_
    ·refine DA.aL 1 (some 82) (.val (Value.string x19_0)) ([some (30,[(Sl3.v a0_0),(Sl3.v a0_1),(Sl3.v a0_2)]),some (30,[(Sl3.v Sl3.nil),(Sl3.v Sl3.nil),(Sl3.v Sl3.nil)]),some (30,[(Sl3.v w2_15),(Sl3.v w2_16),(Sl3.v w2_17)]),some (66,[(Value.string x19_0),(Sl3.v x19_1),(Value.int .i64 x19_2),(Value.int .i64 x19_3),(Value.string x19_4),(Sl3.v x19_5)])]) true ?_
     refine DA.two 5 6 (by kernel_rfl) ?_ ?_
     ·refine DA.aHj (H':=H21) 5 (some 86) true (Value.agg #[(Value.string x19_0),(Sl3.v Sl3.nil),(Value.int .i64 x20_0),(Value.int .i64 x20_1),(Value.string x20_2),(Sl3.v x20_3)]) (by kernel_rfl) (DA.on 6 (DA.aL 6 (some 14) (.loc 4 0) ([some (30,[(Sl3.v a0_0),(Sl3.v a0_1),(Sl3.v a0_2)]),some (30,[(Sl3.v Sl3.nil),(Sl3.v Sl3.nil),(Sl3.v Sl3.nil)]),some (30,[(Sl3.v w2_15),(Sl3.v w2_16),(Sl3.v w2_17)]),some (66,[(Value.string x19_0),(Sl3.v x19_1),(Value.int .i64 x19_2),(Value.int .i64 x19_3),(Value.string x19_4),(Sl3.v x19_5)]),some (66,[(Value.string (⟨#[]⟩:ByteArray)),(Sl3.v Sl3.nil),(Value.int .i64 0),(Value.int .i64 0),(Value.string (⟨#[]⟩:ByteArray)),(Sl3.v Sl3.nil)])]) false (DA.on 7 (DA.aL 7 none (.val undef) ([some (30,[(Sl3.v a0_0),(Sl3.v a0_1),(Sl3.v a0_2)]),some (30,[(Sl3.v Sl3.nil),(Sl3.v Sl3.nil),(Sl3.v Sl3.nil)]),some (30,[(Sl3.v w2_15),(Sl3.v w2_16),(Sl3.v w2_17)]),some (66,[(Value.string x19_0),(Sl3.v x19_1),(Value.int .i64 x19_2),(Value.int .i64 x19_3),(Value.string x19_4),(Sl3.v x19_5)]),some (66,[(Value.string x19_0),(Sl3.v Sl3.nil),(Value.int .i64 x20_0),(Value.int .i64 x20_1),(Value.string x20_2),(Sl3.v x20_3)])]) false (DA.dn ?_)))))
      exact fun a w hs=>jsN (hs.sb 5)
     ·refine DA.aL 6 (some 14) (.loc 4 0) ([some (30,[(Sl3.v a0_0),(Sl3.v a0_1),(Sl3.v a0_2)]),some (30,[(Sl3.v Sl3.nil),(Sl3.v Sl3.nil),(Sl3.v Sl3.nil)]),some (30,[(Sl3.v w2_15),(Sl3.v w2_16),(Sl3.v w2_17)]),some (66,[(Value.string x19_0),(Sl3.v x19_1),(Value.int .i64 x19_2),(Value.int .i64 x19_3),(Value.string x19_4),(Sl3.v x19_5)]),some (66,[(Value.string (⟨#[]⟩:ByteArray)),(Sl3.v Sl3.nil),(Value.int .i64 0),(Value.int .i64 0),(Value.string (⟨#[]⟩:ByteArray)),(Sl3.v Sl3.nil)])]) false (DA.on 5 (DA.aH (H':=H21) 5 (some 86) (Value.agg #[(Value.string x19_0),(Sl3.v Sl3.nil),(Value.int .i64 x20_0),(Value.int .i64 x20_1),(Value.string x20_2),(Sl3.v x20_3)]) (by kernel_rfl) (DA.on 7 (DA.aL 7 none (.val undef) ([some (30,[(Sl3.v a0_0),(Sl3.v a0_1),(Sl3.v a0_2)]),some (30,[(Sl3.v Sl3.nil),(Sl3.v Sl3.nil),(Sl3.v Sl3.nil)]),some (30,[(Sl3.v w2_15),(Sl3.v w2_16),(Sl3.v w2_17)]),some (66,[(Value.string x19_0),(Sl3.v x19_1),(Value.int .i64 x19_2),(Value.int .i64 x19_3),(Value.string x19_4),(Sl3.v x19_5)]),some (66,[(Value.string x19_0),(Sl3.v Sl3.nil),(Value.int .i64 x20_0),(Value.int .i64 x20_1),(Value.string x20_2),(Sl3.v x20_3)])]) false (DA.dn ?_)))))
      exact fun a w hs=>jsN (hs.sb 5)
    ·refine DA.aL 6 (some 14) (.loc 4 0) ([some (30,[(Sl3.v a0_0),(Sl3.v a0_1),(Sl3.v a0_2)]),some (30,[(Sl3.v Sl3.nil),(Sl3.v Sl3.nil),(Sl3.v Sl3.nil)]),some (30,[(Sl3.v w2_15),(Sl3.v w2_16),(Sl3.v w2_17)]),some (66,[(Value.string x19_0),(Sl3.v x19_1),(Value.int .i64 x19_2),(Value.int .i64 x19_3),(Value.string x19_4),(Sl3.v x19_5)]),some (66,[(Value.string (⟨#[]⟩:ByteArray)),(Sl3.v Sl3.nil),(Value.int .i64 0),(Value.int .i64 0),(Value.string (⟨#[]⟩:ByteArray)),(Sl3.v Sl3.nil)])]) true (DA.on 1 (DA.aL 1 (some 82) (.val (Value.string x19_0)) ([some (30,[(Sl3.v a0_0),(Sl3.v a0_1),(Sl3.v a0_2)]),some (30,[(Sl3.v Sl3.nil),(Sl3.v Sl3.nil),(Sl3.v Sl3.nil)]),some (30,[(Sl3.v w2_15),(Sl3.v w2_16),(Sl3.v w2_17)]),some (66,[(Value.string x19_0),(Sl3.v x19_1),(Value.int .i64 x19_2),(Value.int .i64 x19_3),(Value.string x19_4),(Sl3.v x19_5)]),some (66,[(Value.string (⟨#[]⟩:ByteArray)),(Sl3.v Sl3.nil),(Value.int .i64 0),(Value.int .i64 0),(Value.string (⟨#[]⟩:ByteArray)),(Sl3.v Sl3.nil)])]) false (DA.on 5 (DA.aH (H':=H21) 5 (some 86) (Value.agg #[(Value.string x19_0),(Sl3.v Sl3.nil),(Value.int .i64 x20_0),(Value.int .i64 x20_1),(Value.string x20_2),(Sl3.v x20_3)]) (by kernel_rfl) (DA.on 7 (DA.aL 7 none (.val undef) ([some (30,[(Sl3.v a0_0),(Sl3.v a0_1),(Sl3.v a0_2)]),some (30,[(Sl3.v Sl3.nil),(Sl3.v Sl3.nil),(Sl3.v Sl3.nil)]),some (30,[(Sl3.v w2_15),(Sl3.v w2_16),(Sl3.v w2_17)]),some (66,[(Value.string x19_0),(Sl3.v x19_1),(Value.int .i64 x19_2),(Value.int .i64 x19_3),(Value.string x19_4),(Sl3.v x19_5)]),some (66,[(Value.string x19_0),(Sl3.v Sl3.nil),(Value.int .i64 x20_0),(Value.int .i64 x20_1),(Value.string x20_2),(Sl3.v x20_3)])]) false (DA.dn ?_)))))))
     exact fun a w hs=>jsN (hs.sb 5)
   ·refine DA.aL 6 (some 14) (.loc 4 0) ([some (30,[(Sl3.v a0_0),(Sl3.v a0_1),(Sl3.v a0_2)]),some (30,[(Sl3.v Sl3.nil),(Sl3.v Sl3.nil),(Sl3.v Sl3.nil)]),some (30,[(Sl3.v w2_15),(Sl3.v w2_16),(Sl3.v w2_17)]),some (66,[(Value.string x19_0),(Sl3.v x19_1),(Value.int .i64 x19_2),(Value.int .i64 x19_3),(Value.string x19_4),(Sl3.v x19_5)]),some (66,[(Value.string (⟨#[]⟩:ByteArray)),(Sl3.v Sl3.nil),(Value.int .i64 0),(Value.int .i64 0),(Value.string (⟨#[]⟩:ByteArray)),(Sl3.v Sl3.nil)])]) true ?_
    refine DA.two 1 4 (by kernel_rfl) ?_ ?_
    ·refine DA.aL 1 (some 82) (.val (Value.string x19_0)) ([some (30,[(Sl3.v a0_0),(Sl3.v a0_1),(Sl3.v a0_2)]),some (30,[(Sl3.v Sl3.nil),(Sl3.v Sl3.nil),(Sl3.v Sl3.nil)]),some (30,[(Sl3.v w2_15),(Sl3.v w2_16),(Sl3.v w2_17)]),some (66,[(Value.string x19_0),(Sl3.v x19_1),(Value.int .i64 x19_2),(Value.int .i64 x19_3),(Value.string x19_4),(Sl3.v x19_5)]),some (66,[(Value.string (⟨#[]⟩:ByteArray)),(Sl3.v Sl3.nil),(Value.int .i64 0),(Value.int .i64 0),(Value.string (⟨#[]⟩:ByteArray)),(Sl3.v Sl3.nil)])]) true (DA.on 4 (DA.aCj 4 (some 85) false (v:=(Value.agg #[(Value.int .i64 x20_0),(Value.int .i64 x20_1),(Value.string x20_2),(Sl3.v x20_3)])) 40 #[(Value.agg #[(Value.int .i64 x19_2),(Value.int .i64 x19_3),(Value.string x19_4),(Sl3.v x19_5)])] (z10 hx_4) (DA.on 5 (DA.aH (H':=H21) 5 (some 86) (Value.agg #[(Value.string x19_0),(Sl3.v Sl3.nil),(Value.int .i64 x20_0),(Value.int .i64 x20_1),(Value.string x20_2),(Sl3.v x20_3)]) (by kernel_rfl) (DA.on 7 (DA.aL 7 none (.val undef) ([some (30,[(Sl3.v a0_0),(Sl3.v a0_1),(Sl3.v a0_2)]),some (30,[(Sl3.v Sl3.nil),(Sl3.v Sl3.nil),(Sl3.v Sl3.nil)]),some (30,[(Sl3.v w2_15),(Sl3.v w2_16),(Sl3.v w2_17)]),some (66,[(Value.string x19_0),(Sl3.v x19_1),(Value.int .i64 x19_2),(Value.int .i64 x19_3),(Value.string x19_4),(Sl3.v x19_5)]),some (66,[(Value.string x19_0),(Sl3.v Sl3.nil),(Value.int .i64 x20_0),(Value.int .i64 x20_1),(Value.string x20_2),(Sl3.v x20_3)])]) false (DA.dn ?_)))))))
     exact fun a w hs=>jsN (hs.sb 5)
    ·refine DA.aCj 4 (some 85) true (v:=(Value.agg #[(Value.int .i64 x20_0),(Value.int .i64 x20_1),(Value.string x20_2),(Sl3.v x20_3)])) 40 #[(Value.agg #[(Value.int .i64 x19_2),(Value.int .i64 x19_3),(Value.string x19_4),(Sl3.v x19_5)])] (z10 hx_4) (DA.on 1 (DA.aL 1 (some 82) (.val (Value.string x19_0)) ([some (30,[(Sl3.v a0_0),(Sl3.v a0_1),(Sl3.v a0_2)]),some (30,[(Sl3.v Sl3.nil),(Sl3.v Sl3.nil),(Sl3.v Sl3.nil)]),some (30,[(Sl3.v w2_15),(Sl3.v w2_16),(Sl3.v w2_17)]),some (66,[(Value.string x19_0),(Sl3.v x19_1),(Value.int .i64 x19_2),(Value.int .i64 x19_3),(Value.string x19_4),(Sl3.v x19_5)]),some (66,[(Value.string (⟨#[]⟩:ByteArray)),(Sl3.v Sl3.nil),(Value.int .i64 0),(Value.int .i64 0),(Value.string (⟨#[]⟩:ByteArray)),(Sl3.v Sl3.nil)])]) false (DA.on 5 (DA.aH (H':=H21) 5 (some 86) (Value.agg #[(Value.string x19_0),(Sl3.v Sl3.nil),(Value.int .i64 x20_0),(Value.int .i64 x20_1),(Value.string x20_2),(Sl3.v x20_3)]) (by kernel_rfl) (DA.on 7 (DA.aL 7 none (.val undef) ([some (30,[(Sl3.v a0_0),(Sl3.v a0_1),(Sl3.v a0_2)]),some (30,[(Sl3.v Sl3.nil),(Sl3.v Sl3.nil),(Sl3.v Sl3.nil)]),some (30,[(Sl3.v w2_15),(Sl3.v w2_16),(Sl3.v w2_17)]),some (66,[(Value.string x19_0),(Sl3.v x19_1),(Value.int .i64 x19_2),(Value.int .i64 x19_3),(Value.string x19_4),(Sl3.v x19_5)]),some (66,[(Value.string x19_0),(Sl3.v Sl3.nil),(Value.int .i64 x20_0),(Value.int .i64 x20_1),(Value.string x20_2),(Sl3.v x20_3)])]) false (DA.dn ?_)))))))
     exact fun a w hs=>jsN (hs.sb 5)
  ·refine WS.nxt (WS.sq (WS.sq (WS.rg (RS.mS 4 [kI 90 0,kI 89 (x19_1.n:Int),kS 88 x19_1,kL 87 3 1] (RS.dn (WS.nxt (WS.bk 8 ?_)))))))
   obtain ⟨o,hl,h⟩:=bind_some h
   rcases o with ⟨H30,v90_31,w4_32,w4_33,w4_34,w4_35,w4_36,w4_37⟩ | r
   ·try dsimp only at h
    refine WS.lI (z9t (L:=L) (E:=E) (m:=m) (H:=H)) (L.ok hl) 5 ?_
    clear hl
    refine fun a w hs=>bkE ((WS.nxt ?_ a w hs))
    refine WS.rg (RS.mS 3 [kA 104 #[(Value.string w4_32),(Sl3.v w4_33),(Value.int .i64 w4_34),(Value.int .i64 w4_35),(Value.string w4_36),(Sl3.v w4_37)],kS 103 w2_17,kL 102 2 2] ?_)
    obtain ⟨⟨s38,H39⟩,hx,h⟩:=bind_some h
    try dsimp only at h
    refine RS.o (H':=H39) (some 105) (Sl3.v s38) (Abs.run_newR (by kernel_rfl) (by kernel_rfl) hx) ?_
    obtain ⟨⟨s40,H41⟩,hx,h⟩:=bind_some h
    try dsimp only at h
    refine RS.o (H':=H41) (some 106) (Sl3.v s40) (Abs.run_app (x:=.tmp 103) (y:=.tmp 105) (ts:=#[28,28]) (s:=w2_17) (z:=s38) (by kernel_rfl) (by kernel_rfl) (by kernel_rfl) (by kernel_rfl) hx) (RS.mL 2 [kL 107 2 2] ([some (30,[(Sl3.v a0_0),(Sl3.v a0_1),(Sl3.v a0_2)]),some (30,[(Sl3.v Sl3.nil),(Sl3.v Sl3.nil),(Sl3.v Sl3.nil)]),some (30,[(Sl3.v w2_15),(Sl3.v w2_16),(Sl3.v s40)]),some (66,[(Value.string x19_0),(Sl3.v x19_1),(Value.int .i64 x19_2),(Value.int .i64 x19_3),(Value.string x19_4),(Sl3.v x19_5)]),some (66,[(Value.string w4_32),(Sl3.v w4_33),(Value.int .i64 w4_34),(Value.int .i64 w4_35),(Value.string w4_36),(Sl3.v w4_37)])]) (RS.dn ?_))
    refine fun a w hs=>bkN ((WS.nxt ?_ a w hs))
    refine WS.rg (RS.mS 2 [kI 77 (IntKind.i64.wrap (v77_14+1)),kI 108 (IntKind.i64.wrap (v77_14+1))] (RS.dn ?_))
    cases h
    exact fun a w hs=>lsN rfl (hs.sb 3)
   ·try dsimp only at h
    refine WS.lR (z9t (L:=L) (E:=E) (m:=m) (H:=H)) (L.ok hl) 5 ?_
    cases h
    exact fun a w hq=>bkR (sqR (bkR (sqR (lsR rfl hq))))
 ·refine WS.fx 78 false (decide_eq_false hp) (WS.cF (WS.ex 6 ?_))
  cases h
  exact fun a w hs=>sqE (lsB rfl (hs.sb 3))
theorem zco {L:LC} {m:Nat} {H:AH} {a0_0 a0_1 a0_2:Sl3} {r:(Sl3×Sl3×Sl3×AH)} (h:z83 L m H a0_0 a0_1 a0_2=some r) :
  CallS Tryz.prog (NE.plain 148) m 11 #[(Value.agg #[(Sl3.v a0_0),(Sl3.v a0_1),(Sl3.v a0_2)])] H (z3v r) (z4s H r):=by
 refine CallS.mk (args:=[(Value.agg #[(Sl3.v a0_0),(Sl3.v a0_1),(Sl3.v a0_2)])]) Tryz.func11 (B:=B11) (by kernel_rfl) (fun E _=>?_)
 unfold z83 at h
 refine WS.sq (WS.rg (RS.mL 2 [kL 2 1 0,kL 1 0 0] ([some (30,[(Sl3.v a0_0),(Sl3.v a0_1),(Sl3.v a0_2)]),some (30,[(Sl3.v Sl3.nil),(Sl3.v Sl3.nil),(Sl3.v Sl3.nil)])]) (RS.dn (WS.nxt (WS.sq (WS.rg (RS.mS 2 [kS 18 a0_0,kL 17 0 0] ?_)))))))
 obtain ⟨⟨x1,H2⟩,hx,h⟩:=bind_some h
 try dsimp only at h
 refine RS.cl (some 19) (v:=(Sl3.v x1)) 31 #[(Sl3.v a0_0)] (z4w hx) (RS.mL 3 [kL 3 2 0,kA 20 #[(Sl3.v x1),(Sl3.v Sl3.nil),(Sl3.v Sl3.nil)]] ([some (30,[(Sl3.v a0_0),(Sl3.v a0_1),(Sl3.v a0_2)]),some (30,[(Sl3.v Sl3.nil),(Sl3.v Sl3.nil),(Sl3.v Sl3.nil)]),some (30,[(Sl3.v x1),(Sl3.v Sl3.nil),(Sl3.v Sl3.nil)])]) (RS.dn (WS.nxt (WS.sq (WS.sq (WS.rg (RS.mS 4 [kI 24 0,kI 23 (a0_1.n:Int),kS 22 a0_1,kL 21 0 1] (RS.dn (WS.nxt ?_)))))))))
 refine WS.bk 0 ?_
 obtain ⟨o,hl,h⟩:=bind_some h
 rcases o with ⟨H8,v24_9,w2_10,w2_11,w2_12⟩ | r
 ·try dsimp only at h
  refine WS.lI (z9n (L:=L) (E:=E) (m:=m) (H:=H)) (L.ok hl) 3 ?_
  clear hl
  refine fun a w hs=>bkE ((WS.nxt ?_ a w hs))
  refine WS.sq (WS.sq (WS.rg (RS.mS 4 [kI 77 0,kI 76 (a0_2.n:Int),kS 75 a0_2,kL 74 0 2] (RS.dn (WS.nxt (WS.bk 6 ?_))))))
  obtain ⟨o,hl,h⟩:=bind_some h
  rcases o with ⟨H42,v77_43,w2_44,w2_45,w2_46⟩ | r
  ·try dsimp only at h
   refine WS.lI (z9s (L:=L) (E:=E) (m:=m) (H:=H)) (L.ok hl) 3 ?_
   clear hl
   refine fun a w hs=>bkE ((WS.nxt ?_ a w hs))
   refine WS.sq (WS.rg (RS.mL 2 [kA 109 #[(Sl3.v w2_44),(Sl3.v w2_45),(Sl3.v w2_46)]] ([some (30,[(Sl3.v a0_0),(Sl3.v a0_1),(Sl3.v a0_2)]),some (30,[(Sl3.v w2_44),(Sl3.v w2_45),(Sl3.v w2_46)]),some (30,[(Sl3.v w2_44),(Sl3.v w2_45),(Sl3.v w2_46)])]) (RS.dn (WS.nxt (WS.rt ?_)))))
   cases h
   exact fun a w hs=>rtR (rS hs)
  ·try dsimp only at h
   refine WS.lR (z9s (L:=L) (E:=E) (m:=m) (H:=H)) (L.ok hl) 3 ?_
   cases h
   exact fun a w hq=>bkR (sqR (rtR hq))
 ·try dsimp only at h
  refine WS.lR (z9n (L:=L) (E:=E) (m:=m) (H:=H)) (L.ok hl) 3 ?_
  cases h
  exact fun a w hq=>bkR (sqR (rtR hq))
end Go.Proofs.YtpcckomdlmpckaaGreatDoor
