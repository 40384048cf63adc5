/- Parts of the proof: an abstract interpreter of the loaded program and its soundness, printed functions, the law's own texts; part 3. No condition. -/
import Derived.Test.YtdlnojjpbmibdaaGreatDoorNb2
import Derived.OrdersHeld
import Derived.LaidSub
import Derived.Test.YtdlnojjpbmibdaaGreatDoorChecked
namespace Go.Abs
variable {P:Program} {ne:NE} {m n:Nat}
def dem (A:List Nat) (bs:List Nat) (j:Nat):Bool:=!(A.all fun i=>Nat.blt i j&&pre bs j i)
def mvAt (ops:Array Oper) (j:Nat):Bool :=
 match ops[j]? with
 | some o=>(match o.op with
  | .move _=>true
  | .assign _=>true
  | .pick ..=>true
  | _=>false)
 | none=>false
def demO (ops:Array Oper) (A:List Nat) (bs:List Nat) (j:Nat):Bool:=dem A bs j&&!mvAt ops j
theorem zsz {P:Program} {ops:Array Oper} {Q:Exit→Act→World→Prop} {j:Nat} {K:Act→World→Prop} {a:Act} {w:World} (hm:mvAt ops j=true) (h:wpOp P ops Q j K a w):wpOp P ops Q j (fun a' w'=>w'=w∧K a' w') a w:=by
 unfold wpOp at *
 unfold mvAt at hm
 cases ho:ops[j]? with
 | none=>rw [ho] at hm; cases hm
 | some o =>
  rw [ho] at h hm
  simp only at h hm ⊢
  split
  ·rename_i hw
   rw [if_pos hw] at h
   rcases h with h | h
   ·left
    unfold Oper.wp at *
    have hr:(∃v,(execOp a.eval o).run P w=.ok (.value v) w)∨∃x,(execOp a.eval o).run P w=.halt x w:=by
     obtain ⟨dst,op,ty,pos,after,guard⟩:=o
     cases op with
     | move x=>exact .inl ⟨_,rfl⟩
     | assign x=>exact .inl ⟨_,rfl⟩
     | pick c x y =>
      simp only [execOp]
      cases hc:a.eval c with
      | bool b=>exact .inl ⟨_,rfl⟩
      | _=>exact .inr ⟨_,rfl⟩
     | _=>cases hm
    rcases hr with ⟨v,hr⟩ | ⟨x,hr⟩
    ·rw [hr] at h ⊢
     exact ⟨by first | rfl | trivial,h⟩
    ·rw [hr] at h ⊢
     cases x <;> exact h
   ·exact .inr h
  ·rename_i hw
   rw [if_neg hw] at h
   exact ⟨by first | rfl | trivial,h⟩
def wpAnyD (P:Program) (ops:Array Oper) (Q:Exit→Act→World→Prop) (bs A:List Nat) (w1:World):Nat→Array Bool→Act→World→Prop
 | 0,la,a,w=>Region.ready .any ops la=[]∧Q .normal a w
 | f+1,la,a,w=>(Region.ready .any ops la=[]→Q .normal a w) ∧
  ∀i∈Region.ready .any ops la,wpOp P ops Q i (fun a' w'=>(demO ops A bs i=true→agree w1 w')∧wpAnyD P ops Q bs A w1 f (la.setIfInBounds i true) a' w') a w
variable {ops:Array Oper} {Q:Exit→Act→World→Prop} {bs A:List Nat} {w1:World}
theorem zl1:∀(f:Nat) (la:Array Bool) (a:Act) (w:World),wpAnyD P ops Q bs A w1 f la a w→wpAny P .any ops Q f la a w
 | 0,_,_,_,h=>h
 | f+1,_,_,_,h=>⟨h.1,fun i hi=>wpOp_mono (fun a' w' h'=>zl1 f _ a' w' h'.2) (h.2 i hi)⟩
theorem zno {i:Nat} {oi:Oper} {v:Value} (hi:ops[i]? = some oi) (hA:A.contains i=true) (hc:closedOk ops.toList bs=true) (hsel:∀(j:Nat) (o:Oper) cs b,ops[j]? = some o→o.op≠.select cs b)
  (hQ:∀c a w,¬Q (.panic c) a w) :
  ∀(fuel:Nat) (la:Array Bool) (a:Act) (w:World),JC ops bs la →
   (∀j oj,ops[j]? = some oj→j≠i→la.getD j true=false→(∀e∈oj.after,Region.binds .any e=true→e.on≠i)→oi.apart ops oj=true) →
   i∈Region.ready .any ops la→YieldsIf P ops (agree w1) oi v a→agree w1 w →
   wpAnyD P ops Q bs A w1 fuel (la.setIfInBounds i true) (a.put oi.dst v) w→wpAnyD P ops Q bs A w1 (fuel+1) la a w:=by
 intro fuel
 induction fuel with
 | zero =>
  intro la a w hJ _ hr hy hS H
  refine ⟨fun h=>(by rw [h] at hr; cases hr),fun j hj=>?_⟩
  by_cases hji:j=i
  ·subst hji; exact hy.wpOp hi hS ⟨fun _=>hS,H⟩
  ·have:=ready_mono hj hji
   rw [H.1] at this
   cases this
 | succ fuel ih =>
  intro la a w hJ hfree hr hy hS H
  refine ⟨fun h=>(by rw [h] at hr; cases hr),fun j hj=>?_⟩
  by_cases hji:j=i
  ·subst hji; exact hy.wpOp hi hS ⟨fun _=>hS,H⟩
  ·have h1:=H.2 j (ready_mono hj hji)
   have r:=rdy_of hc hJ hj
   have ri:=rdy_of hc hJ hr
   have hd:dem A bs j=true:=by
    cases hq:dem A bs j with
    | true=>rfl
    | false =>
     exfalso
     unfold dem at hq
     have hq:(A.all fun i=>Nat.blt i j&&pre bs j i)=true:=by simpa using hq
     rw [List.all_eq_true] at hq
     have:=hq i (by simpa using hA)
     simp only [Bool.and_eq_true] at this
     exact ri.no (r.all i (blt_lt this.1) this.2)
   have h1:wpOp P ops Q j (fun a' w'=>agree w1 w'∧(demO ops A bs j=true→agree w1 w')∧wpAnyD P ops Q bs A w1 fuel ((la.setIfInBounds i true).setIfInBounds j true) a' w') (a.put oi.dst v) w:=by
    cases hm:mvAt ops j with
    | true=>exact wpOp_mono (fun a' w' hh=>⟨by rw [hh.1]; exact hS,hh.2⟩) (zsz hm h1)
    | false=>exact wpOp_mono (fun a' w' hh=>⟨hh.1 (by unfold demO; rw [hd,hm]; rfl),hh⟩) h1
   obtain ⟨hjun,oj,hoj,hall⟩:=mem_ready.1 hj
   have hnot:∀e∈oj.after,Region.binds .any e=true→e.on≠i:=fun e he hb heq=>by
    have h1:=hall e he hb
    have h0:=(mem_ready.1 hr).1
    rw [heq] at h1
    rcases Nat.lt_or_ge i la.size with h' | h'
    ·simp [h'] at h0 h1; rw [h0] at h1; cases h1
    ·simp [Array.getElem?_eq_none h'] at h1
   have h2:=wpOp_putIf hoj (hfree j oj hoj hji hjun hnot) (fun cs b=>hsel i oi cs b hi) (fun cs b=>hsel j oj cs b hoj) (fun c a w h=>absurd h (hQ c _ w)) hy h1
   have hfree':∀k ok,ops[k]? = some ok→k≠i→(la.setIfInBounds j true).getD k true=false →
     (∀e∈ok.after,Region.binds .any e=true→e.on≠i)→oi.apart ops ok=true:=fun k ok hk hki hun hno=>by
    refine hfree k ok hk hki ?_ hno
    by_cases hjk:j=k
    ·subst hjk; exact hjun
    ·rw [getD_set_ne true hjk] at hun; exact hun
   refine wpOp_mono (fun a' w' h3=>⟨fun _=>h3.2.1,ih (la.setIfInBounds j true) a' w' (hJ.next r) hfree' (ready_mono hr (Ne.symm hji)) h3.1 h3.2.1 ?_⟩) h2
   rw [Array.setIfInBounds_comm _ _ hji]
   exact h3.2.2.2
structure DC (P:Program) (H1:AH) (ls1:Lcs) (w1:World) (φ1:Inj) (cs1:List Nat):Prop where
 glob:Glob P φ1
 inv:Inv φ1 H1 w1
 loc:∀(i:Nat) c x,cs1[i]? = some c→ls1[i]? = some (some x)→∃rs,w1.heap[c]? = some (.cells rs x.1 (0,0))∧LR φ1 x.2 rs.toList
 len:cs1.length=ls1.length
structure Agr (m:Nat) (H1:AH) (w1:World) (cs1:List Nat) (φ:Inj) (w:World) (cs:List Nat):Prop where
 ag:agree w1 w
 jn:∀id l,Nat.max m H1.next≤id→φ id=some l→w1.heap.size≤l.blk
 nw:∀(i c:Nat),cs1.length≤i→cs[i]? = some c→w1.heap.size≤c
theorem zas {w1 w:World} (h:agree w1 w):w1.heap.size≤w.heap.size:=by
 rcases Nat.lt_or_ge w.heap.size w1.heap.size with hlt | h'
 ·have:=h w.heap.size hlt
  rw [Array.getElem?_eq_none (Nat.le_refl _),Array.getElem?_eq_getElem hlt] at this
  cases this
 ·exact h'
theorem Agr.start {φ:Inj} {H:AH} {w:World} {cs:List Nat} (hi:Inv φ H w):Agr m H w cs φ w cs :=
 ⟨agree.refl _,fun id l h1 h2=>by have:=(hi.dom id l h2).1; have:=Nat.le_max_right m H.next; have h1:max m H.next≤id:=h1; omega,fun i c h1 h2=>by rw [List.getElem?_eq_none h1] at h2; cases h2⟩
def KA (φ1:Inj) (cs1:List Nat) (knA:KN) (a:Act):Prop:=∀t kv,lkV knA t=some kv→KR φ1 cs1 kv (a.tmps.getD t undef)
def DA (P:Program) (ne:NE) (m:Nat) (E:Ent) (n:Nat) (ops:Array Oper) (bs A:List Nat) (H1:AH) (ls1:Lcs) (f:Nat) (la:Array Bool) (ag:Bool) (knA kn:KN) (ls:Lcs) (H:AH) (Q:Exit→Act→World→Prop):Prop :=
 ∀w1 φ1 cs1 a w φ cs,DC P H1 ls1 w1 φ1 cs1→φ1.le φ→SSφ P ne m E n kn ls H a w φ cs→KA φ1 cs1 knA a→(∀(i:Nat) (c:Nat),cs1[i]? = some c→cs[i]? = some c)→JC ops bs la→(ag=true→Agr m H1 w1 cs1 φ w cs)→wpAnyD P ops Q bs A w1 f la a w
def DAk (P:Program) (ne:NE) (m:Nat) (E:Ent) (n:Nat) (ops:Array Oper) (bs A:List Nat) (H1:AH) (ls1:Lcs) (k f:Nat) (la:Array Bool) (ag:Bool) (knA kn:KN) (ls:Lcs) (H:AH) (Q:Exit→Act→World→Prop):Prop :=
 ∀w1 φ1 cs1 a w φ cs,DC P H1 ls1 w1 φ1 cs1→φ1.le φ→SSφ P ne m E n kn ls H a w φ cs→KA φ1 cs1 knA a→(∀(i:Nat) (c:Nat),cs1[i]? = some c→cs[i]? = some c)→JC ops bs la→(ag=true→Agr m H1 w1 cs1 φ w cs) →
  wpOp P ops Q k (fun a' w'=>(demO ops A bs k=true→agree w1 w')∧wpAnyD P ops Q bs A w1 f (la.setIfInBounds k true) a' w') a w
section
variable {E:Ent} {knA kn:KN} {ls ls1:Lcs} {H H1:AH} {a:Act} {w:World} {φ φ1:Inj} {cs cs1:List Nat} {f k:Nat} {la:Array Bool} {ag:Bool}
theorem WS.drawn {c:Code} (ops:Array Oper) (A:List Nat) (hc:regOf c=some (ops,true)) (hB:closedOk ops.toList (befores ops.toList)=true) (h:DA P ne m E n ops (befores ops.toList) A H ls ops.size (Array.replicate ops.size false) true kn kn ls H Q):WS P ne m E n c kn ls H Q:=by
 cases c with
 | region id ops' d =>
  simp only [regOf,Option.some.injEq,Prod.mk.injEq] at hc
  obtain ⟨rfl,rfl⟩:=hc
  intro a w hs
  obtain ⟨φ,cs,hs⟩:=hs
  refine wp_region_any hs.sane.mixed ?_
  have hs':SSφ P ne m E n kn ls H a { w with drawn:=w.drawn+1 } φ cs :=
   ⟨hs.glob,⟨hs.inv.dom,hs.inv.obj,hs.inv.sep⟩,⟨hs.step.le,hs.step.ext,hs.step.new,hs.step.alv,hs.step.size,hs.step.keep,hs.step.os,hs.step.tape,hs.step.output⟩,hs.len,fun i c x h1 h2=>⟨(hs.loc i c x h1 h2).1,(hs.loc i c x h1 h2).2,(hs.loc i c x h1 h2).3⟩,hs.inj,hs.low,hs.slot,hs.size,hs.defers,hs.sane,hs.inv0⟩
  exact zl1 _ _ _ _ (h _ φ cs a _ φ cs ⟨hs'.glob,hs'.inv,fun i c x h1 h2=>(hs'.loc i c x h1 h2).2,hs'.len⟩ (Inj.le_refl φ) hs' (fun t kv hl=>hs'.slot t kv hl) (fun _ _ hc=>hc) ⟨by simp,fun i j hh=>by
   unfold LL at hh
   rw [Array.getD_eq_getD_getElem?,Array.getElem?_replicate] at hh
   split at hh <;> cases hh⟩ (fun _=>.start hs'.inv))
 | _=>cases hc
theorem DA.done (hr:readyIs ops la []=true) (h:∀a w,SS P ne m E n kn ls H a w→Q .normal a w):DA P ne m E n ops bs A H1 ls1 f la ag knA kn ls H Q:=by
 intro w1 φ1 cs1 a w φ cs _ _ hs _ _ _ _
 have hr:=z2f hr
 cases f with
 | zero=>exact ⟨hr,h a w ⟨φ,cs,hs⟩⟩
 | succ f=>exact ⟨fun _=>h a w ⟨φ,cs,hs⟩,by rw [hr]; simp⟩
theorem KA.put (h:KA φ1 cs1 knA a) {n:Nat} (hsz:n≤a.tmps.size) {d:Option Nat} (hd:(match d with | some a=>Nat.blt a n | none=>true)=true) {kv:KV} {v':Value} (hv:KR φ1 cs1 kv v'):KA φ1 cs1 (putV knA d kv) (a.put d v'):=by
 cases d with
 | none=>exact h
 | some d =>
  have hlt:d<a.tmps.size:=Nat.lt_of_lt_of_le (blt_lt hd) hsz
  intro t kv' hl
  simp only [putV,lkV] at hl
  simp only [Act.put]
  rw [Array.getD_eq_getD_getElem?,Array.getElem?_setIfInBounds]
  cases hb:Nat.beq d t with
  | true =>
   rw [hb] at hl
   have:=Nat.eq_of_beq_eq_true hb
   subst this
   cases hl
   rw [if_pos rfl,if_pos hlt]
   exact hv
  | false =>
   rw [hb] at hl
   rw [if_neg (Nat.ne_of_beq_eq_false hb),← Array.getD_eq_getD_getElem?]
   exact h t kv' hl
def dropV (d:Option Nat) (knA:KN):KN:=match d with
 | some d=>knA.filter fun p=>!(Nat.beq p.1 d)
 | none=>knA
theorem zt1 {d:Nat}:∀{kn:KN} {t:Nat} {kv:KV},lkV (kn.filter fun p=>!(Nat.beq p.1 d)) t=some kv→t≠d∧lkV kn t=some kv:=by
 intro kn
 induction kn with
 | nil=>intro t kv h; cases h
 | cons p l ih =>
  obtain ⟨s,v⟩:=p
  intro t kv h
  rw [List.filter_cons] at h
  cases hq:Nat.beq s d with
  | true =>
   rw [hq] at h
   obtain ⟨h1,h2⟩:=ih (by simpa using h)
   refine ⟨h1,?_⟩
   simp only [lkV]
   have e:=Nat.eq_of_beq_eq_true hq
   cases hs:Nat.beq s t with
   | true=>exact absurd ((Nat.eq_of_beq_eq_true hs).symm.trans e) h1
   | false=>exact h2
  | false =>
   rw [hq] at h
   simp only [Bool.not_false,if_true,lkV] at h
   simp only [lkV]
   cases hs:Nat.beq s t with
   | true =>
    rw [hs] at h
    have e:=Nat.eq_of_beq_eq_true hs
    subst e
    exact ⟨Nat.ne_of_beq_eq_false hq,h⟩
   | false=>rw [hs] at h; exact ih h
theorem KA.drop (h:KA φ1 cs1 knA a) (d:Option Nat) (v':Value):KA φ1 cs1 (dropV d knA) (a.put d v'):=by
 cases d with
 | none=>exact h
 | some d =>
  intro t kv hl
  obtain ⟨h1,h2⟩:=zt1 hl
  simp only [Act.put]
  rw [Array.getD_eq_getD_getElem?,Array.getElem?_setIfInBounds,if_neg (fun e=>h1 e.symm),← Array.getD_eq_getD_getElem?]
  exact h t kv h2
def takeB (P:Program) (n:Nat) (ops:Array Oper) (A:List Nat) (la:Array Bool) (k:Nat) (o:Oper):Bool :=
 A.contains k&&Region.noSelect ops&&Region.free .any ops la k&&(Region.ready .any ops la).contains k&&dstV n o
theorem evalA_ (h:KA φ1 cs1 knA a) (hg:Glob P φ1) {x:Operand} (hk:knownV knA x=true) (hx:okx P x=true):VR φ1 (evV knA x) (a.eval x):=by
 cases x with
 | tmp t =>
  simp only [knownV] at hk
  simp only [evV]
  cases hl:lkV knA t with
  | none=>rw [hl] at hk; cases hk
  | some kv =>
   cases kv with
   | val v=>exact h t _ hl
   | loc i off=>rw [hl] at hk; cases hk
   | sli i n=>rw [hl] at hk; cases hk
 | const v=>exact zj depth hx
 | global g =>
  have hlt:g<P.globals.size:=blt_lt hx
  obtain ⟨l,h1,h2,h3⟩:=hg g hlt
  have:=VR.ptr (φ:=φ1) g 0 l h1
  rw [h2,h3] at this
  exact this
 | func f=>exact .func (.func f) #[] #[] #[] #[] rfl rfl (fun i x y hx=>by simp at hx) (fun i x y hx=>by simp at hx)
theorem zhf (ho:ops[k]? = some (opAt ops k)) (hB:takeB P n ops A la k (opAt ops k)=true) (hc:closedOk ops.toList bs=true) (hQ:∀c a w,¬Q (.panic c) a w) {kv:KV} {w1:World}
  (hd:DC P H1 ls1 w1 φ1 cs1) (hle:φ1.le φ) (hs:SSφ P ne m E n kn ls H a w φ cs) (hka:KA φ1 cs1 knA a) (hpf:∀(i:Nat) (c:Nat),cs1[i]? = some c→cs[i]? = some c) (hJ:JC ops bs la) (hag:Agr m H1 w1 cs1 φ w cs) {v':Value} (hkr:KR φ1 cs1 kv v') (hkr2:KR φ cs kv v') (hy:YieldsIf P ops (agree w1) (opAt ops k) v' a)
  (h:DA P ne m E n ops bs A H1 ls1 f (la.setIfInBounds k true) true (putV knA (opAt ops k).dst kv) (putV kn (opAt ops k).dst kv) ls H Q):wpAnyD P ops Q bs A w1 (f+1) la a w:=by
 unfold takeB at hB
 simp only [Bool.and_eq_true] at hB
 obtain ⟨⟨⟨⟨b1,b2⟩,b3⟩,b4⟩,b5⟩:=hB
 have hr:k∈Region.ready .any ops la:=by simpa using b4
 refine zno ho b1 hc (Region.noSelect_spec b2) hQ f la a w hJ (Region.free_spec ho b3) hr hy hag.ag ?_
 exact h w1 φ1 cs1 _ w φ cs hd hle (hs.put b5 hkr2) (hka.put hs.size b5 hkr) hpf (hJ.next (rdy_of hc hJ hr)) (fun _=>hag)
theorem DA.take {v:Value} (ho:ops[k]? = some (opAt ops k)) (hB:takeB P n ops A la k (opAt ops k)=true) (hc:closedOk ops.toList bs=true) (hQ:∀c a w,¬Q (.panic c) a w)
  (hw:(wantV ops kn (opAt ops k),(opAt ops k).op.operands.all (okx P),(opAt ops k).op.operands.all (knownV knA))=(some true,true,true)) (hv:detOp P H1 (opAt ops k) (evV knA)=some v)
  (h:DA P ne m E n ops bs A H1 ls1 f (la.setIfInBounds k true) true (putV knA (opAt ops k).dst (.val v)) (putV kn (opAt ops k).dst (.val v)) ls H Q):DA P ne m E n ops bs A H1 ls1 (f+1) la true knA kn ls H Q:=by
 intro w1 φ1 cs1 a w φ cs hd hle hs hka hpf hJ hag
 simp only [Prod.mk.injEq] at hw
 obtain ⟨hw1,hw2,hw3⟩:=hw
 rw [Array.all_eq_true_iff_forall_mem] at hw2 hw3
 obtain ⟨v',h1,h2⟩:=zrz (ρ':=a.eval) hd.inv (fun x hx=>evalA_ hka hd.glob (hw3 x hx) (hw2 x hx)) hv
 exact zhf ho hB hc hQ hd hle hs hka hpf hJ (hag rfl) (kv:=.val v) h1 (h1.mono hle) (.inl ⟨z1n hs hw1,h2⟩) h
theorem DA.tskip (ho:ops[k]? = some (opAt ops k)) (hB:takeB P n ops A la k (opAt ops k)=true) (hc:closedOk ops.toList bs=true) (hQ:∀c a w,¬Q (.panic c) a w) (hw:wantV ops kn (opAt ops k)=some false)
  (h:DA P ne m E n ops bs A H1 ls1 f (la.setIfInBounds k true) true (putV knA (opAt ops k).dst (.val undef)) (putV kn (opAt ops k).dst (.val undef)) ls H Q):DA P ne m E n ops bs A H1 ls1 (f+1) la true knA kn ls H Q:=by
 intro w1 φ1 cs1 a w φ cs hd hle hs hka hpf hJ hag
 exact zhf ho hB hc hQ hd hle hs hka hpf hJ (hag rfl) (kv:=.val undef) (v':=undef) (z20 _) (z20 _) (.inr ⟨z1n hs hw,rfl⟩) h
def locDet (P:Program) (knA:KN) (ls1:Lcs) (o:Oper):Option KV :=
 match o.op with
 | .move _ | .assign _ | .nilCheck _ | .fieldAddr .. | .load ..=>(locOp P knA ls1 o).map (·.1)
 | _=>none
theorem zmj {o:Oper} {kv:KV} (h:locDet P knA ls1 o=some kv) (hd:DC P H1 ls1 w1 φ1 cs1) (hka:KA φ1 cs1 knA a):∃v',KR φ1 cs1 kv v'∧∀w,agree w1 w→(execOp a.eval o).run P w=.ok (.value v') w:=by
 unfold locDet at h
 have hl:∃ls',locOp P knA ls1 o=some (kv,ls'):=by
  split at h
  all_goals first | (cases hq:locOp P knA ls1 o with | none=>rw [hq] at h; cases h | some p=>obtain ⟨x,y⟩:=p; rw [hq] at h; simp only [Option.map_some,Option.some.injEq] at h; subst h; exact ⟨y,rfl⟩) | cases h
 obtain ⟨ls',hl⟩:=hl
 obtain ⟨dst,op,ty,pos,after,guard⟩:=o
 unfold locOp at hl
 simp only at hl h
 split at hl
 ·rename_i t
  split at hl
  ·rename_i i off hk
   simp only [Option.some.injEq,Prod.mk.injEq] at hl
   obtain ⟨rfl,rfl⟩:=hl
   exact ⟨a.tmps.getD t undef,hka t _ hk,fun w _=>rfl⟩
  ·cases hl
 ·rename_i t
  split at hl
  ·rename_i i off hk
   simp only [Option.some.injEq,Prod.mk.injEq] at hl
   obtain ⟨rfl,rfl⟩:=hl
   exact ⟨a.tmps.getD t undef,hka t _ hk,fun w _=>rfl⟩
  ·cases hl
 ·rename_i t
  split at hl
  ·rename_i i off hk
   simp only [Option.some.injEq,Prod.mk.injEq] at hl
   obtain ⟨rfl,rfl⟩:=hl
   refine ⟨a.tmps.getD t undef,hka t _ hk,fun w _=>?_⟩
   obtain ⟨c,h1,h2⟩:=hka t _ hk
   have:a.eval (.tmp t)=.pointer (some ⟨c,off,none⟩):=h2
   simp only [execOp,this]
   rw [h2]; rfl
  ·cases hl
 ·rename_i s t f
  split at hl
  ·rename_i i off fs hk hu
   cases hf:fs[f]? with
   | none=>rw [hf] at hl; cases hl
   | some fd =>
    rw [hf] at hl
    simp only at hl
    cases hi:P.info? fd.type with
    | none=>rw [hi] at hl; cases hl
    | some inf =>
     rw [hi] at hl
     simp only at hl
     cases hz:Nat.beq inf.size 0 with
     | true=>rw [hz] at hl; cases hl
     | false =>
      rw [hz] at hl
      simp only [cond_false,Option.some.injEq,Prod.mk.injEq] at hl
      obtain ⟨rfl,rfl⟩:=hl
      obtain ⟨c,h1,h2⟩:=hka t _ hk
      have he:a.eval (.tmp t)=.pointer (some ⟨c,off,none⟩):=h2
      refine ⟨.pointer (some ⟨c,off+fd.offset,none⟩),⟨c,h1,rfl⟩,fun w _=>?_⟩
      have hne:=Nat.ne_of_beq_eq_false hz
      have hrun:(Instr.fieldAt s (.pointer (some ⟨c,off,none⟩)) f).run P w=.ok (.pointer (some ⟨c,off+fd.offset,none⟩)) w:=by
       simp only [Instr.fieldAt,Sem.run_bind,z8 hu,Result.andThen_ok,hf,Instr.sureAddr,Sem.run_pure,fieldPlace,zw hi]
       rw [if_neg hne]
       simp only [Sem.run_pure,Result.andThen_ok,Addr.add_lit]
      simp only [execOp,he,Sem.run_bind,hrun,Result.andThen_ok]
      rfl
  ·cases hl
 ·rename_i t x
  split at hl
  ·rename_i i off d inf hk hu hi
   split at hl
   ·rename_i e cells hc
    obtain ⟨c,h1,h2⟩:=hka x _ hk
    obtain ⟨rs,g2,g3⟩:=hd.loc i c _ h1 hc
    have he:a.eval (.tmp x)=.pointer (some ⟨c,off,none⟩):=h2
    have hlen:=LR.length g3
    simp only at hlen g3
    have hlt:c<w1.heap.size:=by rw [Array.getElem?_eq_some_iff] at g2; exact g2.1
    have hagg:∀w,(isAgg t).run P w=.ok (isAggD d) w:=by
     intro w
     simp only [isAgg,Sem.run_bind,z8 hu,Result.andThen_ok]
     cases d <;> rfl
    have hex:∀w v,(loadVar t ⟨c,off,none⟩).run P w=.ok v w→(execOp a.eval ⟨dst,.load t (.tmp x),ty,pos,after,guard⟩).run P w=.ok (.value v) w:=by
     intro w v hr
     simp only [execOp,he,Instr.loadAt,Instr.sureAddr,Sem.run_bind,Sem.run_pure,Result.andThen_ok,hr]
    have hcell:∀w,agree w1 w→∀(j:Nat) u,rs[off+j]? = some u→w.cell? ((⟨c,off,none⟩:Addr).add j)=some u:=by
     intro w hag j u hu
     rw [Addr.add_lit]
     simp [World.cell?,hag c hlt,g2,hu]
    cases hda:isAggD d with
    | true =>
     rw [hda] at hl
     simp only [cond_true] at hl
     cases hb:Nat.ble (off+inf.size) cells.length with
     | false=>rw [hb] at hl; cases hl
     | true =>
      rw [hb] at hl
      simp only [cond_true,Option.some.injEq,Prod.mk.injEq] at hl
      obtain ⟨rfl,rfl⟩:=hl
      have hble:=Nat.le_of_ble_eq_true hb
      have hls:((rs.toList.drop off).take inf.size).length=inf.size:=by simp at hlen ⊢; omega
      refine ⟨.agg ((rs.toList.drop off).take inf.size).toArray,?_,fun w hag=>hex w _ ?_⟩
      ·have hpw:AR φ1 ((cells.drop off).take inf.size).toArray ((rs.toList.drop off).take inf.size).toArray:=by
        refine ⟨by simp at hlen ⊢; omega,fun j u v hu hv=>?_⟩
        have hA:=AR_iff.2 (show LR φ1 cells.toArray.toList rs.toList by simpa using g3)
        rw [List.getElem?_toArray,List.getElem?_take] at hu hv
        split at hu
        ·rename_i hj
         rw [if_pos hj,List.getElem?_drop] at hv
         rw [List.getElem?_drop] at hu
         exact hA.2 (off+j) u v (by simpa using hu) (by simpa using hv)
        ·cases hu
       exact .agg _ _ hpw.1 hpw.2
      ·have hrun:=run_loadCells_list (P:=P) w ⟨c,off,none⟩ ((rs.toList.drop off).take inf.size) (fun j u hu=>by
        rw [List.getElem?_take] at hu
        split at hu
        ·rw [List.getElem?_drop] at hu
         exact hcell w hag j u (by simpa using hu)
        ·cases hu)
       rw [hls] at hrun
       simp only [loadVar,Sem.run_bind,hagg w,Result.andThen_ok,hda,if_true,zw hi,hrun,Sem.run_pure]
    | false =>
     rw [hda] at hl
     simp only [cond_false] at hl
     cases hv:cells[off]? with
     | none=>rw [hv] at hl; cases hl
     | some v =>
      rw [hv] at hl
      simp only [Option.some.injEq,Prod.mk.injEq] at hl
      obtain ⟨rfl,rfl⟩:=hl
      have hA:=AR_iff.2 (show LR φ1 cells.toArray.toList rs.toList by simpa using g3)
      obtain ⟨v',hv',hvr⟩:=hA.get (show cells.toArray[off]? = some v by simpa using hv)
      refine ⟨v',hvr,fun w hag=>hex w _ ?_⟩
      have h0:=hcell w hag 0 v' (by simpa using hv')
      have e0:(⟨c,off,none⟩:Addr).add 0=⟨c,off,none⟩:=rfl
      rw [e0] at h0
      simp only [loadVar,Sem.run_bind,hagg w,hda,Result.andThen_ok,Bool.false_eq_true,if_false]
      simp [h0]
   ·cases hl
  ·cases hl
 all_goals first | (simp only [reduceCtorEq] at h; done) | (cases hl; done)
theorem KR.pfx {kv:KV} {v':Value} (hle:φ1.le φ) (hpf:∀(i:Nat) (c:Nat),cs1[i]? = some c→cs[i]? = some c) (h:KR φ1 cs1 kv v'):KR φ cs kv v':=by
 cases kv with
 | val v=>exact VR.mono hle h
 | loc i off =>
  obtain ⟨c,h1,h2⟩:=h
  exact ⟨c,hpf i c h1,h2⟩
 | sli i n =>
  obtain ⟨⟨c,h1,h2⟩,h3⟩:=h
  exact ⟨⟨c,hpf i c h1,h2⟩,h3⟩
theorem DA.takeL {kv:KV} (ho:ops[k]? = some (opAt ops k)) (hB:takeB P n ops A la k (opAt ops k)=true) (hc:closedOk ops.toList bs=true) (hQ:∀c a w,¬Q (.panic c) a w) (hw:wantV ops kn (opAt ops k)=some true) (hv:locDet P knA ls1 (opAt ops k)=some kv)
  (h:DA P ne m E n ops bs A H1 ls1 f (la.setIfInBounds k true) true (putV knA (opAt ops k).dst kv) (putV kn (opAt ops k).dst kv) ls H Q):DA P ne m E n ops bs A H1 ls1 (f+1) la true knA kn ls H Q:=by
 intro w1 φ1 cs1 a w φ cs hd hle hs hka hpf hJ hag
 obtain ⟨v',h1,h2⟩:=zmj hv hd hka
 exact zhf ho hB hc hQ hd hle hs hka hpf hJ (hag rfl) (kv:=kv) h1 (h1.pfx hle hpf) (.inl ⟨z1n hs hw,h2⟩) h
theorem zrp {m2:Nat} {g:Nat} {args:Array Value} {v:Value} {H':AH} {o:Oper} (hs:SSφ P ne m E n kn ls H a w φ cs) (hx:o.op.operands.all (okx P)=true) (hkn:o.op.operands.all (knownV kn)=true) (hc:callV kn o=some (g,args)) (hr:CallS P ne m2 g args H v H')
  {K:Act→World→Prop} (hn:∀φ' v' w',VR φ' v v'→Inv φ' H' w'→Step m2 φ H w φ' H' w'→K (a.put o.dst v') w'):o.wp P a w K Q:=by
 rw [Array.all_eq_true_iff_forall_mem] at hkn hx
 have hev:∀x∈o.op.operands,VR φ (evV kn x) (a.eval x):=fun x hxm=>hs.eval (hkn x hxm) (hx x hxm)
 obtain ⟨⟨fn,c,hf,hb⟩,hr⟩:=hr hs.sane
 obtain ⟨dst,op,ty,pos,after,guard⟩:=o
 unfold callV at hc
 simp only at hc hev hn
 split at hc
 ·rename_i g args0 ts
  have hgv:=hev g (by simp [Op.operands,Call.operands])
  have hargs:AR φ (args0.map (evV kn)) (args0.map a.eval):=ar_map args0 fun x hx=>hev x (by simp [Op.operands,Call.operands,hx])
  split at hc
  ·rename_i f0 first cap hge
   simp only [Option.some.injEq,Prod.mk.injEq] at hc
   obtain ⟨rfl,rfl⟩:=hc
   rw [hge] at hgv
   generalize hq:a.eval g=q at hgv
   cases hgv with
   | func fn' f1 g1 f1' g1' hf1 hg1 i1 i2 =>
    have hall:AR φ (first++args0.map (evV kn)++cap) (f1'++args0.map a.eval++g1'):=((AR.append ⟨hf1,i1⟩ hargs).append ⟨hg1,i2⟩)
    show Oper.upon P _ a K Q _
    have hex:execOp a.eval { dst:=dst,op:=.call { callee:=.value g,args:=args0,argTypes:=ts },type:=ty,pos:=pos,after:=after,guard:=guard }=callFunc f0 (f1'++args0.map a.eval++g1'):=by
     simp only [execOp,resolve,hq]; rfl
    rw [hex,z1q hs.sane hf hb]
    exact z4p (hr φ w _ hs.glob hall hs.inv) hn
  ·cases hc
 ·cases hc
theorem agree.trans' {w1 w w':World} (h1:agree w1 w) (h2:agree w w'):agree w1 w':=fun c hc=>by
 have hlt:c<w.heap.size:=by
  have:=h1 c hc
  rw [Array.getElem?_eq_getElem hc] at this
  rw [Array.getElem?_eq_some_iff] at this
  exact this.1
 rw [h2 c hlt,h1 c hc]
theorem zbv (ho:ops[k]? = some (opAt ops k)) {w1:World} (hs:SSφ P ne m E n kn ls H a w φ cs) (hw:wantV ops kn (opAt ops k)=some true)
  (h:∀K:Act→World→Prop,(∀a' w',(demO ops A bs k=true→agree w1 w')∧wpAnyD P ops Q bs A w1 f (la.setIfInBounds k true) a' w'→K a' w')→(opAt ops k).wp P a w K Q) :
  wpOp P ops Q k (fun a' w'=>(demO ops A bs k=true→agree w1 w')∧wpAnyD P ops Q bs A w1 f (la.setIfInBounds k true) a' w') a w:=by
 unfold wpOp
 rw [ho]
 simp only [z1n hs hw,if_true]
 left
 exact h _ fun a' w' hh=>hh
theorem zem (hr:(Region.ready .any ops la).contains k=true) (hc:closedOk ops.toList bs=true) (hJ:JC ops bs la):JC ops bs (la.setIfInBounds k true) :=
 hJ.next (rdy_of hc hJ (by simpa using hr))
theorem DA.one (k:Nat) (hr:readyIs ops la [k]=true) (h:DAk P ne m E n ops bs A H1 ls1 k f la ag knA kn ls H Q):DA P ne m E n ops bs A H1 ls1 (f+1) la ag knA kn ls H Q:=by
 intro w1 φ1 cs1 a w φ cs q1 q2 q3 q4 q5 q6 q7
 have hr:=z2f hr
 refine ⟨fun h0=>(by rw [hr] at h0; cases h0),fun i hi=>?_⟩
 rw [hr] at hi
 simp only [List.mem_cons,List.not_mem_nil,or_false] at hi
 subst hi
 exact h w1 φ1 cs1 a w φ cs q1 q2 q3 q4 q5 q6 q7
theorem DA.two (k k2:Nat) (hr:readyIs ops la [k,k2]=true) (h:DAk P ne m E n ops bs A H1 ls1 k f la ag knA kn ls H Q) (h2:DAk P ne m E n ops bs A H1 ls1 k2 f la ag knA kn ls H Q):DA P ne m E n ops bs A H1 ls1 (f+1) la ag knA kn ls H Q:=by
 intro w1 φ1 cs1 a w φ cs q1 q2 q3 q4 q5 q6 q7
 have hr:=z2f hr
 refine ⟨fun h0=>(by rw [hr] at h0; cases h0),fun i hi=>?_⟩
 rw [hr] at hi
 simp only [List.mem_cons,List.not_mem_nil,or_false] at hi
 rcases hi with rfl | rfl
 ·exact h w1 φ1 cs1 a w φ cs q1 q2 q3 q4 q5 q6 q7
 ·exact h2 w1 φ1 cs1 a w φ cs q1 q2 q3 q4 q5 q6 q7
theorem DA.three (k k2 k3:Nat) (hr:readyIs ops la [k,k2,k3]=true) (h:DAk P ne m E n ops bs A H1 ls1 k f la ag knA kn ls H Q) (h2:DAk P ne m E n ops bs A H1 ls1 k2 f la ag knA kn ls H Q) (h3:DAk P ne m E n ops bs A H1 ls1 k3 f la ag knA kn ls H Q):DA P ne m E n ops bs A H1 ls1 (f+1) la ag knA kn ls H Q:=by
 intro w1 φ1 cs1 a w φ cs q1 q2 q3 q4 q5 q6 q7
 have hr:=z2f hr
 refine ⟨fun h0=>(by rw [hr] at h0; cases h0),fun i hi=>?_⟩
 rw [hr] at hi
 simp only [List.mem_cons,List.not_mem_nil,or_false] at hi
 rcases hi with rfl | rfl | rfl
 ·exact h w1 φ1 cs1 a w φ cs q1 q2 q3 q4 q5 q6 q7
 ·exact h2 w1 φ1 cs1 a w φ cs q1 q2 q3 q4 q5 q6 q7
 ·exact h3 w1 φ1 cs1 a w φ cs q1 q2 q3 q4 q5 q6 q7
theorem zpc {w2:World} {A':List Nat} (hA:∀i,la.getD i true=false→demO ops A bs i=true→demO ops A' bs i=true∧agree w1 w2):∀(f:Nat) {la:Array Bool} {a:Act} {w:World},(∀i,la.getD i true=false→demO ops A bs i=true→demO ops A' bs i=true∧agree w1 w2)→wpAnyD P ops Q bs A' w2 f la a w→wpAnyD P ops Q bs A w1 f la a w:=by
 intro f
 induction f with
 | zero=>intro la a w _ h; exact h
 | succ f ih =>
  intro la a w hA h
  refine ⟨h.1,fun i hi=>wpOp_mono (fun a' w' hh=>⟨fun hd=>?_,ih (fun j hj hd=>hA j ?_ hd) hh.2⟩) (h.2 i hi)⟩
  ·have hun:la.getD i true=false:=by
    have h0:=(mem_ready.1 hi).1
    have hlt:i<la.size:=by
     rcases Nat.lt_or_ge i la.size with h' | h'
     ·exact h'
     ·simp [Array.getElem?_eq_none h'] at h0
    simpa [hlt] using h0
   obtain ⟨q1,q2⟩:=hA i hun hd
   exact q2.trans' (hh.1 q1)
  ·by_cases e:i=j
   ·subst e
    rcases Nat.lt_or_ge i la.size with h' | h'
    ·simp [h'] at hj
    ·have:(la.setIfInBounds i true)=la:=by rw [Array.setIfInBounds]; simp [Nat.not_lt.2 h']
     rw [this] at hj; exact hj
   ·rwa [getD_set_ne true e] at hj
def restB (ops:Array Oper) (A A' bs:List Nat) (la:Array Bool) (ag:Bool):Bool :=
 (List.range la.size).all fun i=>la.getD i true||!demO ops A bs i||(ag&&demO ops A' bs i)
theorem DA.restart (A':List Nat) (hA:restB ops A A' bs la ag=true) (h:DA P ne m E n ops bs A' H ls f la true kn kn ls H Q):DA P ne m E n ops bs A H1 ls1 f la ag knA kn ls H Q:=by
 intro w1 φ1 cs1 a w φ cs q1 q2 q3 q4 q5 q6 q7
 have hw:=h w φ cs a w φ cs ⟨q3.glob,q3.inv,fun i c x h1 h2=>(q3.loc i c x h1 h2).2,q3.len⟩ (Inj.le_refl φ) q3 (fun t kv hl=>q3.slot t kv hl) (fun _ _ hc=>hc) q6 (fun _=>.start q3.inv)
 have hh:∀i,la.getD i true=false→demO ops A bs i=true→demO ops A' bs i=true∧agree w1 w:=by
  intro i hi hd
  unfold restB at hA
  rw [List.all_eq_true] at hA
  have hlt:i<la.size:=by
   rcases Nat.lt_or_ge i la.size with h' | h'
   ·exact h'
   ·simp [Array.getElem?_eq_none h'] at hi
  have:=hA i (by simpa using hlt)
  rw [hi,hd] at this
  simp only [Bool.not_true,Bool.or_false,Bool.false_or,Bool.and_eq_true] at this
  exact ⟨this.2,(q7 this.1).ag⟩
 exact zpc hh f hh hw
theorem DA.actL {kv:KV} {ls':Lcs} (ag':Bool) (ho:ops[k]? = some (opAt ops k)) (hr:(Region.ready .any ops la).contains k=true) (hc:closedOk ops.toList bs=true) (hw:wantV ops kn (opAt ops k)=some true) (hd:dstV n (opAt ops k)=true) (hl:locOp P kn ls (opAt ops k)=some (kv,ls'))
  (ha:((!demO ops A bs k||(ag&&notStore (opAt ops k)))&&(!ag'||(ag&&notStore (opAt ops k))))=true)
  (h:DA P ne m E n ops bs A H1 ls1 f (la.setIfInBounds k true) ag' (dropV (opAt ops k).dst knA) (putV kn (opAt ops k).dst kv) ls' H Q):DAk P ne m E n ops bs A H1 ls1 k f la ag knA kn ls H Q:=by
 intro w1 φ1 cs1 a w φ cs hd1 hle hs hka hpf hJ hag
 refine zbv ho hs hw fun K hK=>?_
 refine zoi hs hl hd fun v' w' cs' hs' hpf' hnw' hag'=>hK _ _ ?_
 have hkeep:(ag&&notStore (opAt ops k))=true→Agr m H1 w1 cs1 φ w' cs':=fun hh=>by
  rw [Bool.and_eq_true] at hh
  obtain ⟨h1,h2,h3⟩:=hag hh.1
  refine ⟨h1.trans' (hag' hh.2),h2,fun i c hi hc=>?_⟩
  rcases Nat.lt_or_ge i cs.length with hlt | hge
  ·rw [hpf' i cs[i] (List.getElem?_eq_getElem hlt)] at hc
   cases hc
   exact h3 i _ hi (List.getElem?_eq_getElem hlt)
  ·exact Nat.le_trans (zas h1) (hnw' i c hge hc)
 rw [Bool.and_eq_true] at ha
 refine ⟨fun hdm=>(hkeep (by have:=ha.1; rw [hdm] at this; simpa using this)).ag,h w1 φ1 cs1 _ _ φ cs' hd1 hle hs' (hka.drop _ _) (fun i c hc=>hpf' i c (hpf i c hc)) (zem hr hc hJ) fun hag2=>hkeep (by have:=ha.2; rw [hag2] at this; simpa using this)⟩
theorem zmi {φ φ':Inj} {H H':AH} {w w':World} {m m2:Nat} (hm:m≤m2) (h:Step m2 φ H w φ' H' w'):Step m φ H w φ' H' w' :=
 ⟨h.le,h.ext,fun id l h1 h2=>⟨(h.new id l h1 h2).1,(h.new id l h1 h2).2.imp (fun q=>q) fun ⟨id0,l0,q1,q2⟩=>⟨id0,l0,Nat.le_trans hm q1,q2⟩⟩,h.alv,h.size,fun c hc hno=>h.keep c hc fun id l hid=>hno id l (Nat.le_trans hm hid),h.os,h.tape,h.output⟩
theorem Agr.step {w1:World} {φ':Inj} {H':AH} {w':World} {m2:Nat} (h:Agr m H1 w1 cs1 φ w cs) (hi:Inv φ H w) (hm:m≤m2) (hm2:H.next≤m2∨H1.next≤m2) (hst:Step m2 φ H w φ' H' w'):Agr m H1 w1 cs1 φ' w' cs:=by
 have hsz:=zas h.ag
 have key:∀id l,m2≤id→φ id=some l→w1.heap.size≤l.blk:=fun id l h1 h2=>by
  rcases hm2 with h3 | h3
  ·have:=(hi.dom id l h2).1; omega
  ·exact h.jn id l (Nat.max_le.2 ⟨by omega,by omega⟩) h2
 refine ⟨fun c hc=>?_,fun id l h1 h2=>?_,h.nw⟩
 ·rw [hst.keep c (Nat.lt_of_lt_of_le hc hsz) fun id l hid _ hl e=>by have:=key id l hid hl; omega]
  exact h.ag c hc
 ·cases hq:φ id with
  | some l0 =>
   have:=hst.ext _ _ hq
   rw [h2] at this; cases this
   exact h.jn id l h1 hq
  | none =>
   rcases (hst.new id l h2 hq).2 with h3 | ⟨id0,l0,h3,_,h4,h5⟩
   ·omega
   ·rw [← h5]; exact key id0 l0 h3 h4
theorem DA.actH (m2:Nat) (ag':Bool) {v:Value} {H':AH} (ho:ops[k]? = some (opAt ops k)) (hr:(Region.ready .any ops la).contains k=true) (hc:closedOk ops.toList bs=true) (hB:opV P n ops kn (opAt ops k)=true) (hv:runOp P (NE.plain 0) ih0 m2 (opAt ops k) (evV kn) H=some (v,H')) (hn:noCall (opAt ops k)=true)
  (hm:m≤m2) (hm2:(demO ops A bs k||ag')=true→H.next≤m2∨H1.next≤m2) (ha:((!demO ops A bs k||ag)&&(!ag'||ag))=true)
  (h:DA P ne m E n ops bs A H1 ls1 f (la.setIfInBounds k true) ag' (dropV (opAt ops k).dst knA) (putV kn (opAt ops k).dst (.val v)) ls H' Q):DAk P ne m E n ops bs A H1 ls1 k f la ag knA kn ls H Q:=by
 intro w1 φ1 cs1 a w φ cs hd1 hle hs hka hpf hJ hag
 unfold opV at hB
 simp only [Bool.and_eq_true] at hB
 obtain ⟨⟨⟨hg,hx⟩,hkn⟩,hd⟩:=hB
 rw [Array.all_eq_true_iff_forall_mem] at hkn hx
 have hw:wantV ops kn (opAt ops k)=some true:=by
  split at hg
  ·assumption
  ·cases hg
 refine zbv ho hs hw fun K hK=>?_
 have hr':runOp P ne ih0 m2 (opAt ops k) (evV kn) H=some (v,H'):=by
  rw [← hv]
  generalize opAt ops k=o at hn
  obtain ⟨dst,op,ty,pos,after,guard⟩:=o
  unfold runOp
  cases op with
  | call c =>
   obtain ⟨callee,args,ts⟩:=c
   cases callee with
   | value g=>cases hn
   | _=>rfl
  | _=>rfl
 refine z63 hs.sane zjo hr' hs.glob (fun x hxm=>hs.eval (hkn x hxm) (hx x hxm)) hs.inv fun φ' v' w' h1 h2 h3=>?_
 have hkeep:(demO ops A bs k||ag')=true→ag=true→Agr m H1 w1 cs1 φ' w' cs:=fun hh hag2=>(hag hag2).step hs.inv hm (hm2 hh) h3
 rw [Bool.and_eq_true] at ha
 refine hK _ _ ⟨fun hdm=>(hkeep (by rw [hdm]; rfl) (by have:=ha.1; rw [hdm] at this; simpa using this)).ag,h w1 φ1 cs1 _ _ φ' cs hd1 (fun id l hl=>h3.ext _ _ (hle _ _ hl)) ((hs.heap h2 (zmi hm h3)).put hd h1) (hka.drop _ _) hpf (zem hr hc hJ) fun hag2=>hkeep (by rw [hag2,Bool.or_true]) (by have:=ha.2; rw [hag2] at this; simpa using this)⟩
theorem DA.actC (m2:Nat) (ag':Bool) {v:Value} {H':AH} (g:Nat) (args:Array Value) (ho:ops[k]? = some (opAt ops k)) (hr:(Region.ready .any ops la).contains k=true) (hc:closedOk ops.toList bs=true) (hB:opV P n ops kn (opAt ops k)=true) (hcl:callV kn (opAt ops k)=some (g,args)) (hcs:CallS P ne m2 g args H v H')
  (hm:m≤m2) (hm2:(demO ops A bs k||ag')=true→H.next≤m2∨H1.next≤m2) (ha:((!demO ops A bs k||ag)&&(!ag'||ag))=true)
  (h:DA P ne m E n ops bs A H1 ls1 f (la.setIfInBounds k true) ag' (dropV (opAt ops k).dst knA) (putV kn (opAt ops k).dst (.val v)) ls H' Q):DAk P ne m E n ops bs A H1 ls1 k f la ag knA kn ls H Q:=by
 intro w1 φ1 cs1 a w φ cs hd1 hle hs hka hpf hJ hag
 unfold opV at hB
 simp only [Bool.and_eq_true] at hB
 obtain ⟨⟨⟨hg,hx⟩,hkn⟩,hd⟩:=hB
 have hw:wantV ops kn (opAt ops k)=some true:=by
  split at hg
  ·assumption
  ·cases hg
 refine zbv ho hs hw fun K hK=>?_
 refine zrp hs hx hkn hcl hcs fun φ' v' w' h1 h2 h3=>?_
 have hkeep:(demO ops A bs k||ag')=true→ag=true→Agr m H1 w1 cs1 φ' w' cs:=fun hh hag2=>(hag hag2).step hs.inv hm (hm2 hh) h3
 rw [Bool.and_eq_true] at ha
 refine hK _ _ ⟨fun hdm=>(hkeep (by rw [hdm]; rfl) (by have:=ha.1; rw [hdm] at this; simpa using this)).ag,h w1 φ1 cs1 _ _ φ' cs hd1 (fun id l hl=>h3.ext _ _ (hle _ _ hl)) ((hs.heap h2 (zmi hm h3)).put hd h1) (hka.drop _ _) hpf (zem hr hc hJ) fun hag2=>hkeep (by rw [hag2,Bool.or_true]) (by have:=ha.2; rw [hag2] at this; simpa using this)⟩
theorem DA.fix (t:Nat) {b:Bool} (d:Bool) (hb:b=d) (hl:lkV kn t=some (.val (.bool b))) (h:DA P ne m E n ops bs A H1 ls1 f la ag ((t,.val (.bool d)) :: knA) ((t,.val (.bool d)) :: kn) ls H Q):DA P ne m E n ops bs A H1 ls1 f la ag knA kn ls H Q:=by
 subst hb
 intro w1 φ1 cs1 a w φ cs hd1 hle hs hka hpf hJ hag
 have hv:VR φ (.bool b) (a.tmps.getD t undef):=hs.slot t _ hl
 have hv1:VR φ1 (.bool b) (a.tmps.getD t undef):=by
  generalize a.tmps.getD t undef=u at hv
  cases hv; exact .bool b
 refine h w1 φ1 cs1 a w φ cs hd1 hle ⟨hs.glob,hs.inv,hs.step,hs.len,hs.loc,hs.inj,hs.low,fun s kv hh=>?_,hs.size,hs.defers,hs.sane,hs.inv0⟩ (fun s kv hh=>?_) hpf hJ hag
 ·simp only [lkV] at hh
  cases hq:Nat.beq t s with
  | true =>
   rw [hq] at hh
   have:=Nat.eq_of_beq_eq_true hq
   subst this
   cases hh
   exact hv
  | false=>rw [hq] at hh; exact hs.slot s kv hh
 ·simp only [lkV] at hh
  cases hq:Nat.beq t s with
  | true =>
   rw [hq] at hh
   have:=Nat.eq_of_beq_eq_true hq
   subst this
   cases hh
   exact hv1
  | false=>rw [hq] at hh; exact hka s kv hh
end
end Go.Abs
namespace Go.Abs
structure LC where
 run:{S R:Type}→(S→Option (Lp S R))→S→Option (S⊕R)
 fuel:Nat
 ok:∀{S R:Type} {body:S→Option (Lp S R)} {s:S} {o:S⊕R},run body s=some o→loopO body s=some o
def LCn (k j:Nat):LC:=⟨fun b s=>iterO b k s,j,fun h=>zhr.2 ⟨k,h⟩⟩
variable {P:Program} {ne:NE} {m:Nat} {ih:Ex} {ρ:Operand→Value} {o:Oper} {H H':AH}
theorem det_load {t:TypeId} {x:Operand} {a:Addr} {v:Value} (hop:o.op=.load t x) (hu:(P.underlying t).map isAggD=some false) (hi:(P.info? t).isSome=true) (hx:ρ x=.pointer (some a)) (h:H.cell a=some v):detOp P H o ρ=some v:=by
 obtain ⟨dst,op,ty,pos,after,guard⟩:=o
 simp only at hop
 subst hop
 obtain ⟨i,hi⟩:=Option.isSome_iff_exists.1 hi
 cases hd:P.underlying t with
 | none=>rw [hd] at hu; cases hu
 | some d =>
  rw [hd] at hu
  simp only [Option.map_some,Option.some.injEq] at hu
  simp only [detOp,tPure,hx,aLoad,hd,hi,hu,cond_false,h]
theorem det_loadA {t:TypeId} {x:Operand} {a:Addr} {l:List Value} {k:Nat} (hop:o.op=.load t x) (hu:(P.underlying t).map isAggD=some true) (hi:(P.info? t).map (·.size)=some k) (hx:ρ x=.pointer (some a)) (h:rdCells H a 0 k=some l):detOp P H o ρ=some (.agg l.toArray):=by
 obtain ⟨dst,op,ty,pos,after,guard⟩:=o
 simp only at hop
 subst hop
 cases hie:P.info? t with
 | none=>rw [hie] at hi; cases hi
 | some i =>
  rw [hie] at hi
  simp only [Option.map_some,Option.some.injEq] at hi
  subst hi
  cases hd:P.underlying t with
  | none=>rw [hd] at hu; cases hu
  | some d =>
   rw [hd] at hu
   simp only [Option.map_some,Option.some.injEq] at hu
   simp only [detOp,tPure,hx,aLoad,hd,hie,hu,cond_true,h]
theorem det_idx {t e:TypeId} {x y:Operand} {sz:Nat} {s:Sl3} {k:IntKind} {i:Int} {a:Addr} (hop:o.op=.indexAddr t x y) (hu:P.underlying t=some (.slice e)) (hi:(P.info? e).map (·.size)=some sz)
  (hx:ρ x=s.v) (hy:ρ y=.int k i) (h:idxA sz s i=some a):detOp P H o ρ=some (.pointer (some a)):=by
 obtain ⟨dst,op,ty,pos,after,guard⟩:=o
 simp only at hop
 subst hop
 obtain ⟨p,l,c⟩:=s
 cases hie:P.info? e with
 | none=>rw [hie] at hi; cases hi
 | some inf =>
  rw [hie] at hi
  simp only [Option.map_some,Option.some.injEq] at hi
  subst hi
  unfold idxA at h
  cases p with
  | none=>cases h
  | some b =>
   simp only at h
   split at h
   ·rename_i hb
    simp only [Option.some.injEq] at h
    subst h
    obtain ⟨j,rfl⟩:∃j:Nat,i=(j:Int):=⟨i.toNat,by omega⟩
    have hlt:Nat.blt j l=true:=Nat.ble_eq_true_of_le (by omega)
    have hp:tPure P ⟨dst,.indexAddr t x y,ty,pos,after,guard⟩ ρ=some (.pointer (some (b.add (j*inf.size)))):=by
     simp only [tPure,hu,hx,hy,Sl3.v,hie]
     show (match (Value.int k (Int.ofNat j)) with | .int _ (.ofNat i)=>_ | _=>none)=_
     simp only [hlt,cond_true]
    simp only [detOp,hp]
    simp
   ·cases h
theorem zq9 {t:TypeId} {x:Operand} {a:Addr} {l:List Value} {k:Nat} (hop:o.op=.load t x) (hu:(P.underlying t).map isAggD=some true) (hi:(P.info? t).map (·.size)=some k) (hx:ρ x=.pointer (some a)) (h:rdCells H a 0 k=some l):runOp P ne ih m o ρ H=some (.agg l.toArray,H):=by
 obtain ⟨dst,op,ty,pos,after,guard⟩:=o
 simp only at hop
 subst hop
 cases hie:P.info? t with
 | none=>rw [hie] at hi; cases hi
 | some i =>
  rw [hie] at hi
  simp only [Option.map_some,Option.some.injEq] at hi
  subst hi
  cases hd:P.underlying t with
  | none=>rw [hd] at hu; cases hu
  | some d =>
   rw [hd] at hu
   simp only [Option.map_some,Option.some.injEq] at hu
   simp only [runOp,aOp,execOp,hx,bind]
   have hS:arun P m (Instr.loadAt t (.pointer (some a))) H=some (.agg l.toArray,H):=by
    unfold Instr.loadAt Go.loadVar Go.isAgg
    have hl:=zhw (P:=P) (m:=m) a i.size 0 #[] H
    rw [h] at hl
    simp only [Instr.sureAddr,Go.underlying,Go.program,Go.sizeOf,Go.typeInfo,bind,Pure.pure,Sem.bind,arun,hd]
    cases d <;> first | (simp only [isAggD] at hu; cases hu; done) | (simp only [Sem.bind,arun,if_true,hie,Go.loadCells]; rw [zi,hl]; simp [arun])
   rw [zi,hS]
   rfl
theorem run_storeA {t:TypeId} {x y:Operand} {a:Addr} {v:Value} (hop:o.op=.store t x y) (hu:(P.info? t).map (·.size)=some v.cells.size) (hx:ρ x=.pointer (some a)) (hy:ρ y=v) {l:List Value} (hl:v.cells.toList=l) (h:wrCells m a 0 l H=some H'):runOp P ne ih m o ρ H=some (undef,H'):=by
 subst hl
 exact zhi hop hu hx hy h
def idxR (sz n:Nat) (a:Addr) (i:Int):Option Addr:=if 0≤i∧i<n then some (a.add (i.toNat*sz)) else none
theorem run_idxR {t e:TypeId} {x y:Operand} {sz n:Nat} {a a':Addr} {k:IntKind} {i:Int} (hop:o.op=.indexAddr t x y) (hu:P.underlying t=some (.array n e)) (hi:(P.info? e).map (·.size)=some sz)
  (hx:ρ x=.pointer (some a)) (hy:ρ y=.int k i) (h:idxR sz n a i=some a'):runOp P ne ih m o ρ H=some (.pointer (some a'),H):=by
 obtain ⟨dst,op,ty,pos,after,guard⟩:=o
 simp only at hop
 subst hop
 cases hie:P.info? e with
 | none=>rw [hie] at hi; cases hi
 | some inf =>
  rw [hie] at hi
  simp only [Option.map_some,Option.some.injEq] at hi
  subst hi
  unfold idxR at h
  split at h
  ·rename_i hb
   simp only [Option.some.injEq] at h
   subst h
   simp only [runOp,aOp,execOp,hx,hy]
   have hS:arun P m (Instr.indexAt t (.pointer (some a)) (.int k i)) H=some (.pointer (some (a.add (i.toNat*inf.size))),H):=by
    unfold Instr.indexAt
    simp only [asIntOf,Go.underlying,Go.sizeOf,Go.typeInfo,Go.program,bind,Pure.pure,Sem.bind,arun,hu,hie,Instr.sureAddr]
    rw [if_pos hb]
    simp only [Sem.bind,arun,hie]
   simp only [bind]
   rw [zi,hS]
   rfl
  ·cases h
def slcR (sz n:Nat) (a:Addr) (lo hi:Option Int):Option Sl3 :=
 let l:=lo.getD 0
 let h:=hi.getD n
 if 0≤l∧l≤h∧h≤n∧n<OPEN then some ⟨some (if n=l.toNat then a else a.add (l.toNat*sz)),h.toNat - l.toNat,n - l.toNat⟩ else none
theorem run_slcR {t e:TypeId} {x:Operand} {lo hi:Option Operand} {sz n:Nat} {a:Addr} {s:Sl3} {k1 k2:IntKind} {l1 l2:Option Int} (hop:o.op=.slice t x lo hi none) (hu:P.underlying t=some (.array n e)) (hi':(P.info? e).map (·.size)=some sz)
  (hx:ρ x=.pointer (some a)) (h1:lo.map ρ=l1.map (.int k1)) (h2:hi.map ρ=l2.map (.int k2)) (h:slcR sz n a l1 l2=some s):runOp P ne ih m o ρ H=some (s.v,H):=by
 obtain ⟨dst,op,ty,pos,after,guard⟩:=o
 simp only at hop
 subst hop
 cases hie:P.info? e with
 | none=>rw [hie] at hi'; cases hi'
 | some inf =>
  rw [hie] at hi'
  simp only [Option.map_some,Option.some.injEq] at hi'
  subst hi'
  unfold slcR at h
  simp only at h
  split at h
  ·rename_i hb
   simp only [Option.some.injEq] at h
   subst h
   obtain ⟨b1,b2,b3,b4⟩:=hb
   have hlt:Nat.blt n OPEN=true:=Nat.ble_eq_true_of_le b4
   have hab:abounds n n (lo.map ρ) (hi.map ρ) none=some ((l1.getD 0).toNat,(l2.getD n).toNat,n):=by
    rw [h1,h2]
    unfold abounds
    simp only [bnd,Option.isSome_none,Bool.false_and,cond_false]
    cases l2 with
    | none =>
     simp only [Option.map_none,bnd,Option.getD_none]
     cases l1 with
     | none=>simp [bnd]
     | some x =>
      simp only [Option.getD_some,Option.getD_none] at b1 b2
      obtain ⟨j,rfl⟩:∃j:Nat,x=Int.ofNat j:=⟨x.toNat,by simp; omega⟩
      have:Nat.ble j n=true:=Nat.ble_eq_true_of_le (by simp at b2; omega)
      simp [bnd,this]
    | some y =>
     simp only [Option.getD_some] at b1 b2 b3
     obtain ⟨q,rfl⟩:∃j:Nat,y=Int.ofNat j:=⟨y.toNat,by simp; omega⟩
     have hq:Nat.ble q n=true:=Nat.ble_eq_true_of_le (by simp at b3; omega)
     simp only [Option.map_some,bnd,hq,cond_true]
     cases l1 with
     | none=>simp [bnd]
     | some x =>
      simp only [Option.getD_some] at b1 b2
      obtain ⟨j,rfl⟩:∃j:Nat,x=Int.ofNat j:=⟨x.toNat,by simp; omega⟩
      have:Nat.ble j q=true:=Nat.ble_eq_true_of_le (by simp at b2; omega)
      simp [bnd,this]
   simp only [runOp,aOp,hx,aSliceArr,hu,hie,Option.map_none,hab,hlt,Nat.ble_eq_true_of_le (Nat.le_refl n),Bool.and_self,cond_true,Sl3.v]
  ·cases h
def mapB:Blk:={ obj:=.map #[] 0,opn:=false,esz:=0,ro:=false }
def lkM {α:Type} (P:Program) (t:TypeId) (de:Value→Option α) (H:AH) (m:Option Nat) (k:Value):Option (α×Bool) :=
 match aLookup P t (.map m) k true H with
 | some (.tuple cs)=>match cs.toList with
  | [x,.bool b]=>(de x).map (·,b)
  | _=>none
 | _=>none
def lk1 {α:Type} (P:Program) (t:TypeId) (de:Value→Option α) (H:AH) (m:Option Nat) (k:Value):Option α:=(aLookup P t (.map m) k false H).bind de
theorem lkM_eq {α:Type} {t:TypeId} {de:Value→Option α} {mm:Option Nat} {k:Value} {x:α} {b:Bool} {v:Value} (h:lkM P t de H mm k=some (x,b)) (hv:∀u,de u=some x→u=v):aLookup P t (.map mm) k true H=some (.tuple #[v,.bool b]):=by
 unfold lkM at h
 split at h
 ·rename_i cs hc
  split at h
  ·rename_i y c hl
   cases hd:de y with
   | none=>rw [hd] at h; cases h
   | some z =>
    rw [hd] at h
    simp only [Option.map_some,Option.some.injEq,Prod.mk.injEq] at h
    obtain ⟨rfl,rfl⟩:=h
    rw [hc,← hv y hd,z82 hl]
  ·cases h
 ·cases h
theorem lk1_eq {α:Type} {t:TypeId} {de:Value→Option α} {mm:Option Nat} {k:Value} {x:α} {v:Value} (h:lk1 P t de H mm k=some x) (hv:∀u,de u=some x→u=v):aLookup P t (.map mm) k false H=some v:=by
 obtain ⟨u,h1,h2⟩:=bind_some h
 rw [h1,hv u h2]
theorem run_look {t:TypeId} {x y:Operand} {ok:Bool} {mm:Option Nat} {k v:Value} (hop:o.op=.lookup t x y ok) (hx:ρ x=.map mm) (hy:ρ y=k) (hf:flat depth k=true) (h:aLookup P t (.map mm) k ok H=some v):runOp P ne ih m o ρ H=some (v,H):=by
 obtain ⟨dst,op,ty,pos,after,guard⟩:=o
 simp only at hop
 subst hop
 simp only [runOp,aOp,hx,hy,hf,cond_true,h]
def upM (P:Program) (m:Nat) (t:TypeId) (H:AH) (mm:Option Nat) (k v:Value):Option AH :=
 match aUpdate P m t (.map mm) k v H with
 | some (.tuple cs,H')=>if cs.size=0 then some H' else none
 | _=>none
theorem run_upM {t:TypeId} {x y z:Operand} {mm:Option Nat} {k v:Value} (hop:o.op=.mapUpdate t x y z) (hx:ρ x=.map mm) (hy:ρ y=k) (hz:ρ z=v) (hf:flat depth k=true) (h:upM P m t H mm k v=some H'):runOp P ne ih m o ρ H=some (undef,H'):=by
 obtain ⟨dst,op,ty,pos,after,guard⟩:=o
 simp only at hop
 subst hop
 unfold upM at h
 split at h
 ·rename_i cs H1 hu
  split at h
  ·rename_i hs
   simp only [Option.some.injEq] at h
   subst h
   have e:cs=#[]:=Array.eq_empty_of_size_eq_zero hs
   subst e
   simp only [runOp,aOp,hx,hy,hz,hf,cond_true,hu]
   rfl
  ·cases h
 ·cases h
def deM:Value→Option (Option Nat)
 | .map r=>some r
 | _=>none
theorem zm7 {x:Option Nat}:∀u,deM u=some x→u=.map x:=by
 intro u h
 cases u <;> simp only [deM] at h <;> cases h
 rfl
theorem z2 {a:Addr} {i k:Nat} {v:Value} {l:List Value} (h1:H.cell (a.add i)=some v) (h2:rdCells H a (i+1) k=some l):rdCells H a i (k+1)=some (v :: l):=by
 simp only [rdCells,h1,h2]
section
variable {E:Ent} {n:Nat} {kn:KN} {ls:Lcs} {ops:Array Oper} {k:Nat} {Q:Exit→Act→World→Prop}
end
end Go.Abs
namespace Go.Abs
variable {P:Program} {ne:NE} {m n:Nat}
variable {E:Ent} {kn knA:KN} {ls ls1:Lcs} {H H1 H':AH} {ops:Array Oper} {k:Nat} {Q:Exit→Act→World→Prop} {bs A:List Nat} {f:Nat} {la:Array Bool} {ag:Bool}
def newB (e:TypeId) (cells:List Value) (H:AH):Option (Addr×AH):=some (⟨H.next,0,none⟩,H.push (pubB e cells))
theorem run_newB {ih:Ex} {ρ:Operand→Value} {o:Oper} {e:TypeId} {cells:List Value} {p:Addr} (hr:runOp P ne ih m o ρ H=some (.pointer (some ⟨H.next,0,none⟩),H.push (pubB e cells))) (hx:newB e cells H=some (p,H')):runOp P ne ih m o ρ H=some (.pointer (some p),H'):=by
 cases hx
 exact hr
def newM (H:AH):Option (Nat×AH):=some (H.next,H.push mapB)
theorem run_newM {ih:Ex} {ρ:Operand→Value} {o:Oper} {p:Nat} (hr:runOp P ne ih m o ρ H=some (.map (some H.next),H.push mapB)) (hx:newM H=some (p,H')):runOp P ne ih m o ρ H=some (.map (some p),H'):=by
 cases hx
 exact hr
theorem RS.atD (d:Option Nat) (v:Value) (ho:ops[k]? = some (opAt ops k)) (hd:(opAt ops k).dst=d) (hB:(opV P n ops kn (opAt ops k)&&noCall (opAt ops k))=true) (hr:runOp P (NE.plain 0) ih0 m (opAt ops k) (evV kn) H=some (v,H'))
  (h:RS P ne m E n ops (k+1) (putV kn d (.val v)) ls H' Q):RS P ne m E n ops k kn ls H Q:=by
 subst hd
 exact RS.at v ho hB hr h
theorem RS.callD (d:Option Nat) {v:Value} (f:Nat) (args:Array Value) (ho:ops[k]? = some (opAt ops k)) (hd:(opAt ops k).dst=d) (hB:opV P n ops kn (opAt ops k)=true) (hc:callV kn (opAt ops k)=some (f,args)) (hr:CallS P ne m f args H v H')
  (h:RS P ne m E n ops (k+1) (putV kn d (.val v)) ls H' Q):RS P ne m E n ops k kn ls H Q:=by
 subst hd
 exact RS.call f args ho hB hc hr h
theorem WS.drawnX {c:Code} (ops:Array Oper) (A:List Nat) (bs:List Nat) (sz:Nat) (hc:regOf c=some (ops,true)) (hb:befores ops.toList=bs) (hs:ops.size=sz) (hB:closedOk ops.toList bs=true) (h:DA P ne m E n ops bs A H ls sz (Array.replicate sz false) true kn kn ls H Q):WS P ne m E n c kn ls H Q:=by
 subst hb hs
 exact WS.drawn ops A hc hB h
theorem DA.takeD (k:Nat) (d:Option Nat) (v:Value) (ho:ops[k]? = some (opAt ops k)) (hd:(opAt ops k).dst=d) (hB:takeB P n ops A la k (opAt ops k)=true) (hc:closedOk ops.toList bs=true) (hQ:∀c a w,¬Q (.panic c) a w)
  (hw:(wantV ops kn (opAt ops k),(opAt ops k).op.operands.all (okx P),(opAt ops k).op.operands.all (knownV knA))=(some true,true,true)) (hv:detOp P H1 (opAt ops k) (evV knA)=some v)
  (h:DA P ne m E n ops bs A H1 ls1 f (la.setIfInBounds k true) true (putV knA d (.val v)) (putV kn d (.val v)) ls H Q):DA P ne m E n ops bs A H1 ls1 (f+1) la true knA kn ls H Q:=by
 subst hd
 exact DA.take ho hB hc hQ hw hv h
theorem DA.tskipD (k:Nat) (d:Option Nat) (ho:ops[k]? = some (opAt ops k)) (hd:(opAt ops k).dst=d) (hB:takeB P n ops A la k (opAt ops k)=true) (hc:closedOk ops.toList bs=true) (hQ:∀c a w,¬Q (.panic c) a w) (hw:wantV ops kn (opAt ops k)=some false)
  (h:DA P ne m E n ops bs A H1 ls1 f (la.setIfInBounds k true) true (putV knA d (.val undef)) (putV kn d (.val undef)) ls H Q):DA P ne m E n ops bs A H1 ls1 (f+1) la true knA kn ls H Q:=by
 subst hd
 exact DA.tskip ho hB hc hQ hw h
theorem DA.takeLD (k:Nat) (d:Option Nat) (kv:KV) (ho:ops[k]? = some (opAt ops k)) (hd:(opAt ops k).dst=d) (hB:takeB P n ops A la k (opAt ops k)=true) (hc:closedOk ops.toList bs=true) (hQ:∀c a w,¬Q (.panic c) a w) (hw:wantV ops kn (opAt ops k)=some true) (hv:locDet P knA ls1 (opAt ops k)=some kv)
  (h:DA P ne m E n ops bs A H1 ls1 f (la.setIfInBounds k true) true (putV knA d kv) (putV kn d kv) ls H Q):DA P ne m E n ops bs A H1 ls1 (f+1) la true knA kn ls H Q:=by
 subst hd
 exact DA.takeL ho hB hc hQ hw hv h
theorem DA.actLD (k:Nat) (d:Option Nat) (kv:KV) (ls':Lcs) (ag':Bool) (ho:ops[k]? = some (opAt ops k)) (hdd:(opAt ops k).dst=d) (hr:(Region.ready .any ops la).contains k=true) (hc:closedOk ops.toList bs=true) (hw:wantV ops kn (opAt ops k)=some true) (hd:dstV n (opAt ops k)=true) (hl:locOp P kn ls (opAt ops k)=some (kv,ls'))
  (ha:((!demO ops A bs k||(ag&&notStore (opAt ops k)))&&(!ag'||(ag&&notStore (opAt ops k))))=true)
  (h:DA P ne m E n ops bs A H1 ls1 f (la.setIfInBounds k true) ag' (dropV d knA) (putV kn d kv) ls' H Q):DAk P ne m E n ops bs A H1 ls1 k f la ag knA kn ls H Q:=by
 subst hdd
 exact DA.actL ag' ho hr hc hw hd hl ha h
theorem DA.actHD (k:Nat) (d:Option Nat) (m2:Nat) (ag':Bool) (v:Value) (ho:ops[k]? = some (opAt ops k)) (hdd:(opAt ops k).dst=d) (hr:(Region.ready .any ops la).contains k=true) (hc:closedOk ops.toList bs=true) (hB:(opV P n ops kn (opAt ops k)&&noCall (opAt ops k))=true) (hv:runOp P (NE.plain 0) ih0 m2 (opAt ops k) (evV kn) H=some (v,H'))
  (hm:m≤m2) (hm2:(demO ops A bs k||ag')=true→H.next≤m2∨H1.next≤m2) (ha:((!demO ops A bs k||ag)&&(!ag'||ag))=true)
  (h:DA P ne m E n ops bs A H1 ls1 f (la.setIfInBounds k true) ag' (dropV d knA) (putV kn d (.val v)) ls H' Q):DAk P ne m E n ops bs A H1 ls1 k f la ag knA kn ls H Q:=by
 subst hdd
 rw [Bool.and_eq_true] at hB
 exact DA.actH m2 ag' ho hr hc hB.1 hv hB.2 hm hm2 ha h
theorem DA.actCD (k:Nat) (d:Option Nat) (m2:Nat) (ag':Bool) {v:Value} (g:Nat) (args:Array Value) (ho:ops[k]? = some (opAt ops k)) (hdd:(opAt ops k).dst=d) (hr:(Region.ready .any ops la).contains k=true) (hc:closedOk ops.toList bs=true) (hB:opV P n ops kn (opAt ops k)=true) (hcl:callV kn (opAt ops k)=some (g,args)) (hcs:CallS P ne m2 g args H v H')
  (hm:m≤m2) (hm2:(demO ops A bs k||ag')=true→H.next≤m2∨H1.next≤m2) (ha:((!demO ops A bs k||ag)&&(!ag'||ag))=true)
  (h:DA P ne m E n ops bs A H1 ls1 f (la.setIfInBounds k true) ag' (dropV d knA) (putV kn d (.val v)) ls H' Q):DAk P ne m E n ops bs A H1 ls1 k f la ag knA kn ls H Q:=by
 subst hdd
 exact DA.actC m2 ag' g args ho hr hc hB hcl hcs hm hm2 ha h
theorem zm {a:Addr} {i:Nat}:rdCells H a i 0=some []:=rfl
def deV:Value→Option Value:=some
theorem zsy {x:Value}:∀u,deV u=some x→u=x:=by
 intro u h; cases h; rfl
end Go.Abs
namespace Go.Abs
variable {P:Program} {ne:NE} {m n:Nat}
section
variable {E:Ent} {kn:KN} {ls:Lcs} {H:AH} {a:Act} {w:World} {φ:Inj} {cs:List Nat} {Q:Exit→Act→World→Prop}
def ldO (p:Nat) (t:TypeId):Oper:={ dst:=none,op:=.load t (.tmp p),type:=0,pos:=default,after:=#[],guard:=none }
def cellV (P:Program) (kn:KN) (ls:Lcs) (H:AH) (p:Nat) (t:TypeId):Option Value :=
 match lkV kn p with
 | some (.loc _ _)=>match locDet P kn ls (ldO p t) with
  | some (.val v)=>some v
  | _=>none
 | some (.val (.pointer (some q)))=>aLoad P t q H
 | _=>none
def resL (P:Program) (kn:KN) (ls:Lcs) (H:AH):List ResultVar→Option (List Value)
 | []=>some []
 | .tmp t :: l=>match lkV kn t,resL P kn ls H l with
  | some (.val u),some us=>some (u :: us)
  | _,_=>none
 | .cell p t :: l=>match cellV P kn ls H p t,resL P kn ls H l with
  | some u,some us=>some (u :: us)
  | _,_=>none
def resF (P:Program) (fn:Func) (kn:KN) (ls:Lcs) (H:AH):Option Value :=
 match resL P kn ls H fn.results.toList with
 | some [v]=>some v
 | some l=>some (.tuple l.toArray)
 | none=>none
def RT (P:Program) (ne:NE) (m:Nat) (E:Ent) (fn:Func) (v:Value) (H:AH) (a:Act) (w:World):Prop :=
 ∃n kn ls,SS P ne m E n kn ls H a w∧resF P fn kn ls H=some v
def retS (P:Program) (ne:NE) (m:Nat) (E:Ent) (fn:Func) (v:Value) (H:AH):Exit→Act→World→Prop
 | .normal,a,w | .ret,a,w=>RT P ne m E fn v H a w
 | _,_,_=>False
def argV:Nat→List Value→KN
 | _,[]=>[]
 | i,v :: l=>(i,.val v) :: argV (i+1) l
theorem zsk:∀(l:List Value) (i t:Nat) (kv:KV),lkV (argV i l) t=some kv→∃v,kv=.val v∧i≤t∧l[t - i]? = some v:=by
 intro l
 induction l with
 | nil=>intro i t kv h; cases h
 | cons v l ih =>
  intro i t kv h
  simp only [argV,lkV] at h
  cases hb:Nat.beq i t with
  | true =>
   rw [hb] at h
   have:=Nat.eq_of_beq_eq_true hb
   subst this
   cases h
   exact ⟨v,rfl,Nat.le_refl _,by simp⟩
  | false =>
   rw [hb] at h
   have hne:=Nat.ne_of_beq_eq_false hb
   obtain ⟨u,h1,h2,h3⟩:=ih _ _ _ h
   refine ⟨u,h1,by omega,?_⟩
   rw [show t - i=(t - (i+1))+1 by omega]
   simpa using h3
theorem zrg (hs:SSφ P ne m E n kn ls H a w φ cs) {p:Nat} {t:TypeId} {v:Value} (h:cellV P kn ls H p t=some v):∃v',(resV a.tmps (.cell p t)).run P w=.ok v' w∧VR φ v v':=by
 unfold cellV at h
 split at h
 ·rename_i i off hk
  split at h
  ·rename_i u hu
   simp only [Option.some.injEq] at h
   subst h
   obtain ⟨v',h1,h2⟩:=zmj hu (DC.mk hs.glob hs.inv (fun i c x h1 h2=>(hs.loc i c x h1 h2).2) hs.len) (fun t kv hl=>hs.slot t kv hl:KA φ cs kn a)
   refine ⟨v',?_,h1⟩
   have h3:=h2 w (agree.refl w)
   obtain ⟨c,_,hp⟩:=ze0 hs hk
   have he:a.eval (.tmp p)=.pointer (some ⟨c,off,none⟩):=hp
   simp only [ldO,execOp,he,Instr.loadAt,Instr.sureAddr,Sem.run_bind,Sem.run_pure,Result.andThen_ok] at h3
   simp only [resV,hp,asAddr,Sem.run_bind,Sem.run_pure,Result.andThen_ok]
   generalize (loadVar t ⟨c,off,none⟩).run P w=q at h3 ⊢
   cases q <;> simp [Result.andThen,Sem.run_pure] at h3
   obtain ⟨rfl,rfl⟩:=h3
   rfl
  ·cases h
 ·rename_i q hk
  have hp:=hs.slot p _ hk
  obtain ⟨q',hq2,hqa⟩:=VR.ptr_inv hp
  obtain ⟨v',h3,h4⟩:=zmk hs.inv h hqa
  refine ⟨v',?_,h4⟩
  simp only [resV,Sem.run_bind,hq2]
  exact h3
 ·cases h
theorem zs0 (hs:SSφ P ne m E n kn ls H a w φ cs):∀{l:List ResultVar} {vs:List Value},resL P kn ls H l=some vs→∃vs',(l.mapM (resV a.tmps)).run P w=.ok vs' w∧LR φ vs vs':=by
 intro l
 induction l with
 | nil=>intro vs h; simp only [resL,Option.some.injEq] at h; subst h; exact ⟨[],rfl,.nil⟩
 | cons r l ih =>
  intro vs h
  cases r with
  | tmp t =>
   simp only [resL] at h
   split at h
   ·rename_i u us h1 h2
    simp only [Option.some.injEq] at h
    subst h
    obtain ⟨vs',h3,h4⟩:=ih h2
    refine ⟨a.tmps.getD t undef :: vs',?_,.cons (hs.slot t _ h1) h4⟩
    rw [List.mapM_cons]
    have hA:(resV a.tmps (.tmp t)).run P w=.ok (a.tmps.getD t undef) w:=rfl
    simp only [Sem.run_bind,hA,Sem.run_pure,Result.andThen_ok,h3]
   ·cases h
  | cell p t =>
   simp only [resL] at h
   split at h
   ·rename_i u us h1 h2
    simp only [Option.some.injEq] at h
    subst h
    obtain ⟨vs',h3,h4⟩:=ih h2
    obtain ⟨v',h5,h6⟩:=zrg hs h1
    refine ⟨v' :: vs',?_,.cons h6 h4⟩
    rw [List.mapM_cons]
    simp only [Sem.run_bind,h5,Sem.run_pure,Result.andThen_ok,h3]
   ·cases h
theorem CallS.mk {f:Nat} {fn:Func} {B:Code} {args:List Value} {H H':AH} {v:Value} (hf:P.funcs[f]? = some fn) (hb:fn.body=some B) (h:∀E:Ent,E.H=H→WS P ne m E fn.ntmps B (argV 0 args) [] H (retS P ne m E fn v H')):CallS P ne m f args.toArray H v H':=by
 intro hS
 refine ⟨⟨fn,B,hf,hb⟩,fun φ w args' hg ha hi=>?_⟩
 have hent:SS P ne m ⟨φ,H,w⟩ fn.ntmps (argV 0 args) [] H { tmps:=args'++Array.replicate (fn.ntmps - args'.size) undef,defers:=[] } w:=by
  refine ⟨φ,[],hg,hi,Step.refl _ _ _ _,rfl,fun i c x hc=>(by cases hc),fun i j c hc=>(by cases hc),fun i c hc=>(by cases hc),fun t kv hl=>?_,by simp; omega,rfl,hS,hi⟩
  obtain ⟨v,rfl,_,h2⟩:=zsk _ _ _ _ hl
  rw [Nat.sub_zero] at h2
  have:args.toArray[t]? = some v:=by simpa using h2
  obtain ⟨y,hy,hv⟩:=ha.get this
  have hlt:t<args'.size:=by rw [Array.getElem?_eq_some_iff] at hy; exact hy.1
  show VR φ v _
  rw [Array.getD_eq_getD_getElem?,Array.getElem?_append,if_pos hlt,hy]
  exact hv
 have hw:=h ⟨φ,H,w⟩ rfl _ _ hent
 refine calls_of_wp hf hb (wp_mono hw fun e a w' hpost=>?_)
 have fin:RT P ne m ⟨φ,H,w⟩ fn v H' a w'→a.defers=[]∧∃v',(results fn a.tmps).run P w'=.ok v' w'∧(∃φ' v'',Ending.returned v'=.returned v''∧VR φ' v v''∧Inv φ' H' w'∧Step m φ H w φ' H' w'):=by
  rintro ⟨n,kn,ls,⟨φ',cs,hs⟩,hr⟩
  refine ⟨hs.defers,?_⟩
  have main:∃(vs vs':List Value),(fn.results.toList.mapM (resV a.tmps)).run P w'=.ok vs' w'∧LR φ' vs vs'∧v=(if h:vs.length=1 then vs[0]'(by omega) else .tuple vs.toArray):=by
   unfold resF at hr
   cases hl:resL P kn ls H' fn.results.toList with
   | none=>rw [hl] at hr; cases hr
   | some vs =>
    rw [hl] at hr
    obtain ⟨vs',h1,h2⟩:=zs0 hs hl
    refine ⟨vs,vs',h1,h2,?_⟩
    split at hr
    ·rename_i u he
     cases he
     cases hr
     rfl
    ·rename_i l hne he
     cases he
     cases hr
     rw [dif_neg ?_]
     intro h1
     match vs,h1 with
     | [u],_=>exact hne u rfl
    ·cases hr
  obtain ⟨vs,vs',h1,h2,h3⟩:=main
  have hm:(fn.results.mapM (resV a.tmps)).run P w'=.ok vs'.toArray w':=by
   rw [Array.mapM_eq_mapM_toList]
   show Sem.run P (List.toArray <$> _) w'=_
   rw [Sem.run_map,h1]; rfl
  have hlen:=LR.length h2
  have hres:(results fn a.tmps).run P w'=.ok (if h:vs'.toArray.size=1 then vs'.toArray[0] else .tuple vs'.toArray) w':=by
   rw [zkm,Sem.run_bind,hm,Result.andThen_ok]; rfl
  refine ⟨_,hres,φ',_,rfl,?_,hs.inv,hs.step⟩
  rw [h3]
  by_cases h1':vs.length=1
  ·rw [dif_pos h1',dif_pos (by simpa [← hlen] using h1')]
   cases h2 with
   | nil=>cases h1'
   | cons hv ht=>exact hv
  ·rw [dif_neg h1',dif_neg (by simpa [← hlen] using h1')]
   have:=AR_iff.2 (show LR φ' vs.toArray.toList vs'.toArray.toList by simpa using h2)
   exact .tuple _ _ this.1 this.2
 cases e with
 | normal=>exact fin hpost
 | ret=>exact fin hpost
 | _=>exact hpost.elim
theorem rtR {fn:Func} {v:Value} (h:RT P ne m E fn v H a w):retS P ne m E fn v H .ret a w:=h
theorem rtN {fn:Func} {v:Value} (h:RT P ne m E fn v H a w):retS P ne m E fn v H .normal a w:=h
theorem rtS {fn:Func} {v:Value} (hs:SS P ne m E n kn ls H a w) (h:resF P fn kn ls H=some v):RT P ne m E fn v H a w:=⟨n,kn,ls,hs,h⟩
theorem WS.toone {c:Code} (kn2:KN) (ls2:Lcs) (H2:AH) (h:WS P ne m E n c kn ls H (jnS P ne m E n kn2 ls2 H2 (fun _ _ _=>False))) (hN:∀a w,SS P ne m E n kn2 ls2 H2 a w→Q .normal a w):WS P ne m E n c kn ls H Q:=by
 refine fun a w hs=>wp_mono (h a w hs) fun e a w hq=>?_
 cases e with
 | normal=>exact hN a w hq
 | _=>exact hq.elim
end
end Go.Abs
namespace Go.Abs
variable {P:Program} {ne:NE} {m n:Nat}
def pureOp (P:Program) (o:Oper) (ρ:Operand→Value):Option Value :=
 match o.op with
 | .load ..=>none
 | .lookup ..=>none
 | _=>detOp P ⟨0,.nil⟩ o ρ
theorem zr6 {φ:Inj} {o:Oper} {ρ ρ':Operand→Value} {v:Value} (hρ:∀x∈o.op.operands,VR φ (ρ x) (ρ' x)) (h:pureOp P o ρ=some v) :
  ∃v',VR φ v v'∧∀w,(execOp ρ' o).run P w=.ok (.value v') w:=by
 have hnl:(∀t x,o.op≠.load t x)∧(∀t x k ok,o.op≠.lookup t x k ok)∧detOp P ⟨0,.nil⟩ o ρ=some v:=by
  unfold pureOp at h
  split at h
  ·cases h
  ·cases h
  ·rename_i q1 q2; exact ⟨fun t x e=>q1 t x e,fun t x k ok e=>q2 t x k ok e,h⟩
 clear h
 obtain ⟨n1,n2,h⟩:=hnl
 unfold detOp at h
 cases ht:tPure P o ρ with
 | some u =>
  rw [ht] at h
  simp only [Option.some.injEq] at h
  subst h
  obtain ⟨v',h1,h2⟩:=zhn hρ ht
  exact ⟨v',h1,h2⟩
 | none =>
  rw [ht] at h
  simp only at h
  have fl:(match flatRun P o ρ ⟨0,.nil⟩ with | some (v,_)=>some v | none=>none)=some v→(∀w,∀nx,(execOp ρ' o).run P w=.ok nx w→nx≠.skip)→∃v',VR φ v v'∧∀w,(execOp ρ' o).run P w=.ok (.value v') w:=by
   intro h hns
   cases hf:flatRun P o ρ ⟨0,.nil⟩ with
   | none=>rw [hf] at h; cases h
   | some p =>
    obtain ⟨u,H'⟩:=p
    rw [hf] at h
    simp only [Option.some.injEq] at h
    subst h
    obtain ⟨v',h1,h2⟩:=zo3 hρ hf hns
    exact ⟨v',h1,h2⟩
  obtain ⟨dst,op,ty,pos,after,guard⟩:=o
  simp only at h hρ n1 n2
  split at h
  ·exact (n1 _ _ rfl).elim
  ·exact (n2 _ _ _ _ rfl).elim
  ·rename_i x i
   have hx:=hρ x (by simp [Op.operands])
   split at h
   ·rename_i cs hc
    rw [hc] at hx
    generalize hq:ρ' x=q at hx
    cases hx with
    | tuple f f' hf h1 =>
     have hlt:i<f'.size:=by
      rw [Array.getElem?_eq_some_iff] at h
      obtain ⟨h,_⟩:=h
      omega
     refine ⟨f'[i],h1 i _ _ h (by simp [hlt]),fun w=>?_⟩
     have hrun:(Instr.extract (.tuple f') i).run P w=.ok f'[i] w:=by
      simp only [Instr.extract]
      simp [hlt]
     simp only [execOp,hq,Sem.run_bind,hrun,Result.andThen_ok]
     rfl
   ·cases h
  ·rename_i args ts
   split at h
   ·rename_i e b k c hu hl
    simp only [Option.some.injEq] at h
    subst h
    have hargs:AR φ (args.map ρ) (args.map ρ'):=ar_map args fun x hx=>hρ x (by simp [Op.operands,Call.operands,hx])
    obtain ⟨_,x',hx',hv⟩:=ar_one hargs hl
    obtain ⟨b',c',rfl⟩:=z6h hv
    refine ⟨goInt k,.int _ _,fun w=>?_⟩
    cases hts:ts[0]? with
    | none=>rw [hts] at hu; cases hu
    | some t =>
     rw [hts] at hu
     have hu:P.underlying t=some (.slice e):=hu
     have hrun:(Builtin.len_ ts ty (args.map ρ')).run P w=.ok (goInt k) w:=by
      rw [hx']
      simp [Builtin.len_,hts,z8 hu]
     show (do pure (Next.value (← Builtin.len_ ts ty (args.map ρ'))):Sem Next).run P w=_
     rw [Sem.run_bind,hrun]; rfl
   ·exact fl h fun w nx hr=>z10 (s:=Builtin.len_ ts ty (args.map ρ')) hr
  ·rename_i bo t x y u
   exact fl h fun w nx hr=>z10 (s:=(do eqGuard bo t x y (ρ' x) (ρ' y); binOp bo t (ρ' x) (ρ' y))) hr
  ·rename_i uo t x
   exact fl h fun w nx hr=>z10 (s:=Op.unary uo (ρ' x)) hr
  ·rename_i t ps
   exact fl h fun w nx hr=>z10 (s:=Instr.build t (ps.map fun (i,x)=>(i,ρ' x))) hr
  ·rename_i c x y
   exact fl h fun w nx hr=>by
    simp only [execOp,Sem.run_bind] at hr
    cases hb:(asBool (ρ' c)).run P w with
    | ok b w' =>
     rw [hb] at hr
     have:Result.ok (Next.value (if b then ρ' x else ρ' y)) w'=Result.ok nx w:=hr
     simp only [Result.ok.injEq] at this
     rw [← this.1]; intro e; cases e
    | halt z w'=>rw [hb] at hr; cases hr
  ·rename_i t x f
   exact fl h fun w nx hr=>z10 (s:=Instr.field t (ρ' x) f) hr
  ·rename_i t x y
   exact fl h fun w nx hr=>z10 (s:=Instr.index t (ρ' x) (ρ' y)) hr
  ·rename_i s d x
   split at h
   ·exact fl h fun w nx hr=>z10 (s:=convert s d (ρ' x)) hr
   ·exact fl h fun w nx hr=>z10 (s:=convert s d (ρ' x)) hr
   ·cases h
  ·cases h
variable {ops:Array Oper} {Q:Exit→Act→World→Prop} {bs A:List Nat} {w1:World}
theorem z9p {i:Nat} {oi:Oper} {v:Value} (hi:ops[i]? = some oi) (hc:closedOk ops.toList bs=true) (hsel:∀(j:Nat) (o:Oper) cs b,ops[j]? = some o→o.op≠.select cs b)
  (hQ:∀c a w,¬Q (.panic c) a w) :
  ∀(fuel:Nat) (la:Array Bool) (a:Act) (w:World),JC ops bs la →
   (∀j oj,ops[j]? = some oj→j≠i→la.getD j true=false→(∀e∈oj.after,Region.binds .any e=true→e.on≠i)→oi.apart ops oj=true) →
   i∈Region.ready .any ops la→YieldsIf P ops (fun _=>True) oi v a→demO ops A bs i=false →
   wpAnyD P ops Q bs A w1 fuel (la.setIfInBounds i true) (a.put oi.dst v) w→wpAnyD P ops Q bs A w1 (fuel+1) la a w:=by
 intro fuel
 induction fuel with
 | zero =>
  intro la a w hJ _ hr hy hS H
  refine ⟨fun h=>(by rw [h] at hr; cases hr),fun j hj=>?_⟩
  by_cases hji:j=i
  ·subst hji; exact hy.wpOp hi trivial ⟨fun hh=>(by rw [hS] at hh; cases hh),H⟩
  ·have:=ready_mono hj hji
   rw [H.1] at this
   cases this
 | succ fuel ih =>
  intro la a w hJ hfree hr hy hS H
  refine ⟨fun h=>(by rw [h] at hr; cases hr),fun j hj=>?_⟩
  by_cases hji:j=i
  ·subst hji; exact hy.wpOp hi trivial ⟨fun hh=>(by rw [hS] at hh; cases hh),H⟩
  ·have h1:=H.2 j (ready_mono hj hji)
   have r:=rdy_of hc hJ hj
   have ri:=rdy_of hc hJ hr
   obtain ⟨hjun,oj,hoj,hall⟩:=mem_ready.1 hj
   have hnot:∀e∈oj.after,Region.binds .any e=true→e.on≠i:=fun e he hb heq=>by
    have h1:=hall e he hb
    have h0:=(mem_ready.1 hr).1
    rw [heq] at h1
    rcases Nat.lt_or_ge i la.size with h' | h'
    ·simp [h'] at h0 h1; rw [h0] at h1; cases h1
    ·simp [Array.getElem?_eq_none h'] at h1
   have h2:=wpOp_putIf hoj (hfree j oj hoj hji hjun hnot) (fun cs b=>hsel i oi cs b hi) (fun cs b=>hsel j oj cs b hoj) (fun c a w h=>absurd h (hQ c _ w)) hy h1
   have hfree':∀k ok,ops[k]? = some ok→k≠i→(la.setIfInBounds j true).getD k true=false →
     (∀e∈ok.after,Region.binds .any e=true→e.on≠i)→oi.apart ops ok=true:=fun k ok hk hki hun hno=>by
    refine hfree k ok hk hki ?_ hno
    by_cases hjk:j=k
    ·subst hjk; exact hjun
    ·rw [getD_set_ne true hjk] at hun; exact hun
   refine wpOp_mono (fun a' w' h3=>⟨h3.2.1,ih (la.setIfInBounds j true) a' w' (hJ.next r) hfree' (ready_mono hr (Ne.symm hji)) h3.1 hS ?_⟩) h2
   rw [Array.setIfInBounds_comm _ _ hji]
   exact h3.2.2
theorem zpv {φ1:Inj} {cs1:List Nat} {knA:KN} {ls1:Lcs} {a:Act} {o:Oper} {kv:KV} (hnl:∀t x,o.op≠.load t x) (h:locDet P knA ls1 o=some kv) (hka:KA φ1 cs1 knA a):∃v',KR φ1 cs1 kv v'∧∀w,(execOp a.eval o).run P w=.ok (.value v') w:=by
 unfold locDet at h
 have hl:∃ls',locOp P knA ls1 o=some (kv,ls'):=by
  split at h
  all_goals first | (cases hq:locOp P knA ls1 o with | none=>rw [hq] at h; cases h | some p=>obtain ⟨x,y⟩:=p; rw [hq] at h; simp only [Option.map_some,Option.some.injEq] at h; subst h; exact ⟨y,rfl⟩) | cases h
 obtain ⟨ls',hl⟩:=hl
 obtain ⟨dst,op,ty,pos,after,guard⟩:=o
 unfold locOp at hl
 simp only at hl h hnl
 split at hl
 ·rename_i t
  split at hl
  ·rename_i i off hk
   simp only [Option.some.injEq,Prod.mk.injEq] at hl
   obtain ⟨rfl,rfl⟩:=hl
   exact ⟨a.tmps.getD t undef,hka t _ hk,fun w=>rfl⟩
  ·cases hl
 ·rename_i t
  split at hl
  ·rename_i i off hk
   simp only [Option.some.injEq,Prod.mk.injEq] at hl
   obtain ⟨rfl,rfl⟩:=hl
   exact ⟨a.tmps.getD t undef,hka t _ hk,fun w=>rfl⟩
  ·cases hl
 ·rename_i t
  split at hl
  ·rename_i i off hk
   simp only [Option.some.injEq,Prod.mk.injEq] at hl
   obtain ⟨rfl,rfl⟩:=hl
   refine ⟨a.tmps.getD t undef,hka t _ hk,fun w=>?_⟩
   obtain ⟨c,h1,h2⟩:=hka t _ hk
   have:a.eval (.tmp t)=.pointer (some ⟨c,off,none⟩):=h2
   simp only [execOp,this]
   rw [h2]; rfl
  ·cases hl
 ·rename_i s t f
  split at hl
  ·rename_i i off fs hk hu
   cases hf:fs[f]? with
   | none=>rw [hf] at hl; cases hl
   | some fd =>
    rw [hf] at hl
    simp only at hl
    cases hi:P.info? fd.type with
    | none=>rw [hi] at hl; cases hl
    | some inf =>
     rw [hi] at hl
     simp only at hl
     cases hz:Nat.beq inf.size 0 with
     | true=>rw [hz] at hl; cases hl
     | false =>
      rw [hz] at hl
      simp only [cond_false,Option.some.injEq,Prod.mk.injEq] at hl
      obtain ⟨rfl,rfl⟩:=hl
      obtain ⟨c,h1,h2⟩:=hka t _ hk
      have he:a.eval (.tmp t)=.pointer (some ⟨c,off,none⟩):=h2
      refine ⟨.pointer (some ⟨c,off+fd.offset,none⟩),⟨c,h1,rfl⟩,fun w=>?_⟩
      have hne:=Nat.ne_of_beq_eq_false hz
      have hrun:(Instr.fieldAt s (.pointer (some ⟨c,off,none⟩)) f).run P w=.ok (.pointer (some ⟨c,off+fd.offset,none⟩)) w:=by
       simp only [Instr.fieldAt,Sem.run_bind,z8 hu,Result.andThen_ok,hf,Instr.sureAddr,Sem.run_pure,fieldPlace,zw hi]
       rw [if_neg hne]
       simp only [Sem.run_pure,Result.andThen_ok,Addr.add_lit]
      simp only [execOp,he,Sem.run_bind,hrun,Result.andThen_ok]
      rfl
  ·cases hl
 ·exact (hnl _ _ rfl).elim
 all_goals first | (simp only [reduceCtorEq] at h; done) | (cases hl; done)
section
variable {E:Ent} {knA kn:KN} {ls ls1:Lcs} {H H1:AH} {f k:Nat} {la:Array Bool} {ag:Bool}
def takeQ (P:Program) (n:Nat) (ops:Array Oper) (A bs:List Nat) (la:Array Bool) (k:Nat) (o:Oper):Bool :=
 !(demO ops A bs k)&&Region.noSelect ops&&Region.free .any ops la k&&(Region.ready .any ops la).contains k&&dstV n o
theorem DA.takeP (k:Nat) (d:Option Nat) (v:Value) (ho:ops[k]? = some (opAt ops k)) (hd:(opAt ops k).dst=d) (hB:takeQ P n ops A bs la k (opAt ops k)=true) (hc:closedOk ops.toList bs=true) (hQ:∀c a w,¬Q (.panic c) a w)
  (hw:(wantV ops kn (opAt ops k),(opAt ops k).op.operands.all (okx P),(opAt ops k).op.operands.all (knownV kn))=(some true,true,true)) (hv:pureOp P (opAt ops k) (evV kn)=some v)
  (h:DA P ne m E n ops bs A H1 ls1 f (la.setIfInBounds k true) ag (dropV d knA) (putV kn d (.val v)) ls H Q):DA P ne m E n ops bs A H1 ls1 (f+1) la ag knA kn ls H Q:=by
 subst hd
 intro w1 φ1 cs1 a w φ cs hd hle hs hka hpf hJ hag
 unfold takeQ at hB
 simp only [Bool.and_eq_true] at hB
 obtain ⟨⟨⟨⟨b1,b2⟩,b3⟩,b4⟩,b5⟩:=hB
 have hr:k∈Region.ready .any ops la:=by simpa using b4
 simp only [Prod.mk.injEq] at hw
 obtain ⟨hw1,hw2,hw3⟩:=hw
 rw [Array.all_eq_true_iff_forall_mem] at hw2 hw3
 obtain ⟨v',h1,h2⟩:=zr6 (ρ':=a.eval) (fun x hx=>hs.eval (hw3 x hx) (hw2 x hx)) hv
 refine z9p ho hc (Region.noSelect_spec b2) hQ f la a w hJ (Region.free_spec ho b3) hr (.inl ⟨z1n hs hw1,fun w _=>h2 w⟩) (by simpa using b1) ?_
 exact h w1 φ1 cs1 _ w φ cs hd hle (hs.put b5 h1) (hka.drop _ _) hpf (hJ.next (rdy_of hc hJ hr)) hag
theorem DA.takePL (k:Nat) (d:Option Nat) (kv:KV) (ho:ops[k]? = some (opAt ops k)) (hd:(opAt ops k).dst=d) (hB:takeQ P n ops A bs la k (opAt ops k)=true) (hc:closedOk ops.toList bs=true) (hQ:∀c a w,¬Q (.panic c) a w)
  (hw:wantV ops kn (opAt ops k)=some true) (hv:(match (opAt ops k).op with | .load ..=>none | _=>locDet P kn ls (opAt ops k))=some kv)
  (h:DA P ne m E n ops bs A H1 ls1 f (la.setIfInBounds k true) ag (dropV d knA) (putV kn d kv) ls H Q):DA P ne m E n ops bs A H1 ls1 (f+1) la ag knA kn ls H Q:=by
 subst hd
 intro w1 φ1 cs1 a w φ cs hd hle hs hka hpf hJ hag
 unfold takeQ at hB
 simp only [Bool.and_eq_true] at hB
 obtain ⟨⟨⟨⟨b1,b2⟩,b3⟩,b4⟩,b5⟩:=hB
 have hr:k∈Region.ready .any ops la:=by simpa using b4
 have hv2:locDet P kn ls (opAt ops k)=some kv:=by
  split at hv
  ·cases hv
  ·exact hv
 have hnl:∀t x,(opAt ops k).op≠.load t x:=by
  intro t x e
  rw [e] at hv
  cases hv
 obtain ⟨v',h1,h2⟩:=zpv hnl hv2 (fun t kv hl=>hs.slot t kv hl:KA φ cs kn a)
 refine z9p ho hc (Region.noSelect_spec b2) hQ f la a w hJ (Region.free_spec ho b3) hr (.inl ⟨z1n hs hw,fun w _=>h2 w⟩) (by simpa using b1) ?_
 exact h w1 φ1 cs1 _ w φ cs hd hle (hs.put b5 h1) (hka.drop _ _) hpf (hJ.next (rdy_of hc hJ hr)) hag
theorem DA.tskipP (k:Nat) (d:Option Nat) (ho:ops[k]? = some (opAt ops k)) (hd:(opAt ops k).dst=d) (hB:takeQ P n ops A bs la k (opAt ops k)=true) (hc:closedOk ops.toList bs=true) (hQ:∀c a w,¬Q (.panic c) a w) (hw:wantV ops kn (opAt ops k)=some false)
  (h:DA P ne m E n ops bs A H1 ls1 f (la.setIfInBounds k true) ag (dropV d knA) (putV kn d (.val undef)) ls H Q):DA P ne m E n ops bs A H1 ls1 (f+1) la ag knA kn ls H Q:=by
 subst hd
 intro w1 φ1 cs1 a w φ cs hd hle hs hka hpf hJ hag
 unfold takeQ at hB
 simp only [Bool.and_eq_true] at hB
 obtain ⟨⟨⟨⟨b1,b2⟩,b3⟩,b4⟩,b5⟩:=hB
 have hr:k∈Region.ready .any ops la:=by simpa using b4
 refine z9p (v:=undef) ho hc (Region.noSelect_spec b2) hQ f la a w hJ (Region.free_spec ho b3) hr (.inr ⟨z1n hs hw,rfl⟩) (by simpa using b1) ?_
 exact h w1 φ1 cs1 _ w φ cs hd hle (hs.put b5 (kv:=.val undef) (z20 _)) (hka.drop _ _) hpf (hJ.next (rdy_of hc hJ hr)) hag
end
def notRead (o:Oper):Bool:=match o.op with
 | .load ..=>false
 | .lookup ..=>false
 | _=>true
theorem zr2 {o:Oper} {ρ:Operand→Value} {v:Value} (hn:notRead o=true) (h:detOp P ⟨0,.nil⟩ o ρ=some v):pureOp P o ρ=some v:=by
 unfold pureOp
 unfold notRead at hn
 split
 ·rename_i e; rw [e] at hn; cases hn
 ·rename_i e; rw [e] at hn; cases hn
 ·exact h
theorem det_strcat {o:Oper} {ρ:Operand→Value} {H:AH} {t u:TypeId} {x y:Operand} {a b c:ByteArray} (hop:o.op=.binOp .add t x y u) (hx:ρ x=.string a) (hy:ρ y=.string b) (h:strcat a b=some c):detOp P H o ρ=some (.string c):=by
 obtain ⟨dst,op,ty,pos,after,guard⟩:=o
 simp only at hop
 subst hop
 unfold strcat at h
 rcases z0 h with ⟨_,h⟩ | ⟨hp,h⟩
 ·cases h
 ·cases h
  have hp':peval P (execOp ρ { dst,op:=.binOp .add t x y u,type:=ty,pos,after,guard })=some (.value (.string (a++b))):=by
   simp only [execOp,hx,hy,eqGuard,binOp,Op.stringOp,hp,if_false,bind,Pure.pure]
   rfl
  simp only [detOp,tPure,flatRun,Op.operands,hp',hx,hy]
  simp [hx,hy,flat,asVal]
end Go.Abs
namespace Go.Abs
variable {P:Program} {ne:NE} {m n:Nat}
variable {E:Ent} {kn knA:KN} {ls ls1:Lcs} {H H1 H':AH} {ops:Array Oper} {k:Nat} {Q:Exit→Act→World→Prop} {bs A:List Nat} {f:Nat} {la:Array Bool} {ag:Bool}
def bsB (P:Program) (t:TypeId) (len:Nat) (ps:Array (Nat×Value)):Option (TypeId×List Value) :=
 match P.underlying t with
 | some (.slice e)=>match P.info? e with
  | some inf=>match inf.zero with
   | some z=>bif Nat.ble (len*inf.size) 1000000&&flat depth z&&!(Nat.beq (len*inf.size) 0)&&Nat.blt len OPEN then
     (Instr.fill (fun i=>some (i*inf.size,inf.size)) ((Array.range (len*inf.size)).map (z.cells[· % z.cells.size]!)) ps.toList).map fun cs=>(e,cs.toList)
    else none
   | none=>none
  | none=>none
 | _=>none
theorem bs_run {φ:Inj} {t:TypeId} {len:Nat} {ps ps':Array (Nat×Value)} {e:TypeId} {l:List Value} (h:bsB P t len ps=some (e,l)) (hp:F2 (PR φ) ps.toList ps'.toList) (w:World) :
  len≠OPEN∧∃cs',(Instr.buildSlice t len ps').run P w=.ok (.slice (some ⟨w.heap.size,0,none⟩) len len) { w with heap:=w.heap.push (.cells cs' e (0,0)) }∧AR φ l.toArray cs':=by
 unfold bsB at h
 split at h
 ·rename_i el hu
  cases hi:P.info? el with
  | none=>rw [hi] at h; cases h
  | some inf =>
   rw [hi] at h
   simp only at h
   cases hz:inf.zero with
   | none=>rw [hz] at h; cases h
   | some z =>
    rw [hz] at h
    simp only at h
    cases hc:(Nat.ble (len*inf.size) 1000000&&flat depth z&&!(Nat.beq (len*inf.size) 0)&&Nat.blt len OPEN) with
    | false=>rw [hc] at h; cases h
    | true =>
     rw [hc] at h
     simp only [cond_true] at h
     simp only [Bool.and_eq_true] at hc
     obtain ⟨⟨⟨c1,c2⟩,c3⟩,c4⟩:=hc
     have c1:=Nat.le_of_ble_eq_true c1
     have c3:len*inf.size≠0:=by
      intro e0
      rw [e0] at c3
      cases c3
     have c4:=blt_lt c4
     refine ⟨fun e0=>by rw [e0] at c4; exact absurd c4 (Nat.lt_irrefl _),?_⟩
     have hzc:AR φ z.cells z.cells:=z1k c2
     rcases zie (φ:=φ) (fun i=>some (i*inf.size,inf.size)) _ _ _ _ hp (zbq hzc (len*inf.size)) with ⟨e1,e2⟩ | ⟨o,o',e1,e2,ho⟩
     ·rw [e1] at h; cases h
     ·rw [e1] at h
      simp only [Option.map_some,Option.some.injEq,Prod.mk.injEq] at h
      obtain ⟨rfl,rfl⟩:=h
      refine ⟨o',?_,by simpa using ho⟩
      have hzr:(zeroValue el).run P w=.ok z w:=z64 (by rw [hi]; exact hz) w
      unfold Instr.buildSlice
      simp only [Sem.run_bind,z8 hu,Result.andThen_ok,zw hi]
      rw [if_neg (by omega),if_neg c3]
      simp only [Sem.run_bind,hzr,Result.andThen_ok,Sem.run_pure,e2]
      rfl
 ·cases h
def lsBS (P:Program) (kn:KN) (ls:Lcs) (o:Oper):Option (KV×Lcs) :=
 match o.op with
 | .buildSlice t len ps=>match bsB P t len (ps.map fun (i,x)=>(i,evV kn x)) with
  | some (e,l)=>some (.sli ls.length len,ls++[some (e,l)])
  | none=>none
 | _=>none
theorem DA.actS (k:Nat) (d:Option Nat) (kv:KV) (ls':Lcs) (ho:ops[k]? = some (opAt ops k)) (hdd:(opAt ops k).dst=d) (hr:(Region.ready .any ops la).contains k=true) (hc:closedOk ops.toList bs=true) (hB:opV P n ops kn (opAt ops k)=true) (hl:lsBS P kn ls (opAt ops k)=some (kv,ls'))
  (ha:(!demO ops A bs k||ag)=true)
  (h:DA P ne m E n ops bs A H1 ls1 f (la.setIfInBounds k true) ag (dropV d knA) (putV kn d kv) ls' H Q):DAk P ne m E n ops bs A H1 ls1 k f la ag knA kn ls H Q:=by
 subst hdd
 intro w1 φ1 cs1 a w φ cs hd1 hle hs hka hpf hJ hag
 unfold opV at hB
 simp only [Bool.and_eq_true] at hB
 obtain ⟨⟨⟨hg,hx⟩,hkn⟩,hd⟩:=hB
 rw [Array.all_eq_true_iff_forall_mem] at hkn hx
 have hw:wantV ops kn (opAt ops k)=some true:=by
  split at hg
  ·assumption
  ·cases hg
 refine zbv ho hs hw fun K hK=>?_
 have hev:∀x∈(opAt ops k).op.operands,VR φ (evV kn x) (a.eval x):=fun x hxm=>hs.eval (hkn x hxm) (hx x hxm)
 have hh:=h w1 φ1 cs1
 obtain ⟨oo,hoo⟩:∃oo,opAt ops k=oo:=⟨_,rfl⟩
 rw [hoo] at hl hd hev hh ⊢
 obtain ⟨dst,op,ty,pos,after,guard⟩:=oo
 unfold lsBS at hl
 simp only at hl hd
 cases op with
 | buildSlice t len ps =>
  simp only at hl
  cases hb:bsB P t len (ps.map fun (i,x)=>(i,evV kn x)) with
  | none=>rw [hb] at hl; cases hl
  | some p =>
   obtain ⟨e,l⟩:=p
   rw [hb] at hl
   simp only [Option.some.injEq,Prod.mk.injEq] at hl
   obtain ⟨rfl,rfl⟩:=hl
   obtain ⟨hno,cs',hrun,har⟩:=bs_run hb (zia ps (ρ:=evV kn) (ρ':=a.eval) hev) w
   obtain ⟨cs2,hs2,hp2,hq2,hn2⟩:=hs.new (e:=e) (v:=.agg l.toArray) (v':=.agg cs') (.agg _ _ har.1 har.2) (d:=none) rfl
   have hs3:=hs2.put (d:=dst) hd (kv:=.sli ls.length len) (v':=.slice (some ⟨w.heap.size,0,none⟩) len len) ⟨⟨_,hq2,rfl⟩,hno⟩
   have hex:(execOp a.eval ⟨dst,.buildSlice t len ps,ty,pos,after,guard⟩).run P w=.ok (.value (.slice (some ⟨w.heap.size,0,none⟩) len len)) { w with heap:=w.heap.push (.cells cs' e (0,0)) }:=by
    simp only [execOp,Sem.run_bind,hrun,Result.andThen_ok]; rfl
   unfold Oper.wp
   rw [hex]
   have hag':ag=true→Agr m H1 w1 cs1 φ { w with heap:=w.heap.push (.cells cs' e (0,0)) } cs2:=fun h1=>by
    obtain ⟨q1,q2,q3⟩:=hag h1
    refine ⟨q1.trans' (zaq _ _),q2,fun i c hi hc=>?_⟩
    rcases Nat.lt_or_ge i cs.length with hlt | hge
    ·rw [hp2 i cs[i] (List.getElem?_eq_getElem hlt)] at hc
     cases hc
     exact q3 i _ hi (List.getElem?_eq_getElem hlt)
    ·exact Nat.le_trans (zas q1) (hn2 i c hge hc)
   refine hK _ _ ⟨fun hdm=>(hag' (by rw [hdm] at ha; simpa using ha)).ag,?_⟩
   exact hh _ _ φ cs2 hd1 hle (by simpa [putV,Act.put,Value.cells] using hs3) (by simpa using hka.drop dst _) (fun i c hc=>hp2 i c (hpf i c hc)) (zem hr hc hJ) hag'
 | _=>cases hl
def newS (e:TypeId) (cells:List Value) (H:AH):Option (Nat×AH):=some (H.next,H.push (pubB e cells))
theorem DA.pubK (i:Nat) {e:TypeId} {cells:List Value} {id:Nat} (kn':KN) (ls':Lcs) (hx:newS e cells H=some (id,H')) (hi:ls[i]? = some (some (e,cells))) (hk:pubK i id kn=kn') (hl:ls.set i none=ls')
  (h:DAk P ne m E n ops bs A H1 ls1 k f la ag knA kn' ls' H' Q) (hnw:(!ag||Nat.ble ls1.length i)=true:=by kernel_rfl):DAk P ne m E n ops bs A H1 ls1 k f la ag knA kn ls H Q:=by
 cases hx
 subst hk hl
 intro w1 φ1 cs1 a w φ cs hd1 hle hs hka hpf hJ hag
 obtain ⟨φ',h1,h3,h2⟩:=hs.pub i hi
 refine h w1 φ1 cs1 a w φ' cs hd1 (fun id l hl=>h1 _ _ (hle _ _ hl)) h2 hka hpf hJ fun hg=>⟨(hag hg).ag,fun id l hid hl=>?_,(hag hg).nw⟩
 rcases h3 id l hl with h4 | h4
 ·exact (hag hg).jn id l hid h4
 ·rw [hg] at hnw
  exact (hag hg).nw i _ (by rw [hd1.len]; simpa using hnw) h4
theorem WS.pubS (i:Nat) {e:TypeId} {cells:List Value} {id:Nat} (kn':KN) (ls':Lcs) (hx:newS e cells H=some (id,H')) (hi:ls[i]? = some (some (e,cells))) (hk:pubK i id kn=kn') (hl:ls.set i none=ls')
  (h:∀a w,SS P ne m E n kn' ls' H' a w→Q .normal a w):∀a w,SS P ne m E n kn ls H a w→Q .normal a w:=by
 cases hx
 subst hk hl
 exact fun a w hs=>h a w (hs.pub i hi)
def isScope:Code→Bool | .scope _=>true | _=>false
theorem WS.scope {c:Code} (hc:isScope c=true) (h:WS P ne m E n (cfst c) kn ls H (Exit.noGoto Q)):WS P ne m E n c kn ls H Q:=by
 cases c with
 | scope b=>exact fun a w hs=>wp_scope_straight (h a w hs)
 | _=>cases hc
theorem sgR {a:Act} {w:World} (h:Q .ret a w):Exit.noGoto Q .ret a w:=h
section
variable {S R:Type} {knOf:S→KN} {lsOf:S→Lcs} {hOf:S→AH} {i:Nat} {QR:R→Exit→Act→World→Prop} {a:Act} {w:World}
def lpX (P:Program) (ne:NE) (m:Nat) (E:Ent) (n:Nat) (knOf:S→KN) (lsOf:S→Lcs) (hOf:S→AH) (i:Nat) (QR:R→Exit→Act→World→Prop) (o:Lp S R):Exit→Act→World→Prop
 | .normal,a,w=>∃s,o=.next s∧SS P ne m E n (knOf s) (lsOf s) (hOf s) a w
 | e,a,w=>(∃s,o=.brk s∧e=.exit i∧SS P ne m E n (knOf s) (lsOf s) (hOf s) a w)∨∃r,o=.ret r∧QR r e a w
theorem lxB {o:Lp S R} {s:S} (ho:o=.brk s) (h:SS P ne m E n (knOf s) (lsOf s) (hOf s) a w):lpX P ne m E n knOf lsOf hOf i QR o (.exit i) a w:=.inl ⟨s,ho,rfl,h⟩
theorem zpz {c:Code} {body:S→Option (Lp S R)}
  (hbody:∀s o,body s=some o→WS P ne m E n c (knOf s) (lsOf s) (hOf s) (lpX P ne m E n knOf lsOf hOf i QR o)) :
  ∀(k:Nat) (s:S) (o:S⊕R),iterO body k s=some o→∀{Q:Exit→Act→World→Prop},(∀s',o=.inl s'→∀a w,SS P ne m E n (knOf s') (lsOf s') (hOf s') a w→Q (.exit i) a w)→(∀r,o=.inr r→∀e a w,QR r e a w→Q e a w) →
   ∀a w,SS P ne m E n (knOf s) (lsOf s) (hOf s) a w→Code.rounds P c Q k a w:=by
 intro k
 induction k with
 | zero=>intro s o h; cases h
 | succ k ih =>
  intro s o h Q h1 h2 a w hs
  rw [rounds_succ]
  simp only [iterO] at h
  cases hb:body s with
  | none=>rw [hb] at h; cases h
  | some l =>
   rw [hb] at h
   have other:∀e a' w',((∃s,l=.brk s∧e=.exit i∧SS P ne m E n (knOf s) (lsOf s) (hOf s) a' w')∨∃r,l=.ret r∧QR r e a' w')→Q e a' w':=by
    rintro e a' w' (⟨s',rfl,rfl,hs'⟩ | ⟨r,rfl,hr⟩)
    ·simp only [Option.some.injEq] at h
     exact h1 s' h.symm a' w' hs'
    ·simp only [Option.some.injEq] at h
     exact h2 r h.symm _ a' w' hr
   refine wp_mono (hbody s l hb a w hs) fun e a' w' hq=>?_
   cases e with
   | normal =>
    obtain ⟨s',rfl,hs'⟩:=hq
    exact ih s' o h h1 h2 a' w' hs'
   | _=>exact other _ a' w' hq
theorem WS.loopX_ {c:Code} (hc:isLoop c=true) (body:S→Option (Lp S R)) (knOf:S→KN) (lsOf:S→Lcs) (hOf:S→AH) (i:Nat) (QR:R→Exit→Act→World→Prop)
  (hbody:∀s o,body s=some o→WS P ne m E n (cfst c) (knOf s) (lsOf s) (hOf s) (lpX P ne m E n knOf lsOf hOf i QR o)) {s:S} {o:S⊕R} (hl:loopO body s=some o) (k:Nat) (hsub:SubV (knOf s) kn) (hls:ls.take k=lsOf s) (hbl:belowL k (knOf s)=true) (hH:H=hOf s)
  (h1:∀s',o=.inl s'→∀a w,SS P ne m E n (knOf s') (lsOf s') (hOf s') a w→Q (.exit i) a w) (h2:∀r,o=.inr r→∀e a w,QR r e a w→Q e a w):WS P ne m E n c kn ls H Q:=by
 cases c with
 | loop body' =>
  intro a w hs
  obtain ⟨k',hk⟩:=zhr.1 hl
  subst hH
  exact wp_loop_rounds k' (zpz hbody k' s o hk h1 h2 a w (hs.sub hsub k hls hbl))
 | _=>cases hc
theorem WS.loopXI {c:Code} (hc:isLoop c=true) (body:S→Option (Lp S R)) (knOf:S→KN) (lsOf:S→Lcs) (hOf:S→AH) (i:Nat) (QR:R→Exit→Act→World→Prop)
  (hbody:∀s o,body s=some o→WS P ne m E n (cfst c) (knOf s) (lsOf s) (hOf s) (lpX P ne m E n knOf lsOf hOf i QR o)) {s s':S} (hl:loopO body s=some (.inl s')) (k:Nat) (hsub:SubV (knOf s) kn) (hls:ls.take k=lsOf s) (hbl:belowL k (knOf s)=true) (hH:H=hOf s)
  (h1:∀a w,SS P ne m E n (knOf s') (lsOf s') (hOf s') a w→Q (.exit i) a w):WS P ne m E n c kn ls H Q :=
 WS.loopX_ hc body knOf lsOf hOf i QR hbody hl k hsub hls hbl hH (fun s2 e=>by cases e; exact h1) (fun r e=>by cases e)
theorem WS.loopXR {c:Code} (hc:isLoop c=true) (body:S→Option (Lp S R)) (knOf:S→KN) (lsOf:S→Lcs) (hOf:S→AH) (i:Nat) (QR:R→Exit→Act→World→Prop)
  (hbody:∀s o,body s=some o→WS P ne m E n (cfst c) (knOf s) (lsOf s) (hOf s) (lpX P ne m E n knOf lsOf hOf i QR o)) {s:S} {r:R} (hl:loopO body s=some (.inr r)) (k:Nat) (hsub:SubV (knOf s) kn) (hls:ls.take k=lsOf s) (hbl:belowL k (knOf s)=true) (hH:H=hOf s)
  (h2:∀e a w,QR r e a w→Q e a w):WS P ne m E n c kn ls H Q :=
 WS.loopX_ hc body knOf lsOf hOf i QR hbody hl k hsub hls hbl hH (fun s2 e=>by cases e) (fun r2 e=>by cases e; exact h2)
end
def gOp {α:Type} (P:Program) (m:Nat) (ops:Array Oper) (k:Nat) (kn:KN) (de:Value→Option α) (H:AH):Option (α×AH) :=
 match runOp P (NE.plain 0) ih0 m (opAt ops k) (evV kn) H with
 | some (v,H')=>(de v).map fun x=>(x,H')
 | none=>none
theorem ze3 {α:Type} {knS:KN} {de:Value→Option α} {x:α} {v:Value} (hx:gOp P m ops k knS de H=some (x,H')) (hv:∀u,de u=some x→u=v) (he:runOp P (NE.plain 0) ih0 m (opAt ops k) (evV knS) H=runOp P (NE.plain 0) ih0 m (opAt ops k) (evV kn) H):runOp P (NE.plain 0) ih0 m (opAt ops k) (evV kn) H=some (v,H'):=by
 rw [← he]
 unfold gOp at hx
 split at hx
 ·rename_i u H1 hu
  cases hd:de u with
  | none=>rw [hd] at hx; cases hx
  | some y =>
   rw [hd] at hx
   simp only [Option.map_some,Option.some.injEq,Prod.mk.injEq] at hx
   obtain ⟨rfl,rfl⟩:=hx
   rw [hu,hv u hd]
 ·cases hx
def gOp1 {α:Type} (P:Program) (ops:Array Oper) (k:Nat) (kn:KN) (de:Value→Option α) (H:AH):Option α :=
 (gOp P 0 ops k kn de H).map (·.1)
theorem zjp {α:Type} {knS:KN} {de:Value→Option α} {x:α} {v:Value} (hx:gOp1 P ops k knS de H=some x) (hv:∀u,de u=some x→u=v) (hq:quiet P (opAt ops k)=true) (he:runOp P (NE.plain 0) ih0 0 (opAt ops k) (evV knS) H=runOp P (NE.plain 0) ih0 m (opAt ops k) (evV kn) H):runOp P (NE.plain 0) ih0 m (opAt ops k) (evV kn) H=some (v,H):=by
 unfold gOp1 at hx
 cases hg:gOp P 0 ops k knS de H with
 | none=>rw [hg] at hx; cases hx
 | some p =>
  obtain ⟨y,H1⟩:=p
  rw [hg] at hx
  simp only [Option.map_some,Option.some.injEq] at hx
  subst hx
  rw [← he]
  have h1:runOp P (NE.plain 0) ih0 0 (opAt ops k) (evV knS) H=some (v,H1):=ze3 hg hv rfl
  rw [h1,zle hq h1]
theorem RS.esc {f:Nat} (d:Option Nat) (v:Value) (ho:ops[k]? = some (opAt ops k)) (hd:(opAt ops k).dst=d) (hB:opV P n ops kn (opAt ops k)=true) (hr:runOp P (NE.plain f) ih0 m (opAt ops k) (evV kn) H=some (v,H'))
  (h:RS P (NE.plain f) m E n ops (k+1) (putV kn d (.val v)) ls H' Q):RS P (NE.plain f) m E n ops k kn ls H Q:=by
 subst hd
 intro a w hs
 obtain ⟨φ,cs,hs⟩:=hs
 unfold opV at hB
 simp only [Bool.and_eq_true] at hB
 obtain ⟨⟨⟨hg,hx⟩,hkn⟩,hd⟩:=hB
 rw [Array.all_eq_true_iff_forall_mem] at hkn hx
 have hw:wantV ops kn (opAt ops k)=some true:=by
  split at hg
  ·assumption
  ·cases hg
 rw [z77 ho,wpOps_cons]
 unfold wpOp
 rw [ho]
 simp only [z1n hs hw,if_true]
 left
 refine z63 hs.sane zjo hr hs.glob (fun x hxm=>hs.eval (hkn x hxm) (hx x hxm)) hs.inv fun φ' v' w' h1 h2 h3=>?_
 exact h _ _ ⟨φ',cs,(hs.heap h2 h3).put hd h1⟩
end Go.Abs
namespace Go.Abs
variable {P:Program} {m:Nat}
open Go.RowKit in
theorem zne {ne:NE} (hS:Sane P ne) {f:Nat} {args args':Array Value} {tabs:List Tab} {H':AH}
  (h:CallS P ne P.globals.size f args (startH P tabs) (.bool true) H') (ha:AR (φg P) args args') {W:World} (hW:P.globals.size≤W.heap.size) (hB:tabsB P tabs=true)
  (ht:∀x∈tabs,∃fr,W.heap[x.1]? = some (.cells x.2.2 x.2.1 fr)):Calls P f args' W fun e W'=>e=.returned (.bool true)∧Below W.heap.size W W':=by
 refine ((h hS).2 (φg P) W args' zsw ha (zrv hW hB ht)).mono fun e W' hpost=>?_
 obtain ⟨φ',v',rfl,hv,_,hst⟩:=hpost
 cases hv
 refine ⟨rfl,hst.os,hst.tape,hst.output,hst.size,fun k hk=>hst.keep k hk fun id l hm hs _=>?_⟩
 obtain ⟨b,hb⟩:=Option.isSome_iff_exists.1 hs
 obtain ⟨x,hx,rfl,_⟩:=zf3 hb
 unfold tabsB at hB
 rw [List.all_eq_true] at hB
 have:=hB x hx
 simp only [Bool.and_eq_true] at this
 have:=blt_lt this.1
 omega
theorem znq {H:Type} {enc:TypeId×Value→H} {a:Assume} {C:Checked} {os:Os} {f:FuncId} {fn:Func} {s:ChangeSpec} {conds:List PathCond} {apart fresh handsOn:Bool} {X:World→Array Value→Prop} {ne:NE} {tabs:List Tab}
  (own:ownKnob C.prog.godebug=none) (started:os.Started) (noInit:C.prog.inits.idxOf? f=none) (hfn:C.prog.funcs[f]? = some fn) (hbody:fn.body.isSome=true)
  (hS:Sane C.prog ne) (hgb:globalsB C.prog=true) (hl:laidOutB C.prog=true) (hts:readB C.prog fn=true) (hv:s.vars=[]) (hres:boolRes C.prog fn=true)
  (hspec:∀ds:List (DataW H),ds.length=fn.params.size→(s.fn H ds).results=[.lit (.bool true)]∧(s.fn H ds).args=ds∧(s.fn H ds).vars=[])
  (hB:tabsB C.prog tabs=true) (hX:∀(w w':World) (args:Array Value),w.heap=w'.heap→X w args→X w' args) (ht:∀W args,X W args→W.ShapedOpen C.prog→∀x∈tabs,∃fr,W.heap[x.1]? = some (.cells x.2.2 x.2.1 fr))
  (hrun:∃H',CallS C.prog ne C.prog.globals.size f (fn.params.map (anyArg C.prog)) (startH C.prog tabs) (.bool true) H')
  (witness:∃(w:World) (tape:Tape) (i:Input),w.os=os∧(w.forCall tape i).Shaped C.prog∧i.vars=[]∧Input.okWide C.prog (w.forCall tape i) .any w.heap.size f i ∧
   ((s.pre enc C.prog fn conds apart (w.forCall tape i).memory i.args∧X (w.forCall tape i).memory i.args)∧sizedMet enc C.prog fn (OpenSpec.ofChange s) apart (w.forCall tape i).memory i.args)∧a.holds C.prog (lone (Frame.enter C.prog f i.args .normal) [] (w.forCall tape i))) :
  ReturnsInHanded a C os f .any (fun w args=>(s.pre enc C.prog fn conds apart w args∧X w args)∧sizedMet enc C.prog fn (OpenSpec.ofChange s) apart w args) (s.post enc C.prog fn apart fresh handsOn false):=by
 obtain ⟨c,hbody⟩:=Option.isSome_iff_exists.1 hbody
 obtain ⟨tb,hres,hbool⟩:=zps hres
 have hts:=zrx hts
 refine returnsInHanded_of_calls own started noInit witness ?_
 intro w tape i _ hsh _ hok hpre hholds
 obtain ⟨_,_,_,fn',hfn',_,_,_,hsz,hval⟩:=hok
 have e:fn'=fn:=Option.some.inj (hfn'.symm.trans hfn)
 subst e
 obtain ⟨⟨⟨ds,gs,before,hw,hc⟩,hx⟩,_⟩:=hpre
 have hw':=DataW.Whole.of_heap (w':=w.forCall tape i) (by rfl) hw
 have hx':=hX _ (w.forCall tape i) _ (by rfl) hx
 have hlen:ds.length=fn'.params.size:=by
  obtain ⟨p,q,hA,_⟩:=hw'
  have key:∀(ts:List TypeId) (vs:List Value) (ds:List (DataW H)) (ps:List MemPlace),DataW.TrodAll enc C.prog (w.forCall tape i) 0 (fun _=>true) true ts vs ds ps→ds.length=ts.length:=by
   intro ts
   induction ts with
   | nil=>intro vs ds ps h; obtain ⟨_,rfl,_⟩:=ChangeShapes.trodAll_nil h; rfl
   | cons t ts ih=>intro vs ds ps h; obtain ⟨v,vs',d,ds',p,q,_,rfl,_,_,h2⟩:=ChangeShapes.trodAll_cons h; simp [ih _ _ _ h2]
  simpa using key _ _ _ _ hA
 obtain ⟨H',hrun⟩:=hrun
 refine (zne hS hrun (zpx hsz hval) (zmr hgb hsh) hB (ht _ _ hx' hsh)).mono fun e W' ⟨he,hb⟩=>?_
 subst he
 exact ChangeSpec.post_blind (zs8 hl hts hv hres hbool hw' (hspec ds hlen) hb)
theorem zid {laid:List (String×DataW Unit)} {W:World} {name:String} {k:IntKind} {zs:List Int} {g:Nat} {e t te:TypeId} {n:Nat} (hL:laidMet P laid W) (hf:laid.filter (fun x=>x.1 == name)=[(name,Lib.tabData k zs)])
  (hg:P.globalNamed name=some g) (hty:(P.globals[g]?).map (·.type)=some t) (ht:P.underlying t=some (.array n te)) (he:P.underlying te=some (.int k)) (hce:P.cellsOf te=1) (hct:P.cellsOf t=n) (hlt:g<P.globals.size)
  (hrow:(((begin P (fun _ _=>0) default).world.heap[g]?).bind Obj.row?).map (·.2)=some e) (hsh:W.ShapedOpen P):∃fr,W.heap[g]? = some (.cells (zs.map fun z=>Value.int k z).toArray e fr):=by
 have h1:=laidMet.filter (fun x=>x.1 == name) hL
 rw [hf] at h1
 exact ⟨(0,0),zqv hg hlt hrow hsh (Lib.tabIs_of_head hg hty ht he hce hct h1)⟩
def zsOf:DataW Unit→List Int
 | .agg l=>l.map fun | .lit (.int _ z)=>z | _=>0
 | _=>[]
end Go.Abs
namespace Go.Abs
variable {P:Program} {ne:NE} {m n:Nat}
variable {E:Ent} {kn knA:KN} {ls ls1:Lcs} {H H1 H':AH} {ops:Array Oper} {k:Nat} {Q:Exit→Act→World→Prop} {bs A:List Nat} {f:Nat} {la:Array Bool} {ag:Bool} {c:Code}
theorem WS.sq (h:WS P ne m E n (cfst c) kn ls H (Exit.then ((csnd c).wp P Q) Q)) (hc:isSeq c=true:=by kernel_rfl):WS P ne m E n c kn ls H Q:=WS.seq hc h
theorem WS.sk (h:∀a w,SS P ne m E n kn ls H a w→Q .normal a w) (hc:isSkip c=true:=by kernel_rfl):WS P ne m E n c kn ls H Q:=WS.skip hc h
theorem WS.rt (h:∀a w,SS P ne m E n kn ls H a w→Q .ret a w) (hc:isRet c=true:=by kernel_rfl):WS P ne m E n c kn ls H Q:=WS.ret hc h
theorem WS.ex (i:Nat) (h:∀a w,SS P ne m E n kn ls H a w→Q (.exit i) a w) (hc:isExit i c=true:=by kernel_rfl):WS P ne m E n c kn ls H Q:=WS.exit i hc h
theorem WS.bk (i:Nat) (h:WS P ne m E n (cfst c) kn ls H (blkS i Q)) (hc:isBlock i c=true:=by kernel_rfl):WS P ne m E n c kn ls H Q:=WS.blk i hc h
theorem WS.cT (h:WS P ne m E n (cfst c) kn ls H Q) (hc:(condOf c).map (fun x=>(knownV kn x,evV kn x))=some (true,.bool true):=by kernel_rfl):WS P ne m E n c kn ls H Q:=WS.condT true rfl hc h
theorem WS.cF (h:WS P ne m E n (csnd c) kn ls H Q) (hc:(condOf c).map (fun x=>(knownV kn x,evV kn x))=some (true,.bool false):=by kernel_rfl):WS P ne m E n c kn ls H Q:=WS.condF false rfl hc h
theorem WS.fx (t:Nat) {b:Bool} (d:Bool) (hb:b=d) (h:WS P ne m E n c ((t,.val (.bool d)) :: kn) ls H Q) (hl:lkV kn t=some (.val (.bool b)):=by kernel_rfl):WS P ne m E n c kn ls H Q:=WS.fix t d hb hl h
theorem RS.fx (t:Nat) {b:Bool} (d:Bool) (hb:b=d) (h:RS P ne m E n ops k ((t,.val (.bool d)) :: kn) ls H Q) (hl:lkV kn t=some (.val (.bool b)):=by kernel_rfl):RS P ne m E n ops k kn ls H Q:=RS.fix t d hb hl h
theorem DA.fx (t:Nat) {b:Bool} (d:Bool) (hb:b=d) (h:DA P ne m E n ops bs A H1 ls1 f la ag ((t,.val (.bool d)) :: knA) ((t,.val (.bool d)) :: kn) ls H Q) (hl:lkV kn t=some (.val (.bool b)):=by kernel_rfl):DA P ne m E n ops bs A H1 ls1 f la ag knA kn ls H Q:=DA.fix t d hb hl h
theorem WS.rg (h:RS P ne m E n (opsOf c) 0 kn ls H Q) (hc:(regOf c).map (·.2)=some false:=by kernel_rfl):WS P ne m E n c kn ls H Q:=by
 refine WS.region (opsOf c) ?_ h
 cases c with
 | region id ops d =>
  simp only [regOf,Option.map_some,Option.some.injEq] at hc
  subst hc; rfl
 | _=>cases hc
theorem RS.dn (h:∀a w,SS P ne m E n kn ls H a w→Q .normal a w) (hk:Nat.ble ops.size k=true:=by kernel_rfl):RS P ne m E n ops k kn ls H Q:=RS.done hk h
theorem RS.mS (j:Nat) (new:KN) (h:RS P ne m E n ops (k+j) (new++kn) ls H Q) (hr:runLs P m n ops j k kn ls H=some (new++kn,ls,H):=by kernel_rfl):RS P ne m E n ops k kn ls H Q:=RS.many j new ls hr h
theorem RS.mL (j:Nat) (new:KN) (ls':Lcs) (h:RS P ne m E n ops (k+j) (new++kn) ls' H Q) (hr:runLs P m n ops j k kn ls H=some (new++kn,ls',H):=by kernel_rfl):RS P ne m E n ops k kn ls H Q:=RS.many j new ls' hr h
theorem RS.o (d:Option Nat) (v:Value) (hr:runOp P (NE.plain 0) ih0 m (opAt ops k) (evV kn) H=some (v,H')) (h:RS P ne m E n ops (k+1) (putV kn d (.val v)) ls H' Q)
  (ho:ops[k]? = some (opAt ops k):=by kernel_rfl) (hd:(opAt ops k).dst=d:=by kernel_rfl) (hB:(opV P n ops kn (opAt ops k)&&noCall (opAt ops k))=true:=by kernel_rfl):RS P ne m E n ops k kn ls H Q:=RS.atD d v ho hd hB hr h
theorem RS.cl (d:Option Nat) {v:Value} (g:Nat) (args:Array Value) (hr:CallS P ne m g args H v H') (h:RS P ne m E n ops (k+1) (putV kn d (.val v)) ls H' Q)
  (ho:ops[k]? = some (opAt ops k):=by kernel_rfl) (hd:(opAt ops k).dst=d:=by kernel_rfl) (hB:opV P n ops kn (opAt ops k)=true:=by kernel_rfl) (hc:callV kn (opAt ops k)=some (g,args):=by kernel_rfl):RS P ne m E n ops k kn ls H Q:=RS.callD d g args ho hd hB hc hr h
theorem WS.dr (A:List Nat) (bs:List Nat) (sz:Nat) (h:closedOk (opsOf c).toList bs=true→DA P ne m E n (opsOf c) bs A H ls sz (Array.replicate sz false) true kn kn ls H Q) (hc:regOf c=some (opsOf c,true):=by kernel_rfl) (hb:befores (opsOf c).toList=bs:=by kernel_rfl) (hs:(opsOf c).size=sz:=by kernel_rfl) (hB:closedOk (opsOf c).toList bs=true:=by kernel_rfl):WS P ne m E n c kn ls H Q:=WS.drawnX (opsOf c) A bs sz hc hb hs hB (h hB)
theorem DA.dn (h:∀a w,SS P ne m E n kn ls H a w→Q .normal a w) (hr:readyIs ops la []=true:=by kernel_rfl):DA P ne m E n ops bs A H1 ls1 f la ag knA kn ls H Q:=DA.done hr h
theorem DA.on (k:Nat) (h:DAk P ne m E n ops bs A H1 ls1 k f la ag knA kn ls H Q) (hr:readyIs ops la [k]=true:=by kernel_rfl):DA P ne m E n ops bs A H1 ls1 (f+1) la ag knA kn ls H Q:=DA.one k hr h
theorem DA.tD (k:Nat) (d:Option Nat) (v:Value) (hv:detOp P H1 (opAt ops k) (evV knA)=some v) (h:DA P ne m E n ops bs A H1 ls1 f (la.setIfInBounds k true) true (putV knA d (.val v)) (putV kn d (.val v)) ls H Q)
  (hc:closedOk ops.toList bs=true:=by assumption) (ho:ops[k]? = some (opAt ops k):=by kernel_rfl) (hd:(opAt ops k).dst=d:=by kernel_rfl) (hB:takeB P n ops A la k (opAt ops k)=true:=by kernel_rfl) (hQ:∀c a w,¬Q (.panic c) a w:=by exact fun _ _ _ h=>h)
  (hw:(wantV ops kn (opAt ops k),(opAt ops k).op.operands.all (okx P),(opAt ops k).op.operands.all (knownV knA))=(some true,true,true):=by kernel_rfl):DA P ne m E n ops bs A H1 ls1 (f+1) la true knA kn ls H Q:=DA.takeD k d v ho hd hB hc hQ hw hv h
theorem DA.tK (k:Nat) (d:Option Nat) (v:Value) (h:DA P ne m E n ops bs A H1 ls1 f (la.setIfInBounds k true) true (putV knA d (.val v)) (putV kn d (.val v)) ls H Q)
  (hc:closedOk ops.toList bs=true:=by assumption) (ho:ops[k]? = some (opAt ops k):=by kernel_rfl) (hd:(opAt ops k).dst=d:=by kernel_rfl) (hB:takeB P n ops A la k (opAt ops k)=true:=by kernel_rfl) (hQ:∀c a w,¬Q (.panic c) a w:=by exact fun _ _ _ h=>h)
  (hw:(wantV ops kn (opAt ops k),(opAt ops k).op.operands.all (okx P),(opAt ops k).op.operands.all (knownV knA))=(some true,true,true):=by kernel_rfl) (hv:detOp P H1 (opAt ops k) (evV knA)=some v:=by kernel_rfl):DA P ne m E n ops bs A H1 ls1 (f+1) la true knA kn ls H Q:=DA.takeD k d v ho hd hB hc hQ hw hv h
theorem DA.tL (k:Nat) (d:Option Nat) (kv:KV) (h:DA P ne m E n ops bs A H1 ls1 f (la.setIfInBounds k true) true (putV knA d kv) (putV kn d kv) ls H Q)
  (hc:closedOk ops.toList bs=true:=by assumption) (ho:ops[k]? = some (opAt ops k):=by kernel_rfl) (hd:(opAt ops k).dst=d:=by kernel_rfl) (hB:takeB P n ops A la k (opAt ops k)=true:=by kernel_rfl) (hQ:∀c a w,¬Q (.panic c) a w:=by exact fun _ _ _ h=>h)
  (hw:wantV ops kn (opAt ops k)=some true:=by kernel_rfl) (hv:locDet P knA ls1 (opAt ops k)=some kv:=by kernel_rfl):DA P ne m E n ops bs A H1 ls1 (f+1) la true knA kn ls H Q:=DA.takeLD k d kv ho hd hB hc hQ hw hv h
theorem DA.tP (k:Nat) (d:Option Nat) (v:Value) (h:DA P ne m E n ops bs A H1 ls1 f (la.setIfInBounds k true) ag (dropV d knA) (putV kn d (.val v)) ls H Q)
  (hc:closedOk ops.toList bs=true:=by assumption) (ho:ops[k]? = some (opAt ops k):=by kernel_rfl) (hd:(opAt ops k).dst=d:=by kernel_rfl) (hB:takeQ P n ops A bs la k (opAt ops k)=true:=by kernel_rfl) (hQ:∀c a w,¬Q (.panic c) a w:=by exact fun _ _ _ h=>h)
  (hw:(wantV ops kn (opAt ops k),(opAt ops k).op.operands.all (okx P),(opAt ops k).op.operands.all (knownV kn))=(some true,true,true):=by kernel_rfl) (hv:pureOp P (opAt ops k) (evV kn)=some v:=by kernel_rfl):DA P ne m E n ops bs A H1 ls1 (f+1) la ag knA kn ls H Q:=DA.takeP k d v ho hd hB hc hQ hw hv h
theorem DA.tPx (k:Nat) (d:Option Nat) (v:Value) (hv:detOp P ⟨0,.nil⟩ (opAt ops k) (evV kn)=some v) (h:DA P ne m E n ops bs A H1 ls1 f (la.setIfInBounds k true) ag (dropV d knA) (putV kn d (.val v)) ls H Q)
  (hc:closedOk ops.toList bs=true:=by assumption) (ho:ops[k]? = some (opAt ops k):=by kernel_rfl) (hd:(opAt ops k).dst=d:=by kernel_rfl) (hB:takeQ P n ops A bs la k (opAt ops k)=true:=by kernel_rfl) (hQ:∀c a w,¬Q (.panic c) a w:=by exact fun _ _ _ h=>h)
  (hw:(wantV ops kn (opAt ops k),(opAt ops k).op.operands.all (okx P),(opAt ops k).op.operands.all (knownV kn))=(some true,true,true):=by kernel_rfl) (hn:notRead (opAt ops k)=true:=by kernel_rfl):DA P ne m E n ops bs A H1 ls1 (f+1) la ag knA kn ls H Q:=DA.takeP k d v ho hd hB hc hQ hw (zr2 hn hv) h
theorem DA.tPL (k:Nat) (d:Option Nat) (kv:KV) (h:DA P ne m E n ops bs A H1 ls1 f (la.setIfInBounds k true) ag (dropV d knA) (putV kn d kv) ls H Q)
  (hc:closedOk ops.toList bs=true:=by assumption) (ho:ops[k]? = some (opAt ops k):=by kernel_rfl) (hd:(opAt ops k).dst=d:=by kernel_rfl) (hB:takeQ P n ops A bs la k (opAt ops k)=true:=by kernel_rfl) (hQ:∀c a w,¬Q (.panic c) a w:=by exact fun _ _ _ h=>h)
  (hw:wantV ops kn (opAt ops k)=some true:=by kernel_rfl) (hv:(match (opAt ops k).op with | .load ..=>none | _=>locDet P kn ls (opAt ops k))=some kv:=by kernel_rfl):DA P ne m E n ops bs A H1 ls1 (f+1) la ag knA kn ls H Q:=DA.takePL k d kv ho hd hB hc hQ hw hv h
theorem DA.aL (k:Nat) (d:Option Nat) (kv:KV) (ls':Lcs) (ag':Bool) (h:DA P ne m E n ops bs A H1 ls1 f (la.setIfInBounds k true) ag' (dropV d knA) (putV kn d kv) ls' H Q)
  (hc:closedOk ops.toList bs=true:=by assumption) (ho:ops[k]? = some (opAt ops k):=by kernel_rfl) (hdd:(opAt ops k).dst=d:=by kernel_rfl) (hr:(Region.ready .any ops la).contains k=true:=by kernel_rfl) (hw:wantV ops kn (opAt ops k)=some true:=by kernel_rfl) (hd:dstV n (opAt ops k)=true:=by kernel_rfl) (hl:locOp P kn ls (opAt ops k)=some (kv,ls'):=by kernel_rfl)
  (ha:((!demO ops A bs k||(ag&&notStore (opAt ops k)))&&(!ag'||(ag&&notStore (opAt ops k))))=true:=by kernel_rfl):DAk P ne m E n ops bs A H1 ls1 k f la ag knA kn ls H Q:=DA.actLD k d kv ls' ag' ho hdd hr hc hw hd hl ha h
theorem DA.aH (k:Nat) (d:Option Nat) (v:Value) (hv:runOp P (NE.plain 0) ih0 m (opAt ops k) (evV kn) H=some (v,H')) (h:DA P ne m E n ops bs A H1 ls1 f (la.setIfInBounds k true) false (dropV d knA) (putV kn d (.val v)) ls H' Q)
  (hc:closedOk ops.toList bs=true:=by assumption) (ho:ops[k]? = some (opAt ops k):=by kernel_rfl) (hdd:(opAt ops k).dst=d:=by kernel_rfl) (hr:(Region.ready .any ops la).contains k=true:=by kernel_rfl) (hB:(opV P n ops kn (opAt ops k)&&noCall (opAt ops k))=true:=by kernel_rfl) (hd:demO ops A bs k=false:=by kernel_rfl):DAk P ne m E n ops bs A H1 ls1 k f la ag knA kn ls H Q :=
 DA.actHD k d m false v ho hdd hr hc hB hv (Nat.le_refl _) (fun hh=>by rw [hd] at hh; cases hh) (by rw [hd]; rfl) h
theorem DA.aHj (k:Nat) (d:Option Nat) (ag':Bool) (v:Value) (hv:runOp P (NE.plain 0) ih0 (Nat.max m H1.next) (opAt ops k) (evV kn) H=some (v,H')) (h:DA P ne m E n ops bs A H1 ls1 f (la.setIfInBounds k true) ag' (dropV d knA) (putV kn d (.val v)) ls H' Q)
  (hc:closedOk ops.toList bs=true:=by assumption) (ho:ops[k]? = some (opAt ops k):=by kernel_rfl) (hdd:(opAt ops k).dst=d:=by kernel_rfl) (hr:(Region.ready .any ops la).contains k=true:=by kernel_rfl) (hB:(opV P n ops kn (opAt ops k)&&noCall (opAt ops k))=true:=by kernel_rfl) (ha:((!demO ops A bs k||ag)&&(!ag'||ag))=true:=by kernel_rfl):DAk P ne m E n ops bs A H1 ls1 k f la ag knA kn ls H Q :=
 DA.actHD k d (Nat.max m H1.next) ag' v ho hdd hr hc hB hv (Nat.le_max_left _ _) (fun _=>.inr (Nat.le_max_right _ _)) ha h
theorem DA.aC (k:Nat) (d:Option Nat) {v:Value} (g:Nat) (args:Array Value) (hcs:CallS P ne m g args H v H') (h:DA P ne m E n ops bs A H1 ls1 f (la.setIfInBounds k true) false (dropV d knA) (putV kn d (.val v)) ls H' Q)
  (hc:closedOk ops.toList bs=true:=by assumption) (ho:ops[k]? = some (opAt ops k):=by kernel_rfl) (hdd:(opAt ops k).dst=d:=by kernel_rfl) (hr:(Region.ready .any ops la).contains k=true:=by kernel_rfl) (hB:opV P n ops kn (opAt ops k)=true:=by kernel_rfl) (hcl:callV kn (opAt ops k)=some (g,args):=by kernel_rfl) (hd:demO ops A bs k=false:=by kernel_rfl):DAk P ne m E n ops bs A H1 ls1 k f la ag knA kn ls H Q :=
 DA.actCD k d m false g args ho hdd hr hc hB hcl hcs (Nat.le_refl _) (fun hh=>by rw [hd] at hh; cases hh) (by rw [hd]; rfl) h
theorem DA.aCj (k:Nat) (d:Option Nat) (ag':Bool) {v:Value} (g:Nat) (args:Array Value) (hcs:CallS P ne (Nat.max m H1.next) g args H v H') (h:DA P ne m E n ops bs A H1 ls1 f (la.setIfInBounds k true) ag' (dropV d knA) (putV kn d (.val v)) ls H' Q)
  (hc:closedOk ops.toList bs=true:=by assumption) (ho:ops[k]? = some (opAt ops k):=by kernel_rfl) (hdd:(opAt ops k).dst=d:=by kernel_rfl) (hr:(Region.ready .any ops la).contains k=true:=by kernel_rfl) (hB:opV P n ops kn (opAt ops k)=true:=by kernel_rfl) (hcl:callV kn (opAt ops k)=some (g,args):=by kernel_rfl) (ha:((!demO ops A bs k||ag)&&(!ag'||ag))=true:=by kernel_rfl):DAk P ne m E n ops bs A H1 ls1 k f la ag knA kn ls H Q :=
 DA.actCD k d (Nat.max m H1.next) ag' g args ho hdd hr hc hB hcl hcs (Nat.le_max_left _ _) (fun _=>.inr (Nat.le_max_right _ _)) ha h
theorem SubV.of:∀{kn' kn:KN},kn'.map (fun p=>lkV kn p.1)=kn'.map (fun p=>some p.2)→SubV kn' kn:=by
 intro kn'
 induction kn' with
 | nil=>intro kn _; trivial
 | cons p l ih =>
  intro kn h
  obtain ⟨t,v⟩:=p
  simp only [List.map_cons,List.cons.injEq] at h
  exact ⟨h.1,ih h.2⟩
theorem SS.sb {a:Act} {w:World} (h:SS P ne m E n kn ls H a w) {kn':KN} (k:Nat) {ls':Lcs} (hs:kn'.map (fun p=>lkV kn p.1)=kn'.map (fun p=>some p.2):=by kernel_rfl) (hl:ls.take k=ls':=by kernel_rfl) (hb:belowL k kn'=true:=by kernel_rfl):SS P ne m E n kn' ls' H a w:=h.sub (SubV.of hs) k hl hb
theorem rS {fn:Func} {v:Value} {a:Act} {w:World} (hs:SS P ne m E n kn ls H a w) (h:resF P fn kn ls H=some v:=by kernel_rfl):RT P ne m E fn v H a w:=rtS hs h
section
variable {S R:Type} {body:S→Option (Lp S R)} {knOf:S→KN} {lsOf:S→Lcs} {hOf:S→AH} {i:Nat}
theorem WS.lI {QR:R→Act→World→Prop} (hbody:∀s o,body s=some o→WS P ne m E n (cfst c) (knOf s) (lsOf s) (hOf s) (lpS P ne m E n knOf lsOf hOf i QR o)) {s s':S} (hl:loopO body s=some (.inl s')) (k:Nat) (h1:∀a w,SS P ne m E n (knOf s') (lsOf s') (hOf s') a w→Q (.exit i) a w)
  (hc:isLoop c=true:=by kernel_rfl) (hs:(knOf s).map (fun p=>lkV kn p.1)=(knOf s).map (fun p=>some p.2):=by kernel_rfl) (hls:ls.take k=lsOf s:=by kernel_rfl) (hbl:belowL k (knOf s)=true:=by kernel_rfl) (hH:H=hOf s:=by rfl):WS P ne m E n c kn ls H Q :=
 WS.loopI hc body knOf lsOf hOf i QR hbody hl k (SubV.of hs) hls hbl hH h1
theorem WS.lR {QR:R→Act→World→Prop} (hbody:∀s o,body s=some o→WS P ne m E n (cfst c) (knOf s) (lsOf s) (hOf s) (lpS P ne m E n knOf lsOf hOf i QR o)) {s:S} {r:R} (hl:loopO body s=some (.inr r)) (k:Nat) (h2:∀a w,QR r a w→Q .ret a w)
  (hc:isLoop c=true:=by kernel_rfl) (hs:(knOf s).map (fun p=>lkV kn p.1)=(knOf s).map (fun p=>some p.2):=by kernel_rfl) (hls:ls.take k=lsOf s:=by kernel_rfl) (hbl:belowL k (knOf s)=true:=by kernel_rfl) (hH:H=hOf s:=by rfl):WS P ne m E n c kn ls H Q :=
 WS.loopR hc body knOf lsOf hOf i QR hbody hl k (SubV.of hs) hls hbl hH h2
theorem WS.lXI {QR:R→Exit→Act→World→Prop} (hbody:∀s o,body s=some o→WS P ne m E n (cfst c) (knOf s) (lsOf s) (hOf s) (lpX P ne m E n knOf lsOf hOf i QR o)) {s s':S} (hl:loopO body s=some (.inl s')) (k:Nat) (h1:∀a w,SS P ne m E n (knOf s') (lsOf s') (hOf s') a w→Q (.exit i) a w)
  (hc:isLoop c=true:=by kernel_rfl) (hs:(knOf s).map (fun p=>lkV kn p.1)=(knOf s).map (fun p=>some p.2):=by kernel_rfl) (hls:ls.take k=lsOf s:=by kernel_rfl) (hbl:belowL k (knOf s)=true:=by kernel_rfl) (hH:H=hOf s:=by rfl):WS P ne m E n c kn ls H Q :=
 WS.loopXI hc body knOf lsOf hOf i QR hbody hl k (SubV.of hs) hls hbl hH h1
theorem WS.lXR {QR:R→Exit→Act→World→Prop} (hbody:∀s o,body s=some o→WS P ne m E n (cfst c) (knOf s) (lsOf s) (hOf s) (lpX P ne m E n knOf lsOf hOf i QR o)) {s:S} {r:R} (hl:loopO body s=some (.inr r)) (k:Nat) (h2:∀e a w,QR r e a w→Q e a w)
  (hc:isLoop c=true:=by kernel_rfl) (hs:(knOf s).map (fun p=>lkV kn p.1)=(knOf s).map (fun p=>some p.2):=by kernel_rfl) (hls:ls.take k=lsOf s:=by kernel_rfl) (hbl:belowL k (knOf s)=true:=by kernel_rfl) (hH:H=hOf s:=by rfl):WS P ne m E n c kn ls H Q :=
 WS.loopXR hc body knOf lsOf hOf i QR hbody hl k (SubV.of hs) hls hbl hH h2
end
end Go.Abs
namespace Go.Abs
variable {P:Program} {ne:NE} {m:Nat} {H:AH}
structure UnderRes (P:Program) (φ:Inj) (H:AH) (w:World) (v:Value) (H1:AH) (v':Value) (w':World) (φ1:Inj):Prop where
 vr:VR φ1 v v'
 inv:Inv φ1 H1 w'
 new:∀l,φ1 P.globals.size=some l→w.heap.size≤l.blk
 size:w.heap.size≤w'.heap.size
 keep:∀c,c<w.heap.size→w'.heap[c]? = w.heap[c]?
 os:w'.os=w.os
 tape:w'.tape=w.tape
 output:w'.output=w.output
end Go.Abs
namespace Go.Abs
instance:DecidableEq Sl3:=fun a b =>
 if h:a.p=b.p∧a.n=b.n∧a.c=b.c then isTrue (by cases a; cases b; obtain ⟨rfl,rfl,rfl⟩:=h; rfl)
 else isFalse fun e=>h (by subst e; exact ⟨rfl,rfl,rfl⟩)
@[reducible] def kI (t:Nat) (x:Int):Nat×KV:=(t,.val (.int .i64 x))
@[reducible] def kB (t:Nat) (x:Bool):Nat×KV:=(t,.val (.bool x))
@[reducible] def kS (t:Nat) (x:Sl3):Nat×KV:=(t,.val x.v)
@[reducible] def kP (t:Nat) (x:Addr):Nat×KV:=(t,.val (.pointer (some x)))
@[reducible] def kT (t:Nat) (x:ByteArray):Nat×KV:=(t,.val (.string x))
@[reducible] def kA (t:Nat) (x:Array Value):Nat×KV:=(t,.val (.agg x))
@[reducible] def kU (t:Nat):Nat×KV:=(t,.val undef)
@[reducible] def kL (t i o:Nat):Nat×KV:=(t,.loc i o)
variable {P:Program} {ne:NE} {m n:Nat}
variable {E:Ent} {kn:KN} {ls:Lcs} {H H':AH} {ops:Array Oper} {k:Nat} {Q:Exit→Act→World→Prop}
def LoopF (P:Program) (ne:NE) (m:Nat) (E:Ent) (fn:Func) (c:Code) {S R:Type} (st:S→KN×Lcs) (hOf:S→AH) (i:Nat) (enc:R→Value) (hp:R→AH) (body:S→Option (Lp S R)):Prop :=
 ∀s o,body s=some o→WS P ne m E fn.ntmps (cfst c) (st s).1 (st s).2 (hOf s) (lpS P ne m E fn.ntmps (fun s=>(st s).1) (fun s=>(st s).2) hOf i (fun r=>RT P ne m E fn (enc r) (hp r)) o)
section
variable {ih:Ex} {ρ:Operand→Value} {o:Oper}
end
theorem RS.ix (d:Nat) (t e:TypeId) (x y:Operand) {sz:Nat} {s:Sl3} {i:Int} {a:Addr} (hx:idxA sz s i=some a) (h:RS P ne m E n ops (k+1) (putV kn (some d) (.val (.pointer (some a)))) ls H Q)
  (hop:(opAt ops k).op=.indexAddr t x y:=by kernel_rfl) (hu:P.underlying t=some (.slice e):=by kernel_rfl) (hi:(P.info? e).map (·.size)=some sz:=by kernel_rfl) (h1:evV kn x=s.v:=by kernel_rfl) (h2:evV kn y=.int .i64 i:=by kernel_rfl)
  (ho:ops[k]? = some (opAt ops k):=by kernel_rfl) (hd:(opAt ops k).dst=some d:=by kernel_rfl) (hB:(opV P n ops kn (opAt ops k)&&noCall (opAt ops k))=true:=by kernel_rfl):RS P ne m E n ops k kn ls H Q :=
 RS.o (some d) _ (zsl hop hu hi h1 h2 hx) h ho hd hB
theorem RS.ld (d:Nat) (t:TypeId) (x:Operand) {a:Addr} {v:Value} (hx:H.cell a=some v) (h:RS P ne m E n ops (k+1) (putV kn (some d) (.val v)) ls H Q)
  (hop:(opAt ops k).op=.load t x:=by kernel_rfl) (hu:(P.underlying t).map isAggD=some false:=by kernel_rfl) (h1:evV kn x=.pointer (some a):=by kernel_rfl)
  (ho:ops[k]? = some (opAt ops k):=by kernel_rfl) (hd:(opAt ops k).dst=some d:=by kernel_rfl) (hB:(opV P n ops kn (opAt ops k)&&noCall (opAt ops k))=true:=by kernel_rfl):RS P ne m E n ops k kn ls H Q :=
 RS.o (some d) _ (run_load hop hu h1 hx) h ho hd hB
theorem RS.la (d:Nat) (t:TypeId) (x:Operand) (c:Nat) {a:Addr} {l:List Value} (hx:rdCells H a 0 c=some l) (h:RS P ne m E n ops (k+1) (putV kn (some d) (.val (.agg l.toArray))) ls H Q)
  (hop:(opAt ops k).op=.load t x:=by kernel_rfl) (hu:(P.underlying t).map isAggD=some true:=by kernel_rfl) (hi:(P.info? t).map (·.size)=some c:=by kernel_rfl) (h1:evV kn x=.pointer (some a):=by kernel_rfl)
  (ho:ops[k]? = some (opAt ops k):=by kernel_rfl) (hd:(opAt ops k).dst=some d:=by kernel_rfl) (hB:(opV P n ops kn (opAt ops k)&&noCall (opAt ops k))=true:=by kernel_rfl):RS P ne m E n ops k kn ls H Q :=
 RS.o (some d) _ (zq9 hop hu hi h1 hx) h ho hd hB
end Go.Abs
namespace Go.Abs
variable {P:Program} {ne:NE} {m n:Nat}
variable {E:Ent} {kn knA:KN} {ls ls1:Lcs} {H H1:AH} {ops:Array Oper} {k:Nat} {Q:Exit→Act→World→Prop} {bs A:List Nat} {f:Nat} {la:Array Bool} {ag:Bool}
def mkN (bytes:Nat) (len:Int):Option Nat:=if 0≤len∧len≤281474976710656∧bytes*len≤281474976710656 then some len.toNat else none
def mkCells (z:Array Value) (sz c:Nat):List Value:=(if c*sz=0 then #[] else zerosA z (c*sz)).toList
theorem mk_run {φ:Inj} {t e:TypeId} {sz bytes:Nat} {z:Array Value} {k1 k2:IntKind} {len:Int} {c:Nat} (hi:mkI P t=some (e,sz,bytes,z)) (h:mkN bytes len=some c) (w:World) :
  c≠OPEN∧(Instr.makeSlice t (.int k1 len) (.int k2 len)).run P w=.ok (.slice (some ⟨w.heap.size,0,none⟩) c c) { w with heap:=w.heap.push (.cells (mkCells z sz c).toArray e (0,0)) }∧AR φ (mkCells z sz c).toArray (mkCells z sz c).toArray:=by
 have hO:OPEN=9223372036854775808:=rfl
 unfold mkN at h
 split at h
 ·rename_i hh
  obtain ⟨h1,h3,h4⟩:=hh
  simp only [Option.some.injEq] at h
  subst h
  unfold mkI at hi
  split at hi
  ·rename_i e1 hu
   cases hie:P.info? e1 with
   | none=>rw [hie] at hi; cases hi
   | some i =>
    rw [hie] at hi
    simp only at hi
    cases hz:i.zero with
    | none=>rw [hz] at hi; cases hi
    | some zv =>
     rw [hz] at hi
     simp only at hi
     cases hze:zelem P t with
     | false=>rw [hze] at hi; cases hi
     | true =>
      rw [hze] at hi
      simp only [cond_true,Option.some.injEq,Prod.mk.injEq] at hi
      obtain ⟨rfl,rfl,rfl,rfl⟩:=hi
      have hfl:flat depth zv=true:=by
       have h0:zflat P e1=true:=by
        unfold zelem at hze; rw [hu] at hze; exact hze
       unfold zflat at h0
       rw [hie] at h0
       simp only [hz] at h0
       exact h0
      have hzc:AR φ zv.cells zv.cells:=z1k hfl
      refine ⟨by omega,?_,?_⟩
      ·have w1:=zm1 h1 (by omega)
       unfold Instr.makeSlice
       have c1:(decide ((i.bytes:Int)*len > 2 ^ 48))=false:=by
        simp only [decide_eq_false_iff_not]
        omega
       have c2:(decide (len<0))=false:=by simp; omega
       have c3:(decide (len > len))=false:=by simp
       have hti:(Go.typeInfo e1).run P w=.ok i w:=by
        simp [Go.typeInfo,hie]
       have hask:∀b,(Go.askRoom b).run P w=.ok () w:=fun b=>by
        unfold Go.askRoom; split <;> rfl
       have hai:∀(q:IntKind) (v:Int),(Go.asInt (.int q v)).run P w=.ok v w:=fun q v=>rfl
       simp only [Sem.run_bind,z8 hu,Result.andThen_ok,hai,asIntOf,Sem.run_pure,hti,zw hie,w1]
       simp only [c1,c2,c3,Bool.or_false,Bool.false_eq_true,if_false,hask,Sem.run_bind,Result.andThen_ok,zw hie]
       by_cases h0:len.toNat*i.size=0
       ·simp only [h0,if_true,Sem.run_bind,Sem.run_pure,Result.andThen_ok,mkCells]
        rw [show (Array.map (fun x=>(#[]:Array Value)[x % (#[]:Array Value).size]!) (Array.range 0))=#[] by simp]
        rfl
       ·simp only [h0,if_false,Sem.run_bind,z64 (show (P.info? e1).bind (·.zero)=some zv by rw [hie]; exact hz),Sem.run_pure,Result.andThen_ok,mkCells,zerosA]
        simp only [Array.toArray_toList]
        rfl
      ·unfold mkCells
       rw [Array.toArray_toList]
       split
       ·exact AR.empty _
       ·exact zbq hzc _
  ·cases hi
 ·cases h
theorem DA.actM (k:Nat) (d:Option Nat) (t e:TypeId) (sz bytes:Nat) (z:Array Value) (x y:Operand) {k1 k2:IntKind} {len:Int} {c:Nat} (hx:mkN bytes len=some c)
  (h:DA P ne m E n ops bs A H1 ls1 f (la.setIfInBounds k true) ag (dropV d knA) (putV kn d (.sli ls.length c)) (ls++[some (e,mkCells z sz c)]) H Q)
  (ho:ops[k]? = some (opAt ops k):=by kernel_rfl) (hdd:(opAt ops k).dst=d:=by kernel_rfl) (hop:(opAt ops k).op=.makeSlice t x y:=by kernel_rfl) (hr:(Region.ready .any ops la).contains k=true:=by kernel_rfl) (hB:opV P n ops kn (opAt ops k)=true:=by kernel_rfl)
  (hi:mkI P t=some (e,sz,bytes,z):=by kernel_rfl) (ex:evV kn x=.int k1 len:=by kernel_rfl) (ey:evV kn y=.int k2 len:=by kernel_rfl)
  (ha:(!demO ops A bs k||ag)=true:=by kernel_rfl) (hc:closedOk ops.toList bs=true:=by assumption):DAk P ne m E n ops bs A H1 ls1 k f la ag knA kn ls H Q:=by
 subst hdd
 intro w1 φ1 cs1 a w φ cs hd1 hle hs hka hpf hJ hag
 unfold opV at hB
 simp only [Bool.and_eq_true] at hB
 obtain ⟨⟨⟨hg,hx'⟩,hkn⟩,hd⟩:=hB
 rw [Array.all_eq_true_iff_forall_mem] at hkn hx'
 have hw:wantV ops kn (opAt ops k)=some true:=by
  split at hg
  ·assumption
  ·cases hg
 refine zbv ho hs hw fun K hK=>?_
 have hev:∀x∈(opAt ops k).op.operands,VR φ (evV kn x) (a.eval x):=fun x hxm=>hs.eval (hkn x hxm) (hx' x hxm)
 have hh:=h w1 φ1 cs1
 obtain ⟨oo,hoo⟩:∃oo,opAt ops k=oo:=⟨_,rfl⟩
 rw [hoo] at hd hev hh hop ⊢
 obtain ⟨dst,op,ty,pos,after,guard⟩:=oo
 simp only at hop hd
 subst hop
 have vx:=hev x (by simp [Op.operands])
 have vy:=hev y (by simp [Op.operands])
 rw [ex] at vx
 rw [ey] at vy
 generalize hqx:a.eval x=qx at vx
 generalize hqy:a.eval y=qy at vy
 cases vx
 cases vy
 obtain ⟨hno,hrun,har⟩:=mk_run (φ:=φ) (k1:=k1) (k2:=k2) hi hx w
 obtain ⟨cs2,hs2,hp2,hq2,hn2⟩:=hs.new (e:=e) (v:=.agg (mkCells z sz c).toArray) (v':=.agg (mkCells z sz c).toArray) (.agg _ _ har.1 har.2) (d:=none) rfl
 have hs3:=hs2.put (d:=dst) hd (kv:=.sli ls.length c) (v':=.slice (some ⟨w.heap.size,0,none⟩) c c) ⟨⟨_,hq2,rfl⟩,hno⟩
 have hex:(execOp a.eval ⟨dst,.makeSlice t x y,ty,pos,after,guard⟩).run P w=.ok (.value (.slice (some ⟨w.heap.size,0,none⟩) c c)) { w with heap:=w.heap.push (.cells (mkCells z sz c).toArray e (0,0)) }:=by
  simp only [execOp,hqx,hqy,Sem.run_bind,hrun,Result.andThen_ok]; rfl
 unfold Oper.wp
 rw [hex]
 have hag':ag=true→Agr m H1 w1 cs1 φ { w with heap:=w.heap.push (.cells (mkCells z sz c).toArray e (0,0)) } cs2:=fun h1=>by
  obtain ⟨q1,q2,q3⟩:=hag h1
  refine ⟨q1.trans' (zaq _ _),q2,fun i c hi hc=>?_⟩
  rcases Nat.lt_or_ge i cs.length with hlt | hge
  ·rw [hp2 i cs[i] (List.getElem?_eq_getElem hlt)] at hc
   cases hc
   exact q3 i _ hi (List.getElem?_eq_getElem hlt)
  ·exact Nat.le_trans (zas q1) (hn2 i c hge hc)
 refine hK _ _ ⟨fun hdm=>(hag' (by rw [hdm] at ha; simpa using ha)).ag,?_⟩
 exact hh _ _ φ cs2 hd1 hle (by simpa [putV,Act.put,Value.cells] using hs3) (by simpa using hka.drop dst _) (fun i c hc=>hp2 i c (hpf i c hc)) (zem hr hc hJ) hag'
end Go.Abs
namespace Go.Abs
variable {P:Program} {ne:NE}
def OrOK (P:Program) (ne:NE) (o:Nat→FuncId→Array Value→AH→Option (Value×AH)):Prop:=∀m f args H v H',o m f args H=some (v,H')→CallS P ne m f args H v H'
theorem Sane.orcs {o:Nat→FuncId→Array Value→AH→Option (Value×AH)} (h:Sane P ne) (ho:OrOK P ne o):Sane P ⟨ne.esc,o⟩ :=
 ⟨h.mixed,h.noNum,h.esc,fun m f args H v H' hh=>ho m f args H v H' hh h⟩
theorem CallS.ofRun {o:Nat→FuncId→Array Value→AH→Option (Value×AH)} {n m f:Nat} {args:Array Value} {H H':AH} {v:Value} {fn:Func} {c:Code} (ho:OrOK P ne o) (hf:P.funcs[f]? = some fn) (hb:fn.body=some c) (h:acall P ⟨ne.esc,o⟩ n m f args H=some (v,H')):CallS P ne m f args H v H' :=
 fun hs=>⟨⟨fn,c,hf,hb⟩,fun _ _ _ hg ha hi=>zsb (hs.orcs ho) hf hb h hg ha hi⟩
structure Dc (α:Type) where
 de:Value→Option α
 en:α→Value
 inv:∀v a,de v=some a→v=en a
structure DcL (α:Type) where
 de:List Value→Option α
 en:α→List Value
 inv:∀v a,de v=some a→v=en a
def dcI (k:IntKind):Dc Int:=⟨deI k,fun a=>.int k a,fun u _ h=>z5 u h⟩
def dcB:Dc Bool:=⟨deB,fun a=>.bool a,fun u _ h=>z13 u h⟩
def dcS:Dc ByteArray:=⟨deS,fun a=>.string a,fun u _ h=>z9 u h⟩
def dcSl:Dc Sl3:=⟨deSl,fun a=>a.v,fun u _ h=>z3 u h⟩
def dcP:Dc (Option Addr):=⟨deP,fun a=>.pointer a,fun u _ h=>z6j u h⟩
def dcN:DcL Unit:=⟨fun | []=>some () | _=>none,fun _=>[],fun v a h=>by cases v with | nil=>rfl | cons x l=>cases h⟩
def dcC {α β:Type} (x:Dc α) (y:DcL β):DcL (α×β):=⟨fun | []=>none | v :: l=>(x.de v).bind fun a=>(y.de l).map fun b=>(a,b),fun p=>x.en p.1 :: y.en p.2,fun v p h=>by
 cases v with
 | nil=>cases h
 | cons v l =>
  simp only at h
  cases hx:x.de v with
  | none=>rw [hx] at h; cases h
  | some a =>
   cases hy:y.de l with
   | none=>rw [hx,hy] at h; cases h
   | some b =>
    rw [hx,hy] at h
    cases h
    rw [x.inv v a hx,y.inv l b hy]⟩
def dcG {α:Type} (l:DcL α):Dc α:=⟨fun | .agg c=>l.de c.toList | _=>none,fun a=>.agg (l.en a).toArray,fun v a h=>by
 cases v with
 | agg c=>rw [← l.inv _ _ h]
 | _=>cases h⟩
def dcT {α:Type} (l:DcL α):Dc α:=⟨fun | .tuple c=>l.de c.toList | _=>none,fun a=>.tuple (l.en a).toArray,fun v a h=>by
 cases v with
 | tuple c=>rw [← l.inv _ _ h]
 | _=>cases h⟩
def orF {α:Type} (g:FuncId) (d:DcL α) (run:Nat→AH→α→Option (Value×AH)):Nat→FuncId→Array Value→AH→Option (Value×AH):=fun m f args H=>bif Nat.beq f g then (d.de args.toList).bind fun a=>run m H a else none
def orO (o1 o2:Nat→FuncId→Array Value→AH→Option (Value×AH)):Nat→FuncId→Array Value→AH→Option (Value×AH):=fun m f args H=>match o1 m f args H with
 | some r=>some r
 | none=>o2 m f args H
def orN:Nat→FuncId→Array Value→AH→Option (Value×AH):=fun _ _ _ _=>none
theorem orN_ok:OrOK P ne orN:=fun _ _ _ _ _ _ h=>by cases h
theorem orO_ok {o1 o2:Nat→FuncId→Array Value→AH→Option (Value×AH)} (h1:OrOK P ne o1) (h2:OrOK P ne o2):OrOK P ne (orO o1 o2):=fun m f args H v H' h=>by
 unfold orO at h
 cases hq:o1 m f args H with
 | some r=>rw [hq] at h; cases h; exact h1 m f args H v H' hq
 | none=>rw [hq] at h; exact h2 m f args H v H' h
theorem orF_ok {α:Type} {g:FuncId} {d:DcL α} {run:Nat→AH→α→Option (Value×AH)} (h:∀m H a v H',run m H a=some (v,H')→CallS P ne m g (d.en a).toArray H v H'):OrOK P ne (orF g d run):=fun m f args H v H' hh=>by
 unfold orF at hh
 cases hb:Nat.beq f g with
 | false=>rw [hb] at hh; cases hh
 | true =>
  rw [hb] at hh
  simp only [cond_true] at hh
  have:=Nat.eq_of_beq_eq_true hb
  subst this
  cases hq:d.de args.toList with
  | none=>rw [hq] at hh; cases hh
  | some a =>
   rw [hq] at hh
   have e:=d.inv _ _ hq
   have:=h m H a v H' hh
   rw [← e] at this
   exact this
theorem z4m {α:Type} {x:Option α} {e:α→Value} {p:α→AH} {v:Value} {H':AH} (h:(x.map fun r=>(e r,p r))=some (v,H')):∃r,x=some r∧e r=v∧p r=H':=by
 cases x with
 | none=>cases h
 | some r=>cases h; exact ⟨r,rfl,rfl,rfl⟩
def byRun {α β:Type} (P:Program) (esc:Nat) (o:Nat→FuncId→Array Value→AH→Option (Value×AH)) (m f:Nat) (args:Array Value) (H:AH) (d:Dc α) (k:α→AH→β):Option β :=
 match acall P ⟨esc,o⟩ 100000 m f args H with
 | some (v,H')=>(d.de v).map fun a=>k a H'
 | none=>none
theorem znm {α β:Type} {o:Nat→FuncId→Array Value→AH→Option (Value×AH)} {m f:Nat} {args:Array Value} {H:AH} {d:Dc α} {k:α→AH→β} {r:β} {fn:Func} {c:Code} {esc:Nat} (ho:OrOK P (NE.plain esc) o) (hf:P.funcs[f]? = some fn) (hb:fn.body=some c) (h:byRun P esc o m f args H d k=some r):∃a H',k a H'=r∧CallS P (NE.plain esc) m f args H (d.en a) H':=by
 unfold byRun at h
 cases hq:acall P ⟨esc,o⟩ 100000 m f args H with
 | none=>rw [hq] at h; cases h
 | some p =>
  obtain ⟨v,H'⟩:=p
  rw [hq] at h
  simp only at h
  cases hd:d.de v with
  | none=>rw [hd] at h; cases h
  | some a =>
   rw [hd] at h
   cases h
   have:=CallS.ofRun (ne:=NE.plain esc) ho hf hb hq
   rw [d.inv v a hd] at this
   exact ⟨a,H',rfl,this⟩
end Go.Abs
namespace Go.Proofs.YtdlnojjpbmibdaaGreatDoor
open Go Go.Abs
set_option maxRecDepth 100000
def zgf:Bool→Value
 | r0=>(Value.bool r0)
def zhj (H:AH):Bool→AH:=fun _=>H
noncomputable def B22:Code:=(Tryz.f22.body).getD .skip
noncomputable def z12 (_L:LC) (H:AH) (a0:Option Addr):Option Bool :=
 match a0 with
 | none =>
  some false
 | some q1 =>
  Option.bind (rd deM H (Addr.add q1 4)) fun x2 =>
  match x2 with
  | none =>
   some false
  | some _ =>
   some true
theorem z15 {L:LC} {m:Nat} {H:AH} {a0:Option Addr} {r:Bool} (h:z12 L H a0=some r) :
  CallS Tryz.prog (NE.plain 167) m 22 #[(Value.pointer a0)] H (zgf r) (zhj H r):=by
 refine CallS.mk (args:=[(Value.pointer a0)]) Tryz.func22 (B:=B22) (by kernel_rfl) (fun E _=>?_)
 unfold z12 at h
 refine WS.sq (WS.rg (RS.mS 1 [kB 2 false] (RS.dn (WS.nxt (WS.sq (WS.rg (RS.mS 1 [(3,.val (Value.pointer a0))] ?_)))))))
 rcases a0 with _ | q1
 ·try dsimp only at h
  refine RS.mS 9 [kB 2 false,kB 11 false,kU 10,kU 9,kU 8,kU 7,kU 6,kB 5 false,kB 4 false] (RS.dn (WS.nxt (WS.rt ?_)))
  cases h
  exact fun a w hs=>rtR (rS hs)
 ·try dsimp only at h
  refine RS.mS 5 [(8,.val (Value.pointer (some (Addr.add q1 4)))),kP 7 q1,kP 6 q1,kB 5 true,kB 4 true] ?_
  obtain ⟨x2,hx,h⟩:=bind_some h
  refine RS.ld 9 39 (.tmp 8) (z1 hx zm7) ?_
  rcases x2 with _ | q3
  ·try dsimp only at h
   refine RS.mS 3 [kB 2 false,kB 11 false,kB 10 false] (RS.dn (WS.nxt (WS.rt ?_)))
   cases h
   exact fun a w hs=>rtR (rS hs)
  ·try dsimp only at h
   refine RS.mS 3 [kB 2 true,kB 11 true,kB 10 true] (RS.dn (WS.nxt (WS.rt ?_)))
   cases h
   exact fun a w hs=>rtR (rS hs)
def z2p:(Int×Int×ByteArray×Sl3×AH)→Value
 | (r0,r1,r2,r3,_)=>(Value.agg #[(Value.int .i64 r0),(Value.int .i64 r1),(Value.string r2),(Sl3.v r3)])
def z37 (_:AH):(Int×Int×ByteArray×Sl3×AH)→AH:=fun r=>r.2.2.2.2
noncomputable def B23:Code:=(Tryz.f23.body).getD .skip
noncomputable def z66 (_L:LC) (_a0_0 _a0_1:Int) (_a0_2:ByteArray) (a0_3:Sl3):(AH×Sl3×Int)→Option (Lp (AH×Sl3×Int) (Int×Int×ByteArray×Sl3×AH)):=fun (H1,v3_2,v9_3) =>
 if v9_3<(a0_3.n:Int) then
  none
 else
  some (.brk (H1,v3_2,v9_3))
def zgt (_L:LC) (a0_0 a0_1:Int) (a0_2:ByteArray) (a0_3:Sl3):(AH×Sl3×Int)→KN×Lcs:=fun (_,v3_2,v9_3)=>([kS 3 v3_2,kI 9 v9_3,kL 1 0 0,kL 2 1 0,kS 7 a0_3,kI 8 (a0_3.n:Int)],[some (47,[(Value.int .i64 a0_0),(Value.int .i64 a0_1),(Value.string a0_2),(Sl3.v a0_3)]),some (47,[(Value.int .i64 0),(Value.int .i64 0),(Value.string (⟨#[]⟩:ByteArray)),(Sl3.v Sl3.nil)])])
noncomputable def z47 (L:LC) (_m:Nat) (H:AH) (a0_0 a0_1:Int) (a0_2:ByteArray) (a0_3:Sl3):Option (Int×Int×ByteArray×Sl3×AH) :=
 Option.bind (L.run (z66 L a0_0 a0_1 a0_2 a0_3) (H,Sl3.nil,0)) fun o=>match o with
 | .inl (H4,v3_5,_) =>
  some (a0_0,a0_1,a0_2,v3_5,H4)
 | .inr r=>some r
noncomputable def za8 (L:LC) (n:Nat):(Nat→AH→Int→Int→ByteArray→Sl3→Option (Int×Int×ByteArray×Sl3×AH)):=Nat.rec (motive:=fun _=>(Nat→AH→Int→Int→ByteArray→Sl3→Option (Int×Int×ByteArray×Sl3×AH))) (fun _ _ _ _ _ _=>none) (fun _ _=>z47 L) n
noncomputable def z3e (L:LC) (m:Nat) (H:AH) (a0_0 a0_1:Int) (a0_2:ByteArray) (a0_3:Sl3):Option (Int×Int×ByteArray×Sl3×AH):=(za8 L L.fuel) m H a0_0 a0_1 a0_2 a0_3
theorem z7x {E m H L a0_0 a0_1 a0_2 a0_3} :LoopF Tryz.prog (NE.plain 167) m E Tryz.f23 ((cfst (csnd (cfst (csnd (csnd B23)))))) (zgt L a0_0 a0_1 a0_2 a0_3) (fun s=>s.1) 0 z2p (z37 H) (z66 L a0_0 a0_1 a0_2 a0_3):=by
 rintro ⟨H1,v3_2,v9_3⟩ o h
 unfold z66 at h
 try dsimp only at h
 refine WS.sq (WS.rg (RS.mS 1 [kB 10 (decide (v9_3<(a0_3.n:Int)))] (RS.dn (WS.nxt (WS.sq ?_)))))
 rcases z0 h with ⟨hp,h⟩ | ⟨hp,h⟩
 ·refine WS.fx 10 true (decide_eq_true hp) (WS.cT ?_)
  cases h
 ·refine WS.fx 10 false (decide_eq_false hp) (WS.cF (WS.ex 0 ?_))
  cases h
  exact fun a w hs=>sqE (lsB rfl (hs.sb 2))
theorem zeq {L:LC} {m:Nat} {H:AH} {a0_0 a0_1:Int} {a0_2:ByteArray} {a0_3:Sl3} {r:(Int×Int×ByteArray×Sl3×AH)} (h:z47 L m H a0_0 a0_1 a0_2 a0_3=some r) :
  CallS Tryz.prog (NE.plain 167) m 23 #[(Value.agg #[(Value.int .i64 a0_0),(Value.int .i64 a0_1),(Value.string a0_2),(Sl3.v a0_3)])] H (z2p r) (z37 H r):=by
 refine CallS.mk (args:=[(Value.agg #[(Value.int .i64 a0_0),(Value.int .i64 a0_1),(Value.string a0_2),(Sl3.v a0_3)])]) Tryz.func23 (B:=B23) (by kernel_rfl) (fun E _=>?_)
 unfold z47 at h
 refine WS.sq (WS.rg (RS.mL 2 [kL 2 1 0,kL 1 0 0] ([some (47,[(Value.int .i64 a0_0),(Value.int .i64 a0_1),(Value.string a0_2),(Sl3.v a0_3)]),some (47,[(Value.int .i64 0),(Value.int .i64 0),(Value.string (⟨#[]⟩:ByteArray)),(Sl3.v Sl3.nil)])]) (RS.dn (WS.nxt (WS.sq (WS.rg (RS.mS 1 [kS 3 Sl3.nil] (RS.dn (WS.nxt ?_)))))))))
 refine WS.sq (WS.sq (WS.rg (RS.mS 4 [kI 9 0,kI 8 (a0_3.n:Int),kS 7 a0_3,kL 6 0 3] (RS.dn (WS.nxt (WS.bk 0 ?_))))))
 obtain ⟨o,hl,h⟩:=bind_some h
 rcases o with ⟨H4,v3_5,v9_6⟩ | r
 ·try dsimp only at h
  refine WS.lI (z7x (L:=L) (E:=E) (m:=m) (H:=H)) (L.ok hl) 2 ?_
  clear hl
  refine fun a w hs=>bkE ((WS.nxt ?_ a w hs))
  refine WS.sq (WS.rg (RS.mL 3 [kL 20 0 3,kS 19 v3_5] ([some (47,[(Value.int .i64 a0_0),(Value.int .i64 a0_1),(Value.string a0_2),(Sl3.v v3_5)]),some (47,[(Value.int .i64 0),(Value.int .i64 0),(Value.string (⟨#[]⟩:ByteArray)),(Sl3.v Sl3.nil)])]) (RS.dn (WS.nxt (WS.sq (WS.rg (RS.mL 2 [kA 21 #[(Value.int .i64 a0_0),(Value.int .i64 a0_1),(Value.string a0_2),(Sl3.v v3_5)]] ([some (47,[(Value.int .i64 a0_0),(Value.int .i64 a0_1),(Value.string a0_2),(Sl3.v v3_5)]),some (47,[(Value.int .i64 a0_0),(Value.int .i64 a0_1),(Value.string a0_2),(Sl3.v v3_5)])]) (RS.dn (WS.nxt ?_)))))))))
  refine WS.rt ?_
  cases h
  exact fun a w hs=>rtR (rS hs)
 ·try dsimp only at h
  refine WS.lR (z7x (L:=L) (E:=E) (m:=m) (H:=H)) (L.ok hl) 2 ?_
  cases h
  exact fun a w hq=>bkR (sqR (rtR hq))
theorem zfy {L:LC}:∀n,(∀(m:Nat) (H:AH) (a0_0 a0_1:Int) (a0_2:ByteArray) (a0_3:Sl3) (r:(Int×Int×ByteArray×Sl3×AH)),((za8 L n)) m H a0_0 a0_1 a0_2 a0_3=some r→CallS Tryz.prog (NE.plain 167) m 23 #[(Value.agg #[(Value.int .i64 a0_0),(Value.int .i64 a0_1),(Value.string a0_2),(Sl3.v a0_3)])] H (z2p r) (z37 H r)):=by
 intro n
 induction n with
 | zero=>exact (fun _ _ _ _ _ _ _ h=>(Option.some_ne_none _ h.symm).elim)
 | succ n ih=>exact (fun _ _ _ _ _ _ _ h=>zeq (L:=L)  h)
theorem zo {L:LC} {m:Nat} {H:AH} {a0_0 a0_1:Int} {a0_2:ByteArray} {a0_3:Sl3} {r:(Int×Int×ByteArray×Sl3×AH)} (h:z3e L m H a0_0 a0_1 a0_2 a0_3=some r) :
  CallS Tryz.prog (NE.plain 167) m 23 #[(Value.agg #[(Value.int .i64 a0_0),(Value.int .i64 a0_1),(Value.string a0_2),(Sl3.v a0_3)])] H (z2p r) (z37 H r) :=
 (zfy _) _ _ _ _ _ _ _ h
def zgo:(Int×Int×ByteArray×Sl3×Bool×AH)→Value
 | (r0,r1,r2,r3,r4,_)=>(Value.tuple #[(Value.agg #[(Value.int .i64 r0),(Value.int .i64 r1),(Value.string r2),(Sl3.v r3)]),(Value.bool r4)])
def zhq (_:AH):(Int×Int×ByteArray×Sl3×Bool×AH)→AH:=fun r=>r.2.2.2.2.2
noncomputable def B7:Code:=(Tryz.f7.body).getD .skip
noncomputable def z3v (L:LC) (m:Nat) (H:AH) (a0:Option Addr) (a1:Int):Option (Int×Int×ByteArray×Sl3×Bool×AH) :=
 Option.bind (α:=Bool) (
  Option.bind (z12 L H a0) fun x2 =>
  if x2=true then
   if a1<0 then
    none
   else
    Option.bind a0 fun q3 =>
    Option.bind (rd deSl H (Addr.add q3 3)) fun x4 =>
    some (decide (a1≥(x4.n:Int)))
  else
   some true) fun v21_1 =>
 if v21_1=true then
  some (0,0,(⟨#[]⟩:ByteArray),Sl3.nil,false,H)
 else
  Option.bind a0 fun q5 =>
  Option.bind (rd deSl H (Addr.add q5 3)) fun x6 =>
  Option.bind (idxA 16 x6 a1) fun p7 =>
  Option.bind (rd (deI .i64) H (Addr.add (Addr.add p7 12) 0)) fun x8_0 =>
  Option.bind (rd (deI .i64) H (Addr.add (Addr.add p7 12) 1)) fun x8_1 =>
  Option.bind (rd deS H (Addr.add (Addr.add p7 12) 2)) fun x8_2 =>
  Option.bind (rd deSl H (Addr.add (Addr.add p7 12) 3)) fun x8_3 =>
  Option.bind (z3e L m H x8_0 x8_1 x8_2 x8_3) fun (x9_0,x9_1,x9_2,x9_3,H10) =>
  some (x9_0,x9_1,x9_2,x9_3,true,H10)
theorem z90 {L:LC} {m:Nat} {H:AH} {a0:Option Addr} {a1:Int} {r:(Int×Int×ByteArray×Sl3×Bool×AH)} (h:z3v L m H a0 a1=some r) :
  CallS Tryz.prog (NE.plain 167) m 7 #[(Value.pointer a0),(Value.int .i64 a1)] H (zgo r) (zhq H r):=by
 refine CallS.mk (args:=[(Value.pointer a0),(Value.int .i64 a1)]) Tryz.func7 (B:=B7) (by kernel_rfl) (fun E _=>?_)
 unfold z3v at h
 refine WS.sq (WS.rg (RS.mL 2 [kB 5 false,kL 4 0 0] ([some (47,[(Value.int .i64 0),(Value.int .i64 0),(Value.string (⟨#[]⟩:ByteArray)),(Sl3.v Sl3.nil)])]) (RS.dn (WS.nxt (WS.sq ?_)))))
 obtain ⟨v21_1,hx,h⟩:=bind_some h
 refine WS.sq ?_
 refine WS.join ([kB 21 v21_1,(0,.val (Value.pointer a0)),kI 1 a1,kL 4 0 0]) ([some (47,[(Value.int .i64 0),(Value.int .i64 0),(Value.string (⟨#[]⟩:ByteArray)),(Sl3.v Sl3.nil)])]) H ?_ (fun a w hs=>WS.nxt ?_ a w hs)
 ·clear h; rename _=>h
  refine WS.rg (RS.mS 1 [(6,.val (Value.pointer a0))] ?_)
  obtain ⟨x2,hx,h⟩:=bind_some h
  refine RS.cl (some 7) (v:=(Value.bool x2)) 22 #[(Value.pointer a0)] (z15 hx) (RS.mS 2 [kB 9 (!x2),kB 8 (!x2)] ?_)
  rcases z0 h with ⟨hp,h⟩ | ⟨hp,h⟩
  ·refine RS.fx 9 false (nb_not hp) (RS.mS 4 [kB 13 (decide (a1<0)),kB 12 (decide (a1<0)),kB 11 (decide (a1<0)),kI 10 a1] ?_)
   rcases z0 h with ⟨hp,h⟩ | ⟨hp,h⟩
   ·refine RS.fx 13 true (decide_eq_true hp) ?_
    cases h
   ·refine RS.fx 13 false (decide_eq_false hp) (RS.mS 2 [(15,.val (Value.pointer a0)),kI 14 a1] ?_)
    obtain ⟨q3,hx,hq3⟩:=bind_some h
    subst hx
    have h:=hq3
    refine RS.mS 2 [(17,.val (Value.pointer (some (Addr.add q3 3)))),kP 16 q3] ?_
    obtain ⟨x4,hx,h⟩:=bind_some h
    refine RS.ld 18 38 (.tmp 17) (z1 hx z3) (RS.mS 3 [kB 21 (decide (a1≥(x4.n:Int))),kB 20 (decide (a1≥(x4.n:Int))),kI 19 (x4.n:Int)] (RS.dn ?_))
    cases h
    exact fun a w hs=>(jsN (hs.sb 1))
  ·refine RS.fx 9 true (za hp) (RS.mS 12 [kB 21 true,kU 20,kU 19,kU 18,kU 17,kU 16,kU 15,kU 14,kB 13 true,kB 12 true,kU 11,kU 10] (RS.dn ?_))
   cases h
   exact fun a w hs=>(jsN (hs.sb 1))
 ·clear hx
  rcases z0 h with ⟨hp,h⟩ | ⟨hp,h⟩
  ·refine WS.fx 21 true hp (WS.cT (WS.sq (WS.rg (RS.mS 3 [kB 5 false,kA 22 #[(Value.int .i64 0),(Value.int .i64 0),(Value.string (⟨#[]⟩:ByteArray)),(Sl3.v Sl3.nil)]] (RS.dn (WS.nxt (WS.rt ?_)))))))
   cases h
   exact fun a w hs=>sqR (rtR (rS hs))
  ·refine WS.fx 21 false (b_not hp) (WS.cF (WS.sk (WS.nxt (WS.sq (WS.rg (RS.mS 1 [(23,.val (Value.pointer a0))] ?_))))))
   obtain ⟨q5,hx,hq5⟩:=bind_some h
   subst hx
   have h:=hq5
   refine RS.mS 2 [(25,.val (Value.pointer (some (Addr.add q5 3)))),kP 24 q5] ?_
   obtain ⟨x6,hx,h⟩:=bind_some h
   refine RS.ld 26 38 (.tmp 25) (z1 hx z3) (RS.mS 1 [kI 27 a1] ?_)
   obtain ⟨p7,hx,h⟩:=bind_some h
   refine RS.ix 28 38 95 (.tmp 26) (.tmp 27) hx (RS.mS 1 [(29,.val (Value.pointer (some (Addr.add p7 12))))] ?_)
   obtain ⟨x8_0,hx0,h⟩:=bind_some h
   obtain ⟨x8_1,hx1,h⟩:=bind_some h
   obtain ⟨x8_2,hx2,h⟩:=bind_some h
   obtain ⟨x8_3,hx3,h⟩:=bind_some h
   refine RS.la 30 47 (.tmp 29) 4 (z2 (z1 hx0 z5) (z2 (z1 hx1 z5) (z2 (z1 hx2 z9) (z2 (z1 hx3 z3) zm)))) ?_
   obtain ⟨⟨x9_0,x9_1,x9_2,x9_3,H10⟩,hx,h⟩:=bind_some h
   try dsimp only at h
   refine RS.cl (some 31) (v:=(Value.agg #[(Value.int .i64 x9_0),(Value.int .i64 x9_1),(Value.string x9_2),(Sl3.v x9_3)])) 23 #[(Value.agg #[(Value.int .i64 x8_0),(Value.int .i64 x8_1),(Value.string x8_2),(Sl3.v x8_3)])] (zo hx) (RS.mL 2 [kB 5 true] ([some (47,[(Value.int .i64 x9_0),(Value.int .i64 x9_1),(Value.string x9_2),(Sl3.v x9_3)])]) (RS.dn (WS.nxt (WS.rt ?_))))
   cases h
   exact fun a w hs=>rtR (rS hs)
def zhm:Int→Value
 | r0=>(Value.int .i64 r0)
def ziw (H:AH):Int→AH:=fun _=>H
noncomputable def B8:Code:=(Tryz.f8.body).getD .skip
noncomputable def z2t (L:LC) (H:AH) (a0:Option Addr):Option Int :=
 Option.bind (z12 L H a0) fun x1 =>
 if x1=true then
  Option.bind a0 fun q2 =>
  Option.bind (rd deSl H (Addr.add q2 3)) fun x3 =>
  some (x3.n:Int)
 else
  some 0
theorem zq {L:LC} {m:Nat} {H:AH} {a0:Option Addr} {r:Int} (h:z2t L H a0=some r) :
  CallS Tryz.prog (NE.plain 167) m 8 #[(Value.pointer a0)] H (zhm r) (ziw H r):=by
 refine CallS.mk (args:=[(Value.pointer a0)]) Tryz.func8 (B:=B8) (by kernel_rfl) (fun E _=>?_)
 unfold z2t at h
 refine WS.sq (WS.rg (RS.mS 1 [kI 2 0] (RS.dn (WS.nxt (WS.sq (WS.sq (WS.rg (RS.mS 1 [(3,.val (Value.pointer a0))] ?_))))))))
 obtain ⟨x1,hx,h⟩:=bind_some h
 refine RS.cl (some 4) (v:=(Value.bool x1)) 22 #[(Value.pointer a0)] (z15 hx) (RS.mS 1 [kB 5 (!x1)] (RS.dn (WS.nxt ?_)))
 rcases z0 h with ⟨hp,h⟩ | ⟨hp,h⟩
 ·refine WS.fx 5 false (nb_not hp) (WS.cF (WS.sk (WS.nxt (WS.sq (WS.rg (RS.mS 1 [(6,.val (Value.pointer a0))] ?_))))))
  obtain ⟨q2,hx,hq2⟩:=bind_some h
  subst hx
  have h:=hq2
  refine RS.mS 2 [(8,.val (Value.pointer (some (Addr.add q2 3)))),kP 7 q2] ?_
  obtain ⟨x3,hx,h⟩:=bind_some h
  refine RS.ld 9 38 (.tmp 8) (z1 hx z3) (RS.mS 2 [kI 2 (x3.n:Int),kI 10 (x3.n:Int)] (RS.dn (WS.nxt (WS.rt ?_))))
  cases h
  exact fun a w hs=>rtR (rS hs)
 ·refine WS.fx 5 true (za hp) (WS.cT (WS.sq (WS.rg (RS.mS 1 [kI 2 0] (RS.dn (WS.nxt (WS.rt ?_)))))))
  cases h
  exact fun a w hs=>sqR (rtR (rS hs))
def ze1:(Bool×AH)→Value
 | (r0,_)=>(Value.bool r0)
def zfv (_:AH):(Bool×AH)→AH:=fun r=>r.2
noncomputable def B100:Code:=(Tryz.f100.body).getD .skip
noncomputable def z59 (_L:LC) (_m:Nat) (H:AH) (_a0:Option Addr) (a1_0:Int) (_a1_1:ByteArray) (_a1_2:Bool) (_a1_3:Sl3) (_a1_4:Int) (_a1_5:Sl3) (_a1_6 _a1_7:Int) (_a1_8:ByteArray) (_a1_9 _a1_10 _a1_11:Sl3) (a2:Int):Option (Bool×AH) :=
 if a1_0=34 then
  none
 else
  if a2=0 then
   some (true,H)
  else
   none
theorem zft {L:LC} {m:Nat} {H:AH} {a0:Option Addr} {a1_0:Int} {a1_1:ByteArray} {a1_2:Bool} {a1_3:Sl3} {a1_4:Int} {a1_5:Sl3} {a1_6 a1_7:Int} {a1_8:ByteArray} {a1_9 a1_10 a1_11:Sl3} {a2:Int} {r:(Bool×AH)} (h:z59 L m H a0 a1_0 a1_1 a1_2 a1_3 a1_4 a1_5 a1_6 a1_7 a1_8 a1_9 a1_10 a1_11 a2=some r) :
  CallS Tryz.prog (NE.plain 167) m 100 #[(Value.pointer a0),(Value.agg #[(Value.int .i64 a1_0),(Value.string a1_1),(Value.bool a1_2),(Sl3.v a1_3),(Value.int .i64 a1_4),(Sl3.v a1_5),(Value.int .i64 a1_6),(Value.int .i64 a1_7),(Value.string a1_8),(Sl3.v a1_9),(Sl3.v a1_10),(Sl3.v a1_11)]),(Value.int .i64 a2)] H (ze1 r) (zfv H r):=by
 refine CallS.mk (args:=[(Value.pointer a0),(Value.agg #[(Value.int .i64 a1_0),(Value.string a1_1),(Value.bool a1_2),(Sl3.v a1_3),(Value.int .i64 a1_4),(Sl3.v a1_5),(Value.int .i64 a1_6),(Value.int .i64 a1_7),(Value.string a1_8),(Sl3.v a1_9),(Sl3.v a1_10),(Sl3.v a1_11)]),(Value.int .i64 a2)]) Tryz.func100 (B:=B100) (by kernel_rfl) (fun E _=>?_)
 unfold z59 at h
 refine WS.sq (WS.rg (RS.mL 2 [kB 6 false,kL 4 0 0] ([some (61,[(Value.int .i64 a1_0),(Value.string a1_1),(Value.bool a1_2),(Sl3.v a1_3),(Value.int .i64 a1_4),(Sl3.v a1_5),(Value.int .i64 a1_6),(Value.int .i64 a1_7),(Value.string a1_8),(Sl3.v a1_9),(Sl3.v a1_10),(Sl3.v a1_11)])]) (RS.dn (WS.nxt (WS.sq (WS.sq (WS.rg (RS.mS 3 [kB 9 (decide (a1_0=34)),kI 8 a1_0,kL 7 0 0] (RS.dn ?_)))))))))
 refine WS.nxt ?_
 rcases z0 h with ⟨hp,h⟩ | ⟨hp,h⟩
 ·refine WS.fx 9 true (decide_eq_true hp) (WS.cT ?_)
  cases h
 ·refine WS.fx 9 false (decide_eq_false hp) (WS.cF (WS.sk (WS.nxt (WS.sq (WS.sq (WS.rg (RS.mS 2 [kB 25 (decide (a2=0)),kI 24 a2] (RS.dn (WS.nxt ?_)))))))))
  rcases z0 h with ⟨hp,h⟩ | ⟨hp,h⟩
  ·refine WS.fx 25 true (decide_eq_true hp) (WS.cT (WS.sq (WS.rg (RS.mS 1 [kB 6 true] (RS.dn (WS.nxt (WS.rt ?_)))))))
   cases h
   exact fun a w hs=>sqR (rtR (rS hs))
  ·refine WS.fx 25 false (decide_eq_false hp) (WS.cF ?_)
   cases h
def zht:Sl3→Value
 | r0=>(Sl3.v r0)
def zje (H:AH):Sl3→AH:=fun _=>H
noncomputable def B213:Code:=(Tryz.f213.body).getD .skip
noncomputable def zdg (_L:LC) (H:AH) (a0:Sl3):Int→Option (Lp Int Sl3):=fun v3_1 =>
 if v3_1 > 0 then
  Option.bind (idxA 1 a0 (IntKind.i64.wrap (v3_1 - 1))) fun p2 =>
  Option.bind (rd (deI .u64) H p2) fun x3 =>
  if x3=0 then
   none
  else
   some (.brk v3_1)
 else
  none
def zm4 (_L:LC) (_H:AH) (a0:Sl3):Int→KN×Lcs:=fun v3_1=>([kI 3 v3_1,kS 0 a0],[])
noncomputable def zjm (L:LC) (H:AH) (a0:Sl3):Option Sl3 :=
 Option.bind (L.run (zdg L H a0) (a0.n:Int)) fun o=>match o with
 | .inl v3_4 =>
  Option.bind (slc 1 H a0 none (some v3_4) (some v3_4)) fun s5 =>
  some s5
 | .inr r=>some r
theorem ze9 {E m L H a0} :LoopF Tryz.prog (NE.plain 167) m E Tryz.f213 ((cfst (cfst (csnd (csnd B213))))) (zm4 L H a0) (fun _=>H) 0 zht (zje H) (zdg L H a0):=by
 rintro v3_1 o h
 unfold zdg at h
 try dsimp only at h
 refine WS.sq (WS.sq (WS.rg (RS.mS 3 [kB 8 (decide (v3_1 > 0)),kB 7 (decide (v3_1 > 0)),kI 6 v3_1] ?_)))
 rcases z0 h with ⟨hp,h⟩ | ⟨hp,h⟩
 ·refine RS.fx 8 true (decide_eq_true hp) (RS.mS 3 [kI 11 (IntKind.i64.wrap (v3_1 - 1)),kI 10 v3_1,kS 9 a0] ?_)
  obtain ⟨p2,hx,h⟩:=bind_some h
  refine RS.ix 12 55 112 (.tmp 9) (.tmp 11) hx ?_
  obtain ⟨x3,hx,h⟩:=bind_some h
  refine RS.ld 13 112 (.tmp 12) (z1 hx z5) (RS.mS 2 [kB 15 (decide (x3=0)),kB 14 (decide (x3=0))] (RS.dn (WS.nxt ?_)))
  rcases z0 h with ⟨hp,h⟩ | ⟨hp,h⟩
  ·refine WS.fx 15 true (decide_eq_true hp) (WS.cT ?_)
   cases h
  ·refine WS.fx 15 false (decide_eq_false hp) (WS.cF (WS.ex 0 ?_))
   cases h
   exact fun a w hs=>sqE (lsB rfl (hs.sb 0))
 ·refine RS.fx 8 false (decide_eq_false hp) ?_
  cases h
theorem zp5 {L:LC} {m:Nat} {H:AH} {a0 r:Sl3} (h:zjm L H a0=some r) :
  CallS Tryz.prog (NE.plain 167) m 213 #[(Sl3.v a0)] H (zht r) (zje H r):=by
 refine CallS.mk (args:=[(Sl3.v a0)]) Tryz.func213 (B:=B213) (by kernel_rfl) (fun E _=>?_)
 unfold zjm at h
 refine WS.sq (WS.rg (RS.mS 1 [kS 2 Sl3.nil] (RS.dn (WS.nxt (WS.sq (WS.rg (RS.mS 3 [kI 3 (a0.n:Int),kI 5 (a0.n:Int),kS 4 a0] (RS.dn (WS.nxt ?_)))))))))
 refine WS.sq (WS.bk 0 ?_)
 obtain ⟨o,hl,h⟩:=bind_some h
 rcases o with v3_4 | r
 ·try dsimp only at h
  refine WS.lI (ze9 (L:=L) (E:=E) (m:=m) (H:=H)) (L.ok hl) 0 ?_
  clear hl
  refine fun a w hs=>bkE ((WS.nxt ?_ a w hs))
  refine WS.sq (WS.rg (RS.mS 3 [kI 20 v3_4,kI 19 v3_4,kS 18 a0] ?_))
  obtain ⟨s5,hx,h⟩:=bind_some h
  refine RS.o (H':=H) (some 21) (Sl3.v s5) (Abs.run_slice (t:=55) (e:=112) (x:=.tmp 18) (lo:=none) (hi:=(some (.tmp 19))) (mx:=(some (.tmp 20))) (s:=a0) (k1:=.i64) (k2:=.i64) (k3:=.i64) (by kernel_rfl) (by kernel_rfl) (by kernel_rfl) (by kernel_rfl) (by kernel_rfl) (by kernel_rfl) (by kernel_rfl) hx) (RS.mS 1 [kS 2 s5] (RS.dn (WS.nxt (WS.rt ?_))))
  cases h
  exact fun a w hs=>rtR (rS hs)
 ·try dsimp only at h
  refine WS.lR (ze9 (L:=L) (E:=E) (m:=m) (H:=H)) (L.ok hl) 0 ?_
  cases h
  exact fun a w hq=>bkR (sqR (rtR hq))
def zm3:Int→Value
 | r0=>(Value.int .i64 r0)
def zmq (H:AH):Int→AH:=fun _=>H
noncomputable def B214:Code:=(Tryz.f214.body).getD .skip
noncomputable def zfn (_L:LC) (a0:Int):Option Int :=
 if a0≥4294967296 then
  none
 else
  if a0≥65536 then
   none
  else
   if a0≥256 then
    none
   else
    Option.bind (bytA (⟨#[0,1,2,2,3,3,3,3,4,4,4,4,4,4,4,4,5,5,5,5,5,5,5,5,5,5,5,5,5,5,5,5,6,6,6,6,6,6,6,6,6,6,6,6,6,6,6,6,6,6,6,6,6,6,6,6,6,6,6,6,6,6,6,6,7,7,7,7,7,7,7,7,7,7,7,7,7,7,7,7,7,7,7,7,7,7,7,7,7,7,7,7,7,7,7,7,7,7,7,7,7,7,7,7,7,7,7,7,7,7,7,7,7,7,7,7,7,7,7,7,7,7,7,7,7,7,7,7,8,8,8,8,8,8,8,8,8,8,8,8,8,8,8,8,8,8,8,8,8,8,8,8,8,8,8,8,8,8,8,8,8,8,8,8,8,8,8,8,8,8,8,8,8,8,8,8,8,8,8,8,8,8,8,8,8,8,8,8,8,8,8,8,8,8,8,8,8,8,8,8,8,8,8,8,8,8,8,8,8,8,8,8,8,8,8,8,8,8,8,8,8,8,8,8,8,8,8,8,8,8,8,8,8,8,8,8,8,8,8,8,8,8,8,8,8,8,8,8,8,8,8,8,8,8,8,8]⟩:ByteArray) (IntKind.u8.wrap a0)) fun x1 =>
    some (IntKind.i64.wrap (0+(IntKind.i64.wrap x1)))
theorem zmx {L:LC} {m:Nat} {H:AH} {a0 r:Int} (h:zfn L a0=some r) :
  CallS Tryz.prog (NE.plain 167) m 214 #[(Value.int .u64 a0)] H (zm3 r) (zmq H r):=by
 refine CallS.mk (args:=[(Value.int .u64 a0)]) Tryz.func214 (B:=B214) (by kernel_rfl) (fun E _=>?_)
 unfold zfn at h
 refine WS.sq (WS.rg (RS.mS 1 [kI 2 0] (RS.dn (WS.nxt (WS.sq (WS.sq (WS.rg (RS.mS 2 [kB 4 (decide (a0≥4294967296)),(3,.val (Value.int .u64 a0))] (RS.dn ?_)))))))))
 refine WS.nxt ?_
 rcases z0 h with ⟨hp,h⟩ | ⟨hp,h⟩
 ·refine WS.fx 4 true (decide_eq_true hp) (WS.cT ?_)
  cases h
 ·refine WS.fx 4 false (decide_eq_false hp) (WS.cF (WS.sk (WS.nxt (WS.sq (WS.sq (WS.rg (RS.mS 2 [kB 8 (decide (a0≥65536)),(7,.val (Value.int .u64 a0))] (RS.dn (WS.nxt ?_)))))))))
  rcases z0 h with ⟨hp,h⟩ | ⟨hp,h⟩
  ·refine WS.fx 8 true (decide_eq_true hp) (WS.cT ?_)
   cases h
  ·refine WS.fx 8 false (decide_eq_false hp) (WS.cF (WS.sk (WS.nxt (WS.sq (WS.sq (WS.rg (RS.mS 2 [kB 14 (decide (a0≥256)),(13,.val (Value.int .u64 a0))] (RS.dn (WS.nxt ?_)))))))))
   rcases z0 h with ⟨hp,h⟩ | ⟨hp,h⟩
   ·refine WS.fx 14 true (decide_eq_true hp) (WS.cT ?_)
    cases h
   ·refine WS.fx 14 false (decide_eq_false hp) (WS.cF (WS.sk (WS.nxt (WS.sq (WS.rg (RS.mS 3 [(21,.val (Value.int .u8 (IntKind.u8.wrap a0))),(20,.val (Value.int .u64 a0)),kI 19 0] ?_))))))
    obtain ⟨x1,hx,h⟩:=bind_some h
    refine RS.o (H':=H) (some 22) (Value.int .u8 x1) (Abs.run_byt (t:=9) (x:=.const (Value.string (⟨#[0,1,2,2,3,3,3,3,4,4,4,4,4,4,4,4,5,5,5,5,5,5,5,5,5,5,5,5,5,5,5,5,6,6,6,6,6,6,6,6,6,6,6,6,6,6,6,6,6,6,6,6,6,6,6,6,6,6,6,6,6,6,6,6,7,7,7,7,7,7,7,7,7,7,7,7,7,7,7,7,7,7,7,7,7,7,7,7,7,7,7,7,7,7,7,7,7,7,7,7,7,7,7,7,7,7,7,7,7,7,7,7,7,7,7,7,7,7,7,7,7,7,7,7,7,7,7,7,8,8,8,8,8,8,8,8,8,8,8,8,8,8,8,8,8,8,8,8,8,8,8,8,8,8,8,8,8,8,8,8,8,8,8,8,8,8,8,8,8,8,8,8,8,8,8,8,8,8,8,8,8,8,8,8,8,8,8,8,8,8,8,8,8,8,8,8,8,8,8,8,8,8,8,8,8,8,8,8,8,8,8,8,8,8,8,8,8,8,8,8,8,8,8,8,8,8,8,8,8,8,8,8,8,8,8,8,8,8,8,8,8,8,8,8,8,8,8,8,8,8,8,8,8,8,8,8]⟩:ByteArray))) (y:=.tmp 21) (s:=(⟨#[0,1,2,2,3,3,3,3,4,4,4,4,4,4,4,4,5,5,5,5,5,5,5,5,5,5,5,5,5,5,5,5,6,6,6,6,6,6,6,6,6,6,6,6,6,6,6,6,6,6,6,6,6,6,6,6,6,6,6,6,6,6,6,6,7,7,7,7,7,7,7,7,7,7,7,7,7,7,7,7,7,7,7,7,7,7,7,7,7,7,7,7,7,7,7,7,7,7,7,7,7,7,7,7,7,7,7,7,7,7,7,7,7,7,7,7,7,7,7,7,7,7,7,7,7,7,7,7,8,8,8,8,8,8,8,8,8,8,8,8,8,8,8,8,8,8,8,8,8,8,8,8,8,8,8,8,8,8,8,8,8,8,8,8,8,8,8,8,8,8,8,8,8,8,8,8,8,8,8,8,8,8,8,8,8,8,8,8,8,8,8,8,8,8,8,8,8,8,8,8,8,8,8,8,8,8,8,8,8,8,8,8,8,8,8,8,8,8,8,8,8,8,8,8,8,8,8,8,8,8,8,8,8,8,8,8,8,8,8,8,8,8,8,8,8,8,8,8,8,8,8,8,8,8,8,8]⟩:ByteArray)) (k:=.u8) (i:=(IntKind.u8.wrap a0)) (by kernel_rfl) (by kernel_rfl) (by kernel_rfl) (by kernel_rfl) hx) (RS.mS 3 [kI 2 (IntKind.i64.wrap (0+(IntKind.i64.wrap x1))),kI 24 (IntKind.i64.wrap (0+(IntKind.i64.wrap x1))),kI 23 (IntKind.i64.wrap x1)] (RS.dn (WS.nxt (WS.rt ?_))))
    cases h
    exact fun a w hs=>rtR (rS hs)
def zol:Int→Value
 | r0=>(Value.int .i64 r0)
def zqc (H:AH):Int→AH:=fun _=>H
noncomputable def B163:Code:=(Tryz.f163.body).getD .skip
noncomputable def zlm (L:LC) (H:AH) (a0:Sl3):Option Int :=
 Option.bind (zjm L H a0) fun x1 =>
 if (x1.n:Int)=0 then
  none
 else
  Option.bind (idxA 1 x1 (IntKind.i64.wrap ((x1.n:Int) - 1))) fun p2 =>
  Option.bind (rd (deI .u64) H p2) fun x3 =>
  Option.bind (zfn L x3) fun x4 =>
  some (IntKind.i64.wrap ((IntKind.i64.wrap (64*(IntKind.i64.wrap ((x1.n:Int) - 1))))+x4))
theorem zli {L:LC} {m:Nat} {H:AH} {a0:Sl3} {r:Int} (h:zlm L H a0=some r) :
  CallS Tryz.prog (NE.plain 167) m 163 #[(Sl3.v a0)] H (zol r) (zqc H r):=by
 refine CallS.mk (args:=[(Sl3.v a0)]) Tryz.func163 (B:=B163) (by kernel_rfl) (fun E _=>?_)
 unfold zlm at h
 refine WS.sq (WS.rg (RS.mS 1 [kI 2 0] (RS.dn (WS.nxt (WS.sq (WS.rg (RS.mS 1 [kS 3 a0] ?_)))))))
 obtain ⟨x1,hx,h⟩:=bind_some h
 refine RS.cl (some 4) (v:=(Sl3.v x1)) 213 #[(Sl3.v a0)] (zp5 hx) (RS.mS 1 [kS 0 x1] (RS.dn (WS.nxt (WS.sq (WS.sq (WS.rg (RS.mS 3 [kB 7 (decide ((x1.n:Int)=0)),kI 6 (x1.n:Int),kS 5 x1] (RS.dn (WS.nxt ?_)))))))))
 rcases z0 h with ⟨hp,h⟩ | ⟨hp,h⟩
 ·refine WS.fx 7 true (decide_eq_true hp) (WS.cT ?_)
  cases h
 ·refine WS.fx 7 false (decide_eq_false hp) (WS.cF (WS.sk (WS.nxt (WS.sq (WS.rg (RS.mS 8 [kI 15 (IntKind.i64.wrap ((x1.n:Int) - 1)),kI 14 (x1.n:Int),kS 13 x1,kS 12 x1,kI 11 (IntKind.i64.wrap (64*(IntKind.i64.wrap ((x1.n:Int) - 1)))),kI 10 (IntKind.i64.wrap ((x1.n:Int) - 1)),kI 9 (x1.n:Int),kS 8 x1] ?_))))))
  obtain ⟨p2,hx,h⟩:=bind_some h
  refine RS.ix 16 55 112 (.tmp 12) (.tmp 15) hx ?_
  obtain ⟨x3,hx,h⟩:=bind_some h
  refine RS.ld 17 112 (.tmp 16) (z1 hx z5) ?_
  obtain ⟨x4,hx,h⟩:=bind_some h
  refine RS.cl (some 18) (v:=(Value.int .i64 x4)) 214 #[(Value.int .u64 x3)] (zmx hx) (RS.mS 2 [kI 2 (IntKind.i64.wrap ((IntKind.i64.wrap (64*(IntKind.i64.wrap ((x1.n:Int) - 1))))+x4)),kI 19 (IntKind.i64.wrap ((IntKind.i64.wrap (64*(IntKind.i64.wrap ((x1.n:Int) - 1))))+x4))] (RS.dn (WS.nxt (WS.rt ?_))))
  cases h
  exact fun a w hs=>rtR (rS hs)
def zlt:Int→Value
 | r0=>(Value.int .i64 r0)
def zng (H:AH):Int→AH:=fun _=>H
noncomputable def B101:Code:=(Tryz.f101.body).getD .skip
noncomputable def zfd (L:LC) (H:AH) (a0_0:Int) (_a0_1:ByteArray) (_a0_2:Bool) (a0_3:Sl3) (_a0_4:Int) (_a0_5:Sl3) (_a0_6 _a0_7:Int) (_a0_8:ByteArray) (_a0_9 _a0_10 _a0_11:Sl3):Option Int :=
 Option.bind (α:=Unit⊕Int) (
  if a0_0=20 then
   Option.bind (zlm L H a0_3) fun x1 =>
   if x1 > 262144 then
    none
   else
    some (.inl ())
  else
   if a0_0=40 then
    none
   else
    some (.inl ())) fun o=>match o with
 | .inl _ =>
  some 0
 | .inr r=>some r
theorem zn2 {L:LC} {m:Nat} {H:AH} {a0_0:Int} {a0_1:ByteArray} {a0_2:Bool} {a0_3:Sl3} {a0_4:Int} {a0_5:Sl3} {a0_6 a0_7:Int} {a0_8:ByteArray} {a0_9 a0_10 a0_11:Sl3} {r:Int} (h:zfd L H a0_0 a0_1 a0_2 a0_3 a0_4 a0_5 a0_6 a0_7 a0_8 a0_9 a0_10 a0_11=some r) :
  CallS Tryz.prog (NE.plain 167) m 101 #[(Value.agg #[(Value.int .i64 a0_0),(Value.string a0_1),(Value.bool a0_2),(Sl3.v a0_3),(Value.int .i64 a0_4),(Sl3.v a0_5),(Value.int .i64 a0_6),(Value.int .i64 a0_7),(Value.string a0_8),(Sl3.v a0_9),(Sl3.v a0_10),(Sl3.v a0_11)])] H (zlt r) (zng H r):=by
 refine CallS.mk (args:=[(Value.agg #[(Value.int .i64 a0_0),(Value.string a0_1),(Value.bool a0_2),(Sl3.v a0_3),(Value.int .i64 a0_4),(Sl3.v a0_5),(Value.int .i64 a0_6),(Value.int .i64 a0_7),(Value.string a0_8),(Sl3.v a0_9),(Sl3.v a0_10),(Sl3.v a0_11)])]) Tryz.func101 (B:=B101) (by kernel_rfl) (fun E _=>?_)
 unfold zfd at h
 refine WS.sq (WS.rg (RS.mL 2 [kI 2 0,kL 1 0 0] ([some (61,[(Value.int .i64 a0_0),(Value.string a0_1),(Value.bool a0_2),(Sl3.v a0_3),(Value.int .i64 a0_4),(Sl3.v a0_5),(Value.int .i64 a0_6),(Value.int .i64 a0_7),(Value.string a0_8),(Sl3.v a0_9),(Sl3.v a0_10),(Sl3.v a0_11)])]) (RS.dn (WS.nxt ?_))))
 obtain ⟨o,hx,h⟩:=bind_some h
 rcases o with _ | ro
 ·try dsimp only at h
  refine WS.sq ?_
  refine WS.join ([]) ([some (61,[(Value.int .i64 a0_0),(Value.string a0_1),(Value.bool a0_2),(Sl3.v a0_3),(Value.int .i64 a0_4),(Sl3.v a0_5),(Value.int .i64 a0_6),(Value.int .i64 a0_7),(Value.string a0_8),(Sl3.v a0_9),(Sl3.v a0_10),(Sl3.v a0_11)])]) H ?_ (fun a w hs=>WS.nxt ?_ a w hs)
  ·clear h; rename _=>h
   refine WS.sq (WS.rg (RS.mS 2 [kI 4 a0_0,kL 3 0 0] (RS.dn (WS.nxt (WS.bk 0 (WS.sq (WS.rg (RS.mS 2 [kB 5 (decide (a0_0=20)),kB 6 (decide (a0_0=20))] (RS.dn ?_)))))))))
   refine WS.nxt ?_
   rcases z0 h with ⟨hp,h⟩ | ⟨hp,h⟩
   ·refine WS.fx 5 true (decide_eq_true hp) (WS.cT (WS.sq (WS.rg (RS.mS 3 [kS 9 a0_3,kL 8 0 3,kL 7 0 2] ?_))))
    obtain ⟨x1,hx,h⟩:=bind_some h
    refine RS.cl (some 10) (v:=(Value.int .i64 x1)) 163 #[(Sl3.v a0_3)] (zli hx) (RS.mS 1 [kB 11 (decide (x1 > 262144))] (RS.dn (WS.nxt ?_)))
    rcases z0 h with ⟨hp,h⟩ | ⟨hp,h⟩
    ·refine WS.fx 11 true (decide_eq_true hp) (WS.cT ?_)
     cases h
    ·refine WS.fx 11 false (decide_eq_false hp) (WS.cF (WS.sk ?_))
     cases h
     exact fun a w hs=>bkN ((jsN (hs.sb 1)))
   ·refine WS.fx 5 false (decide_eq_false hp) (WS.cF (WS.sq (WS.rg (RS.mS 2 [kB 12 (decide (a0_0=40)),kB 13 (decide (a0_0=40))] (RS.dn (WS.nxt ?_))))))
    rcases z0 h with ⟨hp,h⟩ | ⟨hp,h⟩
    ·refine WS.fx 12 true (decide_eq_true hp) (WS.cT ?_)
     cases h
    ·refine WS.fx 12 false (decide_eq_false hp) (WS.cF (WS.sk ?_))
     cases h
     exact fun a w hs=>bkN ((jsN (hs.sb 1)))
  ·clear hx
   refine WS.sq (WS.rg (RS.mS 1 [kI 2 0] (RS.dn (WS.nxt (WS.rt ?_)))))
   cases h
   exact fun a w hs=>rtR (rS hs)
 ·cases h; rename _=>h
  refine WS.sq (WS.sq (WS.rg (RS.mS 2 [kI 4 a0_0,kL 3 0 0] (RS.dn (WS.nxt (WS.bk 0 (WS.sq (WS.rg (RS.mS 2 [kB 5 (decide (a0_0=20)),kB 6 (decide (a0_0=20))] ?_)))))))))
  refine RS.dn (WS.nxt ?_)
  rcases z0 h with ⟨hp,h⟩ | ⟨hp,h⟩
  ·refine WS.fx 5 true (decide_eq_true hp) (WS.cT (WS.sq (WS.rg (RS.mS 3 [kS 9 a0_3,kL 8 0 3,kL 7 0 2] ?_))))
   obtain ⟨x1,hx,h⟩:=bind_some h
   refine RS.cl (some 10) (v:=(Value.int .i64 x1)) 163 #[(Sl3.v a0_3)] (zli hx) (RS.mS 1 [kB 11 (decide (x1 > 262144))] (RS.dn (WS.nxt ?_)))
   rcases z0 h with ⟨hp,h⟩ | ⟨hp,h⟩
   ·refine WS.fx 11 true (decide_eq_true hp) (WS.cT ?_)
    cases h
   ·refine WS.fx 11 false (decide_eq_false hp) (WS.cF (WS.sk ?_))
    cases h
  ·refine WS.fx 5 false (decide_eq_false hp) (WS.cF (WS.sq (WS.rg (RS.mS 2 [kB 12 (decide (a0_0=40)),kB 13 (decide (a0_0=40))] (RS.dn (WS.nxt ?_))))))
   rcases z0 h with ⟨hp,h⟩ | ⟨hp,h⟩
   ·refine WS.fx 12 true (decide_eq_true hp) (WS.cT ?_)
    cases h
   ·refine WS.fx 12 false (decide_eq_false hp) (WS.cF (WS.sk ?_))
    cases h
def zn7:(Int×Int×Int×Bool)→Value
 | (r0,r1,r2,r3)=>(Value.tuple #[(Value.int .i64 r0),(Value.int .i64 r1),(Value.int .i64 r2),(Value.bool r3)])
def znz (H:AH):(Int×Int×Int×Bool)→AH:=fun _=>H
noncomputable def B57:Code:=(Tryz.f57.body).getD .skip
noncomputable def zce (_L:LC) (a0:Int):Option (Int×Int×Int×Bool) :=
 Option.bind (α:=Bool) (
  if a0=1 then
   none
  else
   if a0=2 then
    none
   else
    if a0=20 then
     some true
    else
     some (decide (a0=40))) fun v8_1 =>
 if v8_1=true then
  some (0,0,0,true)
 else
  Option.bind (α:=Bool) (
   if a0=3 then
    none
   else
    if a0=21 then
     some true
    else
     if a0=27 then
      none
     else
      if a0=34 then
       none
      else
       if a0=43 then
        none
       else
        some (decide (a0=44))) fun v13_2 =>
  if v13_2=true then
   some (1,1,0,true)
  else
   if a0=4 then
    none
   else
    if a0=5 then
     none
    else
     if a0=9 then
      none
     else
      if a0=22 then
       none
      else
       if a0=10 then
        none
       else
        if a0=33 then
         none
        else
         Option.bind (α:=Bool) (
          if a0=11 then
           some true
          else
           if a0=12 then
            none
           else
            if a0=13 then
             none
            else
             some (decide (a0=14))) fun v28_3 =>
         if v28_3=true then
          some (0,64,0,true)
         else
          if a0=42 then
           none
          else
           if a0=63 then
            none
           else
            if a0=64 then
             none
            else
             if a0=65 then
              none
             else
              if a0=66 then
               none
              else
               if a0=67 then
                none
               else
                if a0≥1 then
                 if a0≤14 then
                  none
                 else
                  if a0≥20 then
                   if a0≤34 then
                    some (2,2,0,true)
                   else
                    none
                  else
                   none
                else
                 none
theorem zhl {L:LC} {m:Nat} {H:AH} {a0:Int} {r:(Int×Int×Int×Bool)} (h:zce L a0=some r) :
  CallS Tryz.prog (NE.plain 167) m 57 #[(Value.int .i64 a0)] H (zn7 r) (znz H r):=by
 refine CallS.mk (args:=[(Value.int .i64 a0)]) Tryz.func57 (B:=B57) (by kernel_rfl) (fun E _=>?_)
 unfold zce at h
 refine WS.sq (WS.rg (RS.mS 4 [kB 5 false,kI 4 0,kI 3 0,kI 2 0] (RS.dn (WS.nxt (WS.sq (WS.sq (WS.rg (RS.mS 1 [kI 7 a0] (RS.dn ?_)))))))))
 refine WS.nxt (WS.bk 0 ?_)
 obtain ⟨v8_1,hx,h⟩:=bind_some h
 refine WS.sq ?_
 refine WS.join ([kB 8 v8_1,kI 0 a0,kI 7 a0]) ([]) H ?_ (fun a w hs=>WS.nxt ?_ a w hs)
 ·clear h; rename _=>h
  refine WS.sq (WS.rg (RS.mS 2 [kB 8 (decide (a0=1)),kB 9 (decide (a0=1))] (RS.dn (WS.nxt ?_))))
  rcases z0 h with ⟨hp,h⟩ | ⟨hp,h⟩
  ·refine WS.fx 8 true (decide_eq_true hp) (WS.cT ?_)
   cases h
  ·refine WS.fx 8 false (decide_eq_false hp) (WS.cF (WS.sq (WS.rg (RS.mS 2 [kB 8 (decide (a0=2)),kB 10 (decide (a0=2))] (RS.dn (WS.nxt ?_))))))
   rcases z0 h with ⟨hp,h⟩ | ⟨hp,h⟩
   ·refine WS.fx 8 true (decide_eq_true hp) (WS.cT ?_)
    cases h
   ·refine WS.fx 8 false (decide_eq_false hp) (WS.cF (WS.sq (WS.rg (RS.mS 2 [kB 8 (decide (a0=20)),kB 11 (decide (a0=20))] (RS.dn (WS.nxt ?_))))))
    rcases z0 h with ⟨hp,h⟩ | ⟨hp,h⟩
    ·refine WS.fx 8 true (decide_eq_true hp) (WS.cT (WS.sk ?_))
     cases h
     exact fun a w hs=>(jsN (hs.sb 0))
    ·refine WS.fx 8 false (decide_eq_false hp) (WS.cF (WS.rg (RS.mS 2 [kB 8 (decide (a0=40)),kB 12 (decide (a0=40))] (RS.dn ?_))))
     cases h
     exact fun a w hs=>(jsN (hs.sb 0))
 ·clear hx
  rcases z0 h with ⟨hp,h⟩ | ⟨hp,h⟩
  ·refine WS.fx 8 true hp (WS.cT (WS.sq (WS.rg (RS.mS 4 [kB 5 true,kI 4 0,kI 3 0,kI 2 0] (RS.dn (WS.nxt (WS.rt ?_)))))))
   cases h
   exact fun a w hs=>bkR (sqR (rtR (rS hs)))
  ·refine WS.fx 8 false (b_not hp) (WS.cF ?_)
   obtain ⟨v13_2,hx,h⟩:=bind_some h
   refine WS.sq ?_
   refine WS.join ([kB 13 v13_2,kI 0 a0,kI 7 a0]) ([]) H ?_ (fun a w hs=>WS.nxt ?_ a w hs)
   ·clear h; rename _=>h
    refine WS.sq (WS.rg (RS.mS 2 [kB 13 (decide (a0=3)),kB 14 (decide (a0=3))] (RS.dn (WS.nxt ?_))))
    rcases z0 h with ⟨hp,h⟩ | ⟨hp,h⟩
    ·refine WS.fx 13 true (decide_eq_true hp) (WS.cT ?_)
     cases h
    ·refine WS.fx 13 false (decide_eq_false hp) (WS.cF (WS.sq (WS.rg (RS.mS 2 [kB 13 (decide (a0=21)),kB 15 (decide (a0=21))] (RS.dn (WS.nxt ?_))))))
     rcases z0 h with ⟨hp,h⟩ | ⟨hp,h⟩
     ·refine WS.fx 13 true (decide_eq_true hp) (WS.cT (WS.sk ?_))
      cases h
      exact fun a w hs=>(jsN (hs.sb 0))
     ·refine WS.fx 13 false (decide_eq_false hp) (WS.cF (WS.sq (WS.rg (RS.mS 2 [kB 13 (decide (a0=27)),kB 16 (decide (a0=27))] (RS.dn (WS.nxt ?_))))))
      rcases z0 h with ⟨hp,h⟩ | ⟨hp,h⟩
      ·refine WS.fx 13 true (decide_eq_true hp) (WS.cT ?_)
       cases h
      ·refine WS.fx 13 false (decide_eq_false hp) (WS.cF (WS.sq (WS.rg (RS.mS 2 [kB 13 (decide (a0=34)),kB 17 (decide (a0=34))] (RS.dn (WS.nxt ?_))))))
       rcases z0 h with ⟨hp,h⟩ | ⟨hp,h⟩
       ·refine WS.fx 13 true (decide_eq_true hp) (WS.cT ?_)
        cases h
       ·refine WS.fx 13 false (decide_eq_false hp) (WS.cF (WS.sq (WS.rg (RS.mS 2 [kB 13 (decide (a0=43)),kB 18 (decide (a0=43))] (RS.dn (WS.nxt ?_))))))
        rcases z0 h with ⟨hp,h⟩ | ⟨hp,h⟩
        ·refine WS.fx 13 true (decide_eq_true hp) (WS.cT ?_)
         cases h
        ·refine WS.fx 13 false (decide_eq_false hp) (WS.cF (WS.rg (RS.mS 2 [kB 13 (decide (a0=44)),kB 19 (decide (a0=44))] (RS.dn ?_))))
         cases h
         exact fun a w hs=>(jsN (hs.sb 0))
   ·clear hx
    rcases z0 h with ⟨hp,h⟩ | ⟨hp,h⟩
    ·refine WS.fx 13 true hp (WS.cT (WS.sq (WS.rg (RS.mS 4 [kB 5 true,kI 4 0,kI 3 1,kI 2 1] (RS.dn (WS.nxt (WS.rt ?_)))))))
     cases h
     exact fun a w hs=>bkR (sqR (rtR (rS hs)))
    ·refine WS.fx 13 false (b_not hp) (WS.cF (WS.sq (WS.sq (WS.rg (RS.mS 2 [kB 20 (decide (a0=4)),kB 21 (decide (a0=4))] (RS.dn (WS.nxt ?_)))))))
     rcases z0 h with ⟨hp,h⟩ | ⟨hp,h⟩
     ·refine WS.fx 20 true (decide_eq_true hp) (WS.cT ?_)
      cases h
     ·refine WS.fx 20 false (decide_eq_false hp) (WS.cF (WS.sq (WS.rg (RS.mS 2 [kB 20 (decide (a0=5)),kB 22 (decide (a0=5))] (RS.dn (WS.nxt ?_))))))
      rcases z0 h with ⟨hp,h⟩ | ⟨hp,h⟩
      ·refine WS.fx 20 true (decide_eq_true hp) (WS.cT ?_)
       cases h
      ·refine WS.fx 20 false (decide_eq_false hp) (WS.cF (WS.sq (WS.rg (RS.mS 2 [kB 20 (decide (a0=9)),kB 23 (decide (a0=9))] (RS.dn (WS.nxt ?_))))))
       rcases z0 h with ⟨hp,h⟩ | ⟨hp,h⟩
       ·refine WS.fx 20 true (decide_eq_true hp) (WS.cT ?_)
        cases h
       ·refine WS.fx 20 false (decide_eq_false hp) (WS.cF (WS.rg (RS.mS 2 [kB 20 (decide (a0=22)),kB 24 (decide (a0=22))] (RS.dn (WS.nxt ?_)))))
        rcases z0 h with ⟨hp,h⟩ | ⟨hp,h⟩
        ·refine WS.fx 20 true (decide_eq_true hp) (WS.cT ?_)
         cases h
        ·refine WS.fx 20 false (decide_eq_false hp) (WS.cF (WS.sq (WS.sq (WS.rg (RS.mS 2 [kB 25 (decide (a0=10)),kB 26 (decide (a0=10))] (RS.dn (WS.nxt ?_)))))))
         rcases z0 h with ⟨hp,h⟩ | ⟨hp,h⟩
         ·refine WS.fx 25 true (decide_eq_true hp) (WS.cT ?_)
          cases h
         ·refine WS.fx 25 false (decide_eq_false hp) (WS.cF (WS.rg (RS.mS 2 [kB 25 (decide (a0=33)),kB 27 (decide (a0=33))] (RS.dn (WS.nxt ?_)))))
          rcases z0 h with ⟨hp,h⟩ | ⟨hp,h⟩
          ·refine WS.fx 25 true (decide_eq_true hp) (WS.cT ?_)
           cases h
          ·refine WS.fx 25 false (decide_eq_false hp) (WS.cF ?_)
           obtain ⟨v28_3,hx,h⟩:=bind_some h
           refine WS.sq ?_
           refine WS.join ([kB 28 v28_3,kI 0 a0,kI 7 a0]) ([]) H ?_ (fun a w hs=>WS.nxt ?_ a w hs)
           ·clear h; rename _=>h
            refine WS.sq (WS.rg (RS.mS 2 [kB 28 (decide (a0=11)),kB 29 (decide (a0=11))] (RS.dn (WS.nxt ?_))))
            rcases z0 h with ⟨hp,h⟩ | ⟨hp,h⟩
            ·refine WS.fx 28 true (decide_eq_true hp) (WS.cT (WS.sk ?_))
             cases h
             exact fun a w hs=>(jsN (hs.sb 0))
            ·refine WS.fx 28 false (decide_eq_false hp) (WS.cF (WS.sq (WS.rg (RS.mS 2 [kB 28 (decide (a0=12)),kB 30 (decide (a0=12))] (RS.dn (WS.nxt ?_))))))
             rcases z0 h with ⟨hp,h⟩ | ⟨hp,h⟩
             ·refine WS.fx 28 true (decide_eq_true hp) (WS.cT ?_)
              cases h
             ·refine WS.fx 28 false (decide_eq_false hp) (WS.cF (WS.sq (WS.rg (RS.mS 2 [kB 28 (decide (a0=13)),kB 31 (decide (a0=13))] (RS.dn (WS.nxt ?_))))))
              rcases z0 h with ⟨hp,h⟩ | ⟨hp,h⟩
              ·refine WS.fx 28 true (decide_eq_true hp) (WS.cT ?_)
               cases h
              ·refine WS.fx 28 false (decide_eq_false hp) (WS.cF (WS.rg (RS.mS 2 [kB 28 (decide (a0=14)),kB 32 (decide (a0=14))] (RS.dn ?_))))
               cases h
               exact fun a w hs=>(jsN (hs.sb 0))
           ·clear hx
            rcases z0 h with ⟨hp,h⟩ | ⟨hp,h⟩
            ·refine WS.fx 28 true hp (WS.cT (WS.sq (WS.rg (RS.mS 4 [kB 5 true,kI 4 0,kI 3 64,kI 2 0] (RS.dn (WS.nxt (WS.rt ?_)))))))
             cases h
             exact fun a w hs=>bkR (sqR (rtR (rS hs)))
            ·refine WS.fx 28 false (b_not hp) (WS.cF (WS.sq (WS.rg (RS.mS 2 [kB 33 (decide (a0=42)),kB 34 (decide (a0=42))] (RS.dn (WS.nxt ?_))))))
             rcases z0 h with ⟨hp,h⟩ | ⟨hp,h⟩
             ·refine WS.fx 33 true (decide_eq_true hp) (WS.cT ?_)
              cases h
             ·refine WS.fx 33 false (decide_eq_false hp) (WS.cF (WS.sq (WS.sq (WS.rg (RS.mS 2 [kB 35 (decide (a0=63)),kB 36 (decide (a0=63))] (RS.dn (WS.nxt ?_)))))))
              rcases z0 h with ⟨hp,h⟩ | ⟨hp,h⟩
              ·refine WS.fx 35 true (decide_eq_true hp) (WS.cT ?_)
               cases h
              ·refine WS.fx 35 false (decide_eq_false hp) (WS.cF (WS.sq (WS.rg (RS.mS 2 [kB 35 (decide (a0=64)),kB 37 (decide (a0=64))] (RS.dn (WS.nxt ?_))))))
               rcases z0 h with ⟨hp,h⟩ | ⟨hp,h⟩
               ·refine WS.fx 35 true (decide_eq_true hp) (WS.cT ?_)
                cases h
               ·refine WS.fx 35 false (decide_eq_false hp) (WS.cF (WS.sq (WS.rg (RS.mS 2 [kB 35 (decide (a0=65)),kB 38 (decide (a0=65))] (RS.dn (WS.nxt ?_))))))
                rcases z0 h with ⟨hp,h⟩ | ⟨hp,h⟩
                ·refine WS.fx 35 true (decide_eq_true hp) (WS.cT ?_)
                 cases h
                ·refine WS.fx 35 false (decide_eq_false hp) (WS.cF (WS.sq (WS.rg (RS.mS 2 [kB 35 (decide (a0=66)),kB 39 (decide (a0=66))] (RS.dn (WS.nxt ?_))))))
                 rcases z0 h with ⟨hp,h⟩ | ⟨hp,h⟩
                 ·refine WS.fx 35 true (decide_eq_true hp) (WS.cT ?_)
                  cases h
                 ·refine WS.fx 35 false (decide_eq_false hp) (WS.cF (WS.rg (RS.mS 2 [kB 35 (decide (a0=67)),kB 40 (decide (a0=67))] (RS.dn (WS.nxt ?_)))))
                  rcases z0 h with ⟨hp,h⟩ | ⟨hp,h⟩
                  ·refine WS.fx 35 true (decide_eq_true hp) (WS.cT ?_)
                   cases h
                  ·refine WS.fx 35 false (decide_eq_false hp) (WS.cF (WS.sk ?_))
                   refine fun a w hs=>bkN ((WS.nxt ?_ a w hs))
                   refine WS.sq (WS.rg (RS.mS 3 [kB 43 (decide (a0≥1)),kB 42 (decide (a0≥1)),kI 41 a0] ?_))
                   rcases z0 h with ⟨hp,h⟩ | ⟨hp,h⟩
                   ·refine RS.fx 43 true (decide_eq_true hp) (RS.mS 4 [kB 47 (decide (a0≤14)),kB 46 (decide (a0≤14)),kB 45 (decide (a0≤14)),kI 44 a0] ?_)
                    rcases z0 h with ⟨hp,h⟩ | ⟨hp,h⟩
                    ·refine RS.fx 47 true (decide_eq_true hp) ?_
                     cases h
                    ·refine RS.fx 47 false (decide_eq_false hp) (RS.mS 3 [kB 50 (decide (a0≥20)),kB 49 (decide (a0≥20)),kI 48 a0] ?_)
                     rcases z0 h with ⟨hp,h⟩ | ⟨hp,h⟩
                     ·refine RS.fx 50 true (decide_eq_true hp) (RS.mS 5 [kB 55 (decide (a0≤34)),kB 54 (decide (a0≤34)),kB 53 (decide (a0≤34)),kB 52 (decide (a0≤34)),kI 51 a0] ?_)
                      rcases z0 h with ⟨hp,h⟩ | ⟨hp,h⟩
                      ·refine RS.fx 55 true (decide_eq_true hp) (RS.mS 8 [kB 6 true,kB 62 true,kU 61,kU 60,kU 59,kU 58,kU 57,kU 56] (RS.dn (WS.nxt (WS.sq (WS.rg (RS.mS 5 [kB 5 true,kI 4 0,kI 3 2,kI 2 2,kB 63 true] (RS.dn (WS.nxt (WS.rt ?_)))))))))
                       cases h
                       exact fun a w hs=>rtR (rS hs)
                      ·refine RS.fx 55 false (decide_eq_false hp) ?_
                       cases h
                     ·refine RS.fx 50 false (decide_eq_false hp) ?_
                      cases h
                   ·refine RS.fx 43 false (decide_eq_false hp) ?_
                    cases h
end Go.Proofs.YtdlnojjpbmibdaaGreatDoor
namespace Go.Proofs.YtdlnojjpbmibdaaGreatDoor
open Go Go.Abs
set_option maxRecDepth 100000
def zc9:Bool→Value
 | r0=>(Value.bool r0)
def zd6 (H:AH):Bool→AH:=fun _=>H
noncomputable def B159:Code:=(Tryz.f159.body).getD .skip
noncomputable def z3f (_L:LC) (H:AH) (a0_0:ByteArray) (_a0_1:Sl3) (_a0_2 _a0_3:Int) (_a0_4:ByteArray) (_a0_5:Sl3) (a1:Option Addr):Option Bool :=
 Option.bind a1 fun q1 =>
 Option.bind (rd deS H q1) fun x2 =>
 some (a0_0.toList == x2.toList)
theorem zd8 {L:LC} {m:Nat} {H:AH} {a0_0:ByteArray} {a0_1:Sl3} {a0_2 a0_3:Int} {a0_4:ByteArray} {a0_5:Sl3} {a1:Option Addr} {r:Bool} (h:z3f L H a0_0 a0_1 a0_2 a0_3 a0_4 a0_5 a1=some r) :
  CallS Tryz.prog (NE.plain 167) m 159 #[(Value.agg #[(Value.string a0_0),(Sl3.v a0_1),(Value.int .i64 a0_2),(Value.int .i64 a0_3),(Value.string a0_4),(Sl3.v a0_5)]),(Value.pointer a1)] H (zc9 r) (zd6 H r):=by
 refine CallS.mk (args:=[(Value.agg #[(Value.string a0_0),(Sl3.v a0_1),(Value.int .i64 a0_2),(Value.int .i64 a0_3),(Value.string a0_4),(Sl3.v a0_5)]),(Value.pointer a1)]) Tryz.func159 (B:=B159) (by kernel_rfl) (fun E _=>?_)
 unfold z3f at h
 refine WS.sq (WS.rg (RS.mL 2 [kB 3 false,kL 2 0 0] ([some (84,[(Value.string a0_0),(Sl3.v a0_1),(Value.int .i64 a0_2),(Value.int .i64 a0_3),(Value.string a0_4),(Sl3.v a0_5)])]) (RS.dn (WS.nxt (WS.sq (WS.rg (RS.mS 2 [kT 5 a0_0,kL 4 0 0] ?_)))))))
 obtain ⟨q1,hx,hq1⟩:=bind_some h
 subst hx
 have h:=hq1
 obtain ⟨x2,hx,h⟩:=bind_some h
 refine RS.ld 6 9 (.tmp 1) (z1 hx z9) (RS.mS 2 [kB 3 (a0_0.toList == x2.toList),kB 7 (a0_0.toList == x2.toList)] (RS.dn (WS.nxt (WS.rt ?_))))
 cases h
 exact fun a w hs=>rtR (rS hs)
def z2o:Int→Value
 | r0=>(Value.int .i64 r0)
def z30 (H:AH):Int→AH:=fun _=>H
noncomputable def B158:Code:=(Tryz.f158.body).getD .skip
noncomputable def z1c (L:LC) (H:AH) (a0:Sl3) (a1_0:Option Addr):Int→Option (Lp Int Int):=fun v8_1 =>
 if v8_1<(a0.n:Int) then
  Option.bind (idxA 6 a0 v8_1) fun p2 =>
  Option.bind (rd deS H (Addr.add p2 0)) fun x3_0 =>
  Option.bind (rd deSl H (Addr.add p2 1)) fun x3_1 =>
  Option.bind (rd (deI .i64) H (Addr.add p2 2)) fun x3_2 =>
  Option.bind (rd (deI .i64) H (Addr.add p2 3)) fun x3_3 =>
  Option.bind (rd deS H (Addr.add p2 4)) fun x3_4 =>
  Option.bind (rd deSl H (Addr.add p2 5)) fun x3_5 =>
  Option.bind (z3f L H x3_0 x3_1 x3_2 x3_3 x3_4 x3_5 a1_0) fun x4 =>
  if x4=true then
   some (.ret v8_1)
  else
   some (.next (IntKind.i64.wrap (v8_1+1)))
 else
  none
def z6p (_L:LC) (_H:AH) (a0:Sl3) (a1_0:Option Addr):Int→KN×Lcs:=fun v8_1=>([kI 8 v8_1,kS 0 a0,(1,.val (Value.func (.func 159) #[] #[(Value.pointer a1_0)])),kI 7 (a0.n:Int)],[])
noncomputable def z1v (L:LC) (H:AH) (a0:Sl3) (a1_0:Option Addr):Option Int :=
 Option.bind (L.run (z1c L H a0 a1_0) 0) fun o=>match o with
 | .inl _ =>
  some (-1)
 | .inr r=>some r
theorem z26 {E m L H a0 a1_0} :LoopF Tryz.prog (NE.plain 167) m E Tryz.f158 ((cfst (csnd (cfst (csnd B158))))) (z6p L H a0 a1_0) (fun _=>H) 0 z2o (z30 H) (z1c L H a0 a1_0):=by
 rintro v8_1 o h
 unfold z1c at h
 try dsimp only at h
 refine WS.sq (WS.rg (RS.mS 1 [kB 9 (decide (v8_1<(a0.n:Int)))] (RS.dn (WS.nxt (WS.sq ?_)))))
 rcases z0 h with ⟨hp,h⟩ | ⟨hp,h⟩
 ·refine WS.fx 9 true (decide_eq_true hp) (WS.cT (WS.sk (WS.nxt (WS.sq (WS.bk 1 (WS.sq (WS.rg (RS.mS 2 [kI 5 v8_1,kI 10 v8_1] (RS.dn ?_)))))))))
  refine WS.nxt (WS.sq (WS.rg (RS.mS 3 [kI 13 v8_1,kS 12 a0,(11,.val (Value.func (.func 159) #[] #[(Value.pointer a1_0)]))] ?_)))
  obtain ⟨p2,hx,h⟩:=bind_some h
  refine RS.ix 14 35 84 (.tmp 12) (.tmp 13) hx ?_
  obtain ⟨x3_0,hx0,h⟩:=bind_some h
  obtain ⟨x3_1,hx1,h⟩:=bind_some h
  obtain ⟨x3_2,hx2,h⟩:=bind_some h
  obtain ⟨x3_3,hx3,h⟩:=bind_some h
  obtain ⟨x3_4,hx4,h⟩:=bind_some h
  obtain ⟨x3_5,hx5,h⟩:=bind_some h
  refine RS.la 15 84 (.tmp 14) 6 (z2 (z1 hx0 z9) (z2 (z1 hx1 z3) (z2 (z1 hx2 z5) (z2 (z1 hx3 z5) (z2 (z1 hx4 z9) (z2 (z1 hx5 z3) zm)))))) ?_
  obtain ⟨x4,hx,h⟩:=bind_some h
  refine RS.cl (some 16) (v:=(Value.bool x4)) 159 #[(Value.agg #[(Value.string x3_0),(Sl3.v x3_1),(Value.int .i64 x3_2),(Value.int .i64 x3_3),(Value.string x3_4),(Sl3.v x3_5)]),(Value.pointer a1_0)] (zd8 hx) (RS.dn (WS.nxt ?_))
  rcases z0 h with ⟨hp,h⟩ | ⟨hp,h⟩
  ·refine WS.fx 16 true hp (WS.cT (WS.sq (WS.rg (RS.mS 2 [kI 4 v8_1,kI 17 v8_1] (RS.dn (WS.nxt (WS.rt ?_)))))))
   cases h
   exact fun a w hs=>bkR (sqR (lsR rfl (rS hs)))
  ·refine WS.fx 16 false (b_not hp) (WS.cF (WS.sk ?_))
   refine fun a w hs=>bkN ((WS.nxt ?_ a w hs))
   refine WS.rg (RS.mS 2 [kI 8 (IntKind.i64.wrap (v8_1+1)),kI 18 (IntKind.i64.wrap (v8_1+1))] (RS.dn ?_))
   cases h
   exact fun a w hs=>lsN rfl (hs.sb 0)
 ·refine WS.fx 9 false (decide_eq_false hp) (WS.cF ?_)
  cases h
theorem z8e {L:LC} {m:Nat} {H:AH} {a0:Sl3} {a1_0:Option Addr} {r:Int} (h:z1v L H a0 a1_0=some r) :
  CallS Tryz.prog (NE.plain 167) m 158 #[(Sl3.v a0),(Value.func (.func 159) #[] #[(Value.pointer a1_0)])] H (z2o r) (z30 H r):=by
 refine CallS.mk (args:=[(Sl3.v a0),(Value.func (.func 159) #[] #[(Value.pointer a1_0)])]) Tryz.func158 (B:=B158) (by kernel_rfl) (fun E _=>?_)
 unfold z1v at h
 refine WS.sq (WS.rg (RS.mS 1 [kI 4 0] (RS.dn (WS.nxt (WS.sq (WS.sq (WS.rg (RS.mS 3 [kI 8 0,kI 7 (a0.n:Int),kS 6 a0] (RS.dn ?_)))))))))
 refine WS.nxt (WS.bk 0 ?_)
 obtain ⟨o,hl,h⟩:=bind_some h
 rcases o with v8_5 | r
 ·try dsimp only at h
  refine WS.lI (z26 (L:=L) (E:=E) (m:=m) (H:=H)) (L.ok hl) 0 ?_
  clear hl
  refine fun a w hs=>bkE ((WS.nxt ?_ a w hs))
  refine WS.sq (WS.rg (RS.mS 1 [kI 4 (-1)] (RS.dn (WS.nxt (WS.rt ?_)))))
  cases h
  exact fun a w hs=>rtR (rS hs)
 ·try dsimp only at h
  refine WS.lR (z26 (L:=L) (E:=E) (m:=m) (H:=H)) (L.ok hl) 0 ?_
  cases h
  exact fun a w hq=>bkR (sqR (rtR hq))
def ze6:(Sl3×Int×Int×ByteArray×Sl3×Bool×AH)→Value
 | (r0,r1,r2,r3,r4,r5,_)=>(Value.tuple #[(Sl3.v r0),(Value.agg #[(Value.int .i64 r1),(Value.int .i64 r2),(Value.string r3),(Sl3.v r4)]),(Value.bool r5)])
def zfi (_:AH):(Sl3×Int×Int×ByteArray×Sl3×Bool×AH)→AH:=fun r=>r.2.2.2.2.2.2
noncomputable def B99:Code:=(Tryz.f99.body).getD .skip
noncomputable def z56 (L:LC) (_m:Nat) (H:AH) (a0:Option Addr) (a1:Int) (a2:ByteArray):Option (Sl3×Int×Int×ByteArray×Sl3×Bool×AH) :=
 Option.bind (newB 9 [(Value.string a2)] H) fun (p1,H2) =>
 if a1=11 then
  Option.bind a0 fun q3 =>
  Option.bind (rd deSl H2 (Addr.add (Addr.add q3 0) 2)) fun x4 =>
  Option.bind (z1v L H2 x4 (some p1)) fun x5 =>
  if x5<0 then
   none
  else
   Option.bind (rd deSl H2 (Addr.add (Addr.add q3 0) 2)) fun x6 =>
   Option.bind (idxA 6 x6 x5) fun p7 =>
   Option.bind (rd deSl H2 (Addr.add p7 1)) fun x8 =>
   Option.bind (rd deSl H2 (Addr.add (Addr.add q3 0) 2)) fun x9 =>
   Option.bind (idxA 6 x9 x5) fun p10 =>
   Option.bind (rd (deI .i64) H2 (Addr.add (Addr.add p10 2) 0)) fun x11_0 =>
   Option.bind (rd (deI .i64) H2 (Addr.add (Addr.add p10 2) 1)) fun x11_1 =>
   Option.bind (rd deS H2 (Addr.add (Addr.add p10 2) 2)) fun x11_2 =>
   Option.bind (rd deSl H2 (Addr.add (Addr.add p10 2) 3)) fun x11_3 =>
   some (x8,x11_0,x11_1,x11_2,x11_3,true,H2)
 else
  none
theorem z74 {L:LC} {m:Nat} {H:AH} {a0:Option Addr} {a1:Int} {a2:ByteArray} {r:(Sl3×Int×Int×ByteArray×Sl3×Bool×AH)} (h:z56 L m H a0 a1 a2=some r) :
  CallS Tryz.prog (NE.plain 167) m 99 #[(Value.pointer a0),(Value.int .i64 a1),(Value.string a2)] H (ze6 r) (zfi H r):=by
 refine CallS.mk (args:=[(Value.pointer a0),(Value.int .i64 a1),(Value.string a2)]) Tryz.func99 (B:=B99) (by kernel_rfl) (fun E _=>?_)
 unfold z56 at h
 refine WS.sq (WS.rg ?_)
 obtain ⟨⟨p1,H2⟩,hx,h⟩:=bind_some h
 try dsimp only at h
 refine RS.o (H':=H2) (some 5) (Value.pointer (some p1)) (Abs.run_newB (by kernel_rfl) hx) (RS.mL 3 [kB 8 false,kL 7 0 0,kS 6 Sl3.nil] ([some (47,[(Value.int .i64 0),(Value.int .i64 0),(Value.string (⟨#[]⟩:ByteArray)),(Sl3.v Sl3.nil)])]) (RS.dn (WS.nxt (WS.sq (WS.sq (WS.rg (RS.mS 2 [kB 21 (decide (a1=11)),kI 20 a1] (RS.dn (WS.nxt ?_)))))))))
 rcases z0 h with ⟨hp,h⟩ | ⟨hp,h⟩
 ·refine WS.fx 21 true (decide_eq_true hp) (WS.cT (WS.sq (WS.rg (RS.mS 1 [(22,.val (Value.pointer a0))] ?_))))
  obtain ⟨q3,hx,hq3⟩:=bind_some h
  subst hx
  have h:=hq3
  refine RS.mS 3 [(25,.val (Value.pointer (some (Addr.add (Addr.add q3 0) 2)))),(24,.val (Value.pointer (some (Addr.add q3 0)))),kP 23 q3] ?_
  obtain ⟨x4,hx,h⟩:=bind_some h
  refine RS.ld 26 35 (.tmp 25) (z1 hx z3) (RS.mS 1 [(27,.val (Value.func (.func 159) #[] #[(Value.pointer (some p1))]))] ?_)
  obtain ⟨x5,hx,h⟩:=bind_some h
  refine RS.cl (some 28) (v:=(Value.int .i64 x5)) 158 #[(Sl3.v x4),(Value.func (.func 159) #[] #[(Value.pointer (some p1))])] (z8e hx) (RS.mS 1 [kI 9 x5] (RS.dn (WS.nxt (WS.sq (WS.sq (WS.rg (RS.mS 2 [kB 30 (decide (x5<0)),kI 29 x5] (RS.dn (WS.nxt ?_)))))))))
  rcases z0 h with ⟨hp,h⟩ | ⟨hp,h⟩
  ·refine WS.fx 30 true (decide_eq_true hp) (WS.cT ?_)
   cases h
  ·refine WS.fx 30 false (decide_eq_false hp) (WS.cF (WS.sk (WS.nxt (WS.sq ?_))))
   refine WS.dr [0,1,2,3,4,5,6,7,8,9,10,11,12,13,14,15,16,17] [0,1,3,7,15,0,63,127,255,0,512,1536,3584,7680,0,32256,65024,130560,511,524287,1048575] 21 (fun hcl=>?_)
   refine DA.tK 0 (some 32) (Value.pointer (some q3)) (DA.tK 1 (some 33) (Value.pointer (some q3)) (DA.tK 2 (some 34) (Value.pointer (some (Addr.add q3 0))) (DA.tK 3 (some 35) (Value.pointer (some (Addr.add (Addr.add q3 0) 2))) ?_)))
   obtain ⟨x6,hx,h⟩:=bind_some h
   refine DA.tD 4 (some 36) (Sl3.v x6) (Abs.det_load (t:=35) (x:=.tmp 35) (a:=(Addr.add (Addr.add q3 0) 2)) (by kernel_rfl) (by kernel_rfl) (by kernel_rfl) (by kernel_rfl) (z1 hx z3)) (DA.tK 5 (some 37) (Value.int .i64 x5) ?_)
   obtain ⟨p7,hx,h⟩:=bind_some h
   refine DA.tD 6 (some 38) (Value.pointer (some p7)) (Abs.det_idx (s:=x6) (k:=.i64) (t:=35) (e:=84) (x:=.tmp 36) (y:=.tmp 37) (by kernel_rfl) (by kernel_rfl) (by kernel_rfl) (by kernel_rfl) (by kernel_rfl) hx) (DA.tK 7 (some 39) (Value.pointer (some (Addr.add p7 1))) ?_)
   obtain ⟨x8,hx,h⟩:=bind_some h
   refine DA.tD 8 (some 40) (Sl3.v x8) (Abs.det_load (t:=45) (x:=.tmp 39) (a:=(Addr.add p7 1)) (by kernel_rfl) (by kernel_rfl) (by kernel_rfl) (by kernel_rfl) (z1 hx z3)) (DA.tK 9 (some 41) (Value.pointer (some q3)) (DA.tK 10 (some 42) (Value.pointer (some q3)) (DA.tK 11 (some 43) (Value.pointer (some (Addr.add q3 0))) (DA.tK 12 (some 44) (Value.pointer (some (Addr.add (Addr.add q3 0) 2))) ?_))))
   obtain ⟨x9,hx,h⟩:=bind_some h
   refine DA.tD 13 (some 45) (Sl3.v x9) (Abs.det_load (t:=35) (x:=.tmp 44) (a:=(Addr.add (Addr.add q3 0) 2)) (by kernel_rfl) (by kernel_rfl) (by kernel_rfl) (by kernel_rfl) (z1 hx z3)) (DA.tK 14 (some 46) (Value.int .i64 x5) ?_)
   obtain ⟨p10,hx,h⟩:=bind_some h
   refine DA.tD 15 (some 47) (Value.pointer (some p10)) (Abs.det_idx (s:=x9) (k:=.i64) (t:=35) (e:=84) (x:=.tmp 45) (y:=.tmp 46) (by kernel_rfl) (by kernel_rfl) (by kernel_rfl) (by kernel_rfl) (by kernel_rfl) hx) (DA.tK 16 (some 48) (Value.pointer (some (Addr.add p10 2))) ?_)
   obtain ⟨x11_0,hx0,h⟩:=bind_some h
   obtain ⟨x11_1,hx1,h⟩:=bind_some h
   obtain ⟨x11_2,hx2,h⟩:=bind_some h
   obtain ⟨x11_3,hx3,h⟩:=bind_some h
   refine DA.tD 17 (some 49) (Value.agg #[(Value.int .i64 x11_0),(Value.int .i64 x11_1),(Value.string x11_2),(Sl3.v x11_3)]) (Abs.det_loadA (t:=47) (x:=.tmp 48) (a:=(Addr.add p10 2)) (k:=4) (by kernel_rfl) (by kernel_rfl) (by kernel_rfl) (by kernel_rfl) (z2 (z1 hx0 z5) (z2 (z1 hx1 z5) (z2 (z1 hx2 z9) (z2 (z1 hx3 z3) zm))))) (DA.tP 18 (some 6) (Sl3.v x8) (DA.on 19 (DA.aL 19 none (.val undef) ([some (47,[(Value.int .i64 x11_0),(Value.int .i64 x11_1),(Value.string x11_2),(Sl3.v x11_3)])]) false (DA.tP 20 (some 8) (Value.bool true) (DA.dn (WS.nxt (WS.rt ?_)))))))
   cases h
   exact fun a w hs=>sqR (rtR (rS hs))
 ·refine WS.fx 21 false (decide_eq_false hp) (WS.cF ?_)
  cases h
def z93:(Sl3×Int×Int×ByteArray×Sl3×Int×AH)→Value
 | (r0,r1,r2,r3,r4,r5,_)=>(Value.tuple #[(Sl3.v r0),(Value.agg #[(Value.int .i64 r1),(Value.int .i64 r2),(Value.string r3),(Sl3.v r4)]),(Value.int .i64 r5)])
def zac (_:AH):(Sl3×Int×Int×ByteArray×Sl3×Int×AH)→AH:=fun r=>r.2.2.2.2.2.2
noncomputable def B51:Code:=(Tryz.f51.body).getD .skip
noncomputable def z53 (_L:LC) (a0:Option Addr) (_a1_0:Int) (_a1_1:ByteArray) (_a1_2:Bool) (_a1_3:Sl3) (_a1_4:Int) (_a1_5:Sl3) (_a1_6 _a1_7:Int) (_a1_8:ByteArray) (_a1_9 _a1_10 a1_11:Sl3) (_x3:Int) (H5:AH) (_v11_8:Sl3) (_w2_13 _w2_14:Int) (_w2_15:ByteArray) (_w2_16:Sl3):(Int×Int×Int×ByteArray×Sl3)→Option (Lp (Int×Int×Int×ByteArray×Sl3) (Sl3×Int×Int×ByteArray×Sl3×Int×AH)):=fun (v67_21,w1_22,w1_23,w1_24,w1_25) =>
 if v67_21<(a1_11.n:Int) then
  Option.bind (idxA 1 a1_11 v67_21) fun p26 =>
  Option.bind (rd (deI .i64) H5 p26) fun x27 =>
  if x27<0 then
   none
  else
   Option.bind a0 fun q28 =>
   Option.bind (rd deSl H5 (Addr.add q28 3)) fun x29 =>
   if x27≥(x29.n:Int) then
    none
   else
    some (.next ((IntKind.i64.wrap (v67_21+1)),w1_22,w1_23,w1_24,w1_25))
 else
  some (.brk (v67_21,w1_22,w1_23,w1_24,w1_25))
def zfa (_L:LC) (a0:Option Addr) (a1_0:Int) (a1_1:ByteArray) (a1_2:Bool) (a1_3:Sl3) (a1_4:Int) (a1_5:Sl3) (a1_6 a1_7:Int) (a1_8:ByteArray) (a1_9 a1_10 a1_11:Sl3) (x3:Int) (_H5:AH) (v11_8:Sl3) (w2_13 w2_14:Int) (w2_15:ByteArray) (w2_16:Sl3):(Int×Int×Int×ByteArray×Sl3)→KN×Lcs:=fun (v67_21,w1_22,w1_23,w1_24,w1_25)=>([kI 67 v67_21,(0,.val (Value.pointer a0)),kL 3 0 0,kL 5 1 0,kI 9 x3,kS 11 v11_8,kL 12 2 0,kS 65 a1_11,kI 66 (a1_11.n:Int)],[some (61,[(Value.int .i64 a1_0),(Value.string a1_1),(Value.bool a1_2),(Sl3.v a1_3),(Value.int .i64 a1_4),(Sl3.v a1_5),(Value.int .i64 a1_6),(Value.int .i64 a1_7),(Value.string a1_8),(Sl3.v a1_9),(Sl3.v a1_10),(Sl3.v a1_11)]),some (47,[(Value.int .i64 w1_22),(Value.int .i64 w1_23),(Value.string w1_24),(Sl3.v w1_25)]),some (47,[(Value.int .i64 w2_13),(Value.int .i64 w2_14),(Value.string w2_15),(Sl3.v w2_16)])])
noncomputable def z8n (L:LC) (m:Nat) (H:AH) (a0:Option Addr) (a1_0:Int) (a1_1:ByteArray) (a1_2:Bool) (a1_3:Sl3) (a1_4:Int) (a1_5:Sl3) (a1_6 a1_7:Int) (a1_8:ByteArray) (a1_9 a1_10 a1_11:Sl3):Option (Sl3×Int×Int×ByteArray×Sl3×Int×AH) :=
 Option.bind (zce L a1_0) fun (x1,x2,x3,x4) =>
 if x4=true then
  Option.bind (α:=(AH×Int×Int×Sl3×Int×Int×ByteArray×Sl3×Int×Int×ByteArray×Sl3)⊕(Sl3×Int×Int×ByteArray×Sl3×Int×AH)) (
   if a1_0≥11 then
    if a1_0≤14 then
     Option.bind (z56 L m H a0 a1_0 a1_1) fun (x17,x18_0,x18_1,x18_2,x18_3,x19,H20) =>
     if x19=true then
      some (.inl (H20,(x17.n:Int),(x17.n:Int),x17,0,0,(⟨#[]⟩:ByteArray),Sl3.nil,x18_0,x18_1,x18_2,x18_3))
     else
      none
    else
     some (.inl (H,x1,x2,Sl3.nil,0,0,(⟨#[]⟩:ByteArray),Sl3.nil,0,0,(⟨#[]⟩:ByteArray),Sl3.nil))
   else
    none) fun o=>match o with
  | .inl (H5,v7_6,v8_7,v11_8,w1_9,w1_10,w1_11,w1_12,w2_13,w2_14,w2_15,w2_16) =>
   if (a1_11.n:Int)<v7_6 then
    none
   else
    if (a1_11.n:Int) > v8_7 then
     none
    else
     Option.bind (L.run (z53 L a0 a1_0 a1_1 a1_2 a1_3 a1_4 a1_5 a1_6 a1_7 a1_8 a1_9 a1_10 a1_11 x3 H5 v11_8 w2_13 w2_14 w2_15 w2_16) (0,w1_9,w1_10,w1_11,w1_12)) fun o=>match o with
     | .inl (_,_,_,_,_) =>
      Option.bind (z59 L m H5 a0 a1_0 a1_1 a1_2 a1_3 a1_4 a1_5 a1_6 a1_7 a1_8 a1_9 a1_10 a1_11 x3) fun (x35,H36) =>
      if x35=true then
       Option.bind (zfd L H36 a1_0 a1_1 a1_2 a1_3 a1_4 a1_5 a1_6 a1_7 a1_8 a1_9 a1_10 a1_11) fun x37 =>
       some (v11_8,w2_13,w2_14,w2_15,w2_16,x37,H36)
      else
       none
     | .inr r=>some r
  | .inr r=>some r
 else
  none
theorem z6v {E m H L a0 a1_0 a1_1 a1_2 a1_3 a1_4 a1_5 a1_6 a1_7 a1_8 a1_9 a1_10 a1_11 x3 H5 v11_8 w2_13 w2_14 w2_15 w2_16} :LoopF Tryz.prog (NE.plain 167) m E Tryz.f51 ((cfst (csnd (cfst (csnd (csnd (csnd (csnd (csnd (csnd (csnd B51))))))))))) (zfa L a0 a1_0 a1_1 a1_2 a1_3 a1_4 a1_5 a1_6 a1_7 a1_8 a1_9 a1_10 a1_11 x3 H5 v11_8 w2_13 w2_14 w2_15 w2_16) (fun _=>H5) 0 z93 (zac H) (z53 L a0 a1_0 a1_1 a1_2 a1_3 a1_4 a1_5 a1_6 a1_7 a1_8 a1_9 a1_10 a1_11 x3 H5 v11_8 w2_13 w2_14 w2_15 w2_16):=by
 rintro ⟨v67_21,w1_22,w1_23,w1_24,w1_25⟩ o h
 unfold z53 at h
 try dsimp only at h
 refine WS.sq (WS.rg (RS.mS 1 [kB 68 (decide (v67_21<(a1_11.n:Int)))] (RS.dn (WS.nxt (WS.sq ?_)))))
 rcases z0 h with ⟨hp,h⟩ | ⟨hp,h⟩
 ·refine WS.fx 68 true (decide_eq_true hp) (WS.cT (WS.sk (WS.nxt (WS.sq (WS.bk 1 (WS.sq (WS.rg ?_)))))))
  obtain ⟨p26,hx,h⟩:=bind_some h
  refine RS.ix 69 25 3 (.tmp 65) (.tmp 67) hx ?_
  obtain ⟨x27,hx,h⟩:=bind_some h
  refine RS.ld 70 3 (.tmp 69) (z1 hx z5) (RS.mS 1 [kI 14 x27] (RS.dn (WS.nxt (WS.sq (WS.rg (RS.mS 3 [kB 73 (decide (x27<0)),kB 72 (decide (x27<0)),kI 71 x27] ?_))))))
  rcases z0 h with ⟨hp,h⟩ | ⟨hp,h⟩
  ·refine RS.fx 73 true (decide_eq_true hp) ?_
   cases h
  ·refine RS.fx 73 false (decide_eq_false hp) (RS.mS 2 [(75,.val (Value.pointer a0)),kI 74 x27] ?_)
   obtain ⟨q28,hx,hq28⟩:=bind_some h
   subst hx
   have h:=hq28
   refine RS.mS 2 [(77,.val (Value.pointer (some (Addr.add q28 3)))),kP 76 q28] ?_
   obtain ⟨x29,hx,h⟩:=bind_some h
   refine RS.ld 78 38 (.tmp 77) (z1 hx z3) (RS.mS 3 [kB 81 (decide (x27≥(x29.n:Int))),kB 80 (decide (x27≥(x29.n:Int))),kI 79 (x29.n:Int)] (RS.dn (WS.nxt ?_)))
   rcases z0 h with ⟨hp,h⟩ | ⟨hp,h⟩
   ·refine WS.fx 81 true (decide_eq_true hp) (WS.cT ?_)
    cases h
   ·refine WS.fx 81 false (decide_eq_false hp) (WS.cF (WS.sk ?_))
    refine fun a w hs=>bkN ((WS.nxt ?_ a w hs))
    refine WS.rg (RS.mS 2 [kI 67 (IntKind.i64.wrap (v67_21+1)),kI 83 (IntKind.i64.wrap (v67_21+1))] (RS.dn ?_))
    cases h
    exact fun a w hs=>lsN rfl (hs.sb 3)
 ·refine WS.fx 68 false (decide_eq_false hp) (WS.cF (WS.ex 0 ?_))
  cases h
  exact fun a w hs=>sqE (lsB rfl (hs.sb 3))
theorem zii {L:LC} {m:Nat} {H:AH} {a0:Option Addr} {a1_0:Int} {a1_1:ByteArray} {a1_2:Bool} {a1_3:Sl3} {a1_4:Int} {a1_5:Sl3} {a1_6 a1_7:Int} {a1_8:ByteArray} {a1_9 a1_10 a1_11:Sl3} {r:(Sl3×Int×Int×ByteArray×Sl3×Int×AH)} (h:z8n L m H a0 a1_0 a1_1 a1_2 a1_3 a1_4 a1_5 a1_6 a1_7 a1_8 a1_9 a1_10 a1_11=some r) :
  CallS Tryz.prog (NE.plain 167) m 51 #[(Value.pointer a0),(Value.agg #[(Value.int .i64 a1_0),(Value.string a1_1),(Value.bool a1_2),(Sl3.v a1_3),(Value.int .i64 a1_4),(Sl3.v a1_5),(Value.int .i64 a1_6),(Value.int .i64 a1_7),(Value.string a1_8),(Sl3.v a1_9),(Sl3.v a1_10),(Sl3.v a1_11)])] H (z93 r) (zac H r):=by
 refine CallS.mk (args:=[(Value.pointer a0),(Value.agg #[(Value.int .i64 a1_0),(Value.string a1_1),(Value.bool a1_2),(Sl3.v a1_3),(Value.int .i64 a1_4),(Sl3.v a1_5),(Value.int .i64 a1_6),(Value.int .i64 a1_7),(Value.string a1_8),(Sl3.v a1_9),(Sl3.v a1_10),(Sl3.v a1_11)])]) Tryz.func51 (B:=B51) (by kernel_rfl) (fun E _=>?_)
 unfold z8n at h
 refine WS.sq (WS.rg (RS.mL 4 [kI 6 0,kL 5 1 0,kS 4 Sl3.nil,kL 3 0 0] ([some (61,[(Value.int .i64 a1_0),(Value.string a1_1),(Value.bool a1_2),(Sl3.v a1_3),(Value.int .i64 a1_4),(Sl3.v a1_5),(Value.int .i64 a1_6),(Value.int .i64 a1_7),(Value.string a1_8),(Sl3.v a1_9),(Sl3.v a1_10),(Sl3.v a1_11)]),some (47,[(Value.int .i64 0),(Value.int .i64 0),(Value.string (⟨#[]⟩:ByteArray)),(Sl3.v Sl3.nil)])]) (RS.dn (WS.nxt (WS.sq (WS.rg (RS.mS 2 [kI 17 a1_0,kL 16 0 0] ?_)))))))
 obtain ⟨⟨x1,x2,x3,x4⟩,hx,h⟩:=bind_some h
 try dsimp only at h
 refine RS.cl (some 18) (v:=(Value.tuple #[(Value.int .i64 x1),(Value.int .i64 x2),(Value.int .i64 x3),(Value.bool x4)])) 57 #[(Value.int .i64 a1_0)] (zhl hx) (RS.mS 9 [kB 10 x4,kI 9 x3,kI 8 x2,kI 7 x1,kB 22 x4,kI 21 x3,kI 20 x2,kI 19 x1,(15,.val (Value.tuple #[(Value.int .i64 x1),(Value.int .i64 x2),(Value.int .i64 x3),(Value.bool x4)]))] (RS.dn (WS.nxt (WS.sq (WS.sq (WS.rg (RS.mS 2 [kB 24 (!x4),kB 23 x4] (RS.dn (WS.nxt ?_)))))))))
 rcases z0 h with ⟨hp,h⟩ | ⟨hp,h⟩
 ·refine WS.fx 24 false (nb_not hp) (WS.cF (WS.sk (WS.nxt (WS.sq (WS.rg (RS.mS 1 [kS 11 Sl3.nil] (RS.dn (WS.nxt (WS.sq ?_)))))))))
  refine WS.rg (RS.mL 1 [kL 12 2 0] ([some (61,[(Value.int .i64 a1_0),(Value.string a1_1),(Value.bool a1_2),(Sl3.v a1_3),(Value.int .i64 a1_4),(Sl3.v a1_5),(Value.int .i64 a1_6),(Value.int .i64 a1_7),(Value.string a1_8),(Sl3.v a1_9),(Sl3.v a1_10),(Sl3.v a1_11)]),some (47,[(Value.int .i64 0),(Value.int .i64 0),(Value.string (⟨#[]⟩:ByteArray)),(Sl3.v Sl3.nil)]),some (47,[(Value.int .i64 0),(Value.int .i64 0),(Value.string (⟨#[]⟩:ByteArray)),(Sl3.v Sl3.nil)])]) (RS.dn (WS.nxt ?_)))
  obtain ⟨o,hx,h⟩:=bind_some h
  rcases o with ⟨H5,v7_6,v8_7,v11_8,w1_9,w1_10,w1_11,w1_12,w2_13,w2_14,w2_15,w2_16⟩ | ro
  ·try dsimp only at h
   refine WS.sq ?_
   refine WS.join ([kI 7 v7_6,kI 8 v8_7,kS 11 v11_8,(0,.val (Value.pointer a0)),kL 3 0 0,kL 5 1 0,kI 9 x3,kL 12 2 0]) ([some (61,[(Value.int .i64 a1_0),(Value.string a1_1),(Value.bool a1_2),(Sl3.v a1_3),(Value.int .i64 a1_4),(Sl3.v a1_5),(Value.int .i64 a1_6),(Value.int .i64 a1_7),(Value.string a1_8),(Sl3.v a1_9),(Sl3.v a1_10),(Sl3.v a1_11)]),some (47,[(Value.int .i64 w1_9),(Value.int .i64 w1_10),(Value.string w1_11),(Sl3.v w1_12)]),some (47,[(Value.int .i64 w2_13),(Value.int .i64 w2_14),(Value.string w2_15),(Sl3.v w2_16)])]) H5 ?_ (fun a w hs=>WS.nxt ?_ a w hs)
   ·clear h; rename _=>h
    refine WS.sq (WS.rg (RS.mS 4 [kB 29 (decide (a1_0≥11)),kB 28 (decide (a1_0≥11)),kI 27 a1_0,kL 26 0 0] ?_))
    rcases z0 h with ⟨hp,h⟩ | ⟨hp,h⟩
    ·refine RS.fx 29 true (decide_eq_true hp) (RS.mS 4 [kB 33 (decide (a1_0≤14)),kB 32 (decide (a1_0≤14)),kI 31 a1_0,kL 30 0 0] (RS.dn (WS.nxt ?_)))
     rcases z0 h with ⟨hp,h⟩ | ⟨hp,h⟩
     ·refine WS.fx 33 true (decide_eq_true hp) (WS.cT (WS.sq (WS.rg (RS.mS 5 [kT 39 a1_1,kL 38 0 1,kI 37 a1_0,kL 36 0 0,(35,.val (Value.pointer a0))] ?_))))
      obtain ⟨⟨x17,x18_0,x18_1,x18_2,x18_3,x19,H20⟩,hx,h⟩:=bind_some h
      try dsimp only at h
      refine RS.cl (some 40) (v:=(Value.tuple #[(Sl3.v x17),(Value.agg #[(Value.int .i64 x18_0),(Value.int .i64 x18_1),(Value.string x18_2),(Sl3.v x18_3)]),(Value.bool x19)])) 99 #[(Value.pointer a0),(Value.int .i64 a1_0),(Value.string a1_1)] (z74 hx) (RS.mL 7 [kB 10 x19,kS 11 x17,kB 43 x19,kA 42 #[(Value.int .i64 x18_0),(Value.int .i64 x18_1),(Value.string x18_2),(Sl3.v x18_3)],kS 41 x17,(34,.val (Value.tuple #[(Sl3.v x17),(Value.agg #[(Value.int .i64 x18_0),(Value.int .i64 x18_1),(Value.string x18_2),(Sl3.v x18_3)]),(Value.bool x19)]))] ([some (61,[(Value.int .i64 a1_0),(Value.string a1_1),(Value.bool a1_2),(Sl3.v a1_3),(Value.int .i64 a1_4),(Sl3.v a1_5),(Value.int .i64 a1_6),(Value.int .i64 a1_7),(Value.string a1_8),(Sl3.v a1_9),(Sl3.v a1_10),(Sl3.v a1_11)]),some (47,[(Value.int .i64 0),(Value.int .i64 0),(Value.string (⟨#[]⟩:ByteArray)),(Sl3.v Sl3.nil)]),some (47,[(Value.int .i64 x18_0),(Value.int .i64 x18_1),(Value.string x18_2),(Sl3.v x18_3)])]) (RS.dn (WS.nxt (WS.sq (WS.sq (WS.rg (RS.mS 2 [kB 45 (!x19),kB 44 x19] (RS.dn (WS.nxt ?_)))))))))
      rcases z0 h with ⟨hp,h⟩ | ⟨hp,h⟩
      ·refine WS.fx 45 false (nb_not hp) (WS.cF (WS.sk (WS.nxt (WS.rg (RS.mS 6 [kI 8 (x17.n:Int),kI 7 (x17.n:Int),kI 50 (x17.n:Int),kS 49 x17,kI 48 (x17.n:Int),kS 47 x17] (RS.dn ?_))))))
       cases h
       exact fun a w hs=>(jsN (hs.sb 3))
      ·refine WS.fx 45 true (za hp) (WS.cT ?_)
       cases h
     ·refine WS.fx 33 false (decide_eq_false hp) (WS.cF (WS.sk ?_))
      cases h
      exact fun a w hs=>(jsN (hs.sb 3))
    ·refine RS.fx 29 false (decide_eq_false hp) ?_
     cases h
   ·clear hx
    refine WS.sq (WS.sq (WS.rg (RS.mS 6 [kB 56 (decide ((a1_11.n:Int)<v7_6)),kB 55 (decide ((a1_11.n:Int)<v7_6)),kI 54 v7_6,kI 53 (a1_11.n:Int),kS 52 a1_11,kL 51 0 11] ?_)))
    rcases z0 h with ⟨hp,h⟩ | ⟨hp,h⟩
    ·refine RS.fx 56 true (decide_eq_true hp) ?_
     cases h
    ·refine RS.fx 56 false (decide_eq_false hp) (RS.mS 6 [kB 62 (decide ((a1_11.n:Int) > v8_7)),kB 61 (decide ((a1_11.n:Int) > v8_7)),kI 60 v8_7,kI 59 (a1_11.n:Int),kS 58 a1_11,kL 57 0 11] (RS.dn (WS.nxt ?_)))
     rcases z0 h with ⟨hp,h⟩ | ⟨hp,h⟩
     ·refine WS.fx 62 true (decide_eq_true hp) (WS.cT ?_)
      cases h
     ·refine WS.fx 62 false (decide_eq_false hp) (WS.cF (WS.sk (WS.nxt (WS.sq (WS.sq (WS.rg (RS.mS 4 [kI 67 0,kI 66 (a1_11.n:Int),kS 65 a1_11,kL 64 0 11] (RS.dn (WS.nxt ?_)))))))))
      refine WS.bk 0 ?_
      obtain ⟨o,hl,h⟩:=bind_some h
      rcases o with ⟨v67_30,w1_31,w1_32,w1_33,w1_34⟩ | r
      ·try dsimp only at h
       refine WS.lI (z6v (L:=L) (E:=E) (m:=m) (H:=H)) (L.ok hl) 3 ?_
       clear hl
       refine fun a w hs=>bkE ((WS.nxt ?_ a w hs))
       refine WS.sq (WS.sq (WS.rg (RS.mS 3 [kI 86 x3,kA 85 #[(Value.int .i64 a1_0),(Value.string a1_1),(Value.bool a1_2),(Sl3.v a1_3),(Value.int .i64 a1_4),(Sl3.v a1_5),(Value.int .i64 a1_6),(Value.int .i64 a1_7),(Value.string a1_8),(Sl3.v a1_9),(Sl3.v a1_10),(Sl3.v a1_11)],(84,.val (Value.pointer a0))] ?_)))
       obtain ⟨⟨x35,H36⟩,hx,h⟩:=bind_some h
       try dsimp only at h
       refine RS.cl (some 87) (v:=(Value.bool x35)) 100 #[(Value.pointer a0),(Value.agg #[(Value.int .i64 a1_0),(Value.string a1_1),(Value.bool a1_2),(Sl3.v a1_3),(Value.int .i64 a1_4),(Sl3.v a1_5),(Value.int .i64 a1_6),(Value.int .i64 a1_7),(Value.string a1_8),(Sl3.v a1_9),(Sl3.v a1_10),(Sl3.v a1_11)]),(Value.int .i64 x3)] (zft hx) (RS.mS 1 [kB 88 (!x35)] (RS.dn (WS.nxt ?_)))
       rcases z0 h with ⟨hp,h⟩ | ⟨hp,h⟩
       ·refine WS.fx 88 false (nb_not hp) (WS.cF (WS.sk (WS.nxt (WS.sq ?_))))
        refine WS.dr [1,2] [0,0,0,4,13,31,63] 7 (fun hcl=>?_)
        refine DA.tL 1 (some 91) (.val (Value.agg #[(Value.int .i64 w2_13),(Value.int .i64 w2_14),(Value.string w2_15),(Sl3.v w2_16)])) (DA.tL 2 (some 92) (.val (Value.agg #[(Value.int .i64 a1_0),(Value.string a1_1),(Value.bool a1_2),(Sl3.v a1_3),(Value.int .i64 a1_4),(Sl3.v a1_5),(Value.int .i64 a1_6),(Value.int .i64 a1_7),(Value.string a1_8),(Sl3.v a1_9),(Sl3.v a1_10),(Sl3.v a1_11)])) (DA.tP 0 (some 90) (Sl3.v v11_8) ?_))
        obtain ⟨x37,hx,h⟩:=bind_some h
        refine DA.on 3 (DA.aCj 3 (some 93) false (v:=(Value.int .i64 x37)) 101 #[(Value.agg #[(Value.int .i64 a1_0),(Value.string a1_1),(Value.bool a1_2),(Sl3.v a1_3),(Value.int .i64 a1_4),(Sl3.v a1_5),(Value.int .i64 a1_6),(Value.int .i64 a1_7),(Value.string a1_8),(Sl3.v a1_9),(Sl3.v a1_10),(Sl3.v a1_11)])] (zn2 hx) (DA.tP 4 (some 4) (Sl3.v v11_8) (DA.on 5 (DA.aL 5 none (.val undef) ([some (61,[(Value.int .i64 a1_0),(Value.string a1_1),(Value.bool a1_2),(Sl3.v a1_3),(Value.int .i64 a1_4),(Sl3.v a1_5),(Value.int .i64 a1_6),(Value.int .i64 a1_7),(Value.string a1_8),(Sl3.v a1_9),(Sl3.v a1_10),(Sl3.v a1_11)]),some (47,[(Value.int .i64 w2_13),(Value.int .i64 w2_14),(Value.string w2_15),(Sl3.v w2_16)]),some (47,[(Value.int .i64 w2_13),(Value.int .i64 w2_14),(Value.string w2_15),(Sl3.v w2_16)])]) false (DA.tP 6 (some 6) (Value.int .i64 x37) (DA.dn (WS.nxt (WS.rt ?_))))))))
        cases h
        exact fun a w hs=>rtR (rS hs)
       ·refine WS.fx 88 true (za hp) (WS.cT ?_)
        cases h
      ·try dsimp only at h
       refine WS.lR (z6v (L:=L) (E:=E) (m:=m) (H:=H)) (L.ok hl) 3 ?_
       cases h
       exact fun a w hq=>bkR (sqR (rtR hq))
  ·cases h; rename _=>h
   refine WS.sq (WS.sq (WS.rg (RS.mS 4 [kB 29 (decide (a1_0≥11)),kB 28 (decide (a1_0≥11)),kI 27 a1_0,kL 26 0 0] ?_)))
   rcases z0 h with ⟨hp,h⟩ | ⟨hp,h⟩
   ·refine RS.fx 29 true (decide_eq_true hp) (RS.mS 4 [kB 33 (decide (a1_0≤14)),kB 32 (decide (a1_0≤14)),kI 31 a1_0,kL 30 0 0] (RS.dn (WS.nxt ?_)))
    rcases z0 h with ⟨hp,h⟩ | ⟨hp,h⟩
    ·refine WS.fx 33 true (decide_eq_true hp) (WS.cT (WS.sq (WS.rg (RS.mS 5 [kT 39 a1_1,kL 38 0 1,kI 37 a1_0,kL 36 0 0,(35,.val (Value.pointer a0))] ?_))))
     obtain ⟨⟨x17,x18_0,x18_1,x18_2,x18_3,x19,H20⟩,hx,h⟩:=bind_some h
     try dsimp only at h
     refine RS.cl (some 40) (v:=(Value.tuple #[(Sl3.v x17),(Value.agg #[(Value.int .i64 x18_0),(Value.int .i64 x18_1),(Value.string x18_2),(Sl3.v x18_3)]),(Value.bool x19)])) 99 #[(Value.pointer a0),(Value.int .i64 a1_0),(Value.string a1_1)] (z74 hx) (RS.mL 7 [kB 10 x19,kS 11 x17,kB 43 x19,kA 42 #[(Value.int .i64 x18_0),(Value.int .i64 x18_1),(Value.string x18_2),(Sl3.v x18_3)],kS 41 x17,(34,.val (Value.tuple #[(Sl3.v x17),(Value.agg #[(Value.int .i64 x18_0),(Value.int .i64 x18_1),(Value.string x18_2),(Sl3.v x18_3)]),(Value.bool x19)]))] ([some (61,[(Value.int .i64 a1_0),(Value.string a1_1),(Value.bool a1_2),(Sl3.v a1_3),(Value.int .i64 a1_4),(Sl3.v a1_5),(Value.int .i64 a1_6),(Value.int .i64 a1_7),(Value.string a1_8),(Sl3.v a1_9),(Sl3.v a1_10),(Sl3.v a1_11)]),some (47,[(Value.int .i64 0),(Value.int .i64 0),(Value.string (⟨#[]⟩:ByteArray)),(Sl3.v Sl3.nil)]),some (47,[(Value.int .i64 x18_0),(Value.int .i64 x18_1),(Value.string x18_2),(Sl3.v x18_3)])]) (RS.dn (WS.nxt (WS.sq (WS.sq (WS.rg (RS.mS 2 [kB 45 (!x19),kB 44 x19] (RS.dn (WS.nxt ?_)))))))))
     rcases z0 h with ⟨hp,h⟩ | ⟨hp,h⟩
     ·refine WS.fx 45 false (nb_not hp) (WS.cF (WS.sk (WS.nxt (WS.rg (RS.mS 6 [kI 8 (x17.n:Int),kI 7 (x17.n:Int),kI 50 (x17.n:Int),kS 49 x17,kI 48 (x17.n:Int),kS 47 x17] (RS.dn ?_))))))
      cases h
     ·refine WS.fx 45 true (za hp) (WS.cT ?_)
      cases h
    ·refine WS.fx 33 false (decide_eq_false hp) (WS.cF (WS.sk ?_))
     cases h
   ·refine RS.fx 29 false (decide_eq_false hp) ?_
    cases h
 ·refine WS.fx 24 true (za hp) (WS.cT ?_)
  cases h
def z18:Bool→Value
 | r0=>(Value.bool r0)
def z1b (H:AH):Bool→AH:=fun _=>H
def z9i:Bool→Value
 | r0=>(Value.bool r0)
def zb5 (H:AH):Bool→AH:=fun _=>H
noncomputable def B102:Code:=(Tryz.f102.body).getD .skip
noncomputable def z27 (_L:LC) (_H:AH) (a0 _a1:Sl3):Int→Option (Lp Int Bool):=fun v17_1 =>
 if v17_1<(a0.n:Int) then
  none
 else
  some (.brk v17_1)
def z9s (_L:LC) (_H:AH) (a0 a1:Sl3):Int→KN×Lcs:=fun v17_1=>([kI 17 v17_1,kS 1 a1,(2,.val (Value.func (.func 52) #[] #[])),kS 15 a0,kI 16 (a0.n:Int)],[])
noncomputable def z1r (L:LC) (H:AH) (a0 a1:Sl3):Option Bool :=
 if (a0.n:Int)=(a1.n:Int) then
  Option.bind (L.run (z27 L H a0 a1) 0) fun o=>match o with
  | .inl _ =>
   some true
  | .inr r=>some r
 else
  none
noncomputable def B52:Code:=(Tryz.f52.body).getD .skip
noncomputable def z83 (_L:LC) (rec_slices_EqualFunc__52:AH→Sl3→Sl3→Option Bool) (H:AH) (a0_0 a0_1:Int) (a0_2:ByteArray) (a0_3:Sl3) (a1_0 a1_1:Int) (a1_2:ByteArray) (a1_3:Sl3):Option Bool :=
 if a0_0=a1_0 then
  if a0_1=a1_1 then
   if (a0_2.toList == a1_2.toList)=true then
    Option.bind (rec_slices_EqualFunc__52 H a0_3 a1_3) fun x1 =>
    some x1
   else
    none
  else
   none
 else
  none
noncomputable def z21 (L:LC) (n:Nat):(AH→Sl3→Sl3→Option Bool)×(AH→Int→Int→ByteArray→Sl3→Int→Int→ByteArray→Sl3→Option Bool):=Nat.rec (motive:=fun _=>(AH→Sl3→Sl3→Option Bool)×(AH→Int→Int→ByteArray→Sl3→Int→Int→ByteArray→Sl3→Option Bool)) ((fun _ _ _=>none),(fun _ _ _ _ _ _ _ _ _=>none)) (fun _ p=>(z1r L,z83 L p.1)) n
noncomputable def zcq (L:LC) (H:AH) (a0_0 a0_1:Int) (a0_2:ByteArray) (a0_3:Sl3) (a1_0 a1_1:Int) (a1_2:ByteArray) (a1_3:Sl3):Option Bool:=((z21 L L.fuel).2) H a0_0 a0_1 a0_2 a0_3 a1_0 a1_1 a1_2 a1_3
theorem z3d {E m L H a0 a1} :LoopF Tryz.prog (NE.plain 167) m E Tryz.f102 ((cfst (csnd (cfst (csnd (csnd B102)))))) (z9s L H a0 a1) (fun _=>H) 0 z18 (z1b H) (z27 L H a0 a1):=by
 rintro v17_1 o h
 unfold z27 at h
 try dsimp only at h
 refine WS.sq (WS.rg (RS.mS 1 [kB 18 (decide (v17_1<(a0.n:Int)))] (RS.dn (WS.nxt (WS.sq ?_)))))
 rcases z0 h with ⟨hp,h⟩ | ⟨hp,h⟩
 ·refine WS.fx 18 true (decide_eq_true hp) (WS.cT ?_)
  cases h
 ·refine WS.fx 18 false (decide_eq_false hp) (WS.cF (WS.ex 0 ?_))
  cases h
  exact fun a w hs=>sqE (lsB rfl (hs.sb 0))
theorem z87 {L:LC} {m:Nat} {H:AH} {a0 a1:Sl3} {r:Bool} (h:z1r L H a0 a1=some r) :
  CallS Tryz.prog (NE.plain 167) m 102 #[(Sl3.v a0),(Sl3.v a1),(Value.func (.func 52) #[] #[])] H (z18 r) (z1b H r):=by
 refine CallS.mk (args:=[(Sl3.v a0),(Sl3.v a1),(Value.func (.func 52) #[] #[])]) Tryz.func102 (B:=B102) (by kernel_rfl) (fun E _=>?_)
 unfold z1r at h
 refine WS.sq (WS.rg (RS.mS 1 [kB 6 false] (RS.dn (WS.nxt (WS.sq (WS.sq (WS.rg (RS.mS 5 [kB 14 (!decide ((a0.n:Int)=(a1.n:Int))),kI 13 (a1.n:Int),kS 12 a1,kI 11 (a0.n:Int),kS 10 a0] (RS.dn ?_)))))))))
 refine WS.nxt ?_
 rcases z0 h with ⟨hp,h⟩ | ⟨hp,h⟩
 ·refine WS.fx 14 false (zh hp) (WS.cF (WS.sk (WS.nxt (WS.sq (WS.sq (WS.rg (RS.mS 3 [kI 17 0,kI 16 (a0.n:Int),kS 15 a0] (RS.dn (WS.nxt ?_)))))))))
  refine WS.bk 0 ?_
  obtain ⟨o,hl,h⟩:=bind_some h
  rcases o with v17_2 | r
  ·try dsimp only at h
   refine WS.lI (z3d (L:=L) (E:=E) (m:=m) (H:=H)) (L.ok hl) 0 ?_
   clear hl
   refine fun a w hs=>bkE ((WS.nxt ?_ a w hs))
   refine WS.sq (WS.rg (RS.mS 1 [kB 6 true] (RS.dn (WS.nxt (WS.rt ?_)))))
   cases h
   exact fun a w hs=>rtR (rS hs)
  ·try dsimp only at h
   refine WS.lR (z3d (L:=L) (E:=E) (m:=m) (H:=H)) (L.ok hl) 0 ?_
   cases h
   exact fun a w hq=>bkR (sqR (rtR hq))
 ·refine WS.fx 14 true (ze hp) (WS.cT ?_)
  cases h
theorem ziv {L:LC} {rec_slices_EqualFunc__52:AH→Sl3→Sl3→Option Bool} (hrec_slices_EqualFunc__52:∀(m:Nat) (H:AH) (a0 a1:Sl3) (r:Bool),rec_slices_EqualFunc__52 H a0 a1=some r→CallS Tryz.prog (NE.plain 167) m 102 #[(Sl3.v a0),(Sl3.v a1),(Value.func (.func 52) #[] #[])] H (z18 r) (z1b H r)) {m:Nat} {H:AH} {a0_0 a0_1:Int} {a0_2:ByteArray} {a0_3:Sl3} {a1_0 a1_1:Int} {a1_2:ByteArray} {a1_3:Sl3} {r:Bool} (h:z83 L rec_slices_EqualFunc__52 H a0_0 a0_1 a0_2 a0_3 a1_0 a1_1 a1_2 a1_3=some r) :
  CallS Tryz.prog (NE.plain 167) m 52 #[(Value.agg #[(Value.int .i64 a0_0),(Value.int .i64 a0_1),(Value.string a0_2),(Sl3.v a0_3)]),(Value.agg #[(Value.int .i64 a1_0),(Value.int .i64 a1_1),(Value.string a1_2),(Sl3.v a1_3)])] H (z9i r) (zb5 H r):=by
 refine CallS.mk (args:=[(Value.agg #[(Value.int .i64 a0_0),(Value.int .i64 a0_1),(Value.string a0_2),(Sl3.v a0_3)]),(Value.agg #[(Value.int .i64 a1_0),(Value.int .i64 a1_1),(Value.string a1_2),(Sl3.v a1_3)])]) Tryz.func52 (B:=B52) (by kernel_rfl) (fun E _=>?_)
 unfold z83 at h
 refine WS.sq (WS.rg (RS.mL 3 [kB 4 false,kL 3 1 0,kL 2 0 0] ([some (47,[(Value.int .i64 a0_0),(Value.int .i64 a0_1),(Value.string a0_2),(Sl3.v a0_3)]),some (47,[(Value.int .i64 a1_0),(Value.int .i64 a1_1),(Value.string a1_2),(Sl3.v a1_3)])]) (RS.dn (WS.nxt (WS.sq (WS.rg (RS.mS 6 [kB 10 (decide (a0_0=a1_0)),kB 9 (decide (a0_0=a1_0)),kI 8 a1_0,kL 7 1 0,kI 6 a0_0,kL 5 0 0] ?_)))))))
 rcases z0 h with ⟨hp,h⟩ | ⟨hp,h⟩
 ·refine RS.fx 10 true (decide_eq_true hp) (RS.mS 7 [kB 17 (decide (a0_1=a1_1)),kB 16 (decide (a0_1=a1_1)),kB 15 (decide (a0_1=a1_1)),kI 14 a1_1,kL 13 1 1,kI 12 a0_1,kL 11 0 1] ?_)
  rcases z0 h with ⟨hp,h⟩ | ⟨hp,h⟩
  ·refine RS.fx 17 true (decide_eq_true hp) (RS.mS 7 [kB 24 (a0_2.toList == a1_2.toList),kB 23 (a0_2.toList == a1_2.toList),kB 22 (a0_2.toList == a1_2.toList),kT 21 a1_2,kL 20 1 2,kT 19 a0_2,kL 18 0 2] ?_)
   rcases z0 h with ⟨hp,h⟩ | ⟨hp,h⟩
   ·refine RS.fx 24 true hp (RS.mS 4 [kS 28 a1_3,kL 27 1 3,kS 26 a0_3,kL 25 0 3] ?_)
    obtain ⟨x1,hx,h⟩:=bind_some h
    refine RS.cl (some 29) (v:=(Value.bool x1)) 102 #[(Sl3.v a0_3),(Sl3.v a1_3),(Value.func (.func 52) #[] #[])] (hrec_slices_EqualFunc__52 _ _ _ _ _ hx) (RS.mS 2 [kB 4 x1,kB 30 x1] (RS.dn (WS.nxt (WS.rt ?_))))
    cases h
    exact fun a w hs=>rtR (rS hs)
   ·refine RS.fx 24 false (b_not hp) ?_
    cases h
  ·refine RS.fx 17 false (decide_eq_false hp) ?_
   cases h
 ·refine RS.fx 10 false (decide_eq_false hp) ?_
  cases h
theorem z9a {L:LC}:∀n,(∀(m:Nat) (H:AH) (a0 a1:Sl3) (r:Bool),((z21 L n).1) H a0 a1=some r→CallS Tryz.prog (NE.plain 167) m 102 #[(Sl3.v a0),(Sl3.v a1),(Value.func (.func 52) #[] #[])] H (z18 r) (z1b H r))∧(∀(m:Nat) (H:AH) (a0_0 a0_1:Int) (a0_2:ByteArray) (a0_3:Sl3) (a1_0 a1_1:Int) (a1_2:ByteArray) (a1_3:Sl3) (r:Bool),((z21 L n).2) H a0_0 a0_1 a0_2 a0_3 a1_0 a1_1 a1_2 a1_3=some r→CallS Tryz.prog (NE.plain 167) m 52 #[(Value.agg #[(Value.int .i64 a0_0),(Value.int .i64 a0_1),(Value.string a0_2),(Sl3.v a0_3)]),(Value.agg #[(Value.int .i64 a1_0),(Value.int .i64 a1_1),(Value.string a1_2),(Sl3.v a1_3)])] H (z9i r) (zb5 H r)):=by
 intro n
 induction n with
 | zero=>exact ⟨(fun _ _ _ _ _ h=>(Option.some_ne_none _ h.symm).elim),(fun _ _ _ _ _ _ _ _ _ _ _ h=>(Option.some_ne_none _ h.symm).elim)⟩
 | succ n ih=>exact ⟨(fun _ _ _ _ _ h=>z87 (L:=L)  h),(fun _ _ _ _ _ _ _ _ _ _ _ h=>ziv (L:=L) ih.1 h)⟩
theorem zbw {L:LC} {m:Nat} {H:AH} {a0_0 a0_1:Int} {a0_2:ByteArray} {a0_3:Sl3} {a1_0 a1_1:Int} {a1_2:ByteArray} {a1_3:Sl3} {r:Bool} (h:zcq L H a0_0 a0_1 a0_2 a0_3 a1_0 a1_1 a1_2 a1_3=some r) :
  CallS Tryz.prog (NE.plain 167) m 52 #[(Value.agg #[(Value.int .i64 a0_0),(Value.int .i64 a0_1),(Value.string a0_2),(Sl3.v a0_3)]),(Value.agg #[(Value.int .i64 a1_0),(Value.int .i64 a1_1),(Value.string a1_2),(Sl3.v a1_3)])] H (z9i r) (zb5 H r) :=
 ((z9a _).2) _ _ _ _ _ _ _ _ _ _ _ h
def zly:Bool→Value
 | r0=>(Value.bool r0)
def zn0 (H:AH):Bool→AH:=fun _=>H
noncomputable def B165:Code:=(Tryz.f165.body).getD .skip
noncomputable def zfl (L:LC) (H:AH) (a0_0 a0_1:Int) (a0_2:ByteArray) (a0_3:Sl3) (a1:Option Addr):Option Bool :=
 Option.bind a1 fun q1 =>
 Option.bind (rd (deI .i64) H (Addr.add q1 0)) fun x2_0 =>
 Option.bind (rd (deI .i64) H (Addr.add q1 1)) fun x2_1 =>
 Option.bind (rd deS H (Addr.add q1 2)) fun x2_2 =>
 Option.bind (rd deSl H (Addr.add q1 3)) fun x2_3 =>
 Option.bind (zcq L H a0_0 a0_1 a0_2 a0_3 x2_0 x2_1 x2_2 x2_3) fun x3 =>
 some (!x3)
theorem zmp {L:LC} {m:Nat} {H:AH} {a0_0 a0_1:Int} {a0_2:ByteArray} {a0_3:Sl3} {a1:Option Addr} {r:Bool} (h:zfl L H a0_0 a0_1 a0_2 a0_3 a1=some r) :
  CallS Tryz.prog (NE.plain 167) m 165 #[(Value.agg #[(Value.int .i64 a0_0),(Value.int .i64 a0_1),(Value.string a0_2),(Sl3.v a0_3)]),(Value.pointer a1)] H (zly r) (zn0 H r):=by
 refine CallS.mk (args:=[(Value.agg #[(Value.int .i64 a0_0),(Value.int .i64 a0_1),(Value.string a0_2),(Sl3.v a0_3)]),(Value.pointer a1)]) Tryz.func165 (B:=B165) (by kernel_rfl) (fun E _=>?_)
 unfold zfl at h
 refine WS.sq (WS.rg (RS.mL 2 [kB 3 false,kL 2 0 0] ([some (47,[(Value.int .i64 a0_0),(Value.int .i64 a0_1),(Value.string a0_2),(Sl3.v a0_3)])]) (RS.dn (WS.nxt (WS.sq (WS.rg (RS.mS 1 [kA 4 #[(Value.int .i64 a0_0),(Value.int .i64 a0_1),(Value.string a0_2),(Sl3.v a0_3)]] ?_)))))))
 obtain ⟨q1,hx,hq1⟩:=bind_some h
 subst hx
 have h:=hq1
 obtain ⟨x2_0,hx0,h⟩:=bind_some h
 obtain ⟨x2_1,hx1,h⟩:=bind_some h
 obtain ⟨x2_2,hx2,h⟩:=bind_some h
 obtain ⟨x2_3,hx3,h⟩:=bind_some h
 refine RS.la 5 47 (.tmp 1) 4 (z2 (z1 hx0 z5) (z2 (z1 hx1 z5) (z2 (z1 hx2 z9) (z2 (z1 hx3 z3) zm)))) ?_
 obtain ⟨x3,hx,h⟩:=bind_some h
 refine RS.cl (some 6) (v:=(Value.bool x3)) 52 #[(Value.agg #[(Value.int .i64 a0_0),(Value.int .i64 a0_1),(Value.string a0_2),(Sl3.v a0_3)]),(Value.agg #[(Value.int .i64 x2_0),(Value.int .i64 x2_1),(Value.string x2_2),(Sl3.v x2_3)])] (zbw hx) (RS.mS 2 [kB 3 (!x3),kB 7 (!x3)] (RS.dn (WS.nxt (WS.rt ?_))))
 cases h
 exact fun a w hs=>rtR (rS hs)
def z2n:Int→Value
 | r0=>(Value.int .i64 r0)
def z2w (H:AH):Int→AH:=fun _=>H
noncomputable def B215:Code:=(Tryz.f215.body).getD .skip
noncomputable def z1e (L:LC) (H:AH) (a0:Sl3) (a1_0:Option Addr):Int→Option (Lp Int Int):=fun v8_1 =>
 if v8_1<(a0.n:Int) then
  Option.bind (idxA 4 a0 v8_1) fun p2 =>
  Option.bind (rd (deI .i64) H (Addr.add p2 0)) fun x3_0 =>
  Option.bind (rd (deI .i64) H (Addr.add p2 1)) fun x3_1 =>
  Option.bind (rd deS H (Addr.add p2 2)) fun x3_2 =>
  Option.bind (rd deSl H (Addr.add p2 3)) fun x3_3 =>
  Option.bind (zfl L H x3_0 x3_1 x3_2 x3_3 a1_0) fun x4 =>
  if x4=true then
   none
  else
   some (.next (IntKind.i64.wrap (v8_1+1)))
 else
  some (.brk v8_1)
def z6n (_L:LC) (_H:AH) (a0:Sl3) (a1_0:Option Addr):Int→KN×Lcs:=fun v8_1=>([kI 8 v8_1,kS 0 a0,(1,.val (Value.func (.func 165) #[] #[(Value.pointer a1_0)])),kI 7 (a0.n:Int)],[])
noncomputable def z1s (L:LC) (H:AH) (a0:Sl3) (a1_0:Option Addr):Option Int :=
 Option.bind (L.run (z1e L H a0 a1_0) 0) fun o=>match o with
 | .inl _ =>
  some (-1)
 | .inr r=>some r
theorem z25 {E m L H a0 a1_0} :LoopF Tryz.prog (NE.plain 167) m E Tryz.f215 ((cfst (csnd (cfst (csnd B215))))) (z6n L H a0 a1_0) (fun _=>H) 0 z2n (z2w H) (z1e L H a0 a1_0):=by
 rintro v8_1 o h
 unfold z1e at h
 try dsimp only at h
 refine WS.sq (WS.rg (RS.mS 1 [kB 9 (decide (v8_1<(a0.n:Int)))] (RS.dn (WS.nxt (WS.sq ?_)))))
 rcases z0 h with ⟨hp,h⟩ | ⟨hp,h⟩
 ·refine WS.fx 9 true (decide_eq_true hp) (WS.cT (WS.sk (WS.nxt (WS.sq (WS.bk 1 (WS.sq (WS.rg (RS.mS 2 [kI 5 v8_1,kI 10 v8_1] (RS.dn ?_)))))))))
  refine WS.nxt (WS.sq (WS.rg (RS.mS 3 [kI 13 v8_1,kS 12 a0,(11,.val (Value.func (.func 165) #[] #[(Value.pointer a1_0)]))] ?_)))
  obtain ⟨p2,hx,h⟩:=bind_some h
  refine RS.ix 14 45 47 (.tmp 12) (.tmp 13) hx ?_
  obtain ⟨x3_0,hx0,h⟩:=bind_some h
  obtain ⟨x3_1,hx1,h⟩:=bind_some h
  obtain ⟨x3_2,hx2,h⟩:=bind_some h
  obtain ⟨x3_3,hx3,h⟩:=bind_some h
  refine RS.la 15 47 (.tmp 14) 4 (z2 (z1 hx0 z5) (z2 (z1 hx1 z5) (z2 (z1 hx2 z9) (z2 (z1 hx3 z3) zm)))) ?_
  obtain ⟨x4,hx,h⟩:=bind_some h
  refine RS.cl (some 16) (v:=(Value.bool x4)) 165 #[(Value.agg #[(Value.int .i64 x3_0),(Value.int .i64 x3_1),(Value.string x3_2),(Sl3.v x3_3)]),(Value.pointer a1_0)] (zmp hx) (RS.dn (WS.nxt ?_))
  rcases z0 h with ⟨hp,h⟩ | ⟨hp,h⟩
  ·refine WS.fx 16 true hp (WS.cT ?_)
   cases h
  ·refine WS.fx 16 false (b_not hp) (WS.cF (WS.sk ?_))
   refine fun a w hs=>bkN ((WS.nxt ?_ a w hs))
   refine WS.rg (RS.mS 2 [kI 8 (IntKind.i64.wrap (v8_1+1)),kI 18 (IntKind.i64.wrap (v8_1+1))] (RS.dn ?_))
   cases h
   exact fun a w hs=>lsN rfl (hs.sb 0)
 ·refine WS.fx 9 false (decide_eq_false hp) (WS.cF (WS.ex 0 ?_))
  cases h
  exact fun a w hs=>sqE (lsB rfl (hs.sb 0))
theorem z8i {L:LC} {m:Nat} {H:AH} {a0:Sl3} {a1_0:Option Addr} {r:Int} (h:z1s L H a0 a1_0=some r) :
  CallS Tryz.prog (NE.plain 167) m 215 #[(Sl3.v a0),(Value.func (.func 165) #[] #[(Value.pointer a1_0)])] H (z2n r) (z2w H r):=by
 refine CallS.mk (args:=[(Sl3.v a0),(Value.func (.func 165) #[] #[(Value.pointer a1_0)])]) Tryz.func215 (B:=B215) (by kernel_rfl) (fun E _=>?_)
 unfold z1s at h
 refine WS.sq (WS.rg (RS.mS 1 [kI 4 0] (RS.dn (WS.nxt (WS.sq (WS.sq (WS.rg (RS.mS 3 [kI 8 0,kI 7 (a0.n:Int),kS 6 a0] (RS.dn ?_)))))))))
 refine WS.nxt (WS.bk 0 ?_)
 obtain ⟨o,hl,h⟩:=bind_some h
 rcases o with v8_5 | r
 ·try dsimp only at h
  refine WS.lI (z25 (L:=L) (E:=E) (m:=m) (H:=H)) (L.ok hl) 0 ?_
  clear hl
  refine fun a w hs=>bkE ((WS.nxt ?_ a w hs))
  refine WS.sq (WS.rg (RS.mS 1 [kI 4 (-1)] (RS.dn (WS.nxt (WS.rt ?_)))))
  cases h
  exact fun a w hs=>rtR (rS hs)
 ·try dsimp only at h
  refine WS.lR (z25 (L:=L) (E:=E) (m:=m) (H:=H)) (L.ok hl) 0 ?_
  cases h
  exact fun a w hq=>bkR (sqR (rtR hq))
def z5x:Bool→Value
 | r0=>(Value.bool r0)
def z6l (H:AH):Bool→AH:=fun _=>H
noncomputable def B164:Code:=(Tryz.f164.body).getD .skip
noncomputable def z1d (L:LC) (H:AH) (a0:Sl3) (a1_0:Option Addr):Option Bool :=
 Option.bind (z1s L H a0 a1_0) fun x1 =>
 some (decide (x1≥0))
theorem z6o {L:LC} {m:Nat} {H:AH} {a0:Sl3} {a1_0:Option Addr} {r:Bool} (h:z1d L H a0 a1_0=some r) :
  CallS Tryz.prog (NE.plain 167) m 164 #[(Sl3.v a0),(Value.func (.func 165) #[] #[(Value.pointer a1_0)])] H (z5x r) (z6l H r):=by
 refine CallS.mk (args:=[(Sl3.v a0),(Value.func (.func 165) #[] #[(Value.pointer a1_0)])]) Tryz.func164 (B:=B164) (by kernel_rfl) (fun E _=>?_)
 unfold z1d at h
 refine WS.sq (WS.rg (RS.mS 1 [kB 4 false] (RS.dn (WS.nxt (WS.sq (WS.rg (RS.mS 2 [(6,.val (Value.func (.func 165) #[] #[(Value.pointer a1_0)])),kS 5 a0] ?_)))))))
 obtain ⟨x1,hx,h⟩:=bind_some h
 refine RS.cl (some 7) (v:=(Value.int .i64 x1)) 215 #[(Sl3.v a0),(Value.func (.func 165) #[] #[(Value.pointer a1_0)])] (z8i hx) (RS.mS 2 [kB 4 (decide (x1≥0)),kB 8 (decide (x1≥0))] (RS.dn (WS.nxt (WS.rt ?_))))
 cases h
 exact fun a w hs=>rtR (rS hs)
def zoa:(Bool×AH)→Value
 | (r0,_)=>(Value.bool r0)
def zph (_:AH):(Bool×AH)→AH:=fun r=>r.2
noncomputable def B104:Code:=(Tryz.f104.body).getD .skip
noncomputable def zk0 (L:LC) (_m:Nat) (H:AH) (a0:Sl3) (a1_0 a1_1:Int) (a1_2:ByteArray) (a1_3:Sl3):Option (Bool×AH) :=
 Option.bind (newB 47 [(Value.int .i64 a1_0),(Value.int .i64 a1_1),(Value.string a1_2),(Sl3.v a1_3)] H) fun (p1,H2) =>
 Option.bind (z1d L H2 a0 (some p1)) fun x3 =>
 some ((!x3),H2)
theorem zpf {L:LC} {m:Nat} {H:AH} {a0:Sl3} {a1_0 a1_1:Int} {a1_2:ByteArray} {a1_3:Sl3} {r:(Bool×AH)} (h:zk0 L m H a0 a1_0 a1_1 a1_2 a1_3=some r) :
  CallS Tryz.prog (NE.plain 167) m 104 #[(Sl3.v a0),(Value.agg #[(Value.int .i64 a1_0),(Value.int .i64 a1_1),(Value.string a1_2),(Sl3.v a1_3)])] H (zoa r) (zph H r):=by
 refine CallS.mk (args:=[(Sl3.v a0),(Value.agg #[(Value.int .i64 a1_0),(Value.int .i64 a1_1),(Value.string a1_2),(Sl3.v a1_3)])]) Tryz.func104 (B:=B104) (by kernel_rfl) (fun E _=>?_)
 unfold zk0 at h
 refine WS.sq (WS.rg ?_)
 obtain ⟨⟨p1,H2⟩,hx,h⟩:=bind_some h
 try dsimp only at h
 refine RS.o (H':=H2) (some 3) (Value.pointer (some p1)) (Abs.run_newB (by kernel_rfl) hx) (RS.mS 1 [kB 4 false] (RS.dn (WS.nxt (WS.sq (WS.rg (RS.mS 2 [(6,.val (Value.func (.func 165) #[] #[(Value.pointer (some p1))])),kS 5 a0] ?_))))))
 obtain ⟨x3,hx,h⟩:=bind_some h
 refine RS.cl (some 7) (v:=(Value.bool x3)) 164 #[(Sl3.v a0),(Value.func (.func 165) #[] #[(Value.pointer (some p1))])] (z6o hx) (RS.mS 2 [kB 4 (!x3),kB 8 (!x3)] (RS.dn (WS.nxt (WS.rt ?_))))
 cases h
 exact fun a w hs=>rtR (rS hs)
def zka:(Int×Int×ByteArray×Sl3)→Value
 | (r0,r1,r2,r3)=>(Value.agg #[(Value.int .i64 r0),(Value.int .i64 r1),(Value.string r2),(Sl3.v r3)])
def zkx (H:AH):(Int×Int×ByteArray×Sl3)→AH:=fun _=>H
noncomputable def B105:Code:=(Tryz.f105.body).getD .skip
noncomputable def z49 (_L:LC):Option (Int×Int×ByteArray×Sl3) :=
 some (2,0,(⟨#[]⟩:ByteArray),Sl3.nil)
theorem z7g {L:LC} {m:Nat} {H:AH}  {r:(Int×Int×ByteArray×Sl3)} (h:z49 L=some r) :
  CallS Tryz.prog (NE.plain 167) m 105 #[] H (zka r) (zkx H r):=by
 refine CallS.mk (args:=[]) Tryz.func105 (B:=B105) (by kernel_rfl) (fun E _=>?_)
 unfold z49 at h
 refine WS.sq (WS.rg (RS.mL 1 [kL 0 0 0] ([some (47,[(Value.int .i64 0),(Value.int .i64 0),(Value.string (⟨#[]⟩:ByteArray)),(Sl3.v Sl3.nil)])]) (RS.dn (WS.nxt (WS.sq (WS.rg (RS.mL 2 [kA 1 #[(Value.int .i64 2),(Value.int .i64 0),(Value.string (⟨#[]⟩:ByteArray)),(Sl3.v Sl3.nil)]] ([some (47,[(Value.int .i64 2),(Value.int .i64 0),(Value.string (⟨#[]⟩:ByteArray)),(Sl3.v Sl3.nil)])]) (RS.dn (WS.nxt ?_)))))))))
 refine WS.rt ?_
 cases h
 exact fun a w hs=>rtR (rS hs)
end Go.Proofs.YtdlnojjpbmibdaaGreatDoor
namespace Go.Proofs.YtdlnojjpbmibdaaGreatDoor
open Go Go.Abs
set_option maxRecDepth 100000
def zlj:(Int×Int×ByteArray×Sl3×Bool×AH)→Value
 | (r0,r1,r2,r3,r4,_)=>(Value.tuple #[(Value.agg #[(Value.int .i64 r0),(Value.int .i64 r1),(Value.string r2),(Sl3.v r3)]),(Value.bool r4)])
def zmb (_:AH):(Int×Int×ByteArray×Sl3×Bool×AH)→AH:=fun r=>r.2.2.2.2.2
noncomputable def B53:Code:=(Tryz.f53.body).getD .skip
noncomputable def zde (L:LC) (m:Nat) (H:AH) (a0_0:Int) (_a0_1:ByteArray) (_a0_2:Bool) (_a0_3:Sl3) (_a0_4:Int) (_a0_5:Sl3) (_a0_6 _a0_7:Int) (_a0_8:ByteArray) (_a0_9 _a0_10:Sl3) (_a0_11 a1:Sl3):Option (Int×Int×ByteArray×Sl3×Bool×AH) :=
 if a0_0≤7 then
  none
 else
  if a0_0≤9 then
   none
  else
   if a0_0=10 then
    none
   else
    if a0_0=20 then
     Option.bind (z49 L) fun (x1_0,x1_1,x1_2,x1_3) =>
     some (x1_0,x1_1,x1_2,x1_3,true,H)
    else
     if a0_0≤27 then
      Option.bind (z49 L) fun (x2_0,x2_1,x2_2,x2_3) =>
      Option.bind (z49 L) fun (x3_0,x3_1,x3_2,x3_3) =>
      Option.bind (zk0 L m H a1 x3_0 x3_1 x3_2 x3_3) fun (x4,H5) =>
      some (x2_0,x2_1,x2_2,x2_3,x4,H5)
     else
      none
theorem zlx {L:LC} {m:Nat} {H:AH} {a0_0:Int} {a0_1:ByteArray} {a0_2:Bool} {a0_3:Sl3} {a0_4:Int} {a0_5:Sl3} {a0_6 a0_7:Int} {a0_8:ByteArray} {a0_9 a0_10:Sl3} {a0_11 a1:Sl3} {r:(Int×Int×ByteArray×Sl3×Bool×AH)} (h:zde L m H a0_0 a0_1 a0_2 a0_3 a0_4 a0_5 a0_6 a0_7 a0_8 a0_9 a0_10 a0_11 a1=some r) :
  CallS Tryz.prog (NE.plain 167) m 53 #[(Value.agg #[(Value.int .i64 a0_0),(Value.string a0_1),(Value.bool a0_2),(Sl3.v a0_3),(Value.int .i64 a0_4),(Sl3.v a0_5),(Value.int .i64 a0_6),(Value.int .i64 a0_7),(Value.string a0_8),(Sl3.v a0_9),(Sl3.v a0_10),(Sl3.v a0_11)]),(Sl3.v a1)] H (zlj r) (zmb H r):=by
 refine CallS.mk (args:=[(Value.agg #[(Value.int .i64 a0_0),(Value.string a0_1),(Value.bool a0_2),(Sl3.v a0_3),(Value.int .i64 a0_4),(Sl3.v a0_5),(Value.int .i64 a0_6),(Value.int .i64 a0_7),(Value.string a0_8),(Sl3.v a0_9),(Sl3.v a0_10),(Sl3.v a0_11)]),(Sl3.v a1)]) Tryz.func53 (B:=B53) (by kernel_rfl) (fun E _=>?_)
 unfold zde at h
 refine WS.sq (WS.rg (RS.mL 3 [kB 5 false,kL 4 1 0,kL 2 0 0] ([some (61,[(Value.int .i64 a0_0),(Value.string a0_1),(Value.bool a0_2),(Sl3.v a0_3),(Value.int .i64 a0_4),(Sl3.v a0_5),(Value.int .i64 a0_6),(Value.int .i64 a0_7),(Value.string a0_8),(Sl3.v a0_9),(Sl3.v a0_10),(Sl3.v a0_11)]),some (47,[(Value.int .i64 0),(Value.int .i64 0),(Value.string (⟨#[]⟩:ByteArray)),(Sl3.v Sl3.nil)])]) (RS.dn (WS.nxt (WS.sq (WS.bk 0 (WS.sq (WS.rg (RS.mS 4 [kB 6 (decide (a0_0≤7)),kB 9 (decide (a0_0≤7)),kI 8 a0_0,kL 7 0 0] ?_)))))))))
 refine RS.dn (WS.nxt ?_)
 rcases z0 h with ⟨hp,h⟩ | ⟨hp,h⟩
 ·refine WS.fx 6 true (decide_eq_true hp) (WS.cT ?_)
  cases h
 ·refine WS.fx 6 false (decide_eq_false hp) (WS.cF (WS.sq (WS.rg (RS.mS 4 [kB 14 (decide (a0_0≤9)),kB 17 (decide (a0_0≤9)),kI 16 a0_0,kL 15 0 0] (RS.dn (WS.nxt ?_))))))
  rcases z0 h with ⟨hp,h⟩ | ⟨hp,h⟩
  ·refine WS.fx 14 true (decide_eq_true hp) (WS.cT ?_)
   cases h
  ·refine WS.fx 14 false (decide_eq_false hp) (WS.cF (WS.sq (WS.rg (RS.mS 4 [kB 24 (decide (a0_0=10)),kB 27 (decide (a0_0=10)),kI 26 a0_0,kL 25 0 0] (RS.dn (WS.nxt ?_))))))
   rcases z0 h with ⟨hp,h⟩ | ⟨hp,h⟩
   ·refine WS.fx 24 true (decide_eq_true hp) (WS.cT ?_)
    cases h
   ·refine WS.fx 24 false (decide_eq_false hp) (WS.cF (WS.sq (WS.rg (RS.mS 4 [kB 45 (decide (a0_0=20)),kB 48 (decide (a0_0=20)),kI 47 a0_0,kL 46 0 0] (RS.dn (WS.nxt ?_))))))
    rcases z0 h with ⟨hp,h⟩ | ⟨hp,h⟩
    ·refine WS.fx 45 true (decide_eq_true hp) (WS.cT (WS.sq (WS.rg ?_)))
     obtain ⟨⟨x1_0,x1_1,x1_2,x1_3⟩,hx,h⟩:=bind_some h
     try dsimp only at h
     refine RS.cl (some 49) (v:=(Value.agg #[(Value.int .i64 x1_0),(Value.int .i64 x1_1),(Value.string x1_2),(Sl3.v x1_3)])) 105 #[] (z7g hx) (RS.mL 2 [kB 5 true] ([some (61,[(Value.int .i64 a0_0),(Value.string a0_1),(Value.bool a0_2),(Sl3.v a0_3),(Value.int .i64 a0_4),(Sl3.v a0_5),(Value.int .i64 a0_6),(Value.int .i64 a0_7),(Value.string a0_8),(Sl3.v a0_9),(Sl3.v a0_10),(Sl3.v a0_11)]),some (47,[(Value.int .i64 x1_0),(Value.int .i64 x1_1),(Value.string x1_2),(Sl3.v x1_3)])]) (RS.dn (WS.nxt (WS.rt ?_))))
     cases h
     exact fun a w hs=>bkR (sqR (rtR (rS hs)))
    ·refine WS.fx 45 false (decide_eq_false hp) (WS.cF (WS.sq (WS.rg (RS.mS 4 [kB 50 (decide (a0_0≤27)),kB 53 (decide (a0_0≤27)),kI 52 a0_0,kL 51 0 0] (RS.dn (WS.nxt ?_))))))
     rcases z0 h with ⟨hp,h⟩ | ⟨hp,h⟩
     ·refine WS.fx 50 true (decide_eq_true hp) (WS.cT (WS.sq (WS.rg ?_)))
      obtain ⟨⟨x2_0,x2_1,x2_2,x2_3⟩,hx,h⟩:=bind_some h
      try dsimp only at h
      refine RS.cl (some 54) (v:=(Value.agg #[(Value.int .i64 x2_0),(Value.int .i64 x2_1),(Value.string x2_2),(Sl3.v x2_3)])) 105 #[] (z7g hx) (RS.mS 1 [kS 55 a1] ?_)
      obtain ⟨⟨x3_0,x3_1,x3_2,x3_3⟩,hx,h⟩:=bind_some h
      try dsimp only at h
      refine RS.cl (some 56) (v:=(Value.agg #[(Value.int .i64 x3_0),(Value.int .i64 x3_1),(Value.string x3_2),(Sl3.v x3_3)])) 105 #[] (z7g hx) ?_
      obtain ⟨⟨x4,H5⟩,hx,h⟩:=bind_some h
      try dsimp only at h
      refine RS.cl (some 57) (v:=(Value.bool x4)) 104 #[(Sl3.v a1),(Value.agg #[(Value.int .i64 x3_0),(Value.int .i64 x3_1),(Value.string x3_2),(Sl3.v x3_3)])] (zpf hx) (RS.mL 2 [kB 5 x4] ([some (61,[(Value.int .i64 a0_0),(Value.string a0_1),(Value.bool a0_2),(Sl3.v a0_3),(Value.int .i64 a0_4),(Sl3.v a0_5),(Value.int .i64 a0_6),(Value.int .i64 a0_7),(Value.string a0_8),(Sl3.v a0_9),(Sl3.v a0_10),(Sl3.v a0_11)]),some (47,[(Value.int .i64 x2_0),(Value.int .i64 x2_1),(Value.string x2_2),(Sl3.v x2_3)])]) (RS.dn (WS.nxt (WS.rt ?_))))
      cases h
      exact fun a w hs=>bkR (sqR (rtR (rS hs)))
     ·refine WS.fx 50 false (decide_eq_false hp) (WS.cF ?_)
      cases h
def zdl:(Bool×Bool)→Value
 | (r0,r1)=>(Value.tuple #[(Value.bool r0),(Value.bool r1)])
def zdy (H:AH):(Bool×Bool)→AH:=fun _=>H
noncomputable def B108:Code:=(Tryz.f108.body).getD .skip
noncomputable def z4b (_L:LC) (H:AH) (a0:Option Addr) (a1:Int):Option (Bool×Bool) :=
 Option.bind a0 fun q1 =>
 Option.bind (rd deSl H (Addr.add q1 3)) fun x2 =>
 Option.bind (idxA 16 x2 a1) fun p3 =>
 Option.bind (rd (deI .i64) H (Addr.add p3 0)) fun x4_0 =>
 Option.bind (rd deS H (Addr.add p3 1)) fun _ =>
 Option.bind (rd deB H (Addr.add p3 2)) fun _ =>
 Option.bind (rd deSl H (Addr.add p3 3)) fun x4_3 =>
 Option.bind (rd (deI .i64) H (Addr.add p3 4)) fun _ =>
 Option.bind (rd deSl H (Addr.add p3 5)) fun _ =>
 Option.bind (rd (deI .i64) H (Addr.add p3 6)) fun _ =>
 Option.bind (rd (deI .i64) H (Addr.add p3 7)) fun _ =>
 Option.bind (rd deS H (Addr.add p3 8)) fun _ =>
 Option.bind (rd deSl H (Addr.add p3 9)) fun _ =>
 Option.bind (rd deSl H (Addr.add p3 10)) fun _ =>
 Option.bind (rd deSl H (Addr.add p3 11)) fun _ =>
 Option.bind (rd (deI .i64) H (Addr.add p3 12)) fun _ =>
 Option.bind (rd (deI .i64) H (Addr.add p3 13)) fun _ =>
 Option.bind (rd deS H (Addr.add p3 14)) fun _ =>
 Option.bind (rd deSl H (Addr.add p3 15)) fun _ =>
 if x4_0=21 then
  none
 else
  if x4_0=20 then
   some ((decide (x4_0=20)),(decide ((x4_3.n:Int)=0)))
  else
   none
theorem zed {L:LC} {m:Nat} {H:AH} {a0:Option Addr} {a1:Int} {r:(Bool×Bool)} (h:z4b L H a0 a1=some r) :
  CallS Tryz.prog (NE.plain 167) m 108 #[(Value.pointer a0),(Value.int .i64 a1)] H (zdl r) (zdy H r):=by
 refine CallS.mk (args:=[(Value.pointer a0),(Value.int .i64 a1)]) Tryz.func108 (B:=B108) (by kernel_rfl) (fun E _=>?_)
 unfold z4b at h
 refine WS.sq (WS.rg (RS.mS 2 [kB 5 false,kB 4 false] (RS.dn (WS.nxt (WS.sq (WS.rg (RS.mS 1 [(7,.val (Value.pointer a0))] ?_)))))))
 obtain ⟨q1,hx,hq1⟩:=bind_some h
 subst hx
 have h:=hq1
 refine RS.mS 2 [(9,.val (Value.pointer (some (Addr.add q1 3)))),kP 8 q1] ?_
 obtain ⟨x2,hx,h⟩:=bind_some h
 refine RS.ld 10 38 (.tmp 9) (z1 hx z3) (RS.mS 1 [kI 11 a1] ?_)
 obtain ⟨p3,hx,h⟩:=bind_some h
 refine RS.ix 12 38 95 (.tmp 10) (.tmp 11) hx ?_
 obtain ⟨x4_0,hx0,h⟩:=bind_some h
 obtain ⟨x4_1,hx1,h⟩:=bind_some h
 obtain ⟨x4_2,hx2,h⟩:=bind_some h
 obtain ⟨x4_3,hx3,h⟩:=bind_some h
 obtain ⟨x4_4,hx4,h⟩:=bind_some h
 obtain ⟨x4_5,hx5,h⟩:=bind_some h
 obtain ⟨x4_6,hx6,h⟩:=bind_some h
 obtain ⟨x4_7,hx7,h⟩:=bind_some h
 obtain ⟨x4_8,hx8,h⟩:=bind_some h
 obtain ⟨x4_9,hx9,h⟩:=bind_some h
 obtain ⟨x4_10,hx10,h⟩:=bind_some h
 obtain ⟨x4_11,hx11,h⟩:=bind_some h
 obtain ⟨x4_12,hx12,h⟩:=bind_some h
 obtain ⟨x4_13,hx13,h⟩:=bind_some h
 obtain ⟨x4_14,hx14,h⟩:=bind_some h
 obtain ⟨x4_15,hx15,h⟩:=bind_some h
 refine RS.la 13 95 (.tmp 12) 16 (z2 (z1 hx0 z5) (z2 (z1 hx1 z9) (z2 (z1 hx2 z13) (z2 (z1 hx3 z3) (z2 (z1 hx4 z5) (z2 (z1 hx5 z3) (z2 (z1 hx6 z5) (z2 (z1 hx7 z5) (z2 (z1 hx8 z9) (z2 (z1 hx9 z3) (z2 (z1 hx10 z3) (z2 (z1 hx11 z3) (z2 (z1 hx12 z5) (z2 (z1 hx13 z5) (z2 (z1 hx14 z9) (z2 (z1 hx15 z3) zm)))))))))))))))) (RS.mL 2 [kL 6 0 0] ([some (95,[(Value.int .i64 x4_0),(Value.string x4_1),(Value.bool x4_2),(Sl3.v x4_3),(Value.int .i64 x4_4),(Sl3.v x4_5),(Value.int .i64 x4_6),(Value.int .i64 x4_7),(Value.string x4_8),(Sl3.v x4_9),(Sl3.v x4_10),(Sl3.v x4_11),(Value.int .i64 x4_12),(Value.int .i64 x4_13),(Value.string x4_14),(Sl3.v x4_15)])]) (RS.dn (WS.nxt (WS.sq (WS.sq (WS.rg (RS.mS 4 [kB 17 (decide (x4_0=21)),kI 16 x4_0,kL 15 0 0,kL 14 0 0] (RS.dn (WS.nxt ?_)))))))))
 rcases z0 h with ⟨hp,h⟩ | ⟨hp,h⟩
 ·refine WS.fx 17 true (decide_eq_true hp) (WS.cT ?_)
  cases h
 ·refine WS.fx 17 false (decide_eq_false hp) (WS.cF (WS.sk (WS.nxt (WS.sq ?_))))
  refine WS.dr [0,1,2,4,5,6,7,8,9,10,11,12] [0,1,3,7,0,16,48,112,240,496,1008,2032,4080,8176,16368,32752,511,131071] 18 (fun hcl=>?_)
  refine DA.tL 0 (some 29) (.loc 0 0) (DA.tL 1 (some 30) (.loc 0 0) (DA.tL 2 (some 31) (.val (Value.int .i64 x4_0)) (DA.tL 4 (some 33) (.loc 0 0) (DA.tL 5 (some 34) (.loc 0 0) (DA.tL 6 (some 35) (.val (Value.int .i64 x4_0)) (DA.tK 7 (some 36) (Value.bool (decide (x4_0=20))) (DA.tK 8 (some 37) (Value.bool (decide (x4_0=20))) ?_)))))))
  rcases z0 h with ⟨hp,h⟩ | ⟨hp,h⟩
  ·refine DA.fx 37 true (decide_eq_true hp) (DA.tL 9 (some 38) (.loc 0 0) (DA.tL 10 (some 39) (.loc 0 2) (DA.tL 11 (some 40) (.loc 0 3) (DA.tL 12 (some 41) (.val (Sl3.v x4_3)) (DA.restart [0,1,2,3,4,5,6,7,8,9,10,11,12,13] (by kernel_rfl) (DA.tK 3 (some 32) (Value.bool (decide (x4_0=20))) (DA.tK 13 (some 42) (Value.int .i64 (x4_3.n:Int)) (DA.tP 16 (some 4) (Value.bool (decide (x4_0=20))) (DA.on 14 ?_)))))))))
   refine DA.aHj (H':=H) 14 (some 43) false (Value.bool (decide ((x4_3.n:Int)=0))) (by kernel_rfl) (DA.tP 15 (some 44) (Value.bool (decide ((x4_3.n:Int)=0))) (DA.tP 17 (some 5) (Value.bool (decide ((x4_3.n:Int)=0))) (DA.dn (WS.nxt (WS.rt ?_)))))
   cases h
   exact fun a w hs=>rtR (rS hs)
  ·refine DA.fx 37 false (decide_eq_false hp) ?_
   cases h
def zes:Bool→Value
 | r0=>(Value.bool r0)
def zfx (H:AH):Bool→AH:=fun _=>H
noncomputable def B54:Code:=(Tryz.f54.body).getD .skip
noncomputable def z58 (L:LC) (H:AH) (a0:Option Addr) (a1_0:Int) (_a1_1:ByteArray) (_a1_2:Bool) (_a1_3:Sl3) (_a1_4:Int) (_a1_5:Sl3) (_a1_6 _a1_7:Int) (_a1_8:ByteArray) (_a1_9 _a1_10 a1_11:Sl3):Option Bool :=
 if a1_0=24 then
  none
 else
  Option.bind (α:=Bool) (
   if a1_0=25 then
    some true
   else
    some (decide (a1_0=26))) fun v37_1 =>
  if v37_1=true then
   Option.bind (idxA 1 a1_11 1) fun p2 =>
   Option.bind (rd (deI .i64) H p2) fun x3 =>
   Option.bind (z4b L H a0 x3) fun (x4,x5) =>
   if x4=true then
    some (!x5)
   else
    none
  else
   some true
theorem zf9 {L:LC} {m:Nat} {H:AH} {a0:Option Addr} {a1_0:Int} {a1_1:ByteArray} {a1_2:Bool} {a1_3:Sl3} {a1_4:Int} {a1_5:Sl3} {a1_6 a1_7:Int} {a1_8:ByteArray} {a1_9 a1_10 a1_11:Sl3} {r:Bool} (h:z58 L H a0 a1_0 a1_1 a1_2 a1_3 a1_4 a1_5 a1_6 a1_7 a1_8 a1_9 a1_10 a1_11=some r) :
  CallS Tryz.prog (NE.plain 167) m 54 #[(Value.pointer a0),(Value.agg #[(Value.int .i64 a1_0),(Value.string a1_1),(Value.bool a1_2),(Sl3.v a1_3),(Value.int .i64 a1_4),(Sl3.v a1_5),(Value.int .i64 a1_6),(Value.int .i64 a1_7),(Value.string a1_8),(Sl3.v a1_9),(Sl3.v a1_10),(Sl3.v a1_11)])] H (zes r) (zfx H r):=by
 refine CallS.mk (args:=[(Value.pointer a0),(Value.agg #[(Value.int .i64 a1_0),(Value.string a1_1),(Value.bool a1_2),(Sl3.v a1_3),(Value.int .i64 a1_4),(Sl3.v a1_5),(Value.int .i64 a1_6),(Value.int .i64 a1_7),(Value.string a1_8),(Sl3.v a1_9),(Sl3.v a1_10),(Sl3.v a1_11)])]) Tryz.func54 (B:=B54) (by kernel_rfl) (fun E _=>?_)
 unfold z58 at h
 refine WS.sq (WS.rg (RS.mL 2 [kB 4 false,kL 3 0 0] ([some (61,[(Value.int .i64 a1_0),(Value.string a1_1),(Value.bool a1_2),(Sl3.v a1_3),(Value.int .i64 a1_4),(Sl3.v a1_5),(Value.int .i64 a1_6),(Value.int .i64 a1_7),(Value.string a1_8),(Sl3.v a1_9),(Sl3.v a1_10),(Sl3.v a1_11)])]) (RS.dn (WS.nxt (WS.sq (WS.sq (WS.rg (RS.mS 2 [kI 12 a1_0,kL 11 0 0] (RS.dn ?_)))))))))
 refine WS.nxt (WS.bk 0 (WS.sq (WS.rg (RS.mS 2 [kB 13 (decide (a1_0=24)),kB 14 (decide (a1_0=24))] (RS.dn (WS.nxt ?_))))))
 rcases z0 h with ⟨hp,h⟩ | ⟨hp,h⟩
 ·refine WS.fx 13 true (decide_eq_true hp) (WS.cT ?_)
  cases h
 ·refine WS.fx 13 false (decide_eq_false hp) (WS.cF ?_)
  obtain ⟨v37_1,hx,h⟩:=bind_some h
  refine WS.sq ?_
  refine WS.join ([kB 37 v37_1,(0,.val (Value.pointer a0)),kL 3 0 0]) ([some (61,[(Value.int .i64 a1_0),(Value.string a1_1),(Value.bool a1_2),(Sl3.v a1_3),(Value.int .i64 a1_4),(Sl3.v a1_5),(Value.int .i64 a1_6),(Value.int .i64 a1_7),(Value.string a1_8),(Sl3.v a1_9),(Sl3.v a1_10),(Sl3.v a1_11)])]) H ?_ (fun a w hs=>WS.nxt ?_ a w hs)
  ·clear h; rename _=>h
   refine WS.sq (WS.rg (RS.mS 2 [kB 37 (decide (a1_0=25)),kB 38 (decide (a1_0=25))] (RS.dn (WS.nxt ?_))))
   rcases z0 h with ⟨hp,h⟩ | ⟨hp,h⟩
   ·refine WS.fx 37 true (decide_eq_true hp) (WS.cT (WS.sk ?_))
    cases h
    exact fun a w hs=>(jsN (hs.sb 1))
   ·refine WS.fx 37 false (decide_eq_false hp) (WS.cF (WS.rg (RS.mS 2 [kB 37 (decide (a1_0=26)),kB 39 (decide (a1_0=26))] (RS.dn ?_))))
    cases h
    exact fun a w hs=>(jsN (hs.sb 1))
  ·clear hx
   rcases z0 h with ⟨hp,h⟩ | ⟨hp,h⟩
   ·refine WS.fx 37 true hp (WS.cT (WS.sq (WS.rg (RS.mS 3 [kS 43 a1_11,kL 42 0 11,(41,.val (Value.pointer a0))] ?_))))
    obtain ⟨p2,hx,h⟩:=bind_some h
    refine RS.ix 44 25 3 (.tmp 43) (.const (Value.int .i64 1)) hx ?_
    obtain ⟨x3,hx,h⟩:=bind_some h
    refine RS.ld 45 3 (.tmp 44) (z1 hx z5) ?_
    obtain ⟨⟨x4,x5⟩,hx,h⟩:=bind_some h
    try dsimp only at h
    refine RS.cl (some 46) (v:=(Value.tuple #[(Value.bool x4),(Value.bool x5)])) 108 #[(Value.pointer a0),(Value.int .i64 x3)] (zed hx) (RS.mS 5 [kB 10 x5,kB 9 x4,kB 48 x5,kB 47 x4,(40,.val (Value.tuple #[(Value.bool x4),(Value.bool x5)]))] (RS.dn (WS.nxt (WS.sq (WS.rg (RS.mS 2 [kB 50 x4,kB 49 x4] ?_))))))
    rcases z0 h with ⟨hp,h⟩ | ⟨hp,h⟩
    ·refine RS.fx 50 true hp (RS.mS 4 [kB 4 (!x5),kB 53 (!x5),kB 52 (!x5),kB 51 x5] (RS.dn (WS.nxt (WS.rt ?_))))
     cases h
     exact fun a w hs=>bkR (sqR (rtR (rS hs)))
    ·refine RS.fx 50 false (b_not hp) ?_
     cases h
   ·refine WS.fx 37 false (b_not hp) (WS.cF (WS.sk ?_))
    refine fun a w hs=>bkN ((WS.nxt ?_ a w hs))
    refine WS.sq (WS.rg (RS.mS 1 [kB 4 true] (RS.dn (WS.nxt (WS.rt ?_)))))
    cases h
    exact fun a w hs=>rtR (rS hs)
def z38:(Int×Int×ByteArray×Sl3×Int×AH)→Value
 | (r0,r1,r2,r3,r4,_)=>(Value.tuple #[(Value.agg #[(Value.int .i64 r0),(Value.int .i64 r1),(Value.string r2),(Sl3.v r3)]),(Value.int .i64 r4)])
def z3s (_:AH):(Int×Int×ByteArray×Sl3×Int×AH)→AH:=fun r=>r.2.2.2.2.2
noncomputable def B24:Code:=(Tryz.f24.body).getD .skip
noncomputable def z3k (_L:LC) (m:Nat) (a0:Option Addr) (_a1_0:Int) (_a1_1:ByteArray) (_a1_2:Bool) (_a1_3:Sl3) (_a1_4:Int) (_a1_5:Sl3) (_a1_6 _a1_7:Int) (_a1_8:ByteArray) (_a1_9 _a1_10:Sl3) (a1_11 _x1:Sl3) (_x2_0 _x2_1:Int) (_x2_2:ByteArray) (_x2_3:Sl3):(AH×Sl3×Int)→Option (Lp (AH×Sl3×Int) (Int×Int×ByteArray×Sl3×Int×AH)):=fun (H5,v9_6,v30_7) =>
 if v30_7<(a1_11.n:Int) then
  Option.bind (idxA 1 a1_11 v30_7) fun p8 =>
  Option.bind (rd (deI .i64) H5 p8) fun x9 =>
  Option.bind a0 fun q10 =>
  Option.bind (rd deSl H5 (Addr.add q10 3)) fun x11 =>
  Option.bind (idxA 16 x11 x9) fun p12 =>
  Option.bind (rd (deI .i64) H5 (Addr.add (Addr.add p12 12) 0)) fun x13_0 =>
  Option.bind (rd (deI .i64) H5 (Addr.add (Addr.add p12 12) 1)) fun x13_1 =>
  Option.bind (rd deS H5 (Addr.add (Addr.add p12 12) 2)) fun x13_2 =>
  Option.bind (rd deSl H5 (Addr.add (Addr.add p12 12) 3)) fun x13_3 =>
  Option.bind (newR 47 1 #[(Value.int .i64 x13_0),(Value.int .i64 x13_1),(Value.string x13_2),(Sl3.v x13_3)] H5) fun (s14,H15) =>
  Option.bind (appS m 47 4 56 H15 v9_6 s14) fun (s16,H17) =>
  some (.next (H17,s16,(IntKind.i64.wrap (v30_7+1))))
 else
  some (.brk (H5,v9_6,v30_7))
def zda (_L:LC) (_m:Nat) (a0:Option Addr) (a1_0:Int) (a1_1:ByteArray) (a1_2:Bool) (a1_3:Sl3) (a1_4:Int) (a1_5:Sl3) (a1_6 a1_7:Int) (a1_8:ByteArray) (a1_9 a1_10:Sl3) (a1_11 x1:Sl3) (x2_0 x2_1:Int) (x2_2:ByteArray) (x2_3:Sl3):(AH×Sl3×Int)→KN×Lcs:=fun (_,v9_6,v30_7)=>([kS 9 v9_6,kI 30 v30_7,(0,.val (Value.pointer a0)),kL 3 0 0,kL 4 1 0,kS 6 x1,kL 7 2 0,kS 28 a1_11,kI 29 (a1_11.n:Int)],[some (61,[(Value.int .i64 a1_0),(Value.string a1_1),(Value.bool a1_2),(Sl3.v a1_3),(Value.int .i64 a1_4),(Sl3.v a1_5),(Value.int .i64 a1_6),(Value.int .i64 a1_7),(Value.string a1_8),(Sl3.v a1_9),(Sl3.v a1_10),(Sl3.v a1_11)]),some (47,[(Value.int .i64 0),(Value.int .i64 0),(Value.string (⟨#[]⟩:ByteArray)),(Sl3.v Sl3.nil)]),some (47,[(Value.int .i64 x2_0),(Value.int .i64 x2_1),(Value.string x2_2),(Sl3.v x2_3)])])
noncomputable def z3h (L:LC) (_a1_0:Int) (_a1_1:ByteArray) (_a1_2:Bool) (_a1_3:Sl3) (_a1_4:Int) (_a1_5:Sl3) (_a1_6 _a1_7:Int) (_a1_8:ByteArray) (_a1_9 _a1_10:Sl3) (_a1_11 x1:Sl3) (_x2_0 _x2_1:Int) (_x2_2:ByteArray) (_x2_3:Sl3) (H18:AH) (v9_19:Sl3):(Int×Int×Int×ByteArray×Sl3)→Option (Lp (Int×Int×Int×ByteArray×Sl3) (Int×Int×ByteArray×Sl3×Int×AH)):=fun (v56_21,w1_22,w1_23,w1_24,w1_25) =>
 if v56_21<(v9_19.n:Int) then
  Option.bind (idxA 4 v9_19 v56_21) fun p26 =>
  Option.bind (rd (deI .i64) H18 (Addr.add p26 0)) fun x27_0 =>
  Option.bind (rd (deI .i64) H18 (Addr.add p26 1)) fun x27_1 =>
  Option.bind (rd deS H18 (Addr.add p26 2)) fun x27_2 =>
  Option.bind (rd deSl H18 (Addr.add p26 3)) fun x27_3 =>
  Option.bind (idxA 4 x1 v56_21) fun p28 =>
  Option.bind (rd (deI .i64) H18 (Addr.add p28 0)) fun x29_0 =>
  Option.bind (rd (deI .i64) H18 (Addr.add p28 1)) fun x29_1 =>
  Option.bind (rd deS H18 (Addr.add p28 2)) fun x29_2 =>
  Option.bind (rd deSl H18 (Addr.add p28 3)) fun x29_3 =>
  Option.bind (zcq L H18 x27_0 x27_1 x27_2 x27_3 x29_0 x29_1 x29_2 x29_3) fun x30 =>
  if x30=true then
   some (.next ((IntKind.i64.wrap (v56_21+1)),w1_22,w1_23,w1_24,w1_25))
  else
   none
 else
  some (.brk (v56_21,w1_22,w1_23,w1_24,w1_25))
def zct (_L:LC) (a1_0:Int) (a1_1:ByteArray) (a1_2:Bool) (a1_3:Sl3) (a1_4:Int) (a1_5:Sl3) (a1_6 a1_7:Int) (a1_8:ByteArray) (a1_9 a1_10:Sl3) (a1_11 x1:Sl3) (x2_0 x2_1:Int) (x2_2:ByteArray) (x2_3:Sl3) (_H18:AH) (v9_19:Sl3):(Int×Int×Int×ByteArray×Sl3)→KN×Lcs:=fun (v56_21,w1_22,w1_23,w1_24,w1_25)=>([kI 56 v56_21,kL 4 1 0,kS 6 x1,kL 7 2 0,kS 54 v9_19,kI 55 (v9_19.n:Int)],[some (61,[(Value.int .i64 a1_0),(Value.string a1_1),(Value.bool a1_2),(Sl3.v a1_3),(Value.int .i64 a1_4),(Sl3.v a1_5),(Value.int .i64 a1_6),(Value.int .i64 a1_7),(Value.string a1_8),(Sl3.v a1_9),(Sl3.v a1_10),(Sl3.v a1_11)]),some (47,[(Value.int .i64 w1_22),(Value.int .i64 w1_23),(Value.string w1_24),(Sl3.v w1_25)]),some (47,[(Value.int .i64 x2_0),(Value.int .i64 x2_1),(Value.string x2_2),(Sl3.v x2_3)])])
noncomputable def z60 (L:LC) (m:Nat) (H:AH) (a0:Option Addr) (a1_0:Int) (a1_1:ByteArray) (a1_2:Bool) (a1_3:Sl3) (a1_4:Int) (a1_5:Sl3) (a1_6 a1_7:Int) (a1_8:ByteArray) (a1_9 a1_10 a1_11:Sl3):Option (Int×Int×ByteArray×Sl3×Int×AH) :=
 Option.bind (z8n L m H a0 a1_0 a1_1 a1_2 a1_3 a1_4 a1_5 a1_6 a1_7 a1_8 a1_9 a1_10 a1_11) fun (x1,x2_0,x2_1,x2_2,x2_3,x3,H4) =>
 if x3=0 then
  Option.bind (L.run (z3k L m a0 a1_0 a1_1 a1_2 a1_3 a1_4 a1_5 a1_6 a1_7 a1_8 a1_9 a1_10 a1_11 x1 x2_0 x2_1 x2_2 x2_3) (H4,Sl3.nil,0)) fun o=>match o with
  | .inl (H18,v9_19,_) =>
   if a1_0≥11 then
    if a1_0≤14 then
     Option.bind (L.run (z3h L a1_0 a1_1 a1_2 a1_3 a1_4 a1_5 a1_6 a1_7 a1_8 a1_9 a1_10 a1_11 x1 x2_0 x2_1 x2_2 x2_3 H18 v9_19) (0,0,0,(⟨#[]⟩:ByteArray),Sl3.nil)) fun o=>match o with
     | .inl (_,_,_,_,_) =>
      some (x2_0,x2_1,x2_2,x2_3,0,H18)
     | .inr r=>some r
    else
     Option.bind (zde L m H18 a1_0 a1_1 a1_2 a1_3 a1_4 a1_5 a1_6 a1_7 a1_8 a1_9 a1_10 a1_11 v9_19) fun (x36_0,x36_1,x36_2,x36_3,x37,H38) =>
     if x37=true then
      if a1_0=42 then
       none
      else
       if x36_0=3 then
        none
       else
        Option.bind (z58 L H38 a0 a1_0 a1_1 a1_2 a1_3 a1_4 a1_5 a1_6 a1_7 a1_8 a1_9 a1_10 a1_11) fun x39 =>
        if x39=true then
         some (x36_0,x36_1,x36_2,x36_3,0,H38)
        else
         none
     else
      none
   else
    none
  | .inr r=>some r
 else
  none
theorem z5e {E H L m a0 a1_0 a1_1 a1_2 a1_3 a1_4 a1_5 a1_6 a1_7 a1_8 a1_9 a1_10 a1_11 x1 x2_0 x2_1 x2_2 x2_3} :LoopF Tryz.prog (NE.plain 167) m E Tryz.f24 ((cfst (csnd (cfst (csnd (csnd (csnd (csnd B24)))))))) (zda L m a0 a1_0 a1_1 a1_2 a1_3 a1_4 a1_5 a1_6 a1_7 a1_8 a1_9 a1_10 a1_11 x1 x2_0 x2_1 x2_2 x2_3) (fun s=>s.1) 0 z38 (z3s H) (z3k L m a0 a1_0 a1_1 a1_2 a1_3 a1_4 a1_5 a1_6 a1_7 a1_8 a1_9 a1_10 a1_11 x1 x2_0 x2_1 x2_2 x2_3):=by
 rintro ⟨H5,v9_6,v30_7⟩ o h
 unfold z3k at h
 try dsimp only at h
 refine WS.sq (WS.rg (RS.mS 1 [kB 31 (decide (v30_7<(a1_11.n:Int)))] (RS.dn (WS.nxt (WS.sq ?_)))))
 rcases z0 h with ⟨hp,h⟩ | ⟨hp,h⟩
 ·refine WS.fx 31 true (decide_eq_true hp) (WS.cT (WS.sk (WS.nxt (WS.sq (WS.bk 1 (WS.sq (WS.rg ?_)))))))
  obtain ⟨p8,hx,h⟩:=bind_some h
  refine RS.ix 32 25 3 (.tmp 28) (.tmp 30) hx ?_
  obtain ⟨x9,hx,h⟩:=bind_some h
  refine RS.ld 33 3 (.tmp 32) (z1 hx z5) (RS.mS 1 [kI 11 x9] (RS.dn (WS.nxt (WS.rg (RS.mS 2 [(35,.val (Value.pointer a0)),kS 34 v9_6] ?_)))))
  obtain ⟨q10,hx,hq10⟩:=bind_some h
  subst hx
  have h:=hq10
  refine RS.mS 2 [(37,.val (Value.pointer (some (Addr.add q10 3)))),kP 36 q10] ?_
  obtain ⟨x11,hx,h⟩:=bind_some h
  refine RS.ld 38 38 (.tmp 37) (z1 hx z3) (RS.mS 1 [kI 39 x9] ?_)
  obtain ⟨p12,hx,h⟩:=bind_some h
  refine RS.ix 40 38 95 (.tmp 38) (.tmp 39) hx (RS.mS 1 [(41,.val (Value.pointer (some (Addr.add p12 12))))] ?_)
  obtain ⟨x13_0,hx0,h⟩:=bind_some h
  obtain ⟨x13_1,hx1,h⟩:=bind_some h
  obtain ⟨x13_2,hx2,h⟩:=bind_some h
  obtain ⟨x13_3,hx3,h⟩:=bind_some h
  refine RS.la 42 47 (.tmp 41) 4 (z2 (z1 hx0 z5) (z2 (z1 hx1 z5) (z2 (z1 hx2 z9) (z2 (z1 hx3 z3) zm)))) ?_
  obtain ⟨⟨s14,H15⟩,hx,h⟩:=bind_some h
  try dsimp only at h
  refine RS.o (H':=H15) (some 43) (Sl3.v s14) (Abs.run_newR (by kernel_rfl) (by kernel_rfl) hx) ?_
  obtain ⟨⟨s16,H17⟩,hx,h⟩:=bind_some h
  try dsimp only at h
  refine RS.o (H':=H17) (some 44) (Sl3.v s16) (Abs.run_app (x:=.tmp 34) (y:=.tmp 43) (ts:=#[45,45]) (s:=v9_6) (z:=s14) (by kernel_rfl) (by kernel_rfl) (by kernel_rfl) (by kernel_rfl) hx) (RS.mS 1 [kS 9 s16] (RS.dn ?_))
  refine fun a w hs=>bkN ((WS.nxt ?_ a w hs))
  refine WS.rg (RS.mS 2 [kI 30 (IntKind.i64.wrap (v30_7+1)),kI 45 (IntKind.i64.wrap (v30_7+1))] (RS.dn ?_))
  cases h
  exact fun a w hs=>lsN rfl (hs.sb 3)
 ·refine WS.fx 31 false (decide_eq_false hp) (WS.cF (WS.ex 0 ?_))
  cases h
  exact fun a w hs=>sqE (lsB rfl (hs.sb 3))
theorem z5i {E m H L a1_0 a1_1 a1_2 a1_3 a1_4 a1_5 a1_6 a1_7 a1_8 a1_9 a1_10 a1_11 x1 x2_0 x2_1 x2_2 x2_3 H18 v9_19} :LoopF Tryz.prog (NE.plain 167) m E Tryz.f24 ((cfst (csnd (cfst (cfst (csnd (cfst (csnd (csnd (csnd (csnd (csnd B24)))))))))))) (zct L a1_0 a1_1 a1_2 a1_3 a1_4 a1_5 a1_6 a1_7 a1_8 a1_9 a1_10 a1_11 x1 x2_0 x2_1 x2_2 x2_3 H18 v9_19) (fun _=>H18) 2 z38 (z3s H) (z3h L a1_0 a1_1 a1_2 a1_3 a1_4 a1_5 a1_6 a1_7 a1_8 a1_9 a1_10 a1_11 x1 x2_0 x2_1 x2_2 x2_3 H18 v9_19):=by
 rintro ⟨v56_21,w1_22,w1_23,w1_24,w1_25⟩ o h
 unfold z3h at h
 try dsimp only at h
 refine WS.sq (WS.rg (RS.mS 1 [kB 57 (decide (v56_21<(v9_19.n:Int)))] (RS.dn (WS.nxt (WS.sq ?_)))))
 rcases z0 h with ⟨hp,h⟩ | ⟨hp,h⟩
 ·refine WS.fx 57 true (decide_eq_true hp) (WS.cT (WS.sk (WS.nxt (WS.sq (WS.bk 3 (WS.sq (WS.rg (RS.mS 1 [kI 58 v56_21] ?_))))))))
  obtain ⟨p26,hx,h⟩:=bind_some h
  refine RS.ix 59 45 47 (.tmp 54) (.tmp 56) hx ?_
  obtain ⟨x27_0,hx0,h⟩:=bind_some h
  obtain ⟨x27_1,hx1,h⟩:=bind_some h
  obtain ⟨x27_2,hx2,h⟩:=bind_some h
  obtain ⟨x27_3,hx3,h⟩:=bind_some h
  refine RS.la 60 47 (.tmp 59) 4 (z2 (z1 hx0 z5) (z2 (z1 hx1 z5) (z2 (z1 hx2 z9) (z2 (z1 hx3 z3) zm)))) (RS.mL 3 [kI 12 v56_21,kL 13 3 0] ([some (61,[(Value.int .i64 a1_0),(Value.string a1_1),(Value.bool a1_2),(Sl3.v a1_3),(Value.int .i64 a1_4),(Sl3.v a1_5),(Value.int .i64 a1_6),(Value.int .i64 a1_7),(Value.string a1_8),(Sl3.v a1_9),(Sl3.v a1_10),(Sl3.v a1_11)]),some (47,[(Value.int .i64 w1_22),(Value.int .i64 w1_23),(Value.string w1_24),(Sl3.v w1_25)]),some (47,[(Value.int .i64 x2_0),(Value.int .i64 x2_1),(Value.string x2_2),(Sl3.v x2_3)]),some (47,[(Value.int .i64 x27_0),(Value.int .i64 x27_1),(Value.string x27_2),(Sl3.v x27_3)])]) (RS.dn (WS.nxt (WS.sq ?_))))
  refine WS.dr [0,1,2,3,4] [0,0,0,6,14,31,63] 7 (fun hcl=>?_)
  refine DA.tL 0 (some 61) (.val (Value.agg #[(Value.int .i64 x27_0),(Value.int .i64 x27_1),(Value.string x27_2),(Sl3.v x27_3)])) (DA.tK 1 (some 62) (Sl3.v x1) (DA.tK 2 (some 63) (Value.int .i64 v56_21) ?_))
  obtain ⟨p28,hx,h⟩:=bind_some h
  refine DA.tD 3 (some 64) (Value.pointer (some p28)) (Abs.det_idx (s:=x1) (k:=.i64) (t:=45) (e:=47) (x:=.tmp 62) (y:=.tmp 63) (by kernel_rfl) (by kernel_rfl) (by kernel_rfl) (by kernel_rfl) (by kernel_rfl) hx) ?_
  obtain ⟨x29_0,hx0,h⟩:=bind_some h
  obtain ⟨x29_1,hx1,h⟩:=bind_some h
  obtain ⟨x29_2,hx2,h⟩:=bind_some h
  obtain ⟨x29_3,hx3,h⟩:=bind_some h
  refine DA.tD 4 (some 65) (Value.agg #[(Value.int .i64 x29_0),(Value.int .i64 x29_1),(Value.string x29_2),(Sl3.v x29_3)]) (Abs.det_loadA (t:=47) (x:=.tmp 64) (a:=p28) (k:=4) (by kernel_rfl) (by kernel_rfl) (by kernel_rfl) (by kernel_rfl) (z2 (z1 hx0 z5) (z2 (z1 hx1 z5) (z2 (z1 hx2 z9) (z2 (z1 hx3 z3) zm))))) ?_
  obtain ⟨x30,hx,h⟩:=bind_some h
  refine DA.on 5 (DA.aC 5 (some 66) (v:=(Value.bool x30)) 52 #[(Value.agg #[(Value.int .i64 x27_0),(Value.int .i64 x27_1),(Value.string x27_2),(Sl3.v x27_3)]),(Value.agg #[(Value.int .i64 x29_0),(Value.int .i64 x29_1),(Value.string x29_2),(Sl3.v x29_3)])] (zbw hx) (DA.tP 6 (some 67) (Value.bool (!x30)) (DA.dn (WS.nxt ?_))))
  rcases z0 h with ⟨hp,h⟩ | ⟨hp,h⟩
  ·refine WS.fx 67 false (nb_not hp) (WS.cF (WS.sk ?_))
   refine fun a w hs=>bkN ((WS.nxt ?_ a w hs))
   refine WS.rg (RS.mS 2 [kI 56 (IntKind.i64.wrap (v56_21+1)),kI 69 (IntKind.i64.wrap (v56_21+1))] (RS.dn ?_))
   cases h
   exact fun a w hs=>lsN rfl (hs.sb 3)
  ·refine WS.fx 67 true (za hp) (WS.cT ?_)
   cases h
 ·refine WS.fx 57 false (decide_eq_false hp) (WS.cF (WS.ex 2 ?_))
  cases h
  exact fun a w hs=>sqE (lsB rfl (hs.sb 3))
theorem zgs {L:LC} {m:Nat} {H:AH} {a0:Option Addr} {a1_0:Int} {a1_1:ByteArray} {a1_2:Bool} {a1_3:Sl3} {a1_4:Int} {a1_5:Sl3} {a1_6 a1_7:Int} {a1_8:ByteArray} {a1_9 a1_10 a1_11:Sl3} {r:(Int×Int×ByteArray×Sl3×Int×AH)} (h:z60 L m H a0 a1_0 a1_1 a1_2 a1_3 a1_4 a1_5 a1_6 a1_7 a1_8 a1_9 a1_10 a1_11=some r) :
  CallS Tryz.prog (NE.plain 167) m 24 #[(Value.pointer a0),(Value.agg #[(Value.int .i64 a1_0),(Value.string a1_1),(Value.bool a1_2),(Sl3.v a1_3),(Value.int .i64 a1_4),(Sl3.v a1_5),(Value.int .i64 a1_6),(Value.int .i64 a1_7),(Value.string a1_8),(Sl3.v a1_9),(Sl3.v a1_10),(Sl3.v a1_11)])] H (z38 r) (z3s H r):=by
 refine CallS.mk (args:=[(Value.pointer a0),(Value.agg #[(Value.int .i64 a1_0),(Value.string a1_1),(Value.bool a1_2),(Sl3.v a1_3),(Value.int .i64 a1_4),(Sl3.v a1_5),(Value.int .i64 a1_6),(Value.int .i64 a1_7),(Value.string a1_8),(Sl3.v a1_9),(Sl3.v a1_10),(Sl3.v a1_11)])]) Tryz.func24 (B:=B24) (by kernel_rfl) (fun E _=>?_)
 unfold z60 at h
 refine WS.sq (WS.rg (RS.mL 3 [kI 5 0,kL 4 1 0,kL 3 0 0] ([some (61,[(Value.int .i64 a1_0),(Value.string a1_1),(Value.bool a1_2),(Sl3.v a1_3),(Value.int .i64 a1_4),(Sl3.v a1_5),(Value.int .i64 a1_6),(Value.int .i64 a1_7),(Value.string a1_8),(Sl3.v a1_9),(Sl3.v a1_10),(Sl3.v a1_11)]),some (47,[(Value.int .i64 0),(Value.int .i64 0),(Value.string (⟨#[]⟩:ByteArray)),(Sl3.v Sl3.nil)])]) (RS.dn (WS.nxt (WS.sq (WS.rg (RS.mS 2 [kA 18 #[(Value.int .i64 a1_0),(Value.string a1_1),(Value.bool a1_2),(Sl3.v a1_3),(Value.int .i64 a1_4),(Sl3.v a1_5),(Value.int .i64 a1_6),(Value.int .i64 a1_7),(Value.string a1_8),(Sl3.v a1_9),(Sl3.v a1_10),(Sl3.v a1_11)],(17,.val (Value.pointer a0))] ?_)))))))
 obtain ⟨⟨x1,x2_0,x2_1,x2_2,x2_3,x3,H4⟩,hx,h⟩:=bind_some h
 try dsimp only at h
 refine RS.cl (some 19) (v:=(Value.tuple #[(Sl3.v x1),(Value.agg #[(Value.int .i64 x2_0),(Value.int .i64 x2_1),(Value.string x2_2),(Sl3.v x2_3)]),(Value.int .i64 x3)])) 51 #[(Value.pointer a0),(Value.agg #[(Value.int .i64 a1_0),(Value.string a1_1),(Value.bool a1_2),(Sl3.v a1_3),(Value.int .i64 a1_4),(Sl3.v a1_5),(Value.int .i64 a1_6),(Value.int .i64 a1_7),(Value.string a1_8),(Sl3.v a1_9),(Sl3.v a1_10),(Sl3.v a1_11)])] (zii hx) (RS.mL 8 [kI 8 x3,kS 6 x1,kL 7 2 0,kI 22 x3,kA 21 #[(Value.int .i64 x2_0),(Value.int .i64 x2_1),(Value.string x2_2),(Sl3.v x2_3)],kS 20 x1,(16,.val (Value.tuple #[(Sl3.v x1),(Value.agg #[(Value.int .i64 x2_0),(Value.int .i64 x2_1),(Value.string x2_2),(Sl3.v x2_3)]),(Value.int .i64 x3)]))] ([some (61,[(Value.int .i64 a1_0),(Value.string a1_1),(Value.bool a1_2),(Sl3.v a1_3),(Value.int .i64 a1_4),(Sl3.v a1_5),(Value.int .i64 a1_6),(Value.int .i64 a1_7),(Value.string a1_8),(Sl3.v a1_9),(Sl3.v a1_10),(Sl3.v a1_11)]),some (47,[(Value.int .i64 0),(Value.int .i64 0),(Value.string (⟨#[]⟩:ByteArray)),(Sl3.v Sl3.nil)]),some (47,[(Value.int .i64 x2_0),(Value.int .i64 x2_1),(Value.string x2_2),(Sl3.v x2_3)])]) (RS.dn (WS.nxt (WS.sq (WS.sq (WS.rg (RS.mS 2 [kB 24 (!decide (x3=0)),kI 23 x3] (RS.dn (WS.nxt ?_)))))))))
 rcases z0 h with ⟨hp,h⟩ | ⟨hp,h⟩
 ·refine WS.fx 24 false (zh hp) (WS.cF (WS.sk (WS.nxt (WS.sq (WS.rg (RS.mS 1 [kS 9 Sl3.nil] (RS.dn (WS.nxt (WS.sq ?_)))))))))
  refine WS.sq (WS.rg (RS.mS 4 [kI 30 0,kI 29 (a1_11.n:Int),kS 28 a1_11,kL 27 0 11] (RS.dn (WS.nxt (WS.bk 0 ?_)))))
  obtain ⟨o,hl,h⟩:=bind_some h
  rcases o with ⟨H18,v9_19,v30_20⟩ | r
  ·try dsimp only at h
   refine WS.lI (z5e (L:=L) (E:=E) (m:=m) (H:=H)) (L.ok hl) 3 ?_
   clear hl
   refine fun a w hs=>bkE ((WS.nxt ?_ a w hs))
   refine WS.sq (WS.sq (WS.rg (RS.mS 4 [kB 49 (decide (a1_0≥11)),kB 48 (decide (a1_0≥11)),kI 47 a1_0,kL 46 0 0] ?_)))
   rcases z0 h with ⟨hp,h⟩ | ⟨hp,h⟩
   ·refine RS.fx 49 true (decide_eq_true hp) (RS.mS 4 [kB 53 (decide (a1_0≤14)),kB 52 (decide (a1_0≤14)),kI 51 a1_0,kL 50 0 0] (RS.dn (WS.nxt ?_)))
    rcases z0 h with ⟨hp,h⟩ | ⟨hp,h⟩
    ·refine WS.fx 53 true (decide_eq_true hp) (WS.cT (WS.sq (WS.sq (WS.rg (RS.mS 3 [kI 56 0,kI 55 (v9_19.n:Int),kS 54 v9_19] (RS.dn (WS.nxt (WS.bk 2 ?_))))))))
     obtain ⟨o,hl,h⟩:=bind_some h
     rcases o with ⟨v56_31,w1_32,w1_33,w1_34,w1_35⟩ | r
     ·try dsimp only at h
      refine WS.lI (z5i (L:=L) (E:=E) (m:=m) (H:=H)) (L.ok hl) 3 ?_
      clear hl
      refine fun a w hs=>bkE ((WS.nxt ?_ a w hs))
      refine WS.sq (WS.rg (RS.mL 3 [kI 5 0,kA 70 #[(Value.int .i64 x2_0),(Value.int .i64 x2_1),(Value.string x2_2),(Sl3.v x2_3)]] ([some (61,[(Value.int .i64 a1_0),(Value.string a1_1),(Value.bool a1_2),(Sl3.v a1_3),(Value.int .i64 a1_4),(Sl3.v a1_5),(Value.int .i64 a1_6),(Value.int .i64 a1_7),(Value.string a1_8),(Sl3.v a1_9),(Sl3.v a1_10),(Sl3.v a1_11)]),some (47,[(Value.int .i64 x2_0),(Value.int .i64 x2_1),(Value.string x2_2),(Sl3.v x2_3)]),some (47,[(Value.int .i64 x2_0),(Value.int .i64 x2_1),(Value.string x2_2),(Sl3.v x2_3)])]) (RS.dn (WS.nxt (WS.rt ?_)))))
      cases h
      exact fun a w hs=>sqR (rtR (rS hs))
     ·try dsimp only at h
      refine WS.lR (z5i (L:=L) (E:=E) (m:=m) (H:=H)) (L.ok hl) 3 ?_
      cases h
      exact fun a w hq=>bkR (sqR (sqR (rtR hq)))
    ·refine WS.fx 53 false (decide_eq_false hp) (WS.cF (WS.sk (WS.nxt (WS.sq (WS.rg (RS.mS 2 [kS 73 v9_19,kA 72 #[(Value.int .i64 a1_0),(Value.string a1_1),(Value.bool a1_2),(Sl3.v a1_3),(Value.int .i64 a1_4),(Sl3.v a1_5),(Value.int .i64 a1_6),(Value.int .i64 a1_7),(Value.string a1_8),(Sl3.v a1_9),(Sl3.v a1_10),(Sl3.v a1_11)]] ?_))))))
     obtain ⟨⟨x36_0,x36_1,x36_2,x36_3,x37,H38⟩,hx,h⟩:=bind_some h
     try dsimp only at h
     refine RS.cl (some 74) (v:=(Value.tuple #[(Value.agg #[(Value.int .i64 x36_0),(Value.int .i64 x36_1),(Value.string x36_2),(Sl3.v x36_3)]),(Value.bool x37)])) 53 #[(Value.agg #[(Value.int .i64 a1_0),(Value.string a1_1),(Value.bool a1_2),(Sl3.v a1_3),(Value.int .i64 a1_4),(Sl3.v a1_5),(Value.int .i64 a1_6),(Value.int .i64 a1_7),(Value.string a1_8),(Sl3.v a1_9),(Sl3.v a1_10),(Sl3.v a1_11)]),(Sl3.v v9_19)] (zlx hx) (RS.mL 6 [kB 15 x37,kL 14 3 0,kB 76 x37,kA 75 #[(Value.int .i64 x36_0),(Value.int .i64 x36_1),(Value.string x36_2),(Sl3.v x36_3)],(71,.val (Value.tuple #[(Value.agg #[(Value.int .i64 x36_0),(Value.int .i64 x36_1),(Value.string x36_2),(Sl3.v x36_3)]),(Value.bool x37)]))] ([some (61,[(Value.int .i64 a1_0),(Value.string a1_1),(Value.bool a1_2),(Sl3.v a1_3),(Value.int .i64 a1_4),(Sl3.v a1_5),(Value.int .i64 a1_6),(Value.int .i64 a1_7),(Value.string a1_8),(Sl3.v a1_9),(Sl3.v a1_10),(Sl3.v a1_11)]),some (47,[(Value.int .i64 0),(Value.int .i64 0),(Value.string (⟨#[]⟩:ByteArray)),(Sl3.v Sl3.nil)]),some (47,[(Value.int .i64 x2_0),(Value.int .i64 x2_1),(Value.string x2_2),(Sl3.v x2_3)]),some (47,[(Value.int .i64 x36_0),(Value.int .i64 x36_1),(Value.string x36_2),(Sl3.v x36_3)])]) (RS.dn (WS.nxt (WS.sq (WS.bk 4 (WS.sq (WS.rg (RS.mS 3 [kB 77 (!x37),kB 79 (!x37),kB 78 x37] (RS.dn ?_)))))))))
     refine WS.nxt ?_
     rcases z0 h with ⟨hp,h⟩ | ⟨hp,h⟩
     ·refine WS.fx 77 false (nb_not hp) (WS.cF (WS.sq ?_))
      refine WS.dr [0,1,2,3,4,5,6,7,8,9,10,11,12,13,14,15,16,17,18,19,20] [0,1,3,7,15,31,63,127,15,271,783,1807,4095,8191,16383,32767,65535,131071,262143,524287,1048575,2097151,4194303,8388607,16777215] 25 (fun hcl=>?_)
      refine DA.tL 0 (some 82) (.loc 0 0) (DA.tL 1 (some 83) (.val (Value.int .i64 a1_0)) (DA.tK 2 (some 84) (Value.bool (decide (a1_0=42))) (DA.tK 3 (some 85) (Value.bool (decide (a1_0=42))) ?_)))
      rcases z0 h with ⟨hp,h⟩ | ⟨hp,h⟩
      ·refine DA.fx 85 true (decide_eq_true hp) ?_
       cases h
      ·refine DA.fx 85 false (decide_eq_false hp) ?_
       refine DA.tskipD 4 (some 86) (by kernel_rfl) (by kernel_rfl) (by kernel_rfl) hcl (fun _ _ _ h=>h) (by kernel_rfl) ?_
       refine DA.tskipD 5 (some 87) (by kernel_rfl) (by kernel_rfl) (by kernel_rfl) hcl (fun _ _ _ h=>h) (by kernel_rfl) ?_
       refine DA.tskipD 6 (some 88) (by kernel_rfl) (by kernel_rfl) (by kernel_rfl) hcl (fun _ _ _ h=>h) (by kernel_rfl) ?_
       refine DA.tskipD 7 (some 89) (by kernel_rfl) (by kernel_rfl) (by kernel_rfl) hcl (fun _ _ _ h=>h) (by kernel_rfl) ?_
       refine DA.tskipD 8 (some 90) (by kernel_rfl) (by kernel_rfl) (by kernel_rfl) hcl (fun _ _ _ h=>h) (by kernel_rfl) ?_
       refine DA.tskipD 9 (some 91) (by kernel_rfl) (by kernel_rfl) (by kernel_rfl) hcl (fun _ _ _ h=>h) (by kernel_rfl) ?_
       refine DA.tskipD 10 (some 92) (by kernel_rfl) (by kernel_rfl) (by kernel_rfl) hcl (fun _ _ _ h=>h) (by kernel_rfl) ?_
       refine DA.tskipD 11 (some 93) (by kernel_rfl) (by kernel_rfl) (by kernel_rfl) hcl (fun _ _ _ h=>h) (by kernel_rfl) ?_
       refine DA.tskipD 12 (some 94) (by kernel_rfl) (by kernel_rfl) (by kernel_rfl) hcl (fun _ _ _ h=>h) (by kernel_rfl) ?_
       refine DA.tK 13 (some 95) (Value.bool false) (DA.tK 14 (some 96) (Value.bool false) (DA.tL 15 (some 97) (.loc 3 0) (DA.tL 16 (some 98) (.val (Value.int .i64 x36_0)) (DA.tK 17 (some 99) (Value.bool (decide (x36_0=3))) (DA.tK 18 (some 100) (Value.bool (decide (x36_0=3))) ?_)))))
       rcases z0 h with ⟨hp,h⟩ | ⟨hp,h⟩
       ·refine DA.fx 100 true (decide_eq_true hp) ?_
        cases h
       ·refine DA.fx 100 false (decide_eq_false hp) ?_
        refine DA.tskipD 19 (some 101) (by kernel_rfl) (by kernel_rfl) (by kernel_rfl) hcl (fun _ _ _ h=>h) (by kernel_rfl) ?_
        refine DA.tskipD 20 (some 102) (by kernel_rfl) (by kernel_rfl) (by kernel_rfl) hcl (fun _ _ _ h=>h) (by kernel_rfl) ?_
        refine DA.tskipP 21 (some 103) (by kernel_rfl) (by kernel_rfl) (by kernel_rfl) hcl (fun _ _ _ h=>h) (by kernel_rfl) ?_
        refine DA.tP 22 (some 104) (Value.bool false) (DA.tP 23 (some 105) (Value.bool false) (DA.tP 24 (some 81) (Value.bool false) (DA.dn (WS.nxt (WS.cF (WS.sq (WS.rg (RS.mS 2 [kA 109 #[(Value.int .i64 a1_0),(Value.string a1_1),(Value.bool a1_2),(Sl3.v a1_3),(Value.int .i64 a1_4),(Sl3.v a1_5),(Value.int .i64 a1_6),(Value.int .i64 a1_7),(Value.string a1_8),(Sl3.v a1_9),(Sl3.v a1_10),(Sl3.v a1_11)],(108,.val (Value.pointer a0))] ?_))))))))
        obtain ⟨x39,hx,h⟩:=bind_some h
        refine RS.cl (some 110) (v:=(Value.bool x39)) 54 #[(Value.pointer a0),(Value.agg #[(Value.int .i64 a1_0),(Value.string a1_1),(Value.bool a1_2),(Sl3.v a1_3),(Value.int .i64 a1_4),(Sl3.v a1_5),(Value.int .i64 a1_6),(Value.int .i64 a1_7),(Value.string a1_8),(Sl3.v a1_9),(Sl3.v a1_10),(Sl3.v a1_11)])] (zf9 hx) (RS.mS 2 [kB 107 (!x39),kB 111 (!x39)] (RS.dn (WS.nxt ?_)))
        rcases z0 h with ⟨hp,h⟩ | ⟨hp,h⟩
        ·refine WS.fx 107 false (nb_not hp) (WS.cF (WS.sk ?_))
         refine fun a w hs=>bkN ((WS.nxt ?_ a w hs))
         refine WS.sq (WS.rg (RS.mL 3 [kI 5 0,kA 113 #[(Value.int .i64 x36_0),(Value.int .i64 x36_1),(Value.string x36_2),(Sl3.v x36_3)]] ([some (61,[(Value.int .i64 a1_0),(Value.string a1_1),(Value.bool a1_2),(Sl3.v a1_3),(Value.int .i64 a1_4),(Sl3.v a1_5),(Value.int .i64 a1_6),(Value.int .i64 a1_7),(Value.string a1_8),(Sl3.v a1_9),(Sl3.v a1_10),(Sl3.v a1_11)]),some (47,[(Value.int .i64 x36_0),(Value.int .i64 x36_1),(Value.string x36_2),(Sl3.v x36_3)]),some (47,[(Value.int .i64 x2_0),(Value.int .i64 x2_1),(Value.string x2_2),(Sl3.v x2_3)]),some (47,[(Value.int .i64 x36_0),(Value.int .i64 x36_1),(Value.string x36_2),(Sl3.v x36_3)])]) (RS.dn (WS.nxt (WS.rt ?_)))))
         cases h
         exact fun a w hs=>rtR (rS hs)
        ·refine WS.fx 107 true (za hp) (WS.cT ?_)
         cases h
     ·refine WS.fx 77 true (za hp) (WS.cT ?_)
      cases h
   ·refine RS.fx 49 false (decide_eq_false hp) ?_
    cases h
  ·try dsimp only at h
   refine WS.lR (z5e (L:=L) (E:=E) (m:=m) (H:=H)) (L.ok hl) 3 ?_
   cases h
   exact fun a w hq=>bkR (sqR (rtR hq))
 ·refine WS.fx 24 true (ze hp) (WS.cT ?_)
  cases h
def zgr:(Sl3×AH)→Value
 | (r0,_)=>(Sl3.v r0)
def zi4 (_:AH):(Sl3×AH)→AH:=fun r=>r.2
noncomputable def B55:Code:=(Tryz.f55.body).getD .skip
noncomputable def z6t (_L:LC) (m:Nat) (H:AH) (a0:Sl3):Option (Sl3×AH) :=
 if (isNilS a0)=true then
  some (Sl3.nil,H)
 else
  Option.bind (newR 3 0 #[] H) fun (s1,H2) =>
  Option.bind (appS m 3 1 8 H2 s1 a0) fun (s3,H4) =>
  some (s3,H4)
theorem z1j {L:LC} {m:Nat} {H:AH} {a0:Sl3} {r:(Sl3×AH)} (h:z6t L m H a0=some r) :
  CallS Tryz.prog (NE.plain 167) m 55 #[(Sl3.v a0)] H (zgr r) (zi4 H r):=by
 refine CallS.mk (args:=[(Sl3.v a0)]) Tryz.func55 (B:=B55) (by kernel_rfl) (fun E _=>?_)
 unfold z6t at h
 refine WS.sq (WS.rg (RS.mS 1 [kS 2 Sl3.nil] (RS.dn (WS.nxt (WS.sq (WS.sq (WS.rg (RS.mS 1 [kS 3 a0] (RS.o (H':=H) (some 4) (Value.bool (isNilS a0)) (z8s (t:=25) (e:=3) (u:=25) (x:=.tmp 3) (y:=.const (Sl3.v Sl3.nil)) (s:=a0) (by kernel_rfl) (by kernel_rfl) (by kernel_rfl) (by kernel_rfl)) ?_)))))))))
 refine RS.dn (WS.nxt ?_)
 rcases z0 h with ⟨hp,h⟩ | ⟨hp,h⟩
 ·refine WS.fx 4 true hp (WS.cT (WS.sq (WS.rg (RS.mS 1 [kS 2 Sl3.nil] (RS.dn (WS.nxt (WS.rt ?_)))))))
  cases h
  exact fun a w hs=>sqR (rtR (rS hs))
 ·refine WS.fx 4 false (b_not hp) (WS.cF (WS.sk (WS.nxt (WS.sq (WS.rg ?_)))))
  obtain ⟨⟨s1,H2⟩,hx,h⟩:=bind_some h
  try dsimp only at h
  refine RS.o (H':=H2) (some 5) (Sl3.v s1) (Abs.run_newR (by kernel_rfl) (by kernel_rfl) hx) (RS.mS 1 [kS 6 a0] ?_)
  obtain ⟨⟨s3,H4⟩,hx,h⟩:=bind_some h
  try dsimp only at h
  refine RS.o (H':=H4) (some 7) (Sl3.v s3) (Abs.run_app (x:=.tmp 5) (y:=.tmp 6) (ts:=#[25,25]) (s:=s1) (z:=a0) (by kernel_rfl) (by kernel_rfl) (by kernel_rfl) (by kernel_rfl) hx) (RS.mS 1 [kS 2 s3] (RS.dn (WS.nxt (WS.rt ?_))))
  cases h
  exact fun a w hs=>rtR (rS hs)
def z51:Sl3→Value
 | r0=>(Sl3.v r0)
def z5z (H:AH):Sl3→AH:=fun _=>H
noncomputable def B45:Code:=(Tryz.f45.body).getD .skip
noncomputable def z69 (_L:LC) (H:AH) (a0:Sl3):Int→Option (Lp Int Sl3):=fun v3_1 =>
 if v3_1 > 0 then
  Option.bind (idxA 1 a0 (IntKind.i64.wrap (v3_1 - 1))) fun p2 =>
  Option.bind (rd (deI .u64) H p2) fun x3 =>
  if x3=0 then
   some (.next (IntKind.i64.wrap (v3_1 - 1)))
  else
   some (.brk v3_1)
 else
  none
def zgx (_L:LC) (_H:AH) (a0:Sl3):Int→KN×Lcs:=fun v3_1=>([kI 3 v3_1,kS 0 a0],[])
noncomputable def z3c (L:LC) (H:AH) (a0:Sl3):Option Sl3 :=
 Option.bind (L.run (z69 L H a0) (a0.n:Int)) fun o=>match o with
 | .inl v3_4 =>
  Option.bind (slc 1 H a0 none (some v3_4) none) fun s5 =>
  some s5
 | .inr r=>some r
theorem z7y {E m L H a0} :LoopF Tryz.prog (NE.plain 167) m E Tryz.f45 ((cfst (cfst (csnd (csnd B45))))) (zgx L H a0) (fun _=>H) 0 z51 (z5z H) (z69 L H a0):=by
 rintro v3_1 o h
 unfold z69 at h
 try dsimp only at h
 refine WS.sq (WS.sq (WS.rg (RS.mS 3 [kB 8 (decide (v3_1 > 0)),kB 7 (decide (v3_1 > 0)),kI 6 v3_1] ?_)))
 rcases z0 h with ⟨hp,h⟩ | ⟨hp,h⟩
 ·refine RS.fx 8 true (decide_eq_true hp) (RS.mS 3 [kI 11 (IntKind.i64.wrap (v3_1 - 1)),kI 10 v3_1,kS 9 a0] ?_)
  obtain ⟨p2,hx,h⟩:=bind_some h
  refine RS.ix 12 54 112 (.tmp 9) (.tmp 11) hx ?_
  obtain ⟨x3,hx,h⟩:=bind_some h
  refine RS.ld 13 112 (.tmp 12) (z1 hx z5) (RS.mS 2 [kB 15 (decide (x3=0)),kB 14 (decide (x3=0))] (RS.dn (WS.nxt ?_)))
  rcases z0 h with ⟨hp,h⟩ | ⟨hp,h⟩
  ·refine WS.fx 15 true (decide_eq_true hp) (WS.cT (WS.sk (WS.nxt (WS.bk 1 (WS.rg (RS.mS 3 [kI 3 (IntKind.i64.wrap (v3_1 - 1)),kI 17 (IntKind.i64.wrap (v3_1 - 1)),kI 16 v3_1] (RS.dn ?_)))))))
   cases h
   exact fun a w hs=>bkN (lsN rfl (hs.sb 0))
  ·refine WS.fx 15 false (decide_eq_false hp) (WS.cF (WS.ex 0 ?_))
   cases h
   exact fun a w hs=>sqE (lsB rfl (hs.sb 0))
 ·refine RS.fx 8 false (decide_eq_false hp) ?_
  cases h
theorem z61 {L:LC} {m:Nat} {H:AH} {a0 r:Sl3} (h:z3c L H a0=some r) :
  CallS Tryz.prog (NE.plain 167) m 45 #[(Sl3.v a0)] H (z51 r) (z5z H r):=by
 refine CallS.mk (args:=[(Sl3.v a0)]) Tryz.func45 (B:=B45) (by kernel_rfl) (fun E _=>?_)
 unfold z3c at h
 refine WS.sq (WS.rg (RS.mS 1 [kS 2 Sl3.nil] (RS.dn (WS.nxt (WS.sq (WS.rg (RS.mS 3 [kI 3 (a0.n:Int),kI 5 (a0.n:Int),kS 4 a0] (RS.dn (WS.nxt ?_)))))))))
 refine WS.sq (WS.bk 0 ?_)
 obtain ⟨o,hl,h⟩:=bind_some h
 rcases o with v3_4 | r
 ·try dsimp only at h
  refine WS.lI (z7y (L:=L) (E:=E) (m:=m) (H:=H)) (L.ok hl) 0 ?_
  clear hl
  refine fun a w hs=>bkE ((WS.nxt ?_ a w hs))
  refine WS.sq (WS.rg (RS.mS 2 [kI 19 v3_4,kS 18 a0] ?_))
  obtain ⟨s5,hx,h⟩:=bind_some h
  refine RS.o (H':=H) (some 20) (Sl3.v s5) (Abs.run_slice (t:=54) (e:=112) (x:=.tmp 18) (lo:=none) (hi:=(some (.tmp 19))) (mx:=none) (s:=a0) (k1:=.i64) (k2:=.i64) (k3:=.i64) (by kernel_rfl) (by kernel_rfl) (by kernel_rfl) (by kernel_rfl) (by kernel_rfl) (by kernel_rfl) (by kernel_rfl) hx) (RS.mS 1 [kS 2 s5] (RS.dn (WS.nxt (WS.rt ?_))))
  cases h
  exact fun a w hs=>rtR (rS hs)
 ·try dsimp only at h
  refine WS.lR (z7y (L:=L) (E:=E) (m:=m) (H:=H)) (L.ok hl) 0 ?_
  cases h
  exact fun a w hq=>bkR (sqR (rtR hq))
def z6f:Bool→Value
 | r0=>(Value.bool r0)
def z6s (H:AH):Bool→AH:=fun _=>H
noncomputable def B98:Code:=(Tryz.f98.body).getD .skip
noncomputable def z1p (_L:LC) (a0:Sl3):Option Bool :=
 some (decide ((a0.n:Int)=0))
theorem z33 {L:LC} {m:Nat} {H:AH} {a0:Sl3} {r:Bool} (h:z1p L a0=some r) :
  CallS Tryz.prog (NE.plain 167) m 98 #[(Sl3.v a0)] H (z6f r) (z6s H r):=by
 refine CallS.mk (args:=[(Sl3.v a0)]) Tryz.func98 (B:=B98) (by kernel_rfl) (fun E _=>?_)
 unfold z1p at h
 refine WS.sq (WS.rg (RS.mS 1 [kB 2 false] (RS.dn (WS.nxt (WS.sq (WS.rg (RS.mS 4 [kB 2 (decide ((a0.n:Int)=0)),kB 5 (decide ((a0.n:Int)=0)),kI 4 (a0.n:Int),kS 3 a0] (RS.dn (WS.nxt ?_)))))))))
 refine WS.rt ?_
 cases h
 exact fun a w hs=>rtR (rS hs)
def zh7:(Sl3×Bool)→Value
 | (r0,r1)=>(Value.agg #[(Sl3.v r0),(Value.bool r1)])
def zjh (H:AH):(Sl3×Bool)→AH:=fun _=>H
noncomputable def B109:Code:=(Tryz.f109.body).getD .skip
noncomputable def zfw (L:LC) (H:AH) (a0_0:Bool) (a0_1:Sl3):Option (Sl3×Bool) :=
 Option.bind (z3c L H a0_1) fun x1 =>
 if a0_0=true then
  Option.bind (z1p L x1) fun x2 =>
  some (x1,(!x2))
 else
  some (x1,false)
theorem zjf {L:LC} {m:Nat} {H:AH} {a0_0:Bool} {a0_1:Sl3} {r:(Sl3×Bool)} (h:zfw L H a0_0 a0_1=some r) :
  CallS Tryz.prog (NE.plain 167) m 109 #[(Value.agg #[(Value.bool a0_0),(Sl3.v a0_1)])] H (zh7 r) (zjh H r):=by
 refine CallS.mk (args:=[(Value.agg #[(Value.bool a0_0),(Sl3.v a0_1)])]) Tryz.func109 (B:=B109) (by kernel_rfl) (fun E _=>?_)
 unfold zfw at h
 refine WS.sq (WS.rg (RS.mL 2 [kL 2 1 0,kL 1 0 0] ([some (57,[(Value.bool a0_0),(Sl3.v a0_1)]),some (118,[(Sl3.v Sl3.nil),(Value.bool false)])]) (RS.dn (WS.nxt (WS.sq (WS.rg (RS.mS 2 [kS 5 a0_1,kL 4 0 1] ?_)))))))
 obtain ⟨x1,hx,h⟩:=bind_some h
 refine RS.cl (some 6) (v:=(Sl3.v x1)) 45 #[(Sl3.v a0_1)] (z61 hx) (RS.mS 1 [kS 3 x1] (RS.dn (WS.nxt (WS.sq (WS.rg (RS.mS 4 [kB 10 a0_0,kB 9 a0_0,kL 8 0 0,kS 7 x1] ?_))))))
 rcases z0 h with ⟨hp,h⟩ | ⟨hp,h⟩
 ·refine RS.fx 10 true hp (RS.mS 1 [kS 11 x1] ?_)
  obtain ⟨x2,hx,h⟩:=bind_some h
  refine RS.cl (some 12) (v:=(Value.bool x2)) 98 #[(Sl3.v x1)] (z33 hx) (RS.mL 4 [kA 15 #[(Sl3.v x1),(Value.bool (!x2))],kB 14 (!x2),kB 13 (!x2)] ([some (57,[(Value.bool a0_0),(Sl3.v a0_1)]),some (118,[(Sl3.v x1),(Value.bool (!x2))])]) (RS.dn (WS.nxt (WS.rt ?_))))
  cases h
  exact fun a w hs=>rtR (rS hs)
 ·refine RS.fx 10 false (b_not hp) (RS.mL 6 [kA 15 #[(Sl3.v x1),(Value.bool false)],kB 14 false,kU 13,kU 12,kU 11] ([some (57,[(Value.bool a0_0),(Sl3.v a0_1)]),some (118,[(Sl3.v x1),(Value.bool false)])]) (RS.dn (WS.nxt (WS.rt ?_))))
  cases h
  exact fun a w hs=>rtR (rS hs)
def zkc:(Sl3×AH)→Value
 | (r0,_)=>(Sl3.v r0)
def zl9 (_:AH):(Sl3×AH)→AH:=fun r=>r.2
noncomputable def B41:Code:=(Tryz.f41.body).getD .skip
noncomputable def z2v (_L:LC) (m:Nat) (H:AH) (a0:Sl3):Option (Sl3×AH) :=
 if (isNilS a0)=true then
  some (Sl3.nil,H)
 else
  Option.bind (newR 112 0 #[] H) fun (s1,H2) =>
  Option.bind (appS m 112 1 8 H2 s1 a0) fun (s3,H4) =>
  some (s3,H4)
theorem z2b {L:LC} {m:Nat} {H:AH} {a0:Sl3} {r:(Sl3×AH)} (h:z2v L m H a0=some r) :
  CallS Tryz.prog (NE.plain 167) m 41 #[(Sl3.v a0)] H (zkc r) (zl9 H r):=by
 refine CallS.mk (args:=[(Sl3.v a0)]) Tryz.func41 (B:=B41) (by kernel_rfl) (fun E _=>?_)
 unfold z2v at h
 refine WS.sq (WS.rg (RS.mS 1 [kS 2 Sl3.nil] (RS.dn (WS.nxt (WS.sq (WS.sq (WS.rg (RS.mS 1 [kS 3 a0] (RS.o (H':=H) (some 4) (Value.bool (isNilS a0)) (z8s (t:=55) (e:=112) (u:=55) (x:=.tmp 3) (y:=.const (Sl3.v Sl3.nil)) (s:=a0) (by kernel_rfl) (by kernel_rfl) (by kernel_rfl) (by kernel_rfl)) ?_)))))))))
 refine RS.dn (WS.nxt ?_)
 rcases z0 h with ⟨hp,h⟩ | ⟨hp,h⟩
 ·refine WS.fx 4 true hp (WS.cT (WS.sq (WS.rg (RS.mS 1 [kS 2 Sl3.nil] (RS.dn (WS.nxt (WS.rt ?_)))))))
  cases h
  exact fun a w hs=>sqR (rtR (rS hs))
 ·refine WS.fx 4 false (b_not hp) (WS.cF (WS.sk (WS.nxt (WS.sq (WS.rg ?_)))))
  obtain ⟨⟨s1,H2⟩,hx,h⟩:=bind_some h
  try dsimp only at h
  refine RS.o (H':=H2) (some 5) (Sl3.v s1) (Abs.run_newR (by kernel_rfl) (by kernel_rfl) hx) (RS.mS 1 [kS 6 a0] ?_)
  obtain ⟨⟨s3,H4⟩,hx,h⟩:=bind_some h
  try dsimp only at h
  refine RS.o (H':=H4) (some 7) (Sl3.v s3) (Abs.run_app (x:=.tmp 5) (y:=.tmp 6) (ts:=#[55,55]) (s:=s1) (z:=a0) (by kernel_rfl) (by kernel_rfl) (by kernel_rfl) (by kernel_rfl) hx) (RS.mS 1 [kS 2 s3] (RS.dn (WS.nxt (WS.rt ?_))))
  cases h
  exact fun a w hs=>rtR (rS hs)
end Go.Proofs.YtdlnojjpbmibdaaGreatDoor
