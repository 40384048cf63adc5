/- Parts of the proof: an abstract interpreter of the loaded program and its soundness, printed functions, the law's own texts; part 3. No condition. -/
import Derived.Test.YtccbilfbhecdaaaDoorTv2
import Derived.OrdersHeld
import Derived.LaidSub
import Derived.Deep.DeepHandedRow
import Derived.ChangeArms
import Derived.Test.YtccbilfbhecdaaaDoorChecked
import Derived.Test.YtccbilfbhecdaaaDoorRows
import Derived.Test.YtccbilfbhecdaaaDoorCards
import Derived.Test.YtccbilfbhecdaaaDoorTie
import Derived.Deep.DeepWitnessRowRef
import Derived.ChangeMaps5
namespace Go.Abs
variable {P:Program} {ne:NE} {m n:Nat}
def dem (A:List Nat) (bs:List Nat) (j:Nat):Bool:=!(A.all fun i=>Nat.blt i j&&pre bs j i)
def mvAt (ops:Array Oper) (j:Nat):Bool :=
 match ops[j]? with
 | some o=>(match o.op with
  | .move _=>true
  | .assign _=>true
  | .pick ..=>true
  | _=>false)
 | none=>false
def demO (ops:Array Oper) (A:List Nat) (bs:List Nat) (j:Nat):Bool:=dem A bs j&&!mvAt ops j
theorem zr4 {P:Program} {ops:Array Oper} {Q:Exit→Act→World→Prop} {j:Nat} {K:Act→World→Prop} {a:Act} {w:World} (hm:mvAt ops j=true) (h:wpOp P ops Q j K a w):wpOp P ops Q j (fun a' w'=>w'=w∧K a' w') a w:=by
 unfold wpOp at *
 unfold mvAt at hm
 cases ho:ops[j]? with
 | none=>rw [ho] at hm; cases hm
 | some o =>
  rw [ho] at h hm
  simp only at h hm ⊢
  split
  ·rename_i hw
   rw [if_pos hw] at h
   rcases h with h | h
   ·left
    unfold Oper.wp at *
    have hr:(∃v,(execOp a.eval o).run P w=.ok (.value v) w)∨∃x,(execOp a.eval o).run P w=.halt x w:=by
     obtain ⟨dst,op,ty,pos,after,guard⟩:=o
     cases op with
     | move x=>exact .inl ⟨_,rfl⟩
     | assign x=>exact .inl ⟨_,rfl⟩
     | pick c x y =>
      simp only [execOp]
      cases hc:a.eval c with
      | bool b=>exact .inl ⟨_,rfl⟩
      | _=>exact .inr ⟨_,rfl⟩
     | _=>cases hm
    rcases hr with ⟨v,hr⟩ | ⟨x,hr⟩
    ·rw [hr] at h ⊢
     exact ⟨by first | rfl | trivial,h⟩
    ·rw [hr] at h ⊢
     cases x <;> exact h
   ·exact .inr h
  ·rename_i hw
   rw [if_neg hw] at h
   exact ⟨by first | rfl | trivial,h⟩
def wpAnyD (P:Program) (ops:Array Oper) (Q:Exit→Act→World→Prop) (bs A:List Nat) (w1:World):Nat→Array Bool→Act→World→Prop
 | 0,la,a,w=>Region.ready .any ops la=[]∧Q .normal a w
 | f+1,la,a,w=>(Region.ready .any ops la=[]→Q .normal a w) ∧
  ∀i∈Region.ready .any ops la,wpOp P ops Q i (fun a' w'=>(demO ops A bs i=true→agree w1 w')∧wpAnyD P ops Q bs A w1 f (la.setIfInBounds i true) a' w') a w
variable {ops:Array Oper} {Q:Exit→Act→World→Prop} {bs A:List Nat} {w1:World}
theorem zg2:∀(f:Nat) (la:Array Bool) (a:Act) (w:World),wpAnyD P ops Q bs A w1 f la a w→wpAny P .any ops Q f la a w
 | 0,_,_,_,h=>h
 | f+1,_,_,_,h=>⟨h.1,fun i hi=>wpOp_mono (fun a' w' h'=>zg2 f _ a' w' h'.2) (h.2 i hi)⟩
theorem zix {i:Nat} {oi:Oper} {v:Value} (hi:ops[i]? = some oi) (hA:A.contains i=true) (hc:closedOk ops.toList bs=true) (hsel:∀(j:Nat) (o:Oper) cs b,ops[j]? = some o→o.op≠.select cs b)
  (hQ:∀c a w,¬Q (.panic c) a w) :
  ∀(fuel:Nat) (la:Array Bool) (a:Act) (w:World),JC ops bs la →
   (∀j oj,ops[j]? = some oj→j≠i→la.getD j true=false→(∀e∈oj.after,Region.binds .any e=true→e.on≠i)→oi.apart ops oj=true) →
   i∈Region.ready .any ops la→YieldsIf P ops (agree w1) oi v a→agree w1 w →
   wpAnyD P ops Q bs A w1 fuel (la.setIfInBounds i true) (a.put oi.dst v) w→wpAnyD P ops Q bs A w1 (fuel+1) la a w:=by
 intro fuel
 induction fuel with
 | zero =>
  intro la a w hJ _ hr hy hS H
  refine ⟨fun h=>(by rw [h] at hr; cases hr),fun j hj=>?_⟩
  by_cases hji:j=i
  ·subst hji; exact hy.wpOp hi hS ⟨fun _=>hS,H⟩
  ·have:=ready_mono hj hji
   rw [H.1] at this
   cases this
 | succ fuel ih =>
  intro la a w hJ hfree hr hy hS H
  refine ⟨fun h=>(by rw [h] at hr; cases hr),fun j hj=>?_⟩
  by_cases hji:j=i
  ·subst hji; exact hy.wpOp hi hS ⟨fun _=>hS,H⟩
  ·have h1:=H.2 j (ready_mono hj hji)
   have r:=rdy_of hc hJ hj
   have ri:=rdy_of hc hJ hr
   have hd:dem A bs j=true:=by
    cases hq:dem A bs j with
    | true=>rfl
    | false =>
     exfalso
     unfold dem at hq
     have hq:(A.all fun i=>Nat.blt i j&&pre bs j i)=true:=by simpa using hq
     rw [List.all_eq_true] at hq
     have:=hq i (by simpa using hA)
     simp only [Bool.and_eq_true] at this
     exact ri.no (r.all i (blt_lt this.1) this.2)
   have h1:wpOp P ops Q j (fun a' w'=>agree w1 w'∧(demO ops A bs j=true→agree w1 w')∧wpAnyD P ops Q bs A w1 fuel ((la.setIfInBounds i true).setIfInBounds j true) a' w') (a.put oi.dst v) w:=by
    cases hm:mvAt ops j with
    | true=>exact wpOp_mono (fun a' w' hh=>⟨by rw [hh.1]; exact hS,hh.2⟩) (zr4 hm h1)
    | false=>exact wpOp_mono (fun a' w' hh=>⟨hh.1 (by unfold demO; rw [hd,hm]; rfl),hh⟩) h1
   obtain ⟨hjun,oj,hoj,hall⟩:=mem_ready.1 hj
   have hnot:∀e∈oj.after,Region.binds .any e=true→e.on≠i:=fun e he hb heq=>by
    have h1:=hall e he hb
    have h0:=(mem_ready.1 hr).1
    rw [heq] at h1
    rcases Nat.lt_or_ge i la.size with h' | h'
    ·simp [h'] at h0 h1; rw [h0] at h1; cases h1
    ·simp [Array.getElem?_eq_none h'] at h1
   have h2:=wpOp_putIf hoj (hfree j oj hoj hji hjun hnot) (fun cs b=>hsel i oi cs b hi) (fun cs b=>hsel j oj cs b hoj) (fun c a w h=>absurd h (hQ c _ w)) hy h1
   have hfree':∀k ok,ops[k]? = some ok→k≠i→(la.setIfInBounds j true).getD k true=false →
     (∀e∈ok.after,Region.binds .any e=true→e.on≠i)→oi.apart ops ok=true:=fun k ok hk hki hun hno=>by
    refine hfree k ok hk hki ?_ hno
    by_cases hjk:j=k
    ·subst hjk; exact hjun
    ·rw [getD_set_ne true hjk] at hun; exact hun
   refine wpOp_mono (fun a' w' h3=>⟨fun _=>h3.2.1,ih (la.setIfInBounds j true) a' w' (hJ.next r) hfree' (ready_mono hr (Ne.symm hji)) h3.1 h3.2.1 ?_⟩) h2
   rw [Array.setIfInBounds_comm _ _ hji]
   exact h3.2.2.2
structure DC (P:Program) (H1:AH) (ls1:Lcs) (w1:World) (φ1:Inj) (cs1:List Nat):Prop where
 glob:Glob P φ1
 inv:Inv φ1 H1 w1
 loc:∀(i:Nat) c x,cs1[i]? = some c→ls1[i]? = some (some x)→∃rs,w1.heap[c]? = some (.cells rs x.1 (0,0))∧LR φ1 x.2 rs.toList
 len:cs1.length=ls1.length
structure Agr (m:Nat) (H1:AH) (w1:World) (cs1:List Nat) (φ:Inj) (w:World) (cs:List Nat):Prop where
 ag:agree w1 w
 jn:∀id l,Nat.max m H1.next≤id→φ id=some l→w1.heap.size≤l.blk
 nw:∀(i c:Nat),cs1.length≤i→cs[i]? = some c→w1.heap.size≤c
theorem zc1 {w1 w:World} (h:agree w1 w):w1.heap.size≤w.heap.size:=by
 rcases Nat.lt_or_ge w.heap.size w1.heap.size with hlt | h'
 ·have:=h w.heap.size hlt
  rw [Array.getElem?_eq_none (Nat.le_refl _),Array.getElem?_eq_getElem hlt] at this
  cases this
 ·exact h'
theorem Agr.start {φ:Inj} {H:AH} {w:World} {cs:List Nat} (hi:Inv φ H w):Agr m H w cs φ w cs :=
 ⟨agree.refl _,fun id l h1 h2=>by have:=(hi.dom id l h2).1; have:=Nat.le_max_right m H.next; have h1:max m H.next≤id:=h1; omega,fun i c h1 h2=>by rw [List.getElem?_eq_none h1] at h2; cases h2⟩
def KA (φ1:Inj) (cs1:List Nat) (knA:KN) (a:Act):Prop:=∀t kv,lkV knA t=some kv→KR φ1 cs1 kv (a.tmps.getD t undef)
def DA (P:Program) (ne:NE) (m:Nat) (E:Ent) (n:Nat) (ops:Array Oper) (bs A:List Nat) (H1:AH) (ls1:Lcs) (f:Nat) (la:Array Bool) (ag:Bool) (knA kn:KN) (ls:Lcs) (H:AH) (Q:Exit→Act→World→Prop):Prop :=
 ∀w1 φ1 cs1 a w φ cs,DC P H1 ls1 w1 φ1 cs1→φ1.le φ→SSφ P ne m E n kn ls H a w φ cs→KA φ1 cs1 knA a→(∀(i:Nat) (c:Nat),cs1[i]? = some c→cs[i]? = some c)→JC ops bs la→(ag=true→Agr m H1 w1 cs1 φ w cs)→wpAnyD P ops Q bs A w1 f la a w
def DAk (P:Program) (ne:NE) (m:Nat) (E:Ent) (n:Nat) (ops:Array Oper) (bs A:List Nat) (H1:AH) (ls1:Lcs) (k f:Nat) (la:Array Bool) (ag:Bool) (knA kn:KN) (ls:Lcs) (H:AH) (Q:Exit→Act→World→Prop):Prop :=
 ∀w1 φ1 cs1 a w φ cs,DC P H1 ls1 w1 φ1 cs1→φ1.le φ→SSφ P ne m E n kn ls H a w φ cs→KA φ1 cs1 knA a→(∀(i:Nat) (c:Nat),cs1[i]? = some c→cs[i]? = some c)→JC ops bs la→(ag=true→Agr m H1 w1 cs1 φ w cs) →
  wpOp P ops Q k (fun a' w'=>(demO ops A bs k=true→agree w1 w')∧wpAnyD P ops Q bs A w1 f (la.setIfInBounds k true) a' w') a w
section
variable {E:Ent} {knA kn:KN} {ls ls1:Lcs} {H H1:AH} {a:Act} {w:World} {φ φ1:Inj} {cs cs1:List Nat} {f k:Nat} {la:Array Bool} {ag:Bool}
theorem WS.drawn {c:Code} (ops:Array Oper) (A:List Nat) (hc:regOf c=some (ops,true)) (hB:closedOk ops.toList (befores ops.toList)=true) (h:DA P ne m E n ops (befores ops.toList) A H ls ops.size (Array.replicate ops.size false) true kn kn ls H Q):WS P ne m E n c kn ls H Q:=by
 cases c with
 | region id ops' d =>
  simp only [regOf,Option.some.injEq,Prod.mk.injEq] at hc
  obtain ⟨rfl,rfl⟩:=hc
  intro a w hs
  obtain ⟨φ,cs,hs⟩:=hs
  refine wp_region_any hs.sane.mixed ?_
  have hs':SSφ P ne m E n kn ls H a { w with drawn:=w.drawn+1 } φ cs :=
   ⟨hs.glob,⟨hs.inv.dom,hs.inv.obj,hs.inv.sep⟩,⟨hs.step.le,hs.step.ext,hs.step.new,hs.step.alv,hs.step.size,hs.step.keep,hs.step.os,hs.step.tape,hs.step.output⟩,hs.len,fun i c x h1 h2=>⟨(hs.loc i c x h1 h2).1,(hs.loc i c x h1 h2).2,(hs.loc i c x h1 h2).3⟩,hs.inj,hs.low,hs.slot,hs.size,hs.defers,hs.sane,hs.inv0⟩
  exact zg2 _ _ _ _ (h _ φ cs a _ φ cs ⟨hs'.glob,hs'.inv,fun i c x h1 h2=>(hs'.loc i c x h1 h2).2,hs'.len⟩ (Inj.le_refl φ) hs' (fun t kv hl=>hs'.slot t kv hl) (fun _ _ hc=>hc) ⟨by simp,fun i j hh=>by
   unfold LL at hh
   rw [Array.getD_eq_getD_getElem?,Array.getElem?_replicate] at hh
   split at hh <;> cases hh⟩ (fun _=>.start hs'.inv))
 | _=>cases hc
theorem DA.done (hr:readyIs ops la []=true) (h:∀a w,SS P ne m E n kn ls H a w→Q .normal a w):DA P ne m E n ops bs A H1 ls1 f la ag knA kn ls H Q:=by
 intro w1 φ1 cs1 a w φ cs _ _ hs _ _ _ _
 have hr:=z59 hr
 cases f with
 | zero=>exact ⟨hr,h a w ⟨φ,cs,hs⟩⟩
 | succ f=>exact ⟨fun _=>h a w ⟨φ,cs,hs⟩,by rw [hr]; simp⟩
theorem KA.put (h:KA φ1 cs1 knA a) {n:Nat} (hsz:n≤a.tmps.size) {d:Option Nat} (hd:(match d with | some a=>Nat.blt a n | none=>true)=true) {kv:KV} {v':Value} (hv:KR φ1 cs1 kv v'):KA φ1 cs1 (putV knA d kv) (a.put d v'):=by
 cases d with
 | none=>exact h
 | some d =>
  have hlt:d<a.tmps.size:=Nat.lt_of_lt_of_le (blt_lt hd) hsz
  intro t kv' hl
  simp only [putV,lkV] at hl
  simp only [Act.put]
  rw [Array.getD_eq_getD_getElem?,Array.getElem?_setIfInBounds]
  cases hb:Nat.beq d t with
  | true =>
   rw [hb] at hl
   have:=Nat.eq_of_beq_eq_true hb
   subst this
   cases hl
   rw [if_pos rfl,if_pos hlt]
   exact hv
  | false =>
   rw [hb] at hl
   rw [if_neg (Nat.ne_of_beq_eq_false hb),← Array.getD_eq_getD_getElem?]
   exact h t kv' hl
def dropV (d:Option Nat) (knA:KN):KN:=match d with
 | some d=>knA.filter fun p=>!(Nat.beq p.1 d)
 | none=>knA
theorem zru {d:Nat}:∀{kn:KN} {t:Nat} {kv:KV},lkV (kn.filter fun p=>!(Nat.beq p.1 d)) t=some kv→t≠d∧lkV kn t=some kv:=by
 intro kn
 induction kn with
 | nil=>intro t kv h; cases h
 | cons p l ih =>
  obtain ⟨s,v⟩:=p
  intro t kv h
  rw [List.filter_cons] at h
  cases hq:Nat.beq s d with
  | true =>
   rw [hq] at h
   obtain ⟨h1,h2⟩:=ih (by simpa using h)
   refine ⟨h1,?_⟩
   simp only [lkV]
   have e:=Nat.eq_of_beq_eq_true hq
   cases hs:Nat.beq s t with
   | true=>exact absurd ((Nat.eq_of_beq_eq_true hs).symm.trans e) h1
   | false=>exact h2
  | false =>
   rw [hq] at h
   simp only [Bool.not_false,if_true,lkV] at h
   simp only [lkV]
   cases hs:Nat.beq s t with
   | true =>
    rw [hs] at h
    have e:=Nat.eq_of_beq_eq_true hs
    subst e
    exact ⟨Nat.ne_of_beq_eq_false hq,h⟩
   | false=>rw [hs] at h; exact ih h
theorem KA.drop (h:KA φ1 cs1 knA a) (d:Option Nat) (v':Value):KA φ1 cs1 (dropV d knA) (a.put d v'):=by
 cases d with
 | none=>exact h
 | some d =>
  intro t kv hl
  obtain ⟨h1,h2⟩:=zru hl
  simp only [Act.put]
  rw [Array.getD_eq_getD_getElem?,Array.getElem?_setIfInBounds,if_neg (fun e=>h1 e.symm),← Array.getD_eq_getD_getElem?]
  exact h t kv h2
def takeB (P:Program) (n:Nat) (ops:Array Oper) (A:List Nat) (la:Array Bool) (k:Nat) (o:Oper):Bool :=
 A.contains k&&Region.noSelect ops&&Region.free .any ops la k&&(Region.ready .any ops la).contains k&&dstV n o
theorem evalA_ (h:KA φ1 cs1 knA a) (hg:Glob P φ1) {x:Operand} (hk:knownV knA x=true) (hx:okx P x=true):VR φ1 (evV knA x) (a.eval x):=by
 cases x with
 | tmp t =>
  simp only [knownV] at hk
  simp only [evV]
  cases hl:lkV knA t with
  | none=>rw [hl] at hk; cases hk
  | some kv =>
   cases kv with
   | val v=>exact h t _ hl
   | loc i off=>rw [hl] at hk; cases hk
   | sli i n=>rw [hl] at hk; cases hk
 | const v=>exact z11 depth hx
 | global g =>
  have hlt:g<P.globals.size:=blt_lt hx
  obtain ⟨l,h1,h2,h3⟩:=hg g hlt
  have:=VR.ptr (φ:=φ1) g 0 l h1
  rw [h2,h3] at this
  exact this
 | func f=>exact .func (.func f) #[] #[] #[] #[] rfl rfl (fun i x y hx=>by simp at hx) (fun i x y hx=>by simp at hx)
theorem zhf (ho:ops[k]? = some (opAt ops k)) (hB:takeB P n ops A la k (opAt ops k)=true) (hc:closedOk ops.toList bs=true) (hQ:∀c a w,¬Q (.panic c) a w) {kv:KV} {w1:World}
  (hd:DC P H1 ls1 w1 φ1 cs1) (hle:φ1.le φ) (hs:SSφ P ne m E n kn ls H a w φ cs) (hka:KA φ1 cs1 knA a) (hpf:∀(i:Nat) (c:Nat),cs1[i]? = some c→cs[i]? = some c) (hJ:JC ops bs la) (hag:Agr m H1 w1 cs1 φ w cs) {v':Value} (hkr:KR φ1 cs1 kv v') (hkr2:KR φ cs kv v') (hy:YieldsIf P ops (agree w1) (opAt ops k) v' a)
  (h:DA P ne m E n ops bs A H1 ls1 f (la.setIfInBounds k true) true (putV knA (opAt ops k).dst kv) (putV kn (opAt ops k).dst kv) ls H Q):wpAnyD P ops Q bs A w1 (f+1) la a w:=by
 unfold takeB at hB
 simp only [Bool.and_eq_true] at hB
 obtain ⟨⟨⟨⟨b1,b2⟩,b3⟩,b4⟩,b5⟩:=hB
 have hr:k∈Region.ready .any ops la:=by simpa using b4
 refine zix ho b1 hc (Region.noSelect_spec b2) hQ f la a w hJ (Region.free_spec ho b3) hr hy hag.ag ?_
 exact h w1 φ1 cs1 _ w φ cs hd hle (hs.put b5 hkr2) (hka.put hs.size b5 hkr) hpf (hJ.next (rdy_of hc hJ hr)) (fun _=>hag)
theorem DA.take {v:Value} (ho:ops[k]? = some (opAt ops k)) (hB:takeB P n ops A la k (opAt ops k)=true) (hc:closedOk ops.toList bs=true) (hQ:∀c a w,¬Q (.panic c) a w)
  (hw:(wantV ops kn (opAt ops k),(opAt ops k).op.operands.all (okx P),(opAt ops k).op.operands.all (knownV knA))=(some true,true,true)) (hv:detOp P H1 (opAt ops k) (evV knA)=some v)
  (h:DA P ne m E n ops bs A H1 ls1 f (la.setIfInBounds k true) true (putV knA (opAt ops k).dst (.val v)) (putV kn (opAt ops k).dst (.val v)) ls H Q):DA P ne m E n ops bs A H1 ls1 (f+1) la true knA kn ls H Q:=by
 intro w1 φ1 cs1 a w φ cs hd hle hs hka hpf hJ hag
 simp only [Prod.mk.injEq] at hw
 obtain ⟨hw1,hw2,hw3⟩:=hw
 rw [Array.all_eq_true_iff_forall_mem] at hw2 hw3
 obtain ⟨v',h1,h2⟩:=zqt (ρ':=a.eval) hd.inv (fun x hx=>evalA_ hka hd.glob (hw3 x hx) (hw2 x hx)) hv
 exact zhf ho hB hc hQ hd hle hs hka hpf hJ (hag rfl) (kv:=.val v) h1 (h1.mono hle) (.inl ⟨z4y hs hw1,h2⟩) h
def locDet (P:Program) (knA:KN) (ls1:Lcs) (o:Oper):Option KV :=
 match o.op with
 | .move _ | .assign _ | .nilCheck _ | .fieldAddr .. | .load ..=>(locOp P knA ls1 o).map (·.1)
 | _=>none
theorem zhw {o:Oper} {kv:KV} (h:locDet P knA ls1 o=some kv) (hd:DC P H1 ls1 w1 φ1 cs1) (hka:KA φ1 cs1 knA a):∃v',KR φ1 cs1 kv v'∧∀w,agree w1 w→(execOp a.eval o).run P w=.ok (.value v') w:=by
 unfold locDet at h
 have hl:∃ls',locOp P knA ls1 o=some (kv,ls'):=by
  split at h
  all_goals first | (cases hq:locOp P knA ls1 o with | none=>rw [hq] at h; cases h | some p=>obtain ⟨x,y⟩:=p; rw [hq] at h; simp only [Option.map_some,Option.some.injEq] at h; subst h; exact ⟨y,rfl⟩) | cases h
 obtain ⟨ls',hl⟩:=hl
 obtain ⟨dst,op,ty,pos,after,guard⟩:=o
 unfold locOp at hl
 simp only at hl h
 split at hl
 ·rename_i t
  split at hl
  ·rename_i i off hk
   simp only [Option.some.injEq,Prod.mk.injEq] at hl
   obtain ⟨rfl,rfl⟩:=hl
   exact ⟨a.tmps.getD t undef,hka t _ hk,fun w _=>rfl⟩
  ·cases hl
 ·rename_i t
  split at hl
  ·rename_i i off hk
   simp only [Option.some.injEq,Prod.mk.injEq] at hl
   obtain ⟨rfl,rfl⟩:=hl
   exact ⟨a.tmps.getD t undef,hka t _ hk,fun w _=>rfl⟩
  ·cases hl
 ·rename_i t
  split at hl
  ·rename_i i off hk
   simp only [Option.some.injEq,Prod.mk.injEq] at hl
   obtain ⟨rfl,rfl⟩:=hl
   refine ⟨a.tmps.getD t undef,hka t _ hk,fun w _=>?_⟩
   obtain ⟨c,h1,h2⟩:=hka t _ hk
   have:a.eval (.tmp t)=.pointer (some ⟨c,off,none⟩):=h2
   simp only [execOp,this]
   rw [h2]; rfl
  ·cases hl
 ·rename_i s t f
  split at hl
  ·rename_i i off fs hk hu
   cases hf:fs[f]? with
   | none=>rw [hf] at hl; cases hl
   | some fd =>
    rw [hf] at hl
    simp only at hl
    cases hi:P.info? fd.type with
    | none=>rw [hi] at hl; cases hl
    | some inf =>
     rw [hi] at hl
     simp only at hl
     cases hz:Nat.beq inf.size 0 with
     | true=>rw [hz] at hl; cases hl
     | false =>
      rw [hz] at hl
      simp only [cond_false,Option.some.injEq,Prod.mk.injEq] at hl
      obtain ⟨rfl,rfl⟩:=hl
      obtain ⟨c,h1,h2⟩:=hka t _ hk
      have he:a.eval (.tmp t)=.pointer (some ⟨c,off,none⟩):=h2
      refine ⟨.pointer (some ⟨c,off+fd.offset,none⟩),⟨c,h1,rfl⟩,fun w _=>?_⟩
      have hne:=Nat.ne_of_beq_eq_false hz
      have hrun:(Instr.fieldAt s (.pointer (some ⟨c,off,none⟩)) f).run P w=.ok (.pointer (some ⟨c,off+fd.offset,none⟩)) w:=by
       simp only [Instr.fieldAt,Sem.run_bind,zh hu,Result.andThen_ok,hf,Instr.sureAddr,Sem.run_pure,fieldPlace,z27 hi]
       rw [if_neg hne]
       simp only [Sem.run_pure,Result.andThen_ok,Addr.add_lit]
      simp only [execOp,he,Sem.run_bind,hrun,Result.andThen_ok]
      rfl
  ·cases hl
 ·rename_i t x
  split at hl
  ·rename_i i off d inf hk hu hi
   split at hl
   ·rename_i e cells hc
    obtain ⟨c,h1,h2⟩:=hka x _ hk
    obtain ⟨rs,g2,g3⟩:=hd.loc i c _ h1 hc
    have he:a.eval (.tmp x)=.pointer (some ⟨c,off,none⟩):=h2
    have hlen:=LR.length g3
    simp only at hlen g3
    have hlt:c<w1.heap.size:=by rw [Array.getElem?_eq_some_iff] at g2; exact g2.1
    have hagg:∀w,(isAgg t).run P w=.ok (isAggD d) w:=by
     intro w
     simp only [isAgg,Sem.run_bind,zh hu,Result.andThen_ok]
     cases d <;> rfl
    have hex:∀w v,(loadVar t ⟨c,off,none⟩).run P w=.ok v w→(execOp a.eval ⟨dst,.load t (.tmp x),ty,pos,after,guard⟩).run P w=.ok (.value v) w:=by
     intro w v hr
     simp only [execOp,he,Instr.loadAt,Instr.sureAddr,Sem.run_bind,Sem.run_pure,Result.andThen_ok,hr]
    have hcell:∀w,agree w1 w→∀(j:Nat) u,rs[off+j]? = some u→w.cell? ((⟨c,off,none⟩:Addr).add j)=some u:=by
     intro w hag j u hu
     rw [Addr.add_lit]
     simp [World.cell?,hag c hlt,g2,hu]
    cases hda:isAggD d with
    | true =>
     rw [hda] at hl
     simp only [cond_true] at hl
     cases hb:Nat.ble (off+inf.size) cells.length with
     | false=>rw [hb] at hl; cases hl
     | true =>
      rw [hb] at hl
      simp only [cond_true,Option.some.injEq,Prod.mk.injEq] at hl
      obtain ⟨rfl,rfl⟩:=hl
      have hble:=Nat.le_of_ble_eq_true hb
      have hls:((rs.toList.drop off).take inf.size).length=inf.size:=by simp at hlen ⊢; omega
      refine ⟨.agg ((rs.toList.drop off).take inf.size).toArray,?_,fun w hag=>hex w _ ?_⟩
      ·have hpw:AR φ1 ((cells.drop off).take inf.size).toArray ((rs.toList.drop off).take inf.size).toArray:=by
        refine ⟨by simp at hlen ⊢; omega,fun j u v hu hv=>?_⟩
        have hA:=AR_iff.2 (show LR φ1 cells.toArray.toList rs.toList by simpa using g3)
        rw [List.getElem?_toArray,List.getElem?_take] at hu hv
        split at hu
        ·rename_i hj
         rw [if_pos hj,List.getElem?_drop] at hv
         rw [List.getElem?_drop] at hu
         exact hA.2 (off+j) u v (by simpa using hu) (by simpa using hv)
        ·cases hu
       exact .agg _ _ hpw.1 hpw.2
      ·have hrun:=run_loadCells_list (P:=P) w ⟨c,off,none⟩ ((rs.toList.drop off).take inf.size) (fun j u hu=>by
        rw [List.getElem?_take] at hu
        split at hu
        ·rw [List.getElem?_drop] at hu
         exact hcell w hag j u (by simpa using hu)
        ·cases hu)
       rw [hls] at hrun
       simp only [loadVar,Sem.run_bind,hagg w,Result.andThen_ok,hda,if_true,z27 hi,hrun,Sem.run_pure]
    | false =>
     rw [hda] at hl
     simp only [cond_false] at hl
     cases hv:cells[off]? with
     | none=>rw [hv] at hl; cases hl
     | some v =>
      rw [hv] at hl
      simp only [Option.some.injEq,Prod.mk.injEq] at hl
      obtain ⟨rfl,rfl⟩:=hl
      have hA:=AR_iff.2 (show LR φ1 cells.toArray.toList rs.toList by simpa using g3)
      obtain ⟨v',hv',hvr⟩:=hA.get (show cells.toArray[off]? = some v by simpa using hv)
      refine ⟨v',hvr,fun w hag=>hex w _ ?_⟩
      have h0:=hcell w hag 0 v' (by simpa using hv')
      have e0:(⟨c,off,none⟩:Addr).add 0=⟨c,off,none⟩:=rfl
      rw [e0] at h0
      simp only [loadVar,Sem.run_bind,hagg w,hda,Result.andThen_ok,Bool.false_eq_true,if_false]
      simp [h0]
   ·cases hl
  ·cases hl
 all_goals first | (simp only [reduceCtorEq] at h; done) | (cases hl; done)
theorem KR.pfx {kv:KV} {v':Value} (hle:φ1.le φ) (hpf:∀(i:Nat) (c:Nat),cs1[i]? = some c→cs[i]? = some c) (h:KR φ1 cs1 kv v'):KR φ cs kv v':=by
 cases kv with
 | val v=>exact VR.mono hle h
 | loc i off =>
  obtain ⟨c,h1,h2⟩:=h
  exact ⟨c,hpf i c h1,h2⟩
 | sli i n =>
  obtain ⟨⟨c,h1,h2⟩,h3⟩:=h
  exact ⟨⟨c,hpf i c h1,h2⟩,h3⟩
theorem DA.takeL {kv:KV} (ho:ops[k]? = some (opAt ops k)) (hB:takeB P n ops A la k (opAt ops k)=true) (hc:closedOk ops.toList bs=true) (hQ:∀c a w,¬Q (.panic c) a w) (hw:wantV ops kn (opAt ops k)=some true) (hv:locDet P knA ls1 (opAt ops k)=some kv)
  (h:DA P ne m E n ops bs A H1 ls1 f (la.setIfInBounds k true) true (putV knA (opAt ops k).dst kv) (putV kn (opAt ops k).dst kv) ls H Q):DA P ne m E n ops bs A H1 ls1 (f+1) la true knA kn ls H Q:=by
 intro w1 φ1 cs1 a w φ cs hd hle hs hka hpf hJ hag
 obtain ⟨v',h1,h2⟩:=zhw hv hd hka
 exact zhf ho hB hc hQ hd hle hs hka hpf hJ (hag rfl) (kv:=kv) h1 (h1.pfx hle hpf) (.inl ⟨z4y hs hw,h2⟩) h
theorem zqk {m2:Nat} {g:Nat} {args:Array Value} {v:Value} {H':AH} {o:Oper} (hs:SSφ P ne m E n kn ls H a w φ cs) (hx:o.op.operands.all (okx P)=true) (hkn:o.op.operands.all (knownV kn)=true) (hc:callV kn o=some (g,args)) (hr:CallS P ne m2 g args H v H')
  {K:Act→World→Prop} (hn:∀φ' v' w',VR φ' v v'→Inv φ' H' w'→Step m2 φ H w φ' H' w'→K (a.put o.dst v') w'):o.wp P a w K Q:=by
 rw [Array.all_eq_true_iff_forall_mem] at hkn hx
 have hev:∀x∈o.op.operands,VR φ (evV kn x) (a.eval x):=fun x hxm=>hs.eval (hkn x hxm) (hx x hxm)
 obtain ⟨⟨fn,c,hf,hb⟩,hr⟩:=hr hs.sane
 obtain ⟨dst,op,ty,pos,after,guard⟩:=o
 unfold callV at hc
 simp only at hc hev hn
 split at hc
 ·rename_i g args0 ts
  have hgv:=hev g (by simp [Op.operands,Call.operands])
  have hargs:AR φ (args0.map (evV kn)) (args0.map a.eval):=ar_map args0 fun x hx=>hev x (by simp [Op.operands,Call.operands,hx])
  split at hc
  ·rename_i f0 first cap hge
   simp only [Option.some.injEq,Prod.mk.injEq] at hc
   obtain ⟨rfl,rfl⟩:=hc
   rw [hge] at hgv
   generalize hq:a.eval g=q at hgv
   cases hgv with
   | func fn' f1 g1 f1' g1' hf1 hg1 i1 i2 =>
    have hall:AR φ (first++args0.map (evV kn)++cap) (f1'++args0.map a.eval++g1'):=((AR.append ⟨hf1,i1⟩ hargs).append ⟨hg1,i2⟩)
    show Oper.upon P _ a K Q _
    have hex:execOp a.eval { dst:=dst,op:=.call { callee:=.value g,args:=args0,argTypes:=ts },type:=ty,pos:=pos,after:=after,guard:=guard }=callFunc f0 (f1'++args0.map a.eval++g1'):=by
     simp only [execOp,resolve,hq]; rfl
    rw [hex,z41 hs.sane hf hb]
    exact z68 (hr φ w _ hs.glob hall hs.inv) hn
  ·cases hc
 ·cases hc
theorem agree.trans' {w1 w w':World} (h1:agree w1 w) (h2:agree w w'):agree w1 w':=fun c hc=>by
 have hlt:c<w.heap.size:=by
  have:=h1 c hc
  rw [Array.getElem?_eq_getElem hc] at this
  rw [Array.getElem?_eq_some_iff] at this
  exact this.1
 rw [h2 c hlt,h1 c hc]
theorem zc6 (ho:ops[k]? = some (opAt ops k)) {w1:World} (hs:SSφ P ne m E n kn ls H a w φ cs) (hw:wantV ops kn (opAt ops k)=some true)
  (h:∀K:Act→World→Prop,(∀a' w',(demO ops A bs k=true→agree w1 w')∧wpAnyD P ops Q bs A w1 f (la.setIfInBounds k true) a' w'→K a' w')→(opAt ops k).wp P a w K Q) :
  wpOp P ops Q k (fun a' w'=>(demO ops A bs k=true→agree w1 w')∧wpAnyD P ops Q bs A w1 f (la.setIfInBounds k true) a' w') a w:=by
 unfold wpOp
 rw [ho]
 simp only [z4y hs hw,if_true]
 left
 exact h _ fun a' w' hh=>hh
theorem ze5 (hr:(Region.ready .any ops la).contains k=true) (hc:closedOk ops.toList bs=true) (hJ:JC ops bs la):JC ops bs (la.setIfInBounds k true) :=
 hJ.next (rdy_of hc hJ (by simpa using hr))
theorem DA.one (k:Nat) (hr:readyIs ops la [k]=true) (h:DAk P ne m E n ops bs A H1 ls1 k f la ag knA kn ls H Q):DA P ne m E n ops bs A H1 ls1 (f+1) la ag knA kn ls H Q:=by
 intro w1 φ1 cs1 a w φ cs q1 q2 q3 q4 q5 q6 q7
 have hr:=z59 hr
 refine ⟨fun h0=>(by rw [hr] at h0; cases h0),fun i hi=>?_⟩
 rw [hr] at hi
 simp only [List.mem_cons,List.not_mem_nil,or_false] at hi
 subst hi
 exact h w1 φ1 cs1 a w φ cs q1 q2 q3 q4 q5 q6 q7
theorem DA.two (k k2:Nat) (hr:readyIs ops la [k,k2]=true) (h:DAk P ne m E n ops bs A H1 ls1 k f la ag knA kn ls H Q) (h2:DAk P ne m E n ops bs A H1 ls1 k2 f la ag knA kn ls H Q):DA P ne m E n ops bs A H1 ls1 (f+1) la ag knA kn ls H Q:=by
 intro w1 φ1 cs1 a w φ cs q1 q2 q3 q4 q5 q6 q7
 have hr:=z59 hr
 refine ⟨fun h0=>(by rw [hr] at h0; cases h0),fun i hi=>?_⟩
 rw [hr] at hi
 simp only [List.mem_cons,List.not_mem_nil,or_false] at hi
 rcases hi with rfl | rfl
 ·exact h w1 φ1 cs1 a w φ cs q1 q2 q3 q4 q5 q6 q7
 ·exact h2 w1 φ1 cs1 a w φ cs q1 q2 q3 q4 q5 q6 q7
theorem zla {w2:World} {A':List Nat} (hA:∀i,la.getD i true=false→demO ops A bs i=true→demO ops A' bs i=true∧agree w1 w2):∀(f:Nat) {la:Array Bool} {a:Act} {w:World},(∀i,la.getD i true=false→demO ops A bs i=true→demO ops A' bs i=true∧agree w1 w2)→wpAnyD P ops Q bs A' w2 f la a w→wpAnyD P ops Q bs A w1 f la a w:=by
 intro f
 induction f with
 | zero=>intro la a w _ h; exact h
 | succ f ih =>
  intro la a w hA h
  refine ⟨h.1,fun i hi=>wpOp_mono (fun a' w' hh=>⟨fun hd=>?_,ih (fun j hj hd=>hA j ?_ hd) hh.2⟩) (h.2 i hi)⟩
  ·have hun:la.getD i true=false:=by
    have h0:=(mem_ready.1 hi).1
    have hlt:i<la.size:=by
     rcases Nat.lt_or_ge i la.size with h' | h'
     ·exact h'
     ·simp [Array.getElem?_eq_none h'] at h0
    simpa [hlt] using h0
   obtain ⟨q1,q2⟩:=hA i hun hd
   exact q2.trans' (hh.1 q1)
  ·by_cases e:i=j
   ·subst e
    rcases Nat.lt_or_ge i la.size with h' | h'
    ·simp [h'] at hj
    ·have:(la.setIfInBounds i true)=la:=by rw [Array.setIfInBounds]; simp [Nat.not_lt.2 h']
     rw [this] at hj; exact hj
   ·rwa [getD_set_ne true e] at hj
def restB (ops:Array Oper) (A A' bs:List Nat) (la:Array Bool) (ag:Bool):Bool :=
 (List.range la.size).all fun i=>la.getD i true||!demO ops A bs i||(ag&&demO ops A' bs i)
theorem DA.restart (A':List Nat) (hA:restB ops A A' bs la ag=true) (h:DA P ne m E n ops bs A' H ls f la true kn kn ls H Q):DA P ne m E n ops bs A H1 ls1 f la ag knA kn ls H Q:=by
 intro w1 φ1 cs1 a w φ cs q1 q2 q3 q4 q5 q6 q7
 have hw:=h w φ cs a w φ cs ⟨q3.glob,q3.inv,fun i c x h1 h2=>(q3.loc i c x h1 h2).2,q3.len⟩ (Inj.le_refl φ) q3 (fun t kv hl=>q3.slot t kv hl) (fun _ _ hc=>hc) q6 (fun _=>.start q3.inv)
 have hh:∀i,la.getD i true=false→demO ops A bs i=true→demO ops A' bs i=true∧agree w1 w:=by
  intro i hi hd
  unfold restB at hA
  rw [List.all_eq_true] at hA
  have hlt:i<la.size:=by
   rcases Nat.lt_or_ge i la.size with h' | h'
   ·exact h'
   ·simp [Array.getElem?_eq_none h'] at hi
  have:=hA i (by simpa using hlt)
  rw [hi,hd] at this
  simp only [Bool.not_true,Bool.or_false,Bool.false_or,Bool.and_eq_true] at this
  exact ⟨this.2,(q7 this.1).ag⟩
 exact zla hh f hh hw
theorem DA.actL {kv:KV} {ls':Lcs} (ag':Bool) (ho:ops[k]? = some (opAt ops k)) (hr:(Region.ready .any ops la).contains k=true) (hc:closedOk ops.toList bs=true) (hw:wantV ops kn (opAt ops k)=some true) (hd:dstV n (opAt ops k)=true) (hl:locOp P kn ls (opAt ops k)=some (kv,ls'))
  (ha:((!demO ops A bs k||(ag&&notStore (opAt ops k)))&&(!ag'||(ag&&notStore (opAt ops k))))=true)
  (h:DA P ne m E n ops bs A H1 ls1 f (la.setIfInBounds k true) ag' (dropV (opAt ops k).dst knA) (putV kn (opAt ops k).dst kv) ls' H Q):DAk P ne m E n ops bs A H1 ls1 k f la ag knA kn ls H Q:=by
 intro w1 φ1 cs1 a w φ cs hd1 hle hs hka hpf hJ hag
 refine zc6 ho hs hw fun K hK=>?_
 refine zj1 hs hl hd fun v' w' cs' hs' hpf' hnw' hag'=>hK _ _ ?_
 have hkeep:(ag&&notStore (opAt ops k))=true→Agr m H1 w1 cs1 φ w' cs':=fun hh=>by
  rw [Bool.and_eq_true] at hh
  obtain ⟨h1,h2,h3⟩:=hag hh.1
  refine ⟨h1.trans' (hag' hh.2),h2,fun i c hi hc=>?_⟩
  rcases Nat.lt_or_ge i cs.length with hlt | hge
  ·rw [hpf' i cs[i] (List.getElem?_eq_getElem hlt)] at hc
   cases hc
   exact h3 i _ hi (List.getElem?_eq_getElem hlt)
  ·exact Nat.le_trans (zc1 h1) (hnw' i c hge hc)
 rw [Bool.and_eq_true] at ha
 refine ⟨fun hdm=>(hkeep (by have:=ha.1; rw [hdm] at this; simpa using this)).ag,h w1 φ1 cs1 _ _ φ cs' hd1 hle hs' (hka.drop _ _) (fun i c hc=>hpf' i c (hpf i c hc)) (ze5 hr hc hJ) fun hag2=>hkeep (by have:=ha.2; rw [hag2] at this; simpa using this)⟩
theorem zhs {φ φ':Inj} {H H':AH} {w w':World} {m m2:Nat} (hm:m≤m2) (h:Step m2 φ H w φ' H' w'):Step m φ H w φ' H' w' :=
 ⟨h.le,h.ext,fun id l h1 h2=>⟨(h.new id l h1 h2).1,(h.new id l h1 h2).2.imp (fun q=>q) fun ⟨id0,l0,q1,q2⟩=>⟨id0,l0,Nat.le_trans hm q1,q2⟩⟩,h.alv,h.size,fun c hc hno=>h.keep c hc fun id l hid=>hno id l (Nat.le_trans hm hid),h.os,h.tape,h.output⟩
theorem Agr.step {w1:World} {φ':Inj} {H':AH} {w':World} {m2:Nat} (h:Agr m H1 w1 cs1 φ w cs) (hi:Inv φ H w) (hm:m≤m2) (hm2:H.next≤m2∨H1.next≤m2) (hst:Step m2 φ H w φ' H' w'):Agr m H1 w1 cs1 φ' w' cs:=by
 have hsz:=zc1 h.ag
 have key:∀id l,m2≤id→φ id=some l→w1.heap.size≤l.blk:=fun id l h1 h2=>by
  rcases hm2 with h3 | h3
  ·have:=(hi.dom id l h2).1; omega
  ·exact h.jn id l (Nat.max_le.2 ⟨by omega,by omega⟩) h2
 refine ⟨fun c hc=>?_,fun id l h1 h2=>?_,h.nw⟩
 ·rw [hst.keep c (Nat.lt_of_lt_of_le hc hsz) fun id l hid _ hl e=>by have:=key id l hid hl; omega]
  exact h.ag c hc
 ·cases hq:φ id with
  | some l0 =>
   have:=hst.ext _ _ hq
   rw [h2] at this; cases this
   exact h.jn id l h1 hq
  | none =>
   rcases (hst.new id l h2 hq).2 with h3 | ⟨id0,l0,h3,_,h4,h5⟩
   ·omega
   ·rw [← h5]; exact key id0 l0 h3 h4
theorem DA.actH (m2:Nat) (ag':Bool) {v:Value} {H':AH} (ho:ops[k]? = some (opAt ops k)) (hr:(Region.ready .any ops la).contains k=true) (hc:closedOk ops.toList bs=true) (hB:opV P n ops kn (opAt ops k)=true) (hv:runOp P (NE.plain 0) ih0 m2 (opAt ops k) (evV kn) H=some (v,H')) (hn:noCall (opAt ops k)=true)
  (hm:m≤m2) (hm2:(demO ops A bs k||ag')=true→H.next≤m2∨H1.next≤m2) (ha:((!demO ops A bs k||ag)&&(!ag'||ag))=true)
  (h:DA P ne m E n ops bs A H1 ls1 f (la.setIfInBounds k true) ag' (dropV (opAt ops k).dst knA) (putV kn (opAt ops k).dst (.val v)) ls H' Q):DAk P ne m E n ops bs A H1 ls1 k f la ag knA kn ls H Q:=by
 intro w1 φ1 cs1 a w φ cs hd1 hle hs hka hpf hJ hag
 unfold opV at hB
 simp only [Bool.and_eq_true] at hB
 obtain ⟨⟨⟨hg,hx⟩,hkn⟩,hd⟩:=hB
 rw [Array.all_eq_true_iff_forall_mem] at hkn hx
 have hw:wantV ops kn (opAt ops k)=some true:=by
  split at hg
  ·assumption
  ·cases hg
 refine zc6 ho hs hw fun K hK=>?_
 have hr':runOp P ne ih0 m2 (opAt ops k) (evV kn) H=some (v,H'):=by
  rw [← hv]
  generalize opAt ops k=o at hn
  obtain ⟨dst,op,ty,pos,after,guard⟩:=o
  unfold runOp
  cases op with
  | call c =>
   obtain ⟨callee,args,ts⟩:=c
   cases callee with
   | value g=>cases hn
   | _=>rfl
  | _=>rfl
 refine z7z hs.sane zjj hr' hs.glob (fun x hxm=>hs.eval (hkn x hxm) (hx x hxm)) hs.inv fun φ' v' w' h1 h2 h3=>?_
 have hkeep:(demO ops A bs k||ag')=true→ag=true→Agr m H1 w1 cs1 φ' w' cs:=fun hh hag2=>(hag hag2).step hs.inv hm (hm2 hh) h3
 rw [Bool.and_eq_true] at ha
 refine hK _ _ ⟨fun hdm=>(hkeep (by rw [hdm]; rfl) (by have:=ha.1; rw [hdm] at this; simpa using this)).ag,h w1 φ1 cs1 _ _ φ' cs hd1 (fun id l hl=>h3.ext _ _ (hle _ _ hl)) ((hs.heap h2 (zhs hm h3)).put hd h1) (hka.drop _ _) hpf (ze5 hr hc hJ) fun hag2=>hkeep (by rw [hag2,Bool.or_true]) (by have:=ha.2; rw [hag2] at this; simpa using this)⟩
theorem DA.actC (m2:Nat) (ag':Bool) {v:Value} {H':AH} (g:Nat) (args:Array Value) (ho:ops[k]? = some (opAt ops k)) (hr:(Region.ready .any ops la).contains k=true) (hc:closedOk ops.toList bs=true) (hB:opV P n ops kn (opAt ops k)=true) (hcl:callV kn (opAt ops k)=some (g,args)) (hcs:CallS P ne m2 g args H v H')
  (hm:m≤m2) (hm2:(demO ops A bs k||ag')=true→H.next≤m2∨H1.next≤m2) (ha:((!demO ops A bs k||ag)&&(!ag'||ag))=true)
  (h:DA P ne m E n ops bs A H1 ls1 f (la.setIfInBounds k true) ag' (dropV (opAt ops k).dst knA) (putV kn (opAt ops k).dst (.val v)) ls H' Q):DAk P ne m E n ops bs A H1 ls1 k f la ag knA kn ls H Q:=by
 intro w1 φ1 cs1 a w φ cs hd1 hle hs hka hpf hJ hag
 unfold opV at hB
 simp only [Bool.and_eq_true] at hB
 obtain ⟨⟨⟨hg,hx⟩,hkn⟩,hd⟩:=hB
 have hw:wantV ops kn (opAt ops k)=some true:=by
  split at hg
  ·assumption
  ·cases hg
 refine zc6 ho hs hw fun K hK=>?_
 refine zqk hs hx hkn hcl hcs fun φ' v' w' h1 h2 h3=>?_
 have hkeep:(demO ops A bs k||ag')=true→ag=true→Agr m H1 w1 cs1 φ' w' cs:=fun hh hag2=>(hag hag2).step hs.inv hm (hm2 hh) h3
 rw [Bool.and_eq_true] at ha
 refine hK _ _ ⟨fun hdm=>(hkeep (by rw [hdm]; rfl) (by have:=ha.1; rw [hdm] at this; simpa using this)).ag,h w1 φ1 cs1 _ _ φ' cs hd1 (fun id l hl=>h3.ext _ _ (hle _ _ hl)) ((hs.heap h2 (zhs hm h3)).put hd h1) (hka.drop _ _) hpf (ze5 hr hc hJ) fun hag2=>hkeep (by rw [hag2,Bool.or_true]) (by have:=ha.2; rw [hag2] at this; simpa using this)⟩
theorem DA.fix (t:Nat) {b:Bool} (d:Bool) (hb:b=d) (hl:lkV kn t=some (.val (.bool b))) (h:DA P ne m E n ops bs A H1 ls1 f la ag ((t,.val (.bool d)) :: knA) ((t,.val (.bool d)) :: kn) ls H Q):DA P ne m E n ops bs A H1 ls1 f la ag knA kn ls H Q:=by
 subst hb
 intro w1 φ1 cs1 a w φ cs hd1 hle hs hka hpf hJ hag
 have hv:VR φ (.bool b) (a.tmps.getD t undef):=hs.slot t _ hl
 have hv1:VR φ1 (.bool b) (a.tmps.getD t undef):=by
  generalize a.tmps.getD t undef=u at hv
  cases hv; exact .bool b
 refine h w1 φ1 cs1 a w φ cs hd1 hle ⟨hs.glob,hs.inv,hs.step,hs.len,hs.loc,hs.inj,hs.low,fun s kv hh=>?_,hs.size,hs.defers,hs.sane,hs.inv0⟩ (fun s kv hh=>?_) hpf hJ hag
 ·simp only [lkV] at hh
  cases hq:Nat.beq t s with
  | true =>
   rw [hq] at hh
   have:=Nat.eq_of_beq_eq_true hq
   subst this
   cases hh
   exact hv
  | false=>rw [hq] at hh; exact hs.slot s kv hh
 ·simp only [lkV] at hh
  cases hq:Nat.beq t s with
  | true =>
   rw [hq] at hh
   have:=Nat.eq_of_beq_eq_true hq
   subst this
   cases hh
   exact hv1
  | false=>rw [hq] at hh; exact hka s kv hh
end
end Go.Abs
namespace Go.Abs
structure LC where
 run:{S R:Type}→(S→Option (Lp S R))→S→Option (S⊕R)
 fuel:Nat
 ok:∀{S R:Type} {body:S→Option (Lp S R)} {s:S} {o:S⊕R},run body s=some o→loopO body s=some o
noncomputable def LCo (k:Nat):LC:=⟨fun b s=>loopO b s,k,fun h=>h⟩
variable {P:Program} {ne:NE} {m:Nat} {ih:Ex} {ρ:Operand→Value} {o:Oper} {H H':AH}
theorem det_load {t:TypeId} {x:Operand} {a:Addr} {v:Value} (hop:o.op=.load t x) (hu:(P.underlying t).map isAggD=some false) (hi:(P.info? t).isSome=true) (hx:ρ x=.pointer (some a)) (h:H.cell a=some v):detOp P H o ρ=some v:=by
 obtain ⟨dst,op,ty,pos,after,guard⟩:=o
 simp only at hop
 subst hop
 obtain ⟨i,hi⟩:=Option.isSome_iff_exists.1 hi
 cases hd:P.underlying t with
 | none=>rw [hd] at hu; cases hu
 | some d =>
  rw [hd] at hu
  simp only [Option.map_some,Option.some.injEq] at hu
  simp only [detOp,tPure,hx,aLoad,hd,hi,hu,cond_false,h]
theorem det_loadA {t:TypeId} {x:Operand} {a:Addr} {l:List Value} {k:Nat} (hop:o.op=.load t x) (hu:(P.underlying t).map isAggD=some true) (hi:(P.info? t).map (·.size)=some k) (hx:ρ x=.pointer (some a)) (h:rdCells H a 0 k=some l):detOp P H o ρ=some (.agg l.toArray):=by
 obtain ⟨dst,op,ty,pos,after,guard⟩:=o
 simp only at hop
 subst hop
 cases hie:P.info? t with
 | none=>rw [hie] at hi; cases hi
 | some i =>
  rw [hie] at hi
  simp only [Option.map_some,Option.some.injEq] at hi
  subst hi
  cases hd:P.underlying t with
  | none=>rw [hd] at hu; cases hu
  | some d =>
   rw [hd] at hu
   simp only [Option.map_some,Option.some.injEq] at hu
   simp only [detOp,tPure,hx,aLoad,hd,hie,hu,cond_true,h]
theorem det_idx {t e:TypeId} {x y:Operand} {sz:Nat} {s:Sl3} {k:IntKind} {i:Int} {a:Addr} (hop:o.op=.indexAddr t x y) (hu:P.underlying t=some (.slice e)) (hi:(P.info? e).map (·.size)=some sz)
  (hx:ρ x=s.v) (hy:ρ y=.int k i) (h:idxA sz s i=some a):detOp P H o ρ=some (.pointer (some a)):=by
 obtain ⟨dst,op,ty,pos,after,guard⟩:=o
 simp only at hop
 subst hop
 obtain ⟨p,l,c⟩:=s
 cases hie:P.info? e with
 | none=>rw [hie] at hi; cases hi
 | some inf =>
  rw [hie] at hi
  simp only [Option.map_some,Option.some.injEq] at hi
  subst hi
  unfold idxA at h
  cases p with
  | none=>cases h
  | some b =>
   simp only at h
   split at h
   ·rename_i hb
    simp only [Option.some.injEq] at h
    subst h
    obtain ⟨j,rfl⟩:∃j:Nat,i=(j:Int):=⟨i.toNat,by omega⟩
    have hlt:Nat.blt j l=true:=Nat.ble_eq_true_of_le (by omega)
    have hp:tPure P ⟨dst,.indexAddr t x y,ty,pos,after,guard⟩ ρ=some (.pointer (some (b.add (j*inf.size)))):=by
     simp only [tPure,hu,hx,hy,Sl3.v,hie]
     show (match (Value.int k (Int.ofNat j)) with | .int _ (.ofNat i)=>_ | _=>none)=_
     simp only [hlt,cond_true]
    simp only [detOp,hp]
    simp
   ·cases h
theorem run_loadAg {t:TypeId} {x:Operand} {a:Addr} {l:List Value} {k:Nat} (hop:o.op=.load t x) (hu:(P.underlying t).map isAggD=some true) (hi:(P.info? t).map (·.size)=some k) (hx:ρ x=.pointer (some a)) (h:rdCells H a 0 k=some l):runOp P ne ih m o ρ H=some (.agg l.toArray,H):=by
 obtain ⟨dst,op,ty,pos,after,guard⟩:=o
 simp only at hop
 subst hop
 cases hie:P.info? t with
 | none=>rw [hie] at hi; cases hi
 | some i =>
  rw [hie] at hi
  simp only [Option.map_some,Option.some.injEq] at hi
  subst hi
  cases hd:P.underlying t with
  | none=>rw [hd] at hu; cases hu
  | some d =>
   rw [hd] at hu
   simp only [Option.map_some,Option.some.injEq] at hu
   simp only [runOp,aOp,execOp,hx,bind]
   have hS:arun P m (Instr.loadAt t (.pointer (some a))) H=some (.agg l.toArray,H):=by
    unfold Instr.loadAt Go.loadVar Go.isAgg
    have hl:=zdh (P:=P) (m:=m) a i.size 0 #[] H
    rw [h] at hl
    simp only [Instr.sureAddr,Go.underlying,Go.program,Go.sizeOf,Go.typeInfo,bind,Pure.pure,Sem.bind,arun,hd]
    cases d <;> first | (simp only [isAggD] at hu; cases hu; done) | (simp only [Sem.bind,arun,if_true,hie,Go.loadCells]; rw [z17,hl]; simp [arun])
   rw [z17,hS]
   rfl
def mapB:Blk:={ obj:=.map #[] 0,opn:=false,esz:=0,ro:=false }
def lkM {α:Type} (P:Program) (t:TypeId) (de:Value→Option α) (H:AH) (m:Option Nat) (k:Value):Option (α×Bool) :=
 match aLookup P t (.map m) k true H with
 | some (.tuple cs)=>match cs.toList with
  | [x,.bool b]=>(de x).map (·,b)
  | _=>none
 | _=>none
def lk1 {α:Type} (P:Program) (t:TypeId) (de:Value→Option α) (H:AH) (m:Option Nat) (k:Value):Option α:=(aLookup P t (.map m) k false H).bind de
theorem lkM_eq {α:Type} {t:TypeId} {de:Value→Option α} {mm:Option Nat} {k:Value} {x:α} {b:Bool} {v:Value} (h:lkM P t de H mm k=some (x,b)) (hv:∀u,de u=some x→u=v):aLookup P t (.map mm) k true H=some (.tuple #[v,.bool b]):=by
 unfold lkM at h
 split at h
 ·rename_i cs hc
  split at h
  ·rename_i y c hl
   cases hd:de y with
   | none=>rw [hd] at h; cases h
   | some z =>
    rw [hd] at h
    simp only [Option.map_some,Option.some.injEq,Prod.mk.injEq] at h
    obtain ⟨rfl,rfl⟩:=h
    rw [hc,← hv y hd,z7v hl]
  ·cases h
 ·cases h
theorem lk1_eq {α:Type} {t:TypeId} {de:Value→Option α} {mm:Option Nat} {k:Value} {x:α} {v:Value} (h:lk1 P t de H mm k=some x) (hv:∀u,de u=some x→u=v):aLookup P t (.map mm) k false H=some v:=by
 obtain ⟨u,h1,h2⟩:=bind_some h
 rw [h1,hv u h2]
theorem run_look {t:TypeId} {x y:Operand} {ok:Bool} {mm:Option Nat} {k v:Value} (hop:o.op=.lookup t x y ok) (hx:ρ x=.map mm) (hy:ρ y=k) (hf:flat depth k=true) (h:aLookup P t (.map mm) k ok H=some v):runOp P ne ih m o ρ H=some (v,H):=by
 obtain ⟨dst,op,ty,pos,after,guard⟩:=o
 simp only at hop
 subst hop
 simp only [runOp,aOp,hx,hy,hf,cond_true,h]
theorem det_look {t:TypeId} {x y:Operand} {ok:Bool} {mm:Option Nat} {k v:Value} (hop:o.op=.lookup t x y ok) (hx:ρ x=.map mm) (hy:ρ y=k) (hf:flat depth k=true) (h:aLookup P t (.map mm) k ok H=some v):detOp P H o ρ=some v:=by
 obtain ⟨dst,op,ty,pos,after,guard⟩:=o
 simp only at hop
 subst hop
 simp only [detOp,tPure,hx,hy,hf,cond_true,h]
def upM (P:Program) (m:Nat) (t:TypeId) (H:AH) (mm:Option Nat) (k v:Value):Option AH :=
 match aUpdate P m t (.map mm) k v H with
 | some (.tuple cs,H')=>if cs.size=0 then some H' else none
 | _=>none
theorem run_upM {t:TypeId} {x y z:Operand} {mm:Option Nat} {k v:Value} (hop:o.op=.mapUpdate t x y z) (hx:ρ x=.map mm) (hy:ρ y=k) (hz:ρ z=v) (hf:flat depth k=true) (h:upM P m t H mm k v=some H'):runOp P ne ih m o ρ H=some (undef,H'):=by
 obtain ⟨dst,op,ty,pos,after,guard⟩:=o
 simp only at hop
 subst hop
 unfold upM at h
 split at h
 ·rename_i cs H1 hu
  split at h
  ·rename_i hs
   simp only [Option.some.injEq] at h
   subst h
   have e:cs=#[]:=Array.eq_empty_of_size_eq_zero hs
   subst e
   simp only [runOp,aOp,hx,hy,hz,hf,cond_true,hu]
   rfl
  ·cases h
 ·cases h
def deM:Value→Option (Option Nat)
 | .map r=>some r
 | _=>none
theorem z3h {x:Option Nat}:∀u,deM u=some x→u=.map x:=by
 intro u h
 cases u <;> simp only [deM] at h <;> cases h
 rfl
theorem z7 {a:Addr} {i k:Nat} {v:Value} {l:List Value} (h1:H.cell (a.add i)=some v) (h2:rdCells H a (i+1) k=some l):rdCells H a i (k+1)=some (v :: l):=by
 simp only [rdCells,h1,h2]
section
variable {E:Ent} {n:Nat} {kn:KN} {ls:Lcs} {ops:Array Oper} {k:Nat} {Q:Exit→Act→World→Prop}
end
end Go.Abs
namespace Go.Abs
variable {P:Program} {ne:NE} {m n:Nat}
variable {E:Ent} {kn knA:KN} {ls ls1:Lcs} {H H1 H':AH} {ops:Array Oper} {k:Nat} {Q:Exit→Act→World→Prop} {bs A:List Nat} {f:Nat} {la:Array Bool} {ag:Bool}
def newB (e:TypeId) (cells:List Value) (H:AH):Option (Addr×AH):=some (⟨H.next,0,none⟩,H.push (pubB e cells))
theorem run_newB {ih:Ex} {ρ:Operand→Value} {o:Oper} {e:TypeId} {cells:List Value} {p:Addr} (hr:runOp P ne ih m o ρ H=some (.pointer (some ⟨H.next,0,none⟩),H.push (pubB e cells))) (hx:newB e cells H=some (p,H')):runOp P ne ih m o ρ H=some (.pointer (some p),H'):=by
 cases hx
 exact hr
def newM (H:AH):Option (Nat×AH):=some (H.next,H.push mapB)
theorem run_newM {ih:Ex} {ρ:Operand→Value} {o:Oper} {p:Nat} (hr:runOp P ne ih m o ρ H=some (.map (some H.next),H.push mapB)) (hx:newM H=some (p,H')):runOp P ne ih m o ρ H=some (.map (some p),H'):=by
 cases hx
 exact hr
theorem RS.atD (d:Option Nat) (v:Value) (ho:ops[k]? = some (opAt ops k)) (hd:(opAt ops k).dst=d) (hB:(opV P n ops kn (opAt ops k)&&noCall (opAt ops k))=true) (hr:runOp P (NE.plain 0) ih0 m (opAt ops k) (evV kn) H=some (v,H'))
  (h:RS P ne m E n ops (k+1) (putV kn d (.val v)) ls H' Q):RS P ne m E n ops k kn ls H Q:=by
 subst hd
 exact RS.at v ho hB hr h
theorem RS.callD (d:Option Nat) {v:Value} (f:Nat) (args:Array Value) (ho:ops[k]? = some (opAt ops k)) (hd:(opAt ops k).dst=d) (hB:opV P n ops kn (opAt ops k)=true) (hc:callV kn (opAt ops k)=some (f,args)) (hr:CallS P ne m f args H v H')
  (h:RS P ne m E n ops (k+1) (putV kn d (.val v)) ls H' Q):RS P ne m E n ops k kn ls H Q:=by
 subst hd
 exact RS.call f args ho hB hc hr h
theorem WS.drawnX {c:Code} (ops:Array Oper) (A:List Nat) (bs:List Nat) (sz:Nat) (hc:regOf c=some (ops,true)) (hb:befores ops.toList=bs) (hs:ops.size=sz) (hB:closedOk ops.toList bs=true) (h:DA P ne m E n ops bs A H ls sz (Array.replicate sz false) true kn kn ls H Q):WS P ne m E n c kn ls H Q:=by
 subst hb hs
 exact WS.drawn ops A hc hB h
theorem DA.takeD (k:Nat) (d:Option Nat) (v:Value) (ho:ops[k]? = some (opAt ops k)) (hd:(opAt ops k).dst=d) (hB:takeB P n ops A la k (opAt ops k)=true) (hc:closedOk ops.toList bs=true) (hQ:∀c a w,¬Q (.panic c) a w)
  (hw:(wantV ops kn (opAt ops k),(opAt ops k).op.operands.all (okx P),(opAt ops k).op.operands.all (knownV knA))=(some true,true,true)) (hv:detOp P H1 (opAt ops k) (evV knA)=some v)
  (h:DA P ne m E n ops bs A H1 ls1 f (la.setIfInBounds k true) true (putV knA d (.val v)) (putV kn d (.val v)) ls H Q):DA P ne m E n ops bs A H1 ls1 (f+1) la true knA kn ls H Q:=by
 subst hd
 exact DA.take ho hB hc hQ hw hv h
theorem DA.takeLD (k:Nat) (d:Option Nat) (kv:KV) (ho:ops[k]? = some (opAt ops k)) (hd:(opAt ops k).dst=d) (hB:takeB P n ops A la k (opAt ops k)=true) (hc:closedOk ops.toList bs=true) (hQ:∀c a w,¬Q (.panic c) a w) (hw:wantV ops kn (opAt ops k)=some true) (hv:locDet P knA ls1 (opAt ops k)=some kv)
  (h:DA P ne m E n ops bs A H1 ls1 f (la.setIfInBounds k true) true (putV knA d kv) (putV kn d kv) ls H Q):DA P ne m E n ops bs A H1 ls1 (f+1) la true knA kn ls H Q:=by
 subst hd
 exact DA.takeL ho hB hc hQ hw hv h
theorem DA.actLD (k:Nat) (d:Option Nat) (kv:KV) (ls':Lcs) (ag':Bool) (ho:ops[k]? = some (opAt ops k)) (hdd:(opAt ops k).dst=d) (hr:(Region.ready .any ops la).contains k=true) (hc:closedOk ops.toList bs=true) (hw:wantV ops kn (opAt ops k)=some true) (hd:dstV n (opAt ops k)=true) (hl:locOp P kn ls (opAt ops k)=some (kv,ls'))
  (ha:((!demO ops A bs k||(ag&&notStore (opAt ops k)))&&(!ag'||(ag&&notStore (opAt ops k))))=true)
  (h:DA P ne m E n ops bs A H1 ls1 f (la.setIfInBounds k true) ag' (dropV d knA) (putV kn d kv) ls' H Q):DAk P ne m E n ops bs A H1 ls1 k f la ag knA kn ls H Q:=by
 subst hdd
 exact DA.actL ag' ho hr hc hw hd hl ha h
theorem DA.actHD (k:Nat) (d:Option Nat) (m2:Nat) (ag':Bool) (v:Value) (ho:ops[k]? = some (opAt ops k)) (hdd:(opAt ops k).dst=d) (hr:(Region.ready .any ops la).contains k=true) (hc:closedOk ops.toList bs=true) (hB:(opV P n ops kn (opAt ops k)&&noCall (opAt ops k))=true) (hv:runOp P (NE.plain 0) ih0 m2 (opAt ops k) (evV kn) H=some (v,H'))
  (hm:m≤m2) (hm2:(demO ops A bs k||ag')=true→H.next≤m2∨H1.next≤m2) (ha:((!demO ops A bs k||ag)&&(!ag'||ag))=true)
  (h:DA P ne m E n ops bs A H1 ls1 f (la.setIfInBounds k true) ag' (dropV d knA) (putV kn d (.val v)) ls H' Q):DAk P ne m E n ops bs A H1 ls1 k f la ag knA kn ls H Q:=by
 subst hdd
 rw [Bool.and_eq_true] at hB
 exact DA.actH m2 ag' ho hr hc hB.1 hv hB.2 hm hm2 ha h
theorem DA.actCD (k:Nat) (d:Option Nat) (m2:Nat) (ag':Bool) {v:Value} (g:Nat) (args:Array Value) (ho:ops[k]? = some (opAt ops k)) (hdd:(opAt ops k).dst=d) (hr:(Region.ready .any ops la).contains k=true) (hc:closedOk ops.toList bs=true) (hB:opV P n ops kn (opAt ops k)=true) (hcl:callV kn (opAt ops k)=some (g,args)) (hcs:CallS P ne m2 g args H v H')
  (hm:m≤m2) (hm2:(demO ops A bs k||ag')=true→H.next≤m2∨H1.next≤m2) (ha:((!demO ops A bs k||ag)&&(!ag'||ag))=true)
  (h:DA P ne m E n ops bs A H1 ls1 f (la.setIfInBounds k true) ag' (dropV d knA) (putV kn d (.val v)) ls H' Q):DAk P ne m E n ops bs A H1 ls1 k f la ag knA kn ls H Q:=by
 subst hdd
 exact DA.actC m2 ag' g args ho hr hc hB hcl hcs hm hm2 ha h
theorem zf {a:Addr} {i:Nat}:rdCells H a i 0=some []:=rfl
end Go.Abs
namespace Go.Abs
variable {P:Program} {ne:NE} {m n:Nat}
section
variable {E:Ent} {kn:KN} {ls:Lcs} {H:AH} {a:Act} {w:World} {φ:Inj} {cs:List Nat} {Q:Exit→Act→World→Prop}
def ldO (p:Nat) (t:TypeId):Oper:={ dst:=none,op:=.load t (.tmp p),type:=0,pos:=default,after:=#[],guard:=none }
def cellV (P:Program) (kn:KN) (ls:Lcs) (H:AH) (p:Nat) (t:TypeId):Option Value :=
 match lkV kn p with
 | some (.loc _ _)=>match locDet P kn ls (ldO p t) with
  | some (.val v)=>some v
  | _=>none
 | some (.val (.pointer (some q)))=>aLoad P t q H
 | _=>none
def resL (P:Program) (kn:KN) (ls:Lcs) (H:AH):List ResultVar→Option (List Value)
 | []=>some []
 | .tmp t :: l=>match lkV kn t,resL P kn ls H l with
  | some (.val u),some us=>some (u :: us)
  | _,_=>none
 | .cell p t :: l=>match cellV P kn ls H p t,resL P kn ls H l with
  | some u,some us=>some (u :: us)
  | _,_=>none
def resF (P:Program) (fn:Func) (kn:KN) (ls:Lcs) (H:AH):Option Value :=
 match resL P kn ls H fn.results.toList with
 | some [v]=>some v
 | some l=>some (.tuple l.toArray)
 | none=>none
def RT (P:Program) (ne:NE) (m:Nat) (E:Ent) (fn:Func) (v:Value) (H:AH) (a:Act) (w:World):Prop :=
 ∃n kn ls,SS P ne m E n kn ls H a w∧resF P fn kn ls H=some v
def retS (P:Program) (ne:NE) (m:Nat) (E:Ent) (fn:Func) (v:Value) (H:AH):Exit→Act→World→Prop
 | .normal,a,w | .ret,a,w=>RT P ne m E fn v H a w
 | _,_,_=>False
def argV:Nat→List Value→KN
 | _,[]=>[]
 | i,v :: l=>(i,.val v) :: argV (i+1) l
theorem zrw:∀(l:List Value) (i t:Nat) (kv:KV),lkV (argV i l) t=some kv→∃v,kv=.val v∧i≤t∧l[t - i]? = some v:=by
 intro l
 induction l with
 | nil=>intro i t kv h; cases h
 | cons v l ih =>
  intro i t kv h
  simp only [argV,lkV] at h
  cases hb:Nat.beq i t with
  | true =>
   rw [hb] at h
   have:=Nat.eq_of_beq_eq_true hb
   subst this
   cases h
   exact ⟨v,rfl,Nat.le_refl _,by simp⟩
  | false =>
   rw [hb] at h
   have hne:=Nat.ne_of_beq_eq_false hb
   obtain ⟨u,h1,h2,h3⟩:=ih _ _ _ h
   refine ⟨u,h1,by omega,?_⟩
   rw [show t - i=(t - (i+1))+1 by omega]
   simpa using h3
theorem zoa (hs:SSφ P ne m E n kn ls H a w φ cs) {p:Nat} {t:TypeId} {v:Value} (h:cellV P kn ls H p t=some v):∃v',(resV a.tmps (.cell p t)).run P w=.ok v' w∧VR φ v v':=by
 unfold cellV at h
 split at h
 ·rename_i i off hk
  split at h
  ·rename_i u hu
   simp only [Option.some.injEq] at h
   subst h
   obtain ⟨v',h1,h2⟩:=zhw hu (DC.mk hs.glob hs.inv (fun i c x h1 h2=>(hs.loc i c x h1 h2).2) hs.len) (fun t kv hl=>hs.slot t kv hl:KA φ cs kn a)
   refine ⟨v',?_,h1⟩
   have h3:=h2 w (agree.refl w)
   obtain ⟨c,_,hp⟩:=zbq hs hk
   have he:a.eval (.tmp p)=.pointer (some ⟨c,off,none⟩):=hp
   simp only [ldO,execOp,he,Instr.loadAt,Instr.sureAddr,Sem.run_bind,Sem.run_pure,Result.andThen_ok] at h3
   simp only [resV,hp,asAddr,Sem.run_bind,Sem.run_pure,Result.andThen_ok]
   generalize (loadVar t ⟨c,off,none⟩).run P w=q at h3 ⊢
   cases q <;> simp [Result.andThen,Sem.run_pure] at h3
   obtain ⟨rfl,rfl⟩:=h3
   rfl
  ·cases h
 ·rename_i q hk
  have hp:=hs.slot p _ hk
  obtain ⟨q',hq2,hqa⟩:=VR.ptr_inv hp
  obtain ⟨v',h3,h4⟩:=zhd hs.inv h hqa
  refine ⟨v',?_,h4⟩
  simp only [resV,Sem.run_bind,hq2]
  exact h3
 ·cases h
theorem zpe (hs:SSφ P ne m E n kn ls H a w φ cs):∀{l:List ResultVar} {vs:List Value},resL P kn ls H l=some vs→∃vs',(l.mapM (resV a.tmps)).run P w=.ok vs' w∧LR φ vs vs':=by
 intro l
 induction l with
 | nil=>intro vs h; simp only [resL,Option.some.injEq] at h; subst h; exact ⟨[],rfl,.nil⟩
 | cons r l ih =>
  intro vs h
  cases r with
  | tmp t =>
   simp only [resL] at h
   split at h
   ·rename_i u us h1 h2
    simp only [Option.some.injEq] at h
    subst h
    obtain ⟨vs',h3,h4⟩:=ih h2
    refine ⟨a.tmps.getD t undef :: vs',?_,.cons (hs.slot t _ h1) h4⟩
    rw [List.mapM_cons]
    have hA:(resV a.tmps (.tmp t)).run P w=.ok (a.tmps.getD t undef) w:=rfl
    simp only [Sem.run_bind,hA,Sem.run_pure,Result.andThen_ok,h3]
   ·cases h
  | cell p t =>
   simp only [resL] at h
   split at h
   ·rename_i u us h1 h2
    simp only [Option.some.injEq] at h
    subst h
    obtain ⟨vs',h3,h4⟩:=ih h2
    obtain ⟨v',h5,h6⟩:=zoa hs h1
    refine ⟨v' :: vs',?_,.cons h6 h4⟩
    rw [List.mapM_cons]
    simp only [Sem.run_bind,h5,Sem.run_pure,Result.andThen_ok,h3]
   ·cases h
theorem CallS.mk {f:Nat} {fn:Func} {B:Code} {args:List Value} {H H':AH} {v:Value} (hf:P.funcs[f]? = some fn) (hb:fn.body=some B) (h:∀E:Ent,E.H=H→WS P ne m E fn.ntmps B (argV 0 args) [] H (retS P ne m E fn v H')):CallS P ne m f args.toArray H v H':=by
 intro hS
 refine ⟨⟨fn,B,hf,hb⟩,fun φ w args' hg ha hi=>?_⟩
 have hent:SS P ne m ⟨φ,H,w⟩ fn.ntmps (argV 0 args) [] H { tmps:=args'++Array.replicate (fn.ntmps - args'.size) undef,defers:=[] } w:=by
  refine ⟨φ,[],hg,hi,Step.refl _ _ _ _,rfl,fun i c x hc=>(by cases hc),fun i j c hc=>(by cases hc),fun i c hc=>(by cases hc),fun t kv hl=>?_,by simp; omega,rfl,hS,hi⟩
  obtain ⟨v,rfl,_,h2⟩:=zrw _ _ _ _ hl
  rw [Nat.sub_zero] at h2
  have:args.toArray[t]? = some v:=by simpa using h2
  obtain ⟨y,hy,hv⟩:=ha.get this
  have hlt:t<args'.size:=by rw [Array.getElem?_eq_some_iff] at hy; exact hy.1
  show VR φ v _
  rw [Array.getD_eq_getD_getElem?,Array.getElem?_append,if_pos hlt,hy]
  exact hv
 have hw:=h ⟨φ,H,w⟩ rfl _ _ hent
 refine calls_of_wp hf hb (wp_mono hw fun e a w' hpost=>?_)
 have fin:RT P ne m ⟨φ,H,w⟩ fn v H' a w'→a.defers=[]∧∃v',(results fn a.tmps).run P w'=.ok v' w'∧(∃φ' v'',Ending.returned v'=.returned v''∧VR φ' v v''∧Inv φ' H' w'∧Step m φ H w φ' H' w'):=by
  rintro ⟨n,kn,ls,⟨φ',cs,hs⟩,hr⟩
  refine ⟨hs.defers,?_⟩
  have main:∃(vs vs':List Value),(fn.results.toList.mapM (resV a.tmps)).run P w'=.ok vs' w'∧LR φ' vs vs'∧v=(if h:vs.length=1 then vs[0]'(by omega) else .tuple vs.toArray):=by
   unfold resF at hr
   cases hl:resL P kn ls H' fn.results.toList with
   | none=>rw [hl] at hr; cases hr
   | some vs =>
    rw [hl] at hr
    obtain ⟨vs',h1,h2⟩:=zpe hs hl
    refine ⟨vs,vs',h1,h2,?_⟩
    split at hr
    ·rename_i u he
     cases he
     cases hr
     rfl
    ·rename_i l hne he
     cases he
     cases hr
     rw [dif_neg ?_]
     intro h1
     match vs,h1 with
     | [u],_=>exact hne u rfl
    ·cases hr
  obtain ⟨vs,vs',h1,h2,h3⟩:=main
  have hm:(fn.results.mapM (resV a.tmps)).run P w'=.ok vs'.toArray w':=by
   rw [Array.mapM_eq_mapM_toList]
   show Sem.run P (List.toArray <$> _) w'=_
   rw [Sem.run_map,h1]; rfl
  have hlen:=LR.length h2
  have hres:(results fn a.tmps).run P w'=.ok (if h:vs'.toArray.size=1 then vs'.toArray[0] else .tuple vs'.toArray) w':=by
   rw [zge,Sem.run_bind,hm,Result.andThen_ok]; rfl
  refine ⟨_,hres,φ',_,rfl,?_,hs.inv,hs.step⟩
  rw [h3]
  by_cases h1':vs.length=1
  ·rw [dif_pos h1',dif_pos (by simpa [← hlen] using h1')]
   cases h2 with
   | nil=>cases h1'
   | cons hv ht=>exact hv
  ·rw [dif_neg h1',dif_neg (by simpa [← hlen] using h1')]
   have:=AR_iff.2 (show LR φ' vs.toArray.toList vs'.toArray.toList by simpa using h2)
   exact .tuple _ _ this.1 this.2
 cases e with
 | normal=>exact fin hpost
 | ret=>exact fin hpost
 | _=>exact hpost.elim
theorem rtR {fn:Func} {v:Value} (h:RT P ne m E fn v H a w):retS P ne m E fn v H .ret a w:=h
theorem rtS {fn:Func} {v:Value} (hs:SS P ne m E n kn ls H a w) (h:resF P fn kn ls H=some v):RT P ne m E fn v H a w:=⟨n,kn,ls,hs,h⟩
theorem WS.toone {c:Code} (kn2:KN) (ls2:Lcs) (H2:AH) (h:WS P ne m E n c kn ls H (jnS P ne m E n kn2 ls2 H2 (fun _ _ _=>False))) (hN:∀a w,SS P ne m E n kn2 ls2 H2 a w→Q .normal a w):WS P ne m E n c kn ls H Q:=by
 refine fun a w hs=>wp_mono (h a w hs) fun e a w hq=>?_
 cases e with
 | normal=>exact hN a w hq
 | _=>exact hq.elim
end
end Go.Abs
namespace Go.Abs
variable {P:Program} {ne:NE} {m n:Nat}
def pureOp (P:Program) (o:Oper) (ρ:Operand→Value):Option Value :=
 match o.op with
 | .load ..=>none
 | .lookup ..=>none
 | _=>detOp P ⟨0,.nil⟩ o ρ
theorem zok {φ:Inj} {o:Oper} {ρ ρ':Operand→Value} {v:Value} (hρ:∀x∈o.op.operands,VR φ (ρ x) (ρ' x)) (h:pureOp P o ρ=some v) :
  ∃v',VR φ v v'∧∀w,(execOp ρ' o).run P w=.ok (.value v') w:=by
 have hnl:(∀t x,o.op≠.load t x)∧(∀t x k ok,o.op≠.lookup t x k ok)∧detOp P ⟨0,.nil⟩ o ρ=some v:=by
  unfold pureOp at h
  split at h
  ·cases h
  ·cases h
  ·rename_i q1 q2; exact ⟨fun t x e=>q1 t x e,fun t x k ok e=>q2 t x k ok e,h⟩
 clear h
 obtain ⟨n1,n2,h⟩:=hnl
 unfold detOp at h
 cases ht:tPure P o ρ with
 | some u =>
  rw [ht] at h
  simp only [Option.some.injEq] at h
  subst h
  obtain ⟨v',h1,h2⟩:=zdb hρ ht
  exact ⟨v',h1,h2⟩
 | none =>
  rw [ht] at h
  simp only at h
  have fl:(match flatRun P o ρ ⟨0,.nil⟩ with | some (v,_)=>some v | none=>none)=some v→(∀w,∀nx,(execOp ρ' o).run P w=.ok nx w→nx≠.skip)→∃v',VR φ v v'∧∀w,(execOp ρ' o).run P w=.ok (.value v') w:=by
   intro h hns
   cases hf:flatRun P o ρ ⟨0,.nil⟩ with
   | none=>rw [hf] at h; cases h
   | some p =>
    obtain ⟨u,H'⟩:=p
    rw [hf] at h
    simp only [Option.some.injEq] at h
    subst h
    obtain ⟨v',h1,h2⟩:=zj4 hρ hf hns
    exact ⟨v',h1,h2⟩
  obtain ⟨dst,op,ty,pos,after,guard⟩:=o
  simp only at h hρ n1 n2
  split at h
  ·exact (n1 _ _ rfl).elim
  ·exact (n2 _ _ _ _ rfl).elim
  ·rename_i x i
   have hx:=hρ x (by simp [Op.operands])
   split at h
   ·rename_i cs hc
    rw [hc] at hx
    generalize hq:ρ' x=q at hx
    cases hx with
    | tuple f f' hf h1 =>
     have hlt:i<f'.size:=by
      rw [Array.getElem?_eq_some_iff] at h
      obtain ⟨h,_⟩:=h
      omega
     refine ⟨f'[i],h1 i _ _ h (by simp [hlt]),fun w=>?_⟩
     have hrun:(Instr.extract (.tuple f') i).run P w=.ok f'[i] w:=by
      simp only [Instr.extract]
      simp [hlt]
     simp only [execOp,hq,Sem.run_bind,hrun,Result.andThen_ok]
     rfl
   ·cases h
  ·rename_i args ts
   split at h
   ·rename_i e b k c hu hl
    simp only [Option.some.injEq] at h
    subst h
    have hargs:AR φ (args.map ρ) (args.map ρ'):=ar_map args fun x hx=>hρ x (by simp [Op.operands,Call.operands,hx])
    obtain ⟨_,x',hx',hv⟩:=ar_one hargs hl
    obtain ⟨b',c',rfl⟩:=z6y hv
    refine ⟨goInt k,.int _ _,fun w=>?_⟩
    cases hts:ts[0]? with
    | none=>rw [hts] at hu; cases hu
    | some t =>
     rw [hts] at hu
     have hu:P.underlying t=some (.slice e):=hu
     have hrun:(Builtin.len_ ts ty (args.map ρ')).run P w=.ok (goInt k) w:=by
      rw [hx']
      simp [Builtin.len_,hts,zh hu]
     show (do pure (Next.value (← Builtin.len_ ts ty (args.map ρ'))):Sem Next).run P w=_
     rw [Sem.run_bind,hrun]; rfl
   ·exact fl h fun w nx hr=>z29 (s:=Builtin.len_ ts ty (args.map ρ')) hr
  ·rename_i bo t x y u
   exact fl h fun w nx hr=>z29 (s:=(do eqGuard bo t x y (ρ' x) (ρ' y); binOp bo t (ρ' x) (ρ' y))) hr
  ·rename_i uo t x
   exact fl h fun w nx hr=>z29 (s:=Op.unary uo (ρ' x)) hr
  ·rename_i t ps
   exact fl h fun w nx hr=>z29 (s:=Instr.build t (ps.map fun (i,x)=>(i,ρ' x))) hr
  ·rename_i c x y
   exact fl h fun w nx hr=>by
    simp only [execOp,Sem.run_bind] at hr
    cases hb:(asBool (ρ' c)).run P w with
    | ok b w' =>
     rw [hb] at hr
     have:Result.ok (Next.value (if b then ρ' x else ρ' y)) w'=Result.ok nx w:=hr
     simp only [Result.ok.injEq] at this
     rw [← this.1]; intro e; cases e
    | halt z w'=>rw [hb] at hr; cases hr
  ·rename_i t x f
   exact fl h fun w nx hr=>z29 (s:=Instr.field t (ρ' x) f) hr
  ·rename_i t x y
   exact fl h fun w nx hr=>z29 (s:=Instr.index t (ρ' x) (ρ' y)) hr
  ·rename_i s d x
   split at h
   ·exact fl h fun w nx hr=>z29 (s:=convert s d (ρ' x)) hr
   ·exact fl h fun w nx hr=>z29 (s:=convert s d (ρ' x)) hr
   ·cases h
  ·cases h
variable {ops:Array Oper} {Q:Exit→Act→World→Prop} {bs A:List Nat} {w1:World}
theorem z8q {i:Nat} {oi:Oper} {v:Value} (hi:ops[i]? = some oi) (hc:closedOk ops.toList bs=true) (hsel:∀(j:Nat) (o:Oper) cs b,ops[j]? = some o→o.op≠.select cs b)
  (hQ:∀c a w,¬Q (.panic c) a w) :
  ∀(fuel:Nat) (la:Array Bool) (a:Act) (w:World),JC ops bs la →
   (∀j oj,ops[j]? = some oj→j≠i→la.getD j true=false→(∀e∈oj.after,Region.binds .any e=true→e.on≠i)→oi.apart ops oj=true) →
   i∈Region.ready .any ops la→YieldsIf P ops (fun _=>True) oi v a→demO ops A bs i=false →
   wpAnyD P ops Q bs A w1 fuel (la.setIfInBounds i true) (a.put oi.dst v) w→wpAnyD P ops Q bs A w1 (fuel+1) la a w:=by
 intro fuel
 induction fuel with
 | zero =>
  intro la a w hJ _ hr hy hS H
  refine ⟨fun h=>(by rw [h] at hr; cases hr),fun j hj=>?_⟩
  by_cases hji:j=i
  ·subst hji; exact hy.wpOp hi trivial ⟨fun hh=>(by rw [hS] at hh; cases hh),H⟩
  ·have:=ready_mono hj hji
   rw [H.1] at this
   cases this
 | succ fuel ih =>
  intro la a w hJ hfree hr hy hS H
  refine ⟨fun h=>(by rw [h] at hr; cases hr),fun j hj=>?_⟩
  by_cases hji:j=i
  ·subst hji; exact hy.wpOp hi trivial ⟨fun hh=>(by rw [hS] at hh; cases hh),H⟩
  ·have h1:=H.2 j (ready_mono hj hji)
   have r:=rdy_of hc hJ hj
   have ri:=rdy_of hc hJ hr
   obtain ⟨hjun,oj,hoj,hall⟩:=mem_ready.1 hj
   have hnot:∀e∈oj.after,Region.binds .any e=true→e.on≠i:=fun e he hb heq=>by
    have h1:=hall e he hb
    have h0:=(mem_ready.1 hr).1
    rw [heq] at h1
    rcases Nat.lt_or_ge i la.size with h' | h'
    ·simp [h'] at h0 h1; rw [h0] at h1; cases h1
    ·simp [Array.getElem?_eq_none h'] at h1
   have h2:=wpOp_putIf hoj (hfree j oj hoj hji hjun hnot) (fun cs b=>hsel i oi cs b hi) (fun cs b=>hsel j oj cs b hoj) (fun c a w h=>absurd h (hQ c _ w)) hy h1
   have hfree':∀k ok,ops[k]? = some ok→k≠i→(la.setIfInBounds j true).getD k true=false →
     (∀e∈ok.after,Region.binds .any e=true→e.on≠i)→oi.apart ops ok=true:=fun k ok hk hki hun hno=>by
    refine hfree k ok hk hki ?_ hno
    by_cases hjk:j=k
    ·subst hjk; exact hjun
    ·rw [getD_set_ne true hjk] at hun; exact hun
   refine wpOp_mono (fun a' w' h3=>⟨h3.2.1,ih (la.setIfInBounds j true) a' w' (hJ.next r) hfree' (ready_mono hr (Ne.symm hji)) h3.1 hS ?_⟩) h2
   rw [Array.setIfInBounds_comm _ _ hji]
   exact h3.2.2
theorem znl {φ1:Inj} {cs1:List Nat} {knA:KN} {ls1:Lcs} {a:Act} {o:Oper} {kv:KV} (hnl:∀t x,o.op≠.load t x) (h:locDet P knA ls1 o=some kv) (hka:KA φ1 cs1 knA a):∃v',KR φ1 cs1 kv v'∧∀w,(execOp a.eval o).run P w=.ok (.value v') w:=by
 unfold locDet at h
 have hl:∃ls',locOp P knA ls1 o=some (kv,ls'):=by
  split at h
  all_goals first | (cases hq:locOp P knA ls1 o with | none=>rw [hq] at h; cases h | some p=>obtain ⟨x,y⟩:=p; rw [hq] at h; simp only [Option.map_some,Option.some.injEq] at h; subst h; exact ⟨y,rfl⟩) | cases h
 obtain ⟨ls',hl⟩:=hl
 obtain ⟨dst,op,ty,pos,after,guard⟩:=o
 unfold locOp at hl
 simp only at hl h hnl
 split at hl
 ·rename_i t
  split at hl
  ·rename_i i off hk
   simp only [Option.some.injEq,Prod.mk.injEq] at hl
   obtain ⟨rfl,rfl⟩:=hl
   exact ⟨a.tmps.getD t undef,hka t _ hk,fun w=>rfl⟩
  ·cases hl
 ·rename_i t
  split at hl
  ·rename_i i off hk
   simp only [Option.some.injEq,Prod.mk.injEq] at hl
   obtain ⟨rfl,rfl⟩:=hl
   exact ⟨a.tmps.getD t undef,hka t _ hk,fun w=>rfl⟩
  ·cases hl
 ·rename_i t
  split at hl
  ·rename_i i off hk
   simp only [Option.some.injEq,Prod.mk.injEq] at hl
   obtain ⟨rfl,rfl⟩:=hl
   refine ⟨a.tmps.getD t undef,hka t _ hk,fun w=>?_⟩
   obtain ⟨c,h1,h2⟩:=hka t _ hk
   have:a.eval (.tmp t)=.pointer (some ⟨c,off,none⟩):=h2
   simp only [execOp,this]
   rw [h2]; rfl
  ·cases hl
 ·rename_i s t f
  split at hl
  ·rename_i i off fs hk hu
   cases hf:fs[f]? with
   | none=>rw [hf] at hl; cases hl
   | some fd =>
    rw [hf] at hl
    simp only at hl
    cases hi:P.info? fd.type with
    | none=>rw [hi] at hl; cases hl
    | some inf =>
     rw [hi] at hl
     simp only at hl
     cases hz:Nat.beq inf.size 0 with
     | true=>rw [hz] at hl; cases hl
     | false =>
      rw [hz] at hl
      simp only [cond_false,Option.some.injEq,Prod.mk.injEq] at hl
      obtain ⟨rfl,rfl⟩:=hl
      obtain ⟨c,h1,h2⟩:=hka t _ hk
      have he:a.eval (.tmp t)=.pointer (some ⟨c,off,none⟩):=h2
      refine ⟨.pointer (some ⟨c,off+fd.offset,none⟩),⟨c,h1,rfl⟩,fun w=>?_⟩
      have hne:=Nat.ne_of_beq_eq_false hz
      have hrun:(Instr.fieldAt s (.pointer (some ⟨c,off,none⟩)) f).run P w=.ok (.pointer (some ⟨c,off+fd.offset,none⟩)) w:=by
       simp only [Instr.fieldAt,Sem.run_bind,zh hu,Result.andThen_ok,hf,Instr.sureAddr,Sem.run_pure,fieldPlace,z27 hi]
       rw [if_neg hne]
       simp only [Sem.run_pure,Result.andThen_ok,Addr.add_lit]
      simp only [execOp,he,Sem.run_bind,hrun,Result.andThen_ok]
      rfl
  ·cases hl
 ·exact (hnl _ _ rfl).elim
 all_goals first | (simp only [reduceCtorEq] at h; done) | (cases hl; done)
section
variable {E:Ent} {knA kn:KN} {ls ls1:Lcs} {H H1:AH} {f k:Nat} {la:Array Bool} {ag:Bool}
def takeQ (P:Program) (n:Nat) (ops:Array Oper) (A bs:List Nat) (la:Array Bool) (k:Nat) (o:Oper):Bool :=
 !(demO ops A bs k)&&Region.noSelect ops&&Region.free .any ops la k&&(Region.ready .any ops la).contains k&&dstV n o
theorem DA.takeP (k:Nat) (d:Option Nat) (v:Value) (ho:ops[k]? = some (opAt ops k)) (hd:(opAt ops k).dst=d) (hB:takeQ P n ops A bs la k (opAt ops k)=true) (hc:closedOk ops.toList bs=true) (hQ:∀c a w,¬Q (.panic c) a w)
  (hw:(wantV ops kn (opAt ops k),(opAt ops k).op.operands.all (okx P),(opAt ops k).op.operands.all (knownV kn))=(some true,true,true)) (hv:pureOp P (opAt ops k) (evV kn)=some v)
  (h:DA P ne m E n ops bs A H1 ls1 f (la.setIfInBounds k true) ag (dropV d knA) (putV kn d (.val v)) ls H Q):DA P ne m E n ops bs A H1 ls1 (f+1) la ag knA kn ls H Q:=by
 subst hd
 intro w1 φ1 cs1 a w φ cs hd hle hs hka hpf hJ hag
 unfold takeQ at hB
 simp only [Bool.and_eq_true] at hB
 obtain ⟨⟨⟨⟨b1,b2⟩,b3⟩,b4⟩,b5⟩:=hB
 have hr:k∈Region.ready .any ops la:=by simpa using b4
 simp only [Prod.mk.injEq] at hw
 obtain ⟨hw1,hw2,hw3⟩:=hw
 rw [Array.all_eq_true_iff_forall_mem] at hw2 hw3
 obtain ⟨v',h1,h2⟩:=zok (ρ':=a.eval) (fun x hx=>hs.eval (hw3 x hx) (hw2 x hx)) hv
 refine z8q ho hc (Region.noSelect_spec b2) hQ f la a w hJ (Region.free_spec ho b3) hr (.inl ⟨z4y hs hw1,fun w _=>h2 w⟩) (by simpa using b1) ?_
 exact h w1 φ1 cs1 _ w φ cs hd hle (hs.put b5 h1) (hka.drop _ _) hpf (hJ.next (rdy_of hc hJ hr)) hag
theorem DA.takePL (k:Nat) (d:Option Nat) (kv:KV) (ho:ops[k]? = some (opAt ops k)) (hd:(opAt ops k).dst=d) (hB:takeQ P n ops A bs la k (opAt ops k)=true) (hc:closedOk ops.toList bs=true) (hQ:∀c a w,¬Q (.panic c) a w)
  (hw:wantV ops kn (opAt ops k)=some true) (hv:(match (opAt ops k).op with | .load ..=>none | _=>locDet P kn ls (opAt ops k))=some kv)
  (h:DA P ne m E n ops bs A H1 ls1 f (la.setIfInBounds k true) ag (dropV d knA) (putV kn d kv) ls H Q):DA P ne m E n ops bs A H1 ls1 (f+1) la ag knA kn ls H Q:=by
 subst hd
 intro w1 φ1 cs1 a w φ cs hd hle hs hka hpf hJ hag
 unfold takeQ at hB
 simp only [Bool.and_eq_true] at hB
 obtain ⟨⟨⟨⟨b1,b2⟩,b3⟩,b4⟩,b5⟩:=hB
 have hr:k∈Region.ready .any ops la:=by simpa using b4
 have hv2:locDet P kn ls (opAt ops k)=some kv:=by
  split at hv
  ·cases hv
  ·exact hv
 have hnl:∀t x,(opAt ops k).op≠.load t x:=by
  intro t x e
  rw [e] at hv
  cases hv
 obtain ⟨v',h1,h2⟩:=znl hnl hv2 (fun t kv hl=>hs.slot t kv hl:KA φ cs kn a)
 refine z8q ho hc (Region.noSelect_spec b2) hQ f la a w hJ (Region.free_spec ho b3) hr (.inl ⟨z4y hs hw,fun w _=>h2 w⟩) (by simpa using b1) ?_
 exact h w1 φ1 cs1 _ w φ cs hd hle (hs.put b5 h1) (hka.drop _ _) hpf (hJ.next (rdy_of hc hJ hr)) hag
theorem DA.tskipP (k:Nat) (d:Option Nat) (ho:ops[k]? = some (opAt ops k)) (hd:(opAt ops k).dst=d) (hB:takeQ P n ops A bs la k (opAt ops k)=true) (hc:closedOk ops.toList bs=true) (hQ:∀c a w,¬Q (.panic c) a w) (hw:wantV ops kn (opAt ops k)=some false)
  (h:DA P ne m E n ops bs A H1 ls1 f (la.setIfInBounds k true) ag (dropV d knA) (putV kn d (.val undef)) ls H Q):DA P ne m E n ops bs A H1 ls1 (f+1) la ag knA kn ls H Q:=by
 subst hd
 intro w1 φ1 cs1 a w φ cs hd hle hs hka hpf hJ hag
 unfold takeQ at hB
 simp only [Bool.and_eq_true] at hB
 obtain ⟨⟨⟨⟨b1,b2⟩,b3⟩,b4⟩,b5⟩:=hB
 have hr:k∈Region.ready .any ops la:=by simpa using b4
 refine z8q (v:=undef) ho hc (Region.noSelect_spec b2) hQ f la a w hJ (Region.free_spec ho b3) hr (.inr ⟨z4y hs hw,rfl⟩) (by simpa using b1) ?_
 exact h w1 φ1 cs1 _ w φ cs hd hle (hs.put b5 (kv:=.val undef) (z5b _)) (hka.drop _ _) hpf (hJ.next (rdy_of hc hJ hr)) hag
end
def notRead (o:Oper):Bool:=match o.op with
 | .load ..=>false
 | .lookup ..=>false
 | _=>true
theorem zo7 {o:Oper} {ρ:Operand→Value} {v:Value} (hn:notRead o=true) (h:detOp P ⟨0,.nil⟩ o ρ=some v):pureOp P o ρ=some v:=by
 unfold pureOp
 unfold notRead at hn
 split
 ·rename_i e; rw [e] at hn; cases hn
 ·rename_i e; rw [e] at hn; cases hn
 ·exact h
end Go.Abs
namespace Go.Abs
variable {P:Program} {ne:NE} {m n:Nat}
variable {E:Ent} {kn knA:KN} {ls ls1:Lcs} {H H1 H':AH} {ops:Array Oper} {k:Nat} {Q:Exit→Act→World→Prop} {bs A:List Nat} {f:Nat} {la:Array Bool} {ag:Bool}
def bsB (P:Program) (t:TypeId) (len:Nat) (ps:Array (Nat×Value)):Option (TypeId×List Value) :=
 match P.underlying t with
 | some (.slice e)=>match P.info? e with
  | some inf=>match inf.zero with
   | some z=>bif Nat.ble (len*inf.size) 1000000&&flat depth z&&!(Nat.beq (len*inf.size) 0)&&Nat.blt len OPEN then
     (Instr.fill (fun i=>some (i*inf.size,inf.size)) ((Array.range (len*inf.size)).map (z.cells[· % z.cells.size]!)) ps.toList).map fun cs=>(e,cs.toList)
    else none
   | none=>none
  | none=>none
 | _=>none
theorem bs_run {φ:Inj} {t:TypeId} {len:Nat} {ps ps':Array (Nat×Value)} {e:TypeId} {l:List Value} (h:bsB P t len ps=some (e,l)) (hp:F2 (PR φ) ps.toList ps'.toList) (w:World) :
  len≠OPEN∧∃cs',(Instr.buildSlice t len ps').run P w=.ok (.slice (some ⟨w.heap.size,0,none⟩) len len) { w with heap:=w.heap.push (.cells cs' e (0,0)) }∧AR φ l.toArray cs':=by
 unfold bsB at h
 split at h
 ·rename_i el hu
  cases hi:P.info? el with
  | none=>rw [hi] at h; cases h
  | some inf =>
   rw [hi] at h
   simp only at h
   cases hz:inf.zero with
   | none=>rw [hz] at h; cases h
   | some z =>
    rw [hz] at h
    simp only at h
    cases hc:(Nat.ble (len*inf.size) 1000000&&flat depth z&&!(Nat.beq (len*inf.size) 0)&&Nat.blt len OPEN) with
    | false=>rw [hc] at h; cases h
    | true =>
     rw [hc] at h
     simp only [cond_true] at h
     simp only [Bool.and_eq_true] at hc
     obtain ⟨⟨⟨c1,c2⟩,c3⟩,c4⟩:=hc
     have c1:=Nat.le_of_ble_eq_true c1
     have c3:len*inf.size≠0:=by
      intro e0
      rw [e0] at c3
      cases c3
     have c4:=blt_lt c4
     refine ⟨fun e0=>by rw [e0] at c4; exact absurd c4 (Nat.lt_irrefl _),?_⟩
     have hzc:AR φ z.cells z.cells:=z4u c2
     rcases ze6 (φ:=φ) (fun i=>some (i*inf.size,inf.size)) _ _ _ _ hp (zcc hzc (len*inf.size)) with ⟨e1,e2⟩ | ⟨o,o',e1,e2,ho⟩
     ·rw [e1] at h; cases h
     ·rw [e1] at h
      simp only [Option.map_some,Option.some.injEq,Prod.mk.injEq] at h
      obtain ⟨rfl,rfl⟩:=h
      refine ⟨o',?_,by simpa using ho⟩
      have hzr:(zeroValue el).run P w=.ok z w:=z7w (by rw [hi]; exact hz) w
      unfold Instr.buildSlice
      simp only [Sem.run_bind,zh hu,Result.andThen_ok,z27 hi]
      rw [if_neg (by omega),if_neg c3]
      simp only [Sem.run_bind,hzr,Result.andThen_ok,Sem.run_pure,e2]
      rfl
 ·cases h
def lsBS (P:Program) (kn:KN) (ls:Lcs) (o:Oper):Option (KV×Lcs) :=
 match o.op with
 | .buildSlice t len ps=>match bsB P t len (ps.map fun (i,x)=>(i,evV kn x)) with
  | some (e,l)=>some (.sli ls.length len,ls++[some (e,l)])
  | none=>none
 | _=>none
theorem DA.actS (k:Nat) (d:Option Nat) (kv:KV) (ls':Lcs) (ho:ops[k]? = some (opAt ops k)) (hdd:(opAt ops k).dst=d) (hr:(Region.ready .any ops la).contains k=true) (hc:closedOk ops.toList bs=true) (hB:opV P n ops kn (opAt ops k)=true) (hl:lsBS P kn ls (opAt ops k)=some (kv,ls'))
  (ha:(!demO ops A bs k||ag)=true)
  (h:DA P ne m E n ops bs A H1 ls1 f (la.setIfInBounds k true) ag (dropV d knA) (putV kn d kv) ls' H Q):DAk P ne m E n ops bs A H1 ls1 k f la ag knA kn ls H Q:=by
 subst hdd
 intro w1 φ1 cs1 a w φ cs hd1 hle hs hka hpf hJ hag
 unfold opV at hB
 simp only [Bool.and_eq_true] at hB
 obtain ⟨⟨⟨hg,hx⟩,hkn⟩,hd⟩:=hB
 rw [Array.all_eq_true_iff_forall_mem] at hkn hx
 have hw:wantV ops kn (opAt ops k)=some true:=by
  split at hg
  ·assumption
  ·cases hg
 refine zc6 ho hs hw fun K hK=>?_
 have hev:∀x∈(opAt ops k).op.operands,VR φ (evV kn x) (a.eval x):=fun x hxm=>hs.eval (hkn x hxm) (hx x hxm)
 have hh:=h w1 φ1 cs1
 obtain ⟨oo,hoo⟩:∃oo,opAt ops k=oo:=⟨_,rfl⟩
 rw [hoo] at hl hd hev hh ⊢
 obtain ⟨dst,op,ty,pos,after,guard⟩:=oo
 unfold lsBS at hl
 simp only at hl hd
 cases op with
 | buildSlice t len ps =>
  simp only at hl
  cases hb:bsB P t len (ps.map fun (i,x)=>(i,evV kn x)) with
  | none=>rw [hb] at hl; cases hl
  | some p =>
   obtain ⟨e,l⟩:=p
   rw [hb] at hl
   simp only [Option.some.injEq,Prod.mk.injEq] at hl
   obtain ⟨rfl,rfl⟩:=hl
   obtain ⟨hno,cs',hrun,har⟩:=bs_run hb (zd6 ps (ρ:=evV kn) (ρ':=a.eval) hev) w
   obtain ⟨cs2,hs2,hp2,hq2,hn2⟩:=hs.new (e:=e) (v:=.agg l.toArray) (v':=.agg cs') (.agg _ _ har.1 har.2) (d:=none) rfl
   have hs3:=hs2.put (d:=dst) hd (kv:=.sli ls.length len) (v':=.slice (some ⟨w.heap.size,0,none⟩) len len) ⟨⟨_,hq2,rfl⟩,hno⟩
   have hex:(execOp a.eval ⟨dst,.buildSlice t len ps,ty,pos,after,guard⟩).run P w=.ok (.value (.slice (some ⟨w.heap.size,0,none⟩) len len)) { w with heap:=w.heap.push (.cells cs' e (0,0)) }:=by
    simp only [execOp,Sem.run_bind,hrun,Result.andThen_ok]; rfl
   unfold Oper.wp
   rw [hex]
   have hag':ag=true→Agr m H1 w1 cs1 φ { w with heap:=w.heap.push (.cells cs' e (0,0)) } cs2:=fun h1=>by
    obtain ⟨q1,q2,q3⟩:=hag h1
    refine ⟨q1.trans' (zck _ _),q2,fun i c hi hc=>?_⟩
    rcases Nat.lt_or_ge i cs.length with hlt | hge
    ·rw [hp2 i cs[i] (List.getElem?_eq_getElem hlt)] at hc
     cases hc
     exact q3 i _ hi (List.getElem?_eq_getElem hlt)
    ·exact Nat.le_trans (zc1 q1) (hn2 i c hge hc)
   refine hK _ _ ⟨fun hdm=>(hag' (by rw [hdm] at ha; simpa using ha)).ag,?_⟩
   exact hh _ _ φ cs2 hd1 hle (by simpa [putV,Act.put,Value.cells] using hs3) (by simpa using hka.drop dst _) (fun i c hc=>hp2 i c (hpf i c hc)) (ze5 hr hc hJ) hag'
 | _=>cases hl
def newS (e:TypeId) (cells:List Value) (H:AH):Option (Nat×AH):=some (H.next,H.push (pubB e cells))
theorem DA.pubK (i:Nat) {e:TypeId} {cells:List Value} {id:Nat} (kn':KN) (ls':Lcs) (hx:newS e cells H=some (id,H')) (hi:ls[i]? = some (some (e,cells))) (hk:pubK i id kn=kn') (hl:ls.set i none=ls')
  (h:DAk P ne m E n ops bs A H1 ls1 k f la ag knA kn' ls' H' Q) (hnw:(!ag||Nat.ble ls1.length i)=true:=by kernel_rfl):DAk P ne m E n ops bs A H1 ls1 k f la ag knA kn ls H Q:=by
 cases hx
 subst hk hl
 intro w1 φ1 cs1 a w φ cs hd1 hle hs hka hpf hJ hag
 obtain ⟨φ',h1,h3,h2⟩:=hs.pub i hi
 refine h w1 φ1 cs1 a w φ' cs hd1 (fun id l hl=>h1 _ _ (hle _ _ hl)) h2 hka hpf hJ fun hg=>⟨(hag hg).ag,fun id l hid hl=>?_,(hag hg).nw⟩
 rcases h3 id l hl with h4 | h4
 ·exact (hag hg).jn id l hid h4
 ·rw [hg] at hnw
  exact (hag hg).nw i _ (by rw [hd1.len]; simpa using hnw) h4
def isScope:Code→Bool | .scope _=>true | _=>false
theorem WS.scope {c:Code} (hc:isScope c=true) (h:WS P ne m E n (cfst c) kn ls H (Exit.noGoto Q)):WS P ne m E n c kn ls H Q:=by
 cases c with
 | scope b=>exact fun a w hs=>wp_scope_straight (h a w hs)
 | _=>cases hc
theorem sgR {a:Act} {w:World} (h:Q .ret a w):Exit.noGoto Q .ret a w:=h
section
variable {S R:Type} {knOf:S→KN} {lsOf:S→Lcs} {hOf:S→AH} {i:Nat} {QR:R→Exit→Act→World→Prop} {a:Act} {w:World}
def lpX (P:Program) (ne:NE) (m:Nat) (E:Ent) (n:Nat) (knOf:S→KN) (lsOf:S→Lcs) (hOf:S→AH) (i:Nat) (QR:R→Exit→Act→World→Prop) (o:Lp S R):Exit→Act→World→Prop
 | .normal,a,w=>∃s,o=.next s∧SS P ne m E n (knOf s) (lsOf s) (hOf s) a w
 | e,a,w=>(∃s,o=.brk s∧e=.exit i∧SS P ne m E n (knOf s) (lsOf s) (hOf s) a w)∨∃r,o=.ret r∧QR r e a w
theorem lxN {o:Lp S R} {s:S} (ho:o=.next s) (h:SS P ne m E n (knOf s) (lsOf s) (hOf s) a w):lpX P ne m E n knOf lsOf hOf i QR o .normal a w:=⟨s,ho,h⟩
theorem lxB {o:Lp S R} {s:S} (ho:o=.brk s) (h:SS P ne m E n (knOf s) (lsOf s) (hOf s) a w):lpX P ne m E n knOf lsOf hOf i QR o (.exit i) a w:=.inl ⟨s,ho,rfl,h⟩
theorem lxR {o:Lp S R} {r:R} (ho:o=.ret r) (h:QR r .ret a w):lpX P ne m E n knOf lsOf hOf i QR o .ret a w:=.inr ⟨r,ho,h⟩
theorem lxE {o:Lp S R} {r:R} {j:Nat} (ho:o=.ret r) (h:QR r (.exit j) a w):lpX P ne m E n knOf lsOf hOf i QR o (.exit j) a w:=.inr ⟨r,ho,h⟩
theorem zmq {c:Code} {body:S→Option (Lp S R)}
  (hbody:∀s o,body s=some o→WS P ne m E n c (knOf s) (lsOf s) (hOf s) (lpX P ne m E n knOf lsOf hOf i QR o)) :
  ∀(k:Nat) (s:S) (o:S⊕R),iterO body k s=some o→∀{Q:Exit→Act→World→Prop},(∀s',o=.inl s'→∀a w,SS P ne m E n (knOf s') (lsOf s') (hOf s') a w→Q (.exit i) a w)→(∀r,o=.inr r→∀e a w,QR r e a w→Q e a w) →
   ∀a w,SS P ne m E n (knOf s) (lsOf s) (hOf s) a w→Code.rounds P c Q k a w:=by
 intro k
 induction k with
 | zero=>intro s o h; cases h
 | succ k ih =>
  intro s o h Q h1 h2 a w hs
  rw [rounds_succ]
  simp only [iterO] at h
  cases hb:body s with
  | none=>rw [hb] at h; cases h
  | some l =>
   rw [hb] at h
   have other:∀e a' w',((∃s,l=.brk s∧e=.exit i∧SS P ne m E n (knOf s) (lsOf s) (hOf s) a' w')∨∃r,l=.ret r∧QR r e a' w')→Q e a' w':=by
    rintro e a' w' (⟨s',rfl,rfl,hs'⟩ | ⟨r,rfl,hr⟩)
    ·simp only [Option.some.injEq] at h
     exact h1 s' h.symm a' w' hs'
    ·simp only [Option.some.injEq] at h
     exact h2 r h.symm _ a' w' hr
   refine wp_mono (hbody s l hb a w hs) fun e a' w' hq=>?_
   cases e with
   | normal =>
    obtain ⟨s',rfl,hs'⟩:=hq
    exact ih s' o h h1 h2 a' w' hs'
   | _=>exact other _ a' w' hq
theorem WS.loopX_ {c:Code} (hc:isLoop c=true) (body:S→Option (Lp S R)) (knOf:S→KN) (lsOf:S→Lcs) (hOf:S→AH) (i:Nat) (QR:R→Exit→Act→World→Prop)
  (hbody:∀s o,body s=some o→WS P ne m E n (cfst c) (knOf s) (lsOf s) (hOf s) (lpX P ne m E n knOf lsOf hOf i QR o)) {s:S} {o:S⊕R} (hl:loopO body s=some o) (k:Nat) (hsub:SubV (knOf s) kn) (hls:ls.take k=lsOf s) (hbl:belowL k (knOf s)=true) (hH:H=hOf s)
  (h1:∀s',o=.inl s'→∀a w,SS P ne m E n (knOf s') (lsOf s') (hOf s') a w→Q (.exit i) a w) (h2:∀r,o=.inr r→∀e a w,QR r e a w→Q e a w):WS P ne m E n c kn ls H Q:=by
 cases c with
 | loop body' =>
  intro a w hs
  obtain ⟨k',hk⟩:=z57.1 hl
  subst hH
  exact wp_loop_rounds k' (zmq hbody k' s o hk h1 h2 a w (hs.sub hsub k hls hbl))
 | _=>cases hc
theorem WS.loopXI {c:Code} (hc:isLoop c=true) (body:S→Option (Lp S R)) (knOf:S→KN) (lsOf:S→Lcs) (hOf:S→AH) (i:Nat) (QR:R→Exit→Act→World→Prop)
  (hbody:∀s o,body s=some o→WS P ne m E n (cfst c) (knOf s) (lsOf s) (hOf s) (lpX P ne m E n knOf lsOf hOf i QR o)) {s s':S} (hl:loopO body s=some (.inl s')) (k:Nat) (hsub:SubV (knOf s) kn) (hls:ls.take k=lsOf s) (hbl:belowL k (knOf s)=true) (hH:H=hOf s)
  (h1:∀a w,SS P ne m E n (knOf s') (lsOf s') (hOf s') a w→Q (.exit i) a w):WS P ne m E n c kn ls H Q :=
 WS.loopX_ hc body knOf lsOf hOf i QR hbody hl k hsub hls hbl hH (fun s2 e=>by cases e; exact h1) (fun r e=>by cases e)
theorem WS.loopXR {c:Code} (hc:isLoop c=true) (body:S→Option (Lp S R)) (knOf:S→KN) (lsOf:S→Lcs) (hOf:S→AH) (i:Nat) (QR:R→Exit→Act→World→Prop)
  (hbody:∀s o,body s=some o→WS P ne m E n (cfst c) (knOf s) (lsOf s) (hOf s) (lpX P ne m E n knOf lsOf hOf i QR o)) {s:S} {r:R} (hl:loopO body s=some (.inr r)) (k:Nat) (hsub:SubV (knOf s) kn) (hls:ls.take k=lsOf s) (hbl:belowL k (knOf s)=true) (hH:H=hOf s)
  (h2:∀e a w,QR r e a w→Q e a w):WS P ne m E n c kn ls H Q :=
 WS.loopX_ hc body knOf lsOf hOf i QR hbody hl k hsub hls hbl hH (fun s2 e=>by cases e) (fun r2 e=>by cases e; exact h2)
end
end Go.Abs
namespace Go.Abs
variable {P:Program} {m:Nat}
theorem ze1 {laid:List (String×DataW Unit)} {W:World} {name:String} {k:IntKind} {zs:List Int} {g:Nat} {e t te:TypeId} {n:Nat} (hL:laidMet P laid W) (hf:laid.filter (fun x=>x.1 == name)=[(name,Lib.tabData k zs)])
  (hg:P.globalNamed name=some g) (hty:(P.globals[g]?).map (·.type)=some t) (ht:P.underlying t=some (.array n te)) (he:P.underlying te=some (.int k)) (hce:P.cellsOf te=1) (hct:P.cellsOf t=n) (hlt:g<P.globals.size)
  (hrow:(((begin P (fun _ _=>0) default).world.heap[g]?).bind Obj.row?).map (·.2)=some e) (hsh:W.ShapedOpen P):∃fr,W.heap[g]? = some (.cells (zs.map fun z=>Value.int k z).toArray e fr):=by
 have h1:=laidMet.filter (fun x=>x.1 == name) hL
 rw [hf] at h1
 exact ⟨(0,0),zod hg hlt hrow hsh (Lib.tabIs_of_head hg hty ht he hce hct h1)⟩
def zsOf:DataW Unit→List Int
 | .agg l=>l.map fun | .lit (.int _ z)=>z | _=>0
 | _=>[]
end Go.Abs
namespace Go.Abs
variable {P:Program} {ne:NE} {m n:Nat}
variable {E:Ent} {kn knA:KN} {ls ls1:Lcs} {H H1 H':AH} {ops:Array Oper} {k:Nat} {Q:Exit→Act→World→Prop} {bs A:List Nat} {f:Nat} {la:Array Bool} {ag:Bool} {c:Code}
theorem WS.sq (h:WS P ne m E n (cfst c) kn ls H (Exit.then ((csnd c).wp P Q) Q)) (hc:isSeq c=true:=by kernel_rfl):WS P ne m E n c kn ls H Q:=WS.seq hc h
theorem WS.sk (h:∀a w,SS P ne m E n kn ls H a w→Q .normal a w) (hc:isSkip c=true:=by kernel_rfl):WS P ne m E n c kn ls H Q:=WS.skip hc h
theorem WS.rt (h:∀a w,SS P ne m E n kn ls H a w→Q .ret a w) (hc:isRet c=true:=by kernel_rfl):WS P ne m E n c kn ls H Q:=WS.ret hc h
theorem WS.ex (i:Nat) (h:∀a w,SS P ne m E n kn ls H a w→Q (.exit i) a w) (hc:isExit i c=true:=by kernel_rfl):WS P ne m E n c kn ls H Q:=WS.exit i hc h
theorem WS.bk (i:Nat) (h:WS P ne m E n (cfst c) kn ls H (blkS i Q)) (hc:isBlock i c=true:=by kernel_rfl):WS P ne m E n c kn ls H Q:=WS.blk i hc h
theorem WS.cT (h:WS P ne m E n (cfst c) kn ls H Q) (hc:(condOf c).map (fun x=>(knownV kn x,evV kn x))=some (true,.bool true):=by kernel_rfl):WS P ne m E n c kn ls H Q:=WS.condT true rfl hc h
theorem WS.cF (h:WS P ne m E n (csnd c) kn ls H Q) (hc:(condOf c).map (fun x=>(knownV kn x,evV kn x))=some (true,.bool false):=by kernel_rfl):WS P ne m E n c kn ls H Q:=WS.condF false rfl hc h
theorem WS.fx (t:Nat) {b:Bool} (d:Bool) (hb:b=d) (h:WS P ne m E n c ((t,.val (.bool d)) :: kn) ls H Q) (hl:lkV kn t=some (.val (.bool b)):=by kernel_rfl):WS P ne m E n c kn ls H Q:=WS.fix t d hb hl h
theorem RS.fx (t:Nat) {b:Bool} (d:Bool) (hb:b=d) (h:RS P ne m E n ops k ((t,.val (.bool d)) :: kn) ls H Q) (hl:lkV kn t=some (.val (.bool b)):=by kernel_rfl):RS P ne m E n ops k kn ls H Q:=RS.fix t d hb hl h
theorem DA.fx (t:Nat) {b:Bool} (d:Bool) (hb:b=d) (h:DA P ne m E n ops bs A H1 ls1 f la ag ((t,.val (.bool d)) :: knA) ((t,.val (.bool d)) :: kn) ls H Q) (hl:lkV kn t=some (.val (.bool b)):=by kernel_rfl):DA P ne m E n ops bs A H1 ls1 f la ag knA kn ls H Q:=DA.fix t d hb hl h
theorem WS.rg (h:RS P ne m E n (opsOf c) 0 kn ls H Q) (hc:(regOf c).map (·.2)=some false:=by kernel_rfl):WS P ne m E n c kn ls H Q:=by
 refine WS.region (opsOf c) ?_ h
 cases c with
 | region id ops d =>
  simp only [regOf,Option.map_some,Option.some.injEq] at hc
  subst hc; rfl
 | _=>cases hc
theorem RS.dn (h:∀a w,SS P ne m E n kn ls H a w→Q .normal a w) (hk:Nat.ble ops.size k=true:=by kernel_rfl):RS P ne m E n ops k kn ls H Q:=RS.done hk h
theorem RS.mS (j:Nat) (new:KN) (h:RS P ne m E n ops (k+j) (new++kn) ls H Q) (hr:runLs P m n ops j k kn ls H=some (new++kn,ls,H):=by kernel_rfl):RS P ne m E n ops k kn ls H Q:=RS.many j new ls hr h
theorem RS.mL (j:Nat) (new:KN) (ls':Lcs) (h:RS P ne m E n ops (k+j) (new++kn) ls' H Q) (hr:runLs P m n ops j k kn ls H=some (new++kn,ls',H):=by kernel_rfl):RS P ne m E n ops k kn ls H Q:=RS.many j new ls' hr h
theorem RS.o (d:Option Nat) (v:Value) (hr:runOp P (NE.plain 0) ih0 m (opAt ops k) (evV kn) H=some (v,H')) (h:RS P ne m E n ops (k+1) (putV kn d (.val v)) ls H' Q)
  (ho:ops[k]? = some (opAt ops k):=by kernel_rfl) (hd:(opAt ops k).dst=d:=by kernel_rfl) (hB:(opV P n ops kn (opAt ops k)&&noCall (opAt ops k))=true:=by kernel_rfl):RS P ne m E n ops k kn ls H Q:=RS.atD d v ho hd hB hr h
theorem RS.cl (d:Option Nat) {v:Value} (g:Nat) (args:Array Value) (hr:CallS P ne m g args H v H') (h:RS P ne m E n ops (k+1) (putV kn d (.val v)) ls H' Q)
  (ho:ops[k]? = some (opAt ops k):=by kernel_rfl) (hd:(opAt ops k).dst=d:=by kernel_rfl) (hB:opV P n ops kn (opAt ops k)=true:=by kernel_rfl) (hc:callV kn (opAt ops k)=some (g,args):=by kernel_rfl):RS P ne m E n ops k kn ls H Q:=RS.callD d g args ho hd hB hc hr h
theorem WS.dr (A:List Nat) (bs:List Nat) (sz:Nat) (h:closedOk (opsOf c).toList bs=true→DA P ne m E n (opsOf c) bs A H ls sz (Array.replicate sz false) true kn kn ls H Q) (hc:regOf c=some (opsOf c,true):=by kernel_rfl) (hb:befores (opsOf c).toList=bs:=by kernel_rfl) (hs:(opsOf c).size=sz:=by kernel_rfl) (hB:closedOk (opsOf c).toList bs=true:=by kernel_rfl):WS P ne m E n c kn ls H Q:=WS.drawnX (opsOf c) A bs sz hc hb hs hB (h hB)
theorem DA.dn (h:∀a w,SS P ne m E n kn ls H a w→Q .normal a w) (hr:readyIs ops la []=true:=by kernel_rfl):DA P ne m E n ops bs A H1 ls1 f la ag knA kn ls H Q:=DA.done hr h
theorem DA.on (k:Nat) (h:DAk P ne m E n ops bs A H1 ls1 k f la ag knA kn ls H Q) (hr:readyIs ops la [k]=true:=by kernel_rfl):DA P ne m E n ops bs A H1 ls1 (f+1) la ag knA kn ls H Q:=DA.one k hr h
theorem DA.tD (k:Nat) (d:Option Nat) (v:Value) (hv:detOp P H1 (opAt ops k) (evV knA)=some v) (h:DA P ne m E n ops bs A H1 ls1 f (la.setIfInBounds k true) true (putV knA d (.val v)) (putV kn d (.val v)) ls H Q)
  (hc:closedOk ops.toList bs=true:=by assumption) (ho:ops[k]? = some (opAt ops k):=by kernel_rfl) (hd:(opAt ops k).dst=d:=by kernel_rfl) (hB:takeB P n ops A la k (opAt ops k)=true:=by kernel_rfl) (hQ:∀c a w,¬Q (.panic c) a w:=by exact fun _ _ _ h=>h)
  (hw:(wantV ops kn (opAt ops k),(opAt ops k).op.operands.all (okx P),(opAt ops k).op.operands.all (knownV knA))=(some true,true,true):=by kernel_rfl):DA P ne m E n ops bs A H1 ls1 (f+1) la true knA kn ls H Q:=DA.takeD k d v ho hd hB hc hQ hw hv h
theorem DA.tK (k:Nat) (d:Option Nat) (v:Value) (h:DA P ne m E n ops bs A H1 ls1 f (la.setIfInBounds k true) true (putV knA d (.val v)) (putV kn d (.val v)) ls H Q)
  (hc:closedOk ops.toList bs=true:=by assumption) (ho:ops[k]? = some (opAt ops k):=by kernel_rfl) (hd:(opAt ops k).dst=d:=by kernel_rfl) (hB:takeB P n ops A la k (opAt ops k)=true:=by kernel_rfl) (hQ:∀c a w,¬Q (.panic c) a w:=by exact fun _ _ _ h=>h)
  (hw:(wantV ops kn (opAt ops k),(opAt ops k).op.operands.all (okx P),(opAt ops k).op.operands.all (knownV knA))=(some true,true,true):=by kernel_rfl) (hv:detOp P H1 (opAt ops k) (evV knA)=some v:=by kernel_rfl):DA P ne m E n ops bs A H1 ls1 (f+1) la true knA kn ls H Q:=DA.takeD k d v ho hd hB hc hQ hw hv h
theorem DA.tL (k:Nat) (d:Option Nat) (kv:KV) (h:DA P ne m E n ops bs A H1 ls1 f (la.setIfInBounds k true) true (putV knA d kv) (putV kn d kv) ls H Q)
  (hc:closedOk ops.toList bs=true:=by assumption) (ho:ops[k]? = some (opAt ops k):=by kernel_rfl) (hd:(opAt ops k).dst=d:=by kernel_rfl) (hB:takeB P n ops A la k (opAt ops k)=true:=by kernel_rfl) (hQ:∀c a w,¬Q (.panic c) a w:=by exact fun _ _ _ h=>h)
  (hw:wantV ops kn (opAt ops k)=some true:=by kernel_rfl) (hv:locDet P knA ls1 (opAt ops k)=some kv:=by kernel_rfl):DA P ne m E n ops bs A H1 ls1 (f+1) la true knA kn ls H Q:=DA.takeLD k d kv ho hd hB hc hQ hw hv h
theorem DA.tP (k:Nat) (d:Option Nat) (v:Value) (h:DA P ne m E n ops bs A H1 ls1 f (la.setIfInBounds k true) ag (dropV d knA) (putV kn d (.val v)) ls H Q)
  (hc:closedOk ops.toList bs=true:=by assumption) (ho:ops[k]? = some (opAt ops k):=by kernel_rfl) (hd:(opAt ops k).dst=d:=by kernel_rfl) (hB:takeQ P n ops A bs la k (opAt ops k)=true:=by kernel_rfl) (hQ:∀c a w,¬Q (.panic c) a w:=by exact fun _ _ _ h=>h)
  (hw:(wantV ops kn (opAt ops k),(opAt ops k).op.operands.all (okx P),(opAt ops k).op.operands.all (knownV kn))=(some true,true,true):=by kernel_rfl) (hv:pureOp P (opAt ops k) (evV kn)=some v:=by kernel_rfl):DA P ne m E n ops bs A H1 ls1 (f+1) la ag knA kn ls H Q:=DA.takeP k d v ho hd hB hc hQ hw hv h
theorem DA.tPx (k:Nat) (d:Option Nat) (v:Value) (hv:detOp P ⟨0,.nil⟩ (opAt ops k) (evV kn)=some v) (h:DA P ne m E n ops bs A H1 ls1 f (la.setIfInBounds k true) ag (dropV d knA) (putV kn d (.val v)) ls H Q)
  (hc:closedOk ops.toList bs=true:=by assumption) (ho:ops[k]? = some (opAt ops k):=by kernel_rfl) (hd:(opAt ops k).dst=d:=by kernel_rfl) (hB:takeQ P n ops A bs la k (opAt ops k)=true:=by kernel_rfl) (hQ:∀c a w,¬Q (.panic c) a w:=by exact fun _ _ _ h=>h)
  (hw:(wantV ops kn (opAt ops k),(opAt ops k).op.operands.all (okx P),(opAt ops k).op.operands.all (knownV kn))=(some true,true,true):=by kernel_rfl) (hn:notRead (opAt ops k)=true:=by kernel_rfl):DA P ne m E n ops bs A H1 ls1 (f+1) la ag knA kn ls H Q:=DA.takeP k d v ho hd hB hc hQ hw (zo7 hn hv) h
theorem DA.tPL (k:Nat) (d:Option Nat) (kv:KV) (h:DA P ne m E n ops bs A H1 ls1 f (la.setIfInBounds k true) ag (dropV d knA) (putV kn d kv) ls H Q)
  (hc:closedOk ops.toList bs=true:=by assumption) (ho:ops[k]? = some (opAt ops k):=by kernel_rfl) (hd:(opAt ops k).dst=d:=by kernel_rfl) (hB:takeQ P n ops A bs la k (opAt ops k)=true:=by kernel_rfl) (hQ:∀c a w,¬Q (.panic c) a w:=by exact fun _ _ _ h=>h)
  (hw:wantV ops kn (opAt ops k)=some true:=by kernel_rfl) (hv:(match (opAt ops k).op with | .load ..=>none | _=>locDet P kn ls (opAt ops k))=some kv:=by kernel_rfl):DA P ne m E n ops bs A H1 ls1 (f+1) la ag knA kn ls H Q:=DA.takePL k d kv ho hd hB hc hQ hw hv h
theorem DA.aL (k:Nat) (d:Option Nat) (kv:KV) (ls':Lcs) (ag':Bool) (h:DA P ne m E n ops bs A H1 ls1 f (la.setIfInBounds k true) ag' (dropV d knA) (putV kn d kv) ls' H Q)
  (hc:closedOk ops.toList bs=true:=by assumption) (ho:ops[k]? = some (opAt ops k):=by kernel_rfl) (hdd:(opAt ops k).dst=d:=by kernel_rfl) (hr:(Region.ready .any ops la).contains k=true:=by kernel_rfl) (hw:wantV ops kn (opAt ops k)=some true:=by kernel_rfl) (hd:dstV n (opAt ops k)=true:=by kernel_rfl) (hl:locOp P kn ls (opAt ops k)=some (kv,ls'):=by kernel_rfl)
  (ha:((!demO ops A bs k||(ag&&notStore (opAt ops k)))&&(!ag'||(ag&&notStore (opAt ops k))))=true:=by kernel_rfl):DAk P ne m E n ops bs A H1 ls1 k f la ag knA kn ls H Q:=DA.actLD k d kv ls' ag' ho hdd hr hc hw hd hl ha h
theorem DA.aH (k:Nat) (d:Option Nat) (v:Value) (hv:runOp P (NE.plain 0) ih0 m (opAt ops k) (evV kn) H=some (v,H')) (h:DA P ne m E n ops bs A H1 ls1 f (la.setIfInBounds k true) false (dropV d knA) (putV kn d (.val v)) ls H' Q)
  (hc:closedOk ops.toList bs=true:=by assumption) (ho:ops[k]? = some (opAt ops k):=by kernel_rfl) (hdd:(opAt ops k).dst=d:=by kernel_rfl) (hr:(Region.ready .any ops la).contains k=true:=by kernel_rfl) (hB:(opV P n ops kn (opAt ops k)&&noCall (opAt ops k))=true:=by kernel_rfl) (hd:demO ops A bs k=false:=by kernel_rfl):DAk P ne m E n ops bs A H1 ls1 k f la ag knA kn ls H Q :=
 DA.actHD k d m false v ho hdd hr hc hB hv (Nat.le_refl _) (fun hh=>by rw [hd] at hh; cases hh) (by rw [hd]; rfl) h
theorem DA.aHk (k:Nat) (d:Option Nat) (ag':Bool) (v:Value) (hv:runOp P (NE.plain 0) ih0 (Nat.max m H.next) (opAt ops k) (evV kn) H=some (v,H')) (h:DA P ne m E n ops bs A H1 ls1 f (la.setIfInBounds k true) ag' (dropV d knA) (putV kn d (.val v)) ls H' Q)
  (hc:closedOk ops.toList bs=true:=by assumption) (ho:ops[k]? = some (opAt ops k):=by kernel_rfl) (hdd:(opAt ops k).dst=d:=by kernel_rfl) (hr:(Region.ready .any ops la).contains k=true:=by kernel_rfl) (hB:(opV P n ops kn (opAt ops k)&&noCall (opAt ops k))=true:=by kernel_rfl) (ha:((!demO ops A bs k||ag)&&(!ag'||ag))=true:=by kernel_rfl):DAk P ne m E n ops bs A H1 ls1 k f la ag knA kn ls H Q :=
 DA.actHD k d (Nat.max m H.next) ag' v ho hdd hr hc hB hv (Nat.le_max_left _ _) (fun _=>.inl (Nat.le_max_right _ _)) ha h
theorem DA.aC (k:Nat) (d:Option Nat) {v:Value} (g:Nat) (args:Array Value) (hcs:CallS P ne m g args H v H') (h:DA P ne m E n ops bs A H1 ls1 f (la.setIfInBounds k true) false (dropV d knA) (putV kn d (.val v)) ls H' Q)
  (hc:closedOk ops.toList bs=true:=by assumption) (ho:ops[k]? = some (opAt ops k):=by kernel_rfl) (hdd:(opAt ops k).dst=d:=by kernel_rfl) (hr:(Region.ready .any ops la).contains k=true:=by kernel_rfl) (hB:opV P n ops kn (opAt ops k)=true:=by kernel_rfl) (hcl:callV kn (opAt ops k)=some (g,args):=by kernel_rfl) (hd:demO ops A bs k=false:=by kernel_rfl):DAk P ne m E n ops bs A H1 ls1 k f la ag knA kn ls H Q :=
 DA.actCD k d m false g args ho hdd hr hc hB hcl hcs (Nat.le_refl _) (fun hh=>by rw [hd] at hh; cases hh) (by rw [hd]; rfl) h
theorem DA.aCk (k:Nat) (d:Option Nat) (ag':Bool) {v:Value} (g:Nat) (args:Array Value) (hcs:CallS P ne (Nat.max m H.next) g args H v H') (h:DA P ne m E n ops bs A H1 ls1 f (la.setIfInBounds k true) ag' (dropV d knA) (putV kn d (.val v)) ls H' Q)
  (hc:closedOk ops.toList bs=true:=by assumption) (ho:ops[k]? = some (opAt ops k):=by kernel_rfl) (hdd:(opAt ops k).dst=d:=by kernel_rfl) (hr:(Region.ready .any ops la).contains k=true:=by kernel_rfl) (hB:opV P n ops kn (opAt ops k)=true:=by kernel_rfl) (hcl:callV kn (opAt ops k)=some (g,args):=by kernel_rfl) (ha:((!demO ops A bs k||ag)&&(!ag'||ag))=true:=by kernel_rfl):DAk P ne m E n ops bs A H1 ls1 k f la ag knA kn ls H Q :=
 DA.actCD k d (Nat.max m H.next) ag' g args ho hdd hr hc hB hcl hcs (Nat.le_max_left _ _) (fun _=>.inl (Nat.le_max_right _ _)) ha h
theorem SubV.of:∀{kn' kn:KN},kn'.map (fun p=>lkV kn p.1)=kn'.map (fun p=>some p.2)→SubV kn' kn:=by
 intro kn'
 induction kn' with
 | nil=>intro kn _; trivial
 | cons p l ih =>
  intro kn h
  obtain ⟨t,v⟩:=p
  simp only [List.map_cons,List.cons.injEq] at h
  exact ⟨h.1,ih h.2⟩
theorem SS.sb {a:Act} {w:World} (h:SS P ne m E n kn ls H a w) {kn':KN} (k:Nat) {ls':Lcs} (hs:kn'.map (fun p=>lkV kn p.1)=kn'.map (fun p=>some p.2):=by kernel_rfl) (hl:ls.take k=ls':=by kernel_rfl) (hb:belowL k kn'=true:=by kernel_rfl):SS P ne m E n kn' ls' H a w:=h.sub (SubV.of hs) k hl hb
theorem rS {fn:Func} {v:Value} {a:Act} {w:World} (hs:SS P ne m E n kn ls H a w) (h:resF P fn kn ls H=some v:=by kernel_rfl):RT P ne m E fn v H a w:=rtS hs h
section
variable {S R:Type} {body:S→Option (Lp S R)} {knOf:S→KN} {lsOf:S→Lcs} {hOf:S→AH} {i:Nat}
theorem WS.lI {QR:R→Act→World→Prop} (hbody:∀s o,body s=some o→WS P ne m E n (cfst c) (knOf s) (lsOf s) (hOf s) (lpS P ne m E n knOf lsOf hOf i QR o)) {s s':S} (hl:loopO body s=some (.inl s')) (k:Nat) (h1:∀a w,SS P ne m E n (knOf s') (lsOf s') (hOf s') a w→Q (.exit i) a w)
  (hc:isLoop c=true:=by kernel_rfl) (hs:(knOf s).map (fun p=>lkV kn p.1)=(knOf s).map (fun p=>some p.2):=by kernel_rfl) (hls:ls.take k=lsOf s:=by kernel_rfl) (hbl:belowL k (knOf s)=true:=by kernel_rfl) (hH:H=hOf s:=by rfl):WS P ne m E n c kn ls H Q :=
 WS.loopI hc body knOf lsOf hOf i QR hbody hl k (SubV.of hs) hls hbl hH h1
theorem WS.lR {QR:R→Act→World→Prop} (hbody:∀s o,body s=some o→WS P ne m E n (cfst c) (knOf s) (lsOf s) (hOf s) (lpS P ne m E n knOf lsOf hOf i QR o)) {s:S} {r:R} (hl:loopO body s=some (.inr r)) (k:Nat) (h2:∀a w,QR r a w→Q .ret a w)
  (hc:isLoop c=true:=by kernel_rfl) (hs:(knOf s).map (fun p=>lkV kn p.1)=(knOf s).map (fun p=>some p.2):=by kernel_rfl) (hls:ls.take k=lsOf s:=by kernel_rfl) (hbl:belowL k (knOf s)=true:=by kernel_rfl) (hH:H=hOf s:=by rfl):WS P ne m E n c kn ls H Q :=
 WS.loopR hc body knOf lsOf hOf i QR hbody hl k (SubV.of hs) hls hbl hH h2
theorem WS.lXI {QR:R→Exit→Act→World→Prop} (hbody:∀s o,body s=some o→WS P ne m E n (cfst c) (knOf s) (lsOf s) (hOf s) (lpX P ne m E n knOf lsOf hOf i QR o)) {s s':S} (hl:loopO body s=some (.inl s')) (k:Nat) (h1:∀a w,SS P ne m E n (knOf s') (lsOf s') (hOf s') a w→Q (.exit i) a w)
  (hc:isLoop c=true:=by kernel_rfl) (hs:(knOf s).map (fun p=>lkV kn p.1)=(knOf s).map (fun p=>some p.2):=by kernel_rfl) (hls:ls.take k=lsOf s:=by kernel_rfl) (hbl:belowL k (knOf s)=true:=by kernel_rfl) (hH:H=hOf s:=by rfl):WS P ne m E n c kn ls H Q :=
 WS.loopXI hc body knOf lsOf hOf i QR hbody hl k (SubV.of hs) hls hbl hH h1
theorem WS.lXR {QR:R→Exit→Act→World→Prop} (hbody:∀s o,body s=some o→WS P ne m E n (cfst c) (knOf s) (lsOf s) (hOf s) (lpX P ne m E n knOf lsOf hOf i QR o)) {s:S} {r:R} (hl:loopO body s=some (.inr r)) (k:Nat) (h2:∀e a w,QR r e a w→Q e a w)
  (hc:isLoop c=true:=by kernel_rfl) (hs:(knOf s).map (fun p=>lkV kn p.1)=(knOf s).map (fun p=>some p.2):=by kernel_rfl) (hls:ls.take k=lsOf s:=by kernel_rfl) (hbl:belowL k (knOf s)=true:=by kernel_rfl) (hH:H=hOf s:=by rfl):WS P ne m E n c kn ls H Q :=
 WS.loopXR hc body knOf lsOf hOf i QR hbody hl k (SubV.of hs) hls hbl hH h2
end
end Go.Abs
namespace Go.Abs
variable {P:Program} {ne:NE} {m:Nat} {H:AH}
theorem znt {φ:Inj} {w:World} {x:Tab} (hg:Glob P φ) (hi:Inv φ H w) (hlt:x.1<P.globals.size) (hfl:x.2.2.all (flat depth)=true) (hx:H.get x.1=some (tabBlk x)) :
  ∃fr,w.heap[x.1]? = some (.cells x.2.2 x.2.1 fr):=by
 obtain ⟨l,h1,h2⟩:=hi.obj x.1 _ hx
 obtain ⟨l',g1,g2,g3⟩:=hg x.1 hlt
 rw [h1] at g1; cases g1
 obtain ⟨c',e',f',k1,k2⟩:=h2
 obtain ⟨k3,k4⟩:=k2.exact_ rfl
 have k5:=k2.elem
 subst k5
 rw [g2] at k1
 refine ⟨f',?_⟩
 rw [k1]
 have:c'=x.2.2:=by
  refine Array.ext k4 fun i hi1 hi2=>?_
  obtain ⟨v',q1,q2⟩:=k2.cell i x.2.2[i] (by simp [hi2])
  rw [k3,Nat.zero_add] at q1
  have hf:flat depth x.2.2[i]=true:=by
   rw [Array.all_eq_true] at hfl
   exact hfl i hi2
  have:=z4n depth hf q2
  rw [← this] at q1
  have q3:c'[i]? = some c'[i]:=by simp [hi1]
  rw [q3] at q1
  exact Option.some.inj q1
 rw [this]
structure UnderRes (P:Program) (φ:Inj) (H:AH) (w:World) (v:Value) (H1:AH) (v':Value) (w':World) (φ1:Inj):Prop where
 vr:VR φ1 v v'
 inv:Inv φ1 H1 w'
 new:∀l,φ1 P.globals.size=some l→w.heap.size≤l.blk
 size:w.heap.size≤w'.heap.size
 keep:∀c,c<w.heap.size→w'.heap[c]? = w.heap[c]?
 os:w'.os=w.os
 tape:w'.tape=w.tape
 output:w'.output=w.output
theorem zml {tabs:List Tab} {f:Nat} {args:Array Value} {v:Value} {H1:AH} (hP:0<P.globals.size) (hB:tabsB P tabs=true) (hc:CallS P ne P.globals.size f args (startH P tabs) v H1)
  (ha:args.all (flat depth)=true) (hsub:∀x∈tabs,H.get x.1=some (tabBlk x)) (hS:Sane P ne) :
  (∃fn c,P.funcs[f]? = some fn∧fn.body=some c)∧∀φ w args',Glob P φ→AR φ args args'→Inv φ H w→Calls P f args' w fun e w'=>∃v' φ1,e=.returned v'∧UnderRes P φ H w v H1 v' w' φ1:=by
 obtain ⟨h1,h2⟩:=hc hS
 refine ⟨h1,fun φ w args' hg har hi=>?_⟩
 have hB':=hB
 unfold tabsB at hB'
 rw [List.all_eq_true] at hB'
 have hlt:∀x∈tabs,x.1<P.globals.size∧x.2.2.all (flat depth)=true:=fun x hx=>by
  have:=hB' x hx
  simp only [Bool.and_eq_true] at this
  exact ⟨blt_lt this.1,this.2⟩
 have hsz:P.globals.size≤w.heap.size:=by
  obtain ⟨l,g1,g2,_⟩:=hg (P.globals.size - 1) (by omega)
  have:=(hi.dom _ l g1).2
  omega
 have hinv:Inv (φg P) (startH P tabs) w:=ziw hsz hB fun x hx=>znt hg hi (hlt x hx).1 (hlt x hx).2 (hsub x hx)
 have har':AR (φg P) args args':=by
  refine ⟨har.1,fun i x y hx hy=>?_⟩
  have hf:flat depth x=true:=by
   rw [Array.all_eq_true_iff_forall_mem] at ha
   exact ha x (Array.mem_of_getElem? hx)
  have:=z4n depth hf (har.2 i x y hx hy)
  subst this
  exact z11 depth hf
 refine (h2 (φg P) w args' zle har' hinv).mono fun e w' ⟨φ1,v',he,hv,hi1,hst⟩=>⟨v',φ1,he,hv,hi1,fun l hl=>?_,hst.size,fun c hc=>?_,hst.os,hst.tape,hst.output⟩
 ·have hno:φg P P.globals.size=none:=by simp [φg]
  rcases (hst.new _ l hl hno).2 with h | ⟨id0,l0,a1,a2,a3,_⟩
  ·exact h
  ·obtain ⟨b,hb⟩:=Option.isSome_iff_exists.1 a2
   obtain ⟨x,hx,rfl,_⟩:=z7p hb
   have:=(hlt x hx).1
   omega
 ·refine hst.keep c hc fun id l hm hs _=>?_
  obtain ⟨b,hb⟩:=Option.isSome_iff_exists.1 hs
  obtain ⟨x,hx,rfl,_⟩:=z7p hb
  have:=(hlt x hx).1
  omega
theorem zpv {φ:Inj} {w w':World} (hi:Inv φ H w) (hs:w.heap.size≤w'.heap.size) (hk:∀c,c<w.heap.size→w'.heap[c]? = w.heap[c]?):Inv φ H w':=by
 refine ⟨fun id l hl=>?_,fun id b hb=>?_,hi.sep⟩
 ·have:=hi.dom id l hl
  exact ⟨this.1,by omega⟩
 ·obtain ⟨l,q1,q2⟩:=hi.obj id b hb
  exact ⟨l,q1,q2.same (hk l.blk (hi.dom id l q1).2)⟩
theorem CallS.under {tabs:List Tab} {f:Nat} {args:Array Value} {v:Value} {H1:AH} (hP:0<P.globals.size) (hB:tabsB P tabs=true) (hc:CallS P ne P.globals.size f args (startH P tabs) v H1)
  (ha:args.all (flat depth)=true) (hv:flat depth v=true) (hsub:∀x∈tabs,H.get x.1=some (tabBlk x)):CallS P ne m f args H v H:=by
 intro hS
 obtain ⟨h1,h2⟩:=zml hP hB hc ha hsub hS
 refine ⟨h1,fun φ w args' hg har hi=>(h2 φ w args' hg har hi).mono fun e w' ⟨v',φ1,he,hr⟩=>?_⟩
 have hvv:=z4n depth hv hr.vr
 subst hvv
 exact ⟨φ,v,he,z11 depth hv,zpv hi hr.size hr.keep,⟨Nat.le_refl _,Inj.le_refl _,fun id l hl hn=>(by rw [hl] at hn; cases hn),fun id hh=>.inl hh,hr.size,fun c hc _=>hr.keep c hc,hr.os,hr.tape,hr.output⟩⟩
end Go.Abs
namespace Go.Abs
instance:DecidableEq Sl3:=fun a b =>
 if h:a.p=b.p∧a.n=b.n∧a.c=b.c then isTrue (by cases a; cases b; obtain ⟨rfl,rfl,rfl⟩:=h; rfl)
 else isFalse fun e=>h (by subst e; exact ⟨rfl,rfl,rfl⟩)
@[reducible] def kI (t:Nat) (x:Int):Nat×KV:=(t,.val (.int .i64 x))
@[reducible] def kB (t:Nat) (x:Bool):Nat×KV:=(t,.val (.bool x))
@[reducible] def kS (t:Nat) (x:Sl3):Nat×KV:=(t,.val x.v)
@[reducible] def kP (t:Nat) (x:Addr):Nat×KV:=(t,.val (.pointer (some x)))
@[reducible] def kT (t:Nat) (x:ByteArray):Nat×KV:=(t,.val (.string x))
@[reducible] def kA (t:Nat) (x:Array Value):Nat×KV:=(t,.val (.agg x))
@[reducible] def kU (t:Nat):Nat×KV:=(t,.val undef)
@[reducible] def kL (t i o:Nat):Nat×KV:=(t,.loc i o)
variable {P:Program} {ne:NE} {m n:Nat}
variable {E:Ent} {kn:KN} {ls:Lcs} {H H':AH} {ops:Array Oper} {k:Nat} {Q:Exit→Act→World→Prop}
def LoopF (P:Program) (ne:NE) (m:Nat) (E:Ent) (fn:Func) (c:Code) {S R:Type} (st:S→KN×Lcs) (hOf:S→AH) (i:Nat) (enc:R→Value) (hp:R→AH) (body:S→Option (Lp S R)):Prop :=
 ∀s o,body s=some o→WS P ne m E fn.ntmps (cfst c) (st s).1 (st s).2 (hOf s) (lpS P ne m E fn.ntmps (fun s=>(st s).1) (fun s=>(st s).2) hOf i (fun r=>RT P ne m E fn (enc r) (hp r)) o)
section
variable {ih:Ex} {ρ:Operand→Value} {o:Oper}
end
theorem RS.ix (d:Nat) (t e:TypeId) (x y:Operand) {sz:Nat} {s:Sl3} {i:Int} {a:Addr} (hx:idxA sz s i=some a) (h:RS P ne m E n ops (k+1) (putV kn (some d) (.val (.pointer (some a)))) ls H Q)
  (hop:(opAt ops k).op=.indexAddr t x y:=by kernel_rfl) (hu:P.underlying t=some (.slice e):=by kernel_rfl) (hi:(P.info? e).map (·.size)=some sz:=by kernel_rfl) (h1:evV kn x=s.v:=by kernel_rfl) (h2:evV kn y=.int .i64 i:=by kernel_rfl)
  (ho:ops[k]? = some (opAt ops k):=by kernel_rfl) (hd:(opAt ops k).dst=some d:=by kernel_rfl) (hB:(opV P n ops kn (opAt ops k)&&noCall (opAt ops k))=true:=by kernel_rfl):RS P ne m E n ops k kn ls H Q :=
 RS.o (some d) _ (zrd hop hu hi h1 h2 hx) h ho hd hB
theorem RS.ld (d:Nat) (t:TypeId) (x:Operand) {a:Addr} {v:Value} (hx:H.cell a=some v) (h:RS P ne m E n ops (k+1) (putV kn (some d) (.val v)) ls H Q)
  (hop:(opAt ops k).op=.load t x:=by kernel_rfl) (hu:(P.underlying t).map isAggD=some false:=by kernel_rfl) (h1:evV kn x=.pointer (some a):=by kernel_rfl)
  (ho:ops[k]? = some (opAt ops k):=by kernel_rfl) (hd:(opAt ops k).dst=some d:=by kernel_rfl) (hB:(opV P n ops kn (opAt ops k)&&noCall (opAt ops k))=true:=by kernel_rfl):RS P ne m E n ops k kn ls H Q :=
 RS.o (some d) _ (run_load hop hu h1 hx) h ho hd hB
theorem RS.la (d:Nat) (t:TypeId) (x:Operand) (c:Nat) {a:Addr} {l:List Value} (hx:rdCells H a 0 c=some l) (h:RS P ne m E n ops (k+1) (putV kn (some d) (.val (.agg l.toArray))) ls H Q)
  (hop:(opAt ops k).op=.load t x:=by kernel_rfl) (hu:(P.underlying t).map isAggD=some true:=by kernel_rfl) (hi:(P.info? t).map (·.size)=some c:=by kernel_rfl) (h1:evV kn x=.pointer (some a):=by kernel_rfl)
  (ho:ops[k]? = some (opAt ops k):=by kernel_rfl) (hd:(opAt ops k).dst=some d:=by kernel_rfl) (hB:(opV P n ops kn (opAt ops k)&&noCall (opAt ops k))=true:=by kernel_rfl):RS P ne m E n ops k kn ls H Q :=
 RS.o (some d) _ (run_loadAg hop hu hi h1 hx) h ho hd hB
end Go.Abs
namespace Go.Abs
def Fm (W:Nat→Prop) (H H':AH):Prop:=H.next≤H'.next∧∀id b,id<H.next→¬W id→H.get id=some b→H'.get id=some b
abbrev Ext (H H':AH):Prop:=Fm (fun _=>False) H H'
theorem Fm.refl (W:Nat→Prop) (H:AH):Fm W H H:=⟨Nat.le_refl _,fun _ _ _ _ h=>h⟩
theorem Fm.comp {W W':Nat→Prop} {H H1 H2:AH} (h:Fm W H H1) (h':Fm W' H1 H2) (hw:∀id,id<H.next→¬W id→¬W' id):Fm W H H2 :=
 ⟨Nat.le_trans h.1 h'.1,fun id b hid hn hb=>h'.2 id b (Nat.lt_of_lt_of_le hid h.1) (hw id hid hn) (h.2 id b hid hn hb)⟩
theorem Ext.trans {H H1 H2:AH} (h:Ext H H1) (h':Ext H1 H2):Ext H H2:=Fm.comp h h' fun _ _ h=>h
theorem Fm.weak {W W':Nat→Prop} {H H1:AH} (h:Fm W H H1) (hw:∀id,id<H.next→W id→W' id):Fm W' H H1 :=
 ⟨h.1,fun id b hid hn hb=>h.2 id b hid (fun hh=>hn (hw id hid hh)) hb⟩
theorem Fm.push (W:Nat→Prop) (H:AH) (b:Blk):Fm W H (H.push b) :=
 ⟨by simp,fun id _ hid _ hb=>by rw [AH.get_push_other H _ (by omega)]; exact hb⟩
theorem Fm.put {H:AH} {i:Nat} {b:Blk}:Fm (fun id=>id=i) H (H.put i b) :=
 ⟨Nat.le_refl _,fun id _ _ hn hb=>by rw [AH.get_put_other H _ hn]; exact hb⟩
def blkIs (s:Sl3) (id:Nat):Prop:=∃a,s.p=some a∧a.block=id
theorem zez {H:AH} {a:Addr} {v:Value} (h:H.cell a=some v):∃b c e f,H.get a.block=some b∧b.obj=.cells c e f∧a.spot=none∧c[a.off]? = some v:=by
 unfold AH.cell at h
 split at h
 ·rename_i c e f o z r hg hs
  exact ⟨_,c,e,f,hg,rfl,hs,h⟩
 ·cases h
theorem zbo {H:AH} {a:Addr} {v:Value} {b:Blk} {c:Array Value} {e:TypeId} {f:Nat×Nat} (hg:H.get a.block=some b) (hb:b.obj=.cells c e f) (hs:a.spot=none) (hv:c[a.off]? = some v):H.cell a=some v:=by
 unfold AH.cell
 obtain ⟨obj,o,z,r⟩:=b
 simp only at hb
 subst hb
 rw [hg,hs]
 exact hv
theorem z1u (a:Addr) (i:Nat):(a.add i).block=a.block:=by unfold Addr.add; split <;> rfl
theorem zr9 {W:Nat→Prop} {H H':AH} (h:Fm W H H') {a:Addr} {v:Value} (hlt:a.block<H.next) (hw:¬W a.block) (hc:H.cell a=some v):H'.cell a=some v:=by
 obtain ⟨b,c,e,f,h1,h2,h3,h4⟩:=zez hc
 exact zbo (h.2 _ _ hlt hw h1) h2 h3 h4
structure Ro (k:IntKind) (H:AH) (s:Sl3) (xs:List Nat):Prop where
 len:s.n=xs.length
 cap:s.n≤s.c
 top:s.c≤OPEN
 nil:s.p=none→s.n=0∧s.c=0
 low:∀a,s.p=some a→a.block<H.next
 opn:∀a,s.p=some a→s.c=OPEN→∃b,H.get a.block=some b∧b.opn=true∧b.esz=1∧isCells b.obj=true
 cell:∀a,s.p=some a→∀(i:Nat) (h:i<xs.length),H.cell (a.add i)=some (.int k (xs[i]:Nat))
theorem z3p {x:Int} (h0:-9223372036854775808≤x) (h1:x<9223372036854775808):IntKind.i64.wrap x=x:=by
 rw [IntKind.wrap_i64]; omega
theorem add_zero (a:Addr):a.add 0=a:=rfl
theorem zb5 {a:Addr} (ha:a.spot=none) (i j:Nat):(a.add i).add j=a.add (i+j):=by
 obtain ⟨b,o,s⟩:=a
 simp only at ha
 subst ha
 unfold Addr.add
 by_cases hi:i=0 <;> by_cases hj:j=0 <;> simp [hi,hj] <;> omega
inductive Vec (k:IntKind) (e:TypeId) (m:Nat) (H:AH) (xs:List Nat):Sl3→Prop
 | nil (hx:xs=[]):Vec k e m H xs Sl3.nil
 | opn (id:Nat) (hm:m≤id) (hid:id<H.next) (hg:H.get id=some { obj:=.cells (xs.map fun (x:Nat)=>Value.int k (x:Int)).toArray e (0,0),opn:=true,esz:=1,ro:=false }):Vec k e m H xs ⟨some ⟨id,0,none⟩,xs.length,OPEN⟩
 | fix (id c:Nat) (cs:Array Value) (hm:m≤id) (hid:id<H.next) (hg:H.get id=some { obj:=.cells cs e (0,0),opn:=false,esz:=0,ro:=false }) (hc:cs.size=c) (ho:c<OPEN) (hl:xs.length≤c)
   (hx:∀(i:Nat) (h:i<xs.length),cs[i]? = some (.int k (xs[i]:Nat))):Vec k e m H xs ⟨some ⟨id,0,none⟩,xs.length,c⟩
end Go.Abs
namespace Go.Abs
theorem z3i (id o i:Nat):(Addr.mk id o none).add i=⟨id,o+i,none⟩:=by
 unfold Addr.add
 split
 ·rename_i h; subst h; rfl
 ·rfl
theorem z7b {H:AH} {a:Addr}:∀(l:List Value) (j:Nat),(∀(i:Nat) (h:i<l.length),H.cell (a.add (j+i))=some l[i])→rdCells H a j l.length=some l:=by
 intro l
 induction l with
 | nil=>intro j _; rfl
 | cons v l ih =>
  intro j h
  have h0:=h 0 (by simp)
  simp only [Nat.add_zero,List.getElem_cons_zero] at h0
  have h1:=ih (j+1) fun i hi=>by
   have:=h (i+1) (by simpa using hi)
   rw [show j+1+i=j+(i+1) by omega,this]
   simp
  simp only [List.length_cons,rdCells,h0,h1]
theorem zdy {H:AH} {e:TypeId} {sz bytes need:Nat} {cs:List Value} (h1:(2*need+1000)*bytes≤281474976710656) (h2:need≤281474976710656) :
  grownS H e sz bytes need cs=some (⟨some ⟨H.next,0,none⟩,need,OPEN⟩,H.push { obj:=.cells cs.toArray e (0,0),opn:=true,esz:=sz,ro:=false }):=by
 unfold grownS
 rw [if_pos ⟨h1,h2⟩]
theorem zn0 {H:AH} {m id off:Nat} {v:Value} {cs:Array Value} {e:TypeId} {opn:Bool} {esz:Nat} (hm:m≤id) (hg:H.get id=some { obj:=.cells cs e (0,0),opn,esz,ro:=false }) (ho:off<cs.size) :
  H.setCell m ⟨id,off,none⟩ v=some (H.put id { obj:=.cells (cs.setIfInBounds off v) e (0,0),opn,esz,ro:=false }):=by
 unfold AH.setCell
 simp only [hg,ble_of hm,zgu.2 ho,Bool.and_self,cond_true]
end Go.Abs
namespace Go.Abs
def val (B:Nat):List Nat→Nat
 | []=>0
 | x :: l=>x+B*val B l
variable {B:Nat}
theorem zim {x:Int} {n:Nat} (h:x=n) (hn:n<9223372036854775808):IntKind.i64.wrap x=n:=by
 subst h
 exact z3p (by omega) (by omega)
end Go.Abs
namespace Go.Abs
def Cel (H:AH) (a:Addr) (v:Value):Prop:=H.cell a=some v∧a.block<H.next
theorem Cel.fr {W:Nat→Prop} {H H':AH} {a:Addr} {v:Value} (h:Cel H a v) (hf:Fm W H H') (hw:¬W a.block):Cel H' a v :=
 ⟨zr9 hf h.2 hw h.1,Nat.lt_of_lt_of_le h.2 hf.1⟩
theorem Cel.ext {H H':AH} {a:Addr} {v:Value} (h:Cel H a v) (hf:Ext H H'):Cel H' a v:=h.fr hf fun h=>h
theorem Cel.rd {α:Type} {H:AH} {a:Addr} {v:Value} (h:Cel H a v) (de:Value→Option α):rd de H a=de v:=by
 unfold Abs.rd
 rw [h.1]
 rfl
def LAt {α:Type} (R:AH→Addr→α→Prop) (sz:Nat) (H:AH) (p:Option Addr):Nat→List α→Prop
 | _,[]=>True
 | i,x :: xs=>(∃a,p=some a∧R H (a.add (i*sz)) x)∧LAt R sz H p (i+1) xs
theorem LAt.get {α:Type} {R:AH→Addr→α→Prop} {sz:Nat} {H:AH} {p:Option Addr}:∀{xs:List α} {i:Nat},LAt R sz H p i xs→∀(j:Nat) (h:j<xs.length),∃a,p=some a∧R H (a.add ((i+j)*sz)) xs[j]
 | x :: xs,i,h,0,hj=>h.1
 | x :: xs,i,h,j+1,hj=>by
  obtain ⟨a,h1,h2⟩:=LAt.get h.2 j (by simpa using hj)
  exact ⟨a,h1,by rw [show i+(j+1)=i+1+j by omega]; exact h2⟩
theorem LAt.imp {α:Type} {R R':AH→Addr→α→Prop} {sz:Nat} {H H':AH} {p:Option Addr} (hr:∀a x,R H a x→R' H' a x):∀{xs:List α} {i:Nat},LAt R sz H p i xs→LAt R' sz H' p i xs
 | [],_,_=>trivial
 | _ :: _,_,h=>⟨let ⟨a,h1,h2⟩:=h.1; ⟨a,h1,hr _ _ h2⟩,LAt.imp hr h.2⟩
theorem LAt.of {α:Type} {R:AH→Addr→α→Prop} {sz:Nat} {H:AH} {p:Option Addr}:∀{xs:List α} {i:Nat},(∀(j:Nat) (h:j<xs.length),∃a,p=some a∧R H (a.add ((i+j)*sz)) xs[j])→LAt R sz H p i xs
 | [],_,_=>trivial
 | x :: xs,i,h=>⟨h 0 (by simp),LAt.of fun j hj=>by
   obtain ⟨a,h1,h2⟩:=h (j+1) (by simpa using hj)
   exact ⟨a,h1,by rw [show i+1+j=i+(j+1) by omega]; exact h2⟩⟩
def maxN:Nat:=9223372036854775807
structure SlL {α:Type} (R:AH→Addr→α→Prop) (sz:Nat) (H:AH) (s:Sl3) (xs:List α):Prop where
 n:s.n=xs.length
 cap:s.n≤s.c
 top:s.n≤maxN
 low:∀a,s.p=some a→a.block<H.next∧a.spot=none
 at_:LAt R sz H s.p 0 xs
theorem SlL.len {α:Type} {R:AH→Addr→α→Prop} {sz:Nat} {H:AH} {s:Sl3} {xs:List α} (h:SlL R sz H s xs):xs.length≤maxN:=by
 have:=h.n; have:=h.top; omega
theorem SlL.imp {α:Type} {R R':AH→Addr→α→Prop} {sz:Nat} {H H':AH} {s:Sl3} {xs:List α} (h:SlL R sz H s xs) (hn:H.next≤H'.next) (hr:∀a x,R H a x→R' H' a x):SlL R' sz H' s xs :=
 ⟨h.n,h.cap,h.top,fun a ha=>⟨Nat.lt_of_lt_of_le (h.low a ha).1 hn,(h.low a ha).2⟩,h.at_.imp hr⟩
theorem z46 {sz:Nat} {s:Sl3} {a:Addr} (ha:s.p=some a) {i:Nat} {v:Int} (hv:v=i) (hi:i<s.n):idxA sz s v=some (a.add (i*sz)):=by
 subst hv
 unfold idxA
 rw [ha]
 simp only [Int.toNat_natCast]
 rw [if_pos ⟨by omega,by omega⟩]
theorem SlL.get {α:Type} {R:AH→Addr→α→Prop} {sz:Nat} {H:AH} {s:Sl3} {xs:List α} (h:SlL R sz H s xs) {i:Nat} (hi:i<xs.length) {v:Int} (hv:v=i) :
  ∃q,idxA sz s v=some q∧R H q xs[i]:=by
 obtain ⟨a,h1,h2⟩:=h.at_.get i hi
 rw [Nat.zero_add] at h2
 exact ⟨_,z46 h1 hv (by rw [h.n]; exact hi),h2⟩
theorem zi {n i:Nat} (hi:i<n) (hn:n≤maxN):IntKind.i64.wrap ((i:Int)+1)=((i+1:Nat):Int):=by
 refine zim (by omega) ?_
 have:maxN=9223372036854775807:=rfl
 omega
def found {R:Type} (n:Nat):Option R→Int⊕R
 | some r=>.inr r
 | none=>.inl (n:Int)
def stepO {R:Type} (i:Nat):Option R→Lp Int R
 | some r=>.ret r
 | none=>.next (IntKind.i64.wrap ((i:Int)+1))
theorem z4w {R:Type} {body:Int→Option (Lp Int R)} (n:Nat) (hn:n≤maxN) (out:Nat→Option R)
  (hs:∀i:Nat,i<n→body i=some (stepO i (out i))) (he:body n=some (.brk n)) :
  loopO body 0=some (found n ((List.range n).findSome? out)):=by
 have key:∀(d i:Nat),i+d=n→loopO body (i:Int)=some (found n ((List.range' i d).findSome? out)):=by
  intro d
  induction d with
  | zero =>
   intro i hi
   have:i=n:=by omega
   subst this
   rw [z57]
   exact ⟨1,by rw [iterO,he]; rfl⟩
  | succ d ih =>
   intro i hi
   have hb:=hs i (by omega)
   rw [List.range'_succ,List.findSome?_cons]
   cases ho:out i with
   | some r =>
    rw [ho] at hb
    rw [z57]
    exact ⟨1,by rw [iterO,hb]; rfl⟩
   | none =>
    rw [ho] at hb
    simp only [stepO] at hb
    rw [zi (by omega) hn] at hb
    rw [zl hb]
    exact ih (i+1) (by omega)
 have:=key n 0 (by omega)
 rw [List.range_eq_range']
 exact this
theorem zci {α S R:Type} {body:S→Option (Lp S R)} (xs:List α) (Inv:Nat→S→Prop) (post:S⊕R→Prop) (hpost:∀i s,i=xs.length→Inv i s→∃s',body s=some (.brk s')∧post (.inl s'))
  (hstep:∀(i:Nat) (hi:i<xs.length) s,Inv i s→(∃r,body s=some (.ret r)∧post (.inr r))∨(∃s',body s=some (.next s')∧Inv (i+1) s')) {s:S} (h0:Inv 0 s):∃o,loopO body s=some o∧post o:=by
 have key:∀(d i:Nat) (s:S),i+d=xs.length→Inv i s→∃o,loopO body s=some o∧post o:=by
  intro d
  induction d with
  | zero =>
   intro i s hi h
   obtain ⟨s',h1,h2⟩:=hpost i s (by omega) h
   exact ⟨_,zy h1,h2⟩
  | succ d ih =>
   intro i s hi h
   rcases hstep i (by omega) s h with ⟨r,h1,h2⟩ | ⟨s',h1,h2⟩
   ·exact ⟨_,z45 h1,h2⟩
   ·obtain ⟨o,h3,h4⟩:=ih (i+1) s' (by omega) h2
    exact ⟨o,by rw [zl h1]; exact h3,h4⟩
 exact key xs.length 0 s (by omega) h0
def StrA (H:AH) (q:Addr) (s:ByteArray):Prop:=Cel H q (.string s)
theorem Cel.push {H:AH} {b:Blk} {c:Array Value} {e:TypeId} {f:Nat×Nat} (hb:b.obj=.cells c e f) {i:Nat} {v:Value} (hv:c[i]? = some v):Cel (H.push b) ⟨H.next,i,none⟩ v :=
 ⟨zbo (a:=⟨H.next,i,none⟩) (AH.get_push_same _ _) hb rfl hv,by simp⟩
theorem SlL.push {α:Type} {R:AH→Addr→α→Prop} {H:AH} {b:Blk} {c:Array Value} {e:TypeId} {f:Nat×Nat} (hb:b.obj=.cells c e f) {xs:List α} (hn:xs.length≤maxN)
  (hr:∀(i:Nat) (h:i<xs.length),R (H.push b) ⟨H.next,i,none⟩ xs[i]):SlL R 1 (H.push b) ⟨some ⟨H.next,0,none⟩,xs.length,xs.length⟩ xs:=by
 refine ⟨rfl,Nat.le_refl _,hn,fun a ha=>?_,LAt.of fun j hj=>⟨_,rfl,?_⟩⟩
 ·cases ha; simp
 ·rw [z3i,Nat.mul_one,Nat.zero_add,Nat.zero_add]
  exact hr j hj
theorem SlL.ext {α:Type} {R:AH→Addr→α→Prop} {sz:Nat} {H H':AH} {s:Sl3} {xs:List α} (h:SlL R sz H s xs) (hf:Ext H H') (hr:∀a x,R H a x→R H' a x):SlL R sz H' s xs:=h.imp hf.1 hr
theorem zqi {s:ByteArray} {i:Nat} (hi:i<s.size) {v:Int} (hv:v=i):bytA s v=some ((s[i].toNat:Nat):Int):=by
 subst hv
 unfold bytA
 rw [if_pos (by omega)]
 simp [hi]
end Go.Abs
namespace Go.Abs
structure RoS (H:AH) (s:Sl3) (ss:List Sl3):Prop where
 len:s.n=ss.length
 cap:s.n≤s.c
 nil:s.p=none→s.n=0∧s.c=0
 low:∀a,s.p=some a→a.block<H.next
 cell:∀a,s.p=some a→∀(i:Nat) (h:i<ss.length),H.cell (a.add i)=some ss[i].v
end Go.Abs
namespace Go.Abs
variable {P:Program}
structure Imp (P:Program) (φ:Inj) (H:AH) (W:World):Prop where
 inv:Inv φ H W
 glob:Glob P φ
 ro:∀id b,H.get id=some b→b.ro=true
def viewB (c:Array Value) (e:TypeId):Blk:=⟨.cells c e (0,0),true,1,true⟩
theorem Imp.add {φ:Inj} {H:AH} {W:World} (h:Imp P φ H W) {blk off:Nat} {c c':Array Value} {e:TypeId} {f:Nat×Nat} (hb:W.heap[blk]? = some (.cells c' e f))
  (hc:∀(i:Nat) (v:Value),c[i]? = some v→∃v',c'[off+i]? = some v'∧VR φ v v'):Imp P (φ.upd H.next ⟨blk,off,0,1⟩) (H.push (viewB c e)) W∧φ.le (φ.upd H.next ⟨blk,off,0,1⟩):=by
 have hle:=Inj.le_upd ⟨blk,off,0,1⟩ h.inv.fresh
 have hro:∀id b,(H.push (viewB c e)).get id=some b→b.ro=true:=fun id b hg=>by
  by_cases e':id=H.next
  ·subst e'
   rw [AH.get_push_same] at hg; cases hg; rfl
  ·rw [AH.get_push_other _ _ e'] at hg
   exact h.ro id b hg
 refine ⟨⟨⟨fun i l hl=>?_,fun i b hg=>?_,fun i j b b' l l' h1 _ _ hr=>?_⟩,fun g hg=>?_,hro⟩,hle⟩
 ·by_cases e':i=H.next
  ·subst e'
   rw [Inj.upd_same] at hl; cases hl
   exact ⟨by simp,(Array.getElem?_eq_some_iff.1 hb).1⟩
  ·rw [Inj.upd_other _ _ e'] at hl
   have:=h.inv.dom i l hl
   simp only [AH.next_push]
   omega
 ·by_cases e':i=H.next
  ·subst e'
   rw [AH.get_push_same] at hg; cases hg
   refine ⟨_,Inj.upd_same _ _ _,c',e,f,hb,fun i v hv=>?_,Nat.zero_le _,fun _=>rfl,fun ho=>(by cases ho),fun hr=>(by cases hr),rfl⟩
   obtain ⟨v',h1,h2⟩:=hc i v hv
   exact ⟨v',h1,h2.mono hle⟩
  ·rw [AH.get_push_other _ _ e'] at hg
   obtain ⟨l,h1,h2⟩:=h.inv.obj i b hg
   exact ⟨l,by rw [Inj.upd_other _ _ e']; exact h1,h2.mono hle⟩
 ·rw [hro i b h1] at hr; cases hr
 ·obtain ⟨l,h1,h2,h3⟩:=h.glob g hg
  exact ⟨l,hle _ _ h1,h2,h3⟩
theorem z90 {w:World} {a:Addr} {v:Value} (h:w.cell? a=some v):∃c e f,w.heap[a.block]? = some (.cells c e f)∧a.spot=none∧c[a.off]? = some v:=by
 unfold World.cell? at h
 split at h
 ·rename_i c e f hc
  split at h
  ·cases h
  ·rename_i hs
   refine ⟨c,e,f,hc,?_,h⟩
   cases hh:a.spot with
   | none=>rfl
   | some x=>rw [hh] at hs; simp at hs
 ·cases h
theorem zlj (a:Addr) (hs:a.spot=none) (i:Nat):a.add i=⟨a.block,a.off+i,none⟩:=by
 obtain ⟨b,o,s⟩:=a
 simp only at hs
 subst hs
 unfold Addr.add
 split
 ·rename_i h; subst h; rfl
 ·rfl
theorem zit (a:Addr) (hs:a.spot=none):(⟨a.block,a.off,none⟩:Addr)=a:=by
 obtain ⟨b,o,s⟩:=a
 simp only at hs
 subst hs
 rfl
theorem Imp.cells {φ:Inj} {H:AH} {W:World} (h:Imp P φ H W) {a:Addr} {c:Array Value} (h0:0<c.size) (hc:∀(i:Nat) (v:Value),c[i]? = some v→∃v',W.cell? (a.add i)=some v'∧VR φ v v') :
  ∃φ' e,Imp P φ' (H.push (viewB c e)) W∧φ.le φ'∧∀n k,k≠OPEN→VR φ' (.slice (some ⟨H.next,0,none⟩) n k) (.slice (some a) n k):=by
 obtain ⟨v',h1,_⟩:=hc 0 c[0] (by simp [h0])
 obtain ⟨c',e,f,h2,h3,_⟩:=z90 h1
 rw [z1u] at h2
 have hsp:a.spot=none:=by
  unfold Addr.add at h3
  simpa using h3
 obtain ⟨h4,h5⟩:=h.add (blk:=a.block) (off:=a.off) (c:=c) (c':=c') (e:=e) (f:=f) h2 (fun i v hv=>by
  obtain ⟨w,g1,g2⟩:=hc i v hv
  obtain ⟨c'',e',f',g3,_,g5⟩:=z90 g1
  rw [z1u,h2] at g3
  simp only [Option.some.injEq,Obj.cells.injEq] at g3
  obtain ⟨rfl,_⟩:=g3
  rw [zlj a hsp] at g5
  exact ⟨w,g5,g2⟩)
 refine ⟨_,e,h4,h5,fun n k hk=>?_⟩
 have:=VR.slice H.next 0 n k ⟨a.block,a.off,0,1⟩ (Inj.upd_same φ H.next ⟨a.block,a.off,0,1⟩) hk
 rw [show (⟨(⟨a.block,a.off,0,1⟩:Loc).blk,(⟨a.block,a.off,0,1⟩:Loc).off+0,none⟩:Addr)=a from zit a hsp] at this
 exact this
theorem zp4 {H:AH} {c:Array Value} {e:TypeId} (i:Nat):(H.push (viewB c e)).cell ((⟨H.next,0,none⟩:Addr).add i)=c[i]? := by
 rw [zlj _ rfl]
 unfold AH.cell
 simp only [AH.get_push_same,viewB,Nat.zero_add]
open Go.ChangeShapes in
theorem zkx {H:Type} {enc:TypeId×Value→H} {W:World} {sp:Nat→Bool} {hd:Bool}:∀(ts:List TypeId) (vs:List Value) (ds:List (DataW H)) (ps:List MemPlace),DataW.TrodAll enc P W 0 sp hd ts vs ds ps→ds.length=ts.length:=by
 intro ts
 induction ts with
 | nil=>intro vs ds ps h; obtain ⟨_,rfl,_⟩:=trodAll_nil h; rfl
 | cons t ts ih=>intro vs ds ps h; obtain ⟨v,vs',d,ds',p,q,_,rfl,_,_,h2⟩:=trodAll_cons h; simp [ih _ _ _ h2]
theorem Imp.startT {W:World} {tabs:List Tab} (h:P.globals.size≤W.heap.size) (hB:tabsB P tabs=true) (ht:∀x∈tabs,∃fr,W.heap[x.1]? = some (.cells x.2.2 x.2.1 fr)):Imp P (φg P) (startH P tabs) W :=
 ⟨ziw h hB ht,zle,fun id b hb=>by obtain ⟨x,_,_,rfl⟩:=z7p hb; rfl⟩
open Go.RowKit in
theorem zic {ne:NE} (hS:Sane P ne) {f:Nat} {args args':Array Value} {H H':AH} {φ:Inj} {W:World} (h:CallS P ne H.next f args H (.bool true) H') (hi:Imp P φ H W) (ha:AR φ args args') :
  Calls P f args' W fun e W'=>e=.returned (.bool true)∧Below W.heap.size W W':=by
 refine ((h hS).2 φ W args' hi.glob ha hi.inv).mono fun e W' hpost=>?_
 obtain ⟨φ',v',rfl,hv,_,hst⟩:=hpost
 cases hv
 refine ⟨rfl,hst.os,hst.tape,hst.output,hst.size,fun k hk=>hst.keep k hk fun id l hm hs _=>?_⟩
 obtain ⟨b,hb⟩:=Option.isSome_iff_exists.1 hs
 obtain ⟨l',h1,_⟩:=hi.inv.obj id b hb
 have:=(hi.inv.dom id l' h1).1
 omega
theorem zfk {H:Type} {enc:TypeId×Value→H} {C:Checked} {os:Os} {f:FuncId} {fn:Func} {s:OpenSpec} {k:(H:Type)→List (DataW H)→Bool} (hk:s.cond=some k) {F:Stop.Interp} {laid:List (String×DataW Unit)}
  (own:ownKnob C.prog.godebug=none) (started:os.Started) (noInit:C.prog.inits.idxOf? f=none) (hfn:C.prog.funcs[f]? = some fn)
  (hgb:globalsB C.prog=true) (hl:laidOutB C.prog=true) (hts:readB C.prog fn=true) (hv:s.vars=[]) (hres:boolRes C.prog fn=true)
  (hspec:∀ds:List (DataW H),ds.length=fn.params.size→((s.at F).fn H ds).results=[.lit (.bool true)]∧((s.at F).fn H ds).args=ds∧((s.at F).fn H ds).vars=[])
  (hva:(s.at F).vars=s.vars) (hh:(laid.filter fun x=>x.2.handleName?.isSome)=[])
  (witness:∃(w:World) (tape:Tape) (i:Input),w.os=os∧(w.forCall tape i).Shaped C.prog∧i.vars=[]∧Input.okWide C.prog (w.forCall tape i) .any w.heap.size f i ∧
   s.preRow enc C.prog fn [] false laid (w.forCall tape i).memory i.args∧({}:Assume).holds C.prog (lone (Frame.enter C.prog f i.args .normal) [] (w.forCall tape i)))
  (contract:∀(W:World) (base:Nat) (args:Array Value) (ds:List (DataW H)) (ps:List MemPlace),C.prog.globals.size≤W.heap.size →
   (∀(j:Nat) t v,fn.params[j]? = some t→args[j]? = some v→Value.okWide C.prog W .any base t v) →
   DataW.TrodAll enc C.prog W 0 (fun _=>true) true fn.params.toList args.toList ds ps→k H ds=true→laidMet C.prog laid W→W.ShapedOpen C.prog→(DataW.weightsEach C.prog (fn.params.toList++s.bare.plain.varTypes C.prog) ds).all (·≤reachBytes)=true →
   Calls C.prog f args W fun e W'=>e=.returned (.bool true)∧RowKit.Below W.heap.size W W') :
  ReturnsInHanded {} C os f .any (s.preRow enc C.prog fn [] false laid) ((s.at F).post enc C.prog fn false true false false):=by
 obtain ⟨tb,hres,hbool⟩:=zng hres
 have hts:=zpw hts
 refine returnsInHanded_of_row own started noInit hfn witness ?_
 intro W base args ds gs before hval hW _ hcond hwt hL hsh _
 have hL':laidMet C.prog laid W:=by
  unfold laidMetH at hL
  rw [hh] at hL
  exact hL
 have hW2:=hW
 obtain ⟨p,q,hA,hV,_⟩:=hW
 rw [hv] at hV
 obtain ⟨rfl,rfl⟩:=ChangeShapes.trodVars_none hV
 have hkk:=hcond k hk
 rw [List.append_nil] at hkk hwt
 have hlen:ds.length=fn.params.size:=by simpa using zkx _ _ _ _ hA
 refine (contract W base args ds p (zi5 hgb hsh) hval hA hkk hL' hsh hwt).mono fun e W' ⟨he,hb⟩=>?_
 subst he
 exact ⟨_,rfl,zpj hl hts (hva.trans hv) hres hbool (hva.symm▸hW2) (hspec ds hlen) hb⟩
end Go.Abs
namespace Go.Abs
variable {P:Program} {W:World} {φ:Inj} {H:AH}
def ElemIn {β:Type} (P:Program) (W:World) (sz:Nat) (R:AH→List Value→β→Prop) (cs:List Value):Prop :=
 ∀(φ:Inj) (H:AH),Imp P φ H W→∃φ' H' cs' b,Imp P φ' H' W∧φ.le φ'∧Ext H H'∧cs'.length=sz∧cs.length=sz∧LR φ' cs' cs∧R H' cs' b
theorem lr_get {φ:Inj} {l l':List Value} (h:LR φ l l') {i:Nat} {v v':Value} (h1:l[i]? = some v) (h2:l'[i]? = some v'):VR φ v v':=(z48 h).2 i v v' h1 h2
theorem Imp.elems {β:Type} {sz:Nat} {R:AH→List Value→β→Prop} (hR:∀H H' cs b,Ext H H'→R H cs b→R H' cs b):∀(n:Nat) (C:Nat→List Value),(∀i,i<n→ElemIn P W sz R (C i))→∀(φ:Inj) (H:AH),Imp P φ H W →
  ∃φ' H',∃(C':Nat→List Value) (bs:List β),Imp P φ' H' W∧φ.le φ'∧Ext H H'∧bs.length=n∧∀(i:Nat),i<n→(C' i).length=sz∧(C i).length=sz∧LR φ' (C' i) (C i)∧∀b,bs[i]? = some b→R H' (C' i) b:=by
 intro n
 induction n with
 | zero=>intro C _ φ H h; exact ⟨φ,H,fun _=>[],[],h,Inj.le_refl _,Fm.refl _ _,rfl,fun i hi=>absurd hi (Nat.not_lt_zero _)⟩
 | succ n ih =>
  intro C hC φ H h
  obtain ⟨φ1,H1,C',bs,h1,h2,h3,h4,h5⟩:=ih C (fun i hi=>hC i (by omega)) φ H h
  obtain ⟨φ2,H2,cs',b,g1,g2,g3,g4,g5,g6,g7⟩:=hC n (Nat.lt_succ_self n) φ1 H1 h1
  refine ⟨φ2,H2,fun i=>if i=n then cs' else C' i,bs++[b],g1,Inj.le_trans h2 g2,h3.trans g3,by simp [h4],fun i hi=>?_⟩
  by_cases e:i=n
  ·subst e
   simp only [if_true]
   refine ⟨g4,g5,g6,fun b' hb'=>?_⟩
   rw [List.getElem?_append_right (by omega),h4,Nat.sub_self] at hb'
   simp at hb'
   subst hb'
   exact g7
  ·simp only [if_neg e]
   obtain ⟨k1,k2,k3,k4⟩:=h5 i (by omega)
   refine ⟨k1,k2,k3.mono g2,fun b' hb'=>?_⟩
   rw [List.getElem?_append_left (by omega)] at hb'
   exact hR _ _ _ _ g3 (k4 b' hb')
def Stands {β:Type} (sz:Nat) (R:AH→List Value→β→Prop) (H:AH) (q:Addr) (b:β):Prop:=∃cs:List Value,cs.length=sz∧(∀j v,cs[j]? = some v→Cel H (q.add j) v)∧R H cs b
theorem Imp.slice {β:Type} {sz:Nat} (hsz:0<sz) {R:AH→List Value→β→Prop} (hR:∀H H' cs b,Ext H H'→R H cs b→R H' cs b) (h:Imp P φ H W) (hP:0<P.globals.size)
  {A:Option Addr} {n c:Nat} (hn:n≤c) (hc:c≤maxLen) (hnil:A=none→c=0) {C:Nat→List Value} (hC:∀i,i<n→ElemIn P W sz R (C i))
  (hsp:∀a,A=some a→0<c→∃v,W.cell? a=some v)
  (hcell:∀a,A=some a→∀i,i<n→∀j,j<sz→W.cell? (a.add (i*sz+j))=(C i)[j]?) :
  ∃φ' H' s bs,Imp P φ' H' W∧φ.le φ'∧Ext H H'∧VR φ' (Sl3.v s) (.slice A n c)∧SlL (Stands sz R) sz H' s bs∧bs.length=n:=by
 have hO:c≠OPEN:=by
  have:OPEN=9223372036854775808:=rfl
  have:maxLen=9223372036854775807:=rfl
  omega
 have hm:n≤maxN:=by
  have:maxN=9223372036854775807:=rfl
  have:maxLen=9223372036854775807:=rfl
  omega
 by_cases h0:n=0
 ·subst h0
  cases A with
  | none =>
   obtain rfl:c=0:=hnil rfl
   exact ⟨φ,H,Sl3.nil,[],h,Inj.le_refl _,Fm.refl _ _,VR.sliceNil 0 0,⟨rfl,Nat.le_refl _,Nat.zero_le _,fun a ha=>(by cases ha),trivial⟩,rfl⟩
  | some a =>
   obtain ⟨l,h1,_,_⟩:=h.glob 0 hP
   by_cases hc0:c=0
   ·subst hc0
    refine ⟨φ,H,⟨some ⟨0,0,none⟩,0,0⟩,[],h,Inj.le_refl _,Fm.refl _ _,VR.sliceZero 0 0 l a h1,⟨rfl,Nat.le_refl _,Nat.zero_le _,fun a ha=>?_,trivial⟩,rfl⟩
    cases ha; exact ⟨(h.inv.dom 0 l h1).1,rfl⟩
   ·obtain ⟨v,hv⟩:=hsp a rfl (by omega)
    obtain ⟨c',e,f,k1,k2,k3⟩:=z90 hv
    obtain ⟨g1,g2⟩:=h.add (blk:=a.block) (off:=a.off) (c:=#[]) (c':=c') (e:=e) (f:=f) k1 (fun i v hv=>by simp at hv)
    refine ⟨_,_,⟨some ⟨H.next,0,none⟩,0,c⟩,[],g1,g2,Fm.push _ _ _,?_,⟨rfl,Nat.zero_le _,Nat.zero_le _,fun a' ha'=>?_,trivial⟩,rfl⟩
    ·have:=VR.slice H.next 0 0 c ⟨a.block,a.off,0,1⟩ (Inj.upd_same φ H.next ⟨a.block,a.off,0,1⟩) hO
     rw [show (⟨(⟨a.block,a.off,0,1⟩:Loc).blk,(⟨a.block,a.off,0,1⟩:Loc).off+0,none⟩:Addr)=a from zit a k2] at this
     exact this
    ·cases ha'; exact ⟨by simp,rfl⟩
 ·cases A with
  | none=>exact absurd (hnil rfl) (by omega)
  | some a =>
   obtain ⟨φ1,H1,C',bs,h1,h2,h3,h4,h5⟩:=Imp.elems hR n C hC φ H h
   have hsize:0<n*sz:=Nat.mul_pos (by omega) hsz
   have hdiv:∀x,x<n*sz→x / sz<n:=fun x hx=>Nat.div_lt_of_lt_mul (by rw [Nat.mul_comm]; exact hx)
   let c':Array Value:=Array.ofFn fun x:Fin (n*sz)=>((C' (x.val / sz))[x.val % sz]?).getD undef
   have hget:∀x,x<n*sz→c'[x]? = (C' (x / sz))[x % sz]? := by
    intro x hx
    have hl:=(h5 (x / sz) (hdiv x hx)).1
    have hmod:=Nat.mod_lt x hsz
    have:(C' (x / sz))[x % sz]? = some (C' (x / sz))[x % sz]:=List.getElem?_eq_getElem (by omega)
    simp only [c',Array.getElem?_ofFn,dif_pos hx,this,Option.getD_some]
   obtain ⟨φ2,e,g1,g2,g3⟩:=h1.cells (a:=a) (c:=c') (by simp [c',hsize]) (fun x v hv=>by
    have hx:x<n*sz:=by
     have:=(Array.getElem?_eq_some_iff.1 hv).1
     simpa [c'] using this
    have hmod:=Nat.mod_lt x hsz
    obtain ⟨k1,k2,k3,_⟩:=h5 (x / sz) (hdiv x hx)
    rw [hget x hx] at hv
    have hw:(C (x / sz))[x % sz]? = some ((C (x / sz))[x % sz]'(by omega)):=List.getElem?_eq_getElem (by omega)
    refine ⟨_,?_,lr_get k3 hv hw⟩
    have:=hcell a rfl (x / sz) (hdiv x hx) (x % sz) hmod
    rw [show x / sz*sz+x % sz=x by rw [Nat.mul_comm]; exact Nat.div_add_mod x sz] at this
    rw [this,hw])
   refine ⟨φ2,_,⟨some ⟨H1.next,0,none⟩,n,c⟩,bs,g1,Inj.le_trans h2 g2,h3.trans (Fm.push _ _ _),g3 n c hO,⟨h4.symm,hn,hm,fun a' ha'=>?_,LAt.of fun j hj=>⟨_,rfl,?_⟩⟩,h4⟩
   ·cases ha'; exact ⟨by simp,rfl⟩
   ·rw [h4] at hj
    obtain ⟨k1,k2,k3,k4⟩:=h5 j hj
    have hb:bs[j]? = some bs[j]:=List.getElem?_eq_getElem (by omega)
    refine ⟨C' j,k1,fun i v hv=>?_,hR _ _ _ _ (Fm.push _ _ _) (k4 _ hb)⟩
    have hi:i<sz:=by
     have:=(List.getElem?_eq_some_iff.1 hv).1
     omega
    rw [zb5 rfl,Nat.zero_add]
    have hx:j*sz+i<n*sz:=by
     have:(j+1)*sz≤n*sz:=Nat.mul_le_mul_right sz (by omega)
     rw [Nat.add_mul,Nat.one_mul] at this
     omega
    have e1:(j*sz+i) / sz=j:=by
     rw [Nat.mul_comm,Nat.mul_add_div hsz,Nat.div_eq_of_lt hi,Nat.add_zero]
    have e2:(j*sz+i) % sz=i:=by
     rw [Nat.mul_comm,Nat.mul_add_mod,Nat.mod_eq_of_lt hi]
    refine ⟨?_,?_⟩
    ·rw [zp4,hget _ hx,e1,e2]
     exact hv
    ·rw [z3i]; simp
end Go.Abs
namespace Go.Abs
theorem ba_beq (s t:ByteArray):(s == t)=decide (s=t):=by
 obtain ⟨a⟩:=s
 obtain ⟨b⟩:=t
 rw [Bool.eq_iff_iff]
 simp only [decide_eq_true_eq,ByteArray.mk.injEq]
 show (a == b)=true↔_
 exact beq_iff_eq
variable {P:Program} {γ:Type} [DecidableEq γ]
structure KeyK (P:Program) (kt:TypeId) (enc:γ→Value):Prop where
 und:∃d,P.underlying kt=some d∧((∀a b,Instr.sameNow d (enc a) (enc b)=some (decide (a=b)))∨((∀a b,Instr.sameNow d (enc a) (enc b)=none)∧∀a b,peval P (Op.equal kt (enc a) (enc b))=some (decide (a=b))))
 chk:∀a b,peval P (Instr.checkKey b 10000 kt (enc a))=some ()
 bits:∀a,Instr.sameBits 10000 (enc a) (enc a)=true
def look (l:List (γ×Value)) (k:γ):Option Value:=(l.find? fun x=>decide (x.1=k)).map (·.2)
def findI (k:γ):List (γ×Value)→Nat→Option (Nat×Value)
 | [],_=>none
 | x :: l,i=>if k=x.1 then some (i,x.2) else findI k l (i+1)
theorem zc8 (k:γ):∀(l:List (γ×Value)) (i:Nat),(findI k l i).map (·.2)=look l k
 | [],_=>rfl
 | x :: l,i=>by
  unfold findI look
  rw [List.find?_cons]
  by_cases h:k=x.1
  ·rw [if_pos h,decide_eq_true h.symm]; rfl
  ·rw [if_neg h,decide_eq_false (fun e=>h e.symm)]
   exact zc8 k l (i+1)
def Ents (enc:γ→Value) (es:List MapEntry) (l:List (γ×Value)):Prop:=es.map (fun e=>(e.key,e.val))=l.map fun x=>(enc x.1,x.2)
theorem z8w {kt:TypeId} {enc:γ→Value} (hK:KeyK P kt enc) (k:γ) {es:List MapEntry} {l:List (γ×Value)} (h:Ents enc es l):aFind P kt (enc k) es=some (findI k l 0):=by
 obtain ⟨d,h1,h2⟩:=hK.und
 unfold aFind
 rw [h1]
 simp only
 rcases h2 with h2 | ⟨h2,h3⟩
 ·have key:∀(es:List MapEntry) (l:List (γ×Value)) (i:Nat),Ents enc es l→Instr.findNow d (enc k) es i=some (findI k l i):=by
   intro es
   induction es with
   | nil =>
    intro l i h
    cases l with
    | nil=>rfl
    | cons x l=>simp [Ents] at h
   | cons e es ih =>
    intro l i h
    cases l with
    | nil=>simp [Ents] at h
    | cons x l =>
     simp only [Ents,List.map_cons,List.cons.injEq,Prod.mk.injEq] at h
     obtain ⟨⟨e1,e2⟩,e3⟩:=h
     unfold Instr.findNow findI
     rw [e1,h2,e2]
     by_cases hk:k=x.1
     ·rw [decide_eq_true hk,if_pos hk]
     ·rw [decide_eq_false hk,if_neg hk]
      exact ih l (i+1) e3
  rw [key es l 0 h]
 ·have key:∀(es:List MapEntry) (l:List (γ×Value)) (i:Nat),Ents enc es l→aAsk P kt (enc k) es i=some (findI k l i):=by
   intro es
   induction es with
   | nil =>
    intro l i h
    cases l with
    | nil=>rfl
    | cons x l=>simp [Ents] at h
   | cons e es ih =>
    intro l i h
    cases l with
    | nil=>simp [Ents] at h
    | cons x l =>
     simp only [Ents,List.map_cons,List.cons.injEq,Prod.mk.injEq] at h
     obtain ⟨⟨e1,e2⟩,e3⟩:=h
     unfold aAsk findI
     rw [e1,h3,e2]
     by_cases hk:k=x.1
     ·rw [decide_eq_true hk,if_pos hk]
     ·rw [decide_eq_false hk,if_neg hk]
      exact ih l (i+1) e3
  cases es with
  | nil =>
   cases l with
   | nil=>rfl
   | cons x l=>simp [Ents] at h
  | cons e es =>
   cases l with
   | nil=>simp [Ents] at h
   | cons x l =>
    have h':=h
    simp only [Ents,List.map_cons,List.cons.injEq,Prod.mk.injEq] at h'
    have hn:Instr.findNow d (enc k) (e :: es) 0=none:=by
     unfold Instr.findNow
     rw [h'.1.1,h2]
    rw [hn]
    exact key _ _ 0 h
def MapA (enc:γ→Value) (H:AH) (id:Nat) (f:γ→Option Value):Prop :=
 ∃es n opn esz l,H.get id=some { obj:=.map es n,opn:=opn,esz:=esz,ro:=false }∧Ents enc es.toList l∧∀k,look l k=f k
theorem MapA.fr {W:Nat→Prop} {enc:γ→Value} {H H':AH} {id:Nat} {f:γ→Option Value} (h:MapA enc H id f) (hf:Fm W H H') (hlt:id<H.next) (hw:¬W id):MapA enc H' id f:=by
 obtain ⟨es,n,opn,esz,l,h1,h2,h3⟩:=h
 exact ⟨es,n,opn,esz,l,hf.2 _ _ hlt hw h1,h2,h3⟩
theorem MapA.new (enc:γ→Value) {H:AH}:MapA enc (H.push mapB) H.next fun _=>none :=
 ⟨#[],0,false,0,[],by rw [AH.get_push_same]; rfl,rfl,fun k=>rfl⟩
theorem zc2 {α:Type} {t kt e:TypeId} {enc:γ→Value} (hK:KeyK P kt enc) (ht:P.underlying t=some (.map kt e)) {z:Value} (hz:(P.info? e).bind (·.zero)=some z) (hzf:flat depth z=true)
  {H:AH} {id:Nat} {f:γ→Option Value} (h:MapA enc H id f) (k:γ) (de:Value→Option α):lkM P t de H (some id) (enc k)=(de ((f k).getD z)).map fun x=>(x,(f k).isSome):=by
 obtain ⟨es,n,opn,esz,l,h1,h2,h3⟩:=h
 have ha:aLookup P t (.map (some id)) (enc k) true H=some (.tuple #[(f k).getD z,.bool (f k).isSome]):=by
  unfold aLookup
  rw [ht]
  simp only [aEntries,h1,hK.chk,z8w hK k h2]
  have:=zc8 k l 0
  rw [h3 k] at this
  cases hq:findI k l 0 with
  | none=>rw [hq] at this; simp only [Option.map_none] at this; rw [← this]; simp only [hz,hzf,cond_true]; rfl
  | some r=>rw [hq] at this; simp only [Option.map_some] at this; rw [← this]; simp only [cond_true]; rfl
 unfold lkM
 rw [ha]
theorem zjq {α:Type} {t kt e:TypeId} {enc:γ→Value} (hK:KeyK P kt enc) (ht:P.underlying t=some (.map kt e)) {z:Value} (hz:(P.info? e).bind (·.zero)=some z) (hzf:flat depth z=true)
  {H:AH} {id:Nat} {f:γ→Option Value} (h:MapA enc H id f) (k:γ) (de:Value→Option α):lk1 P t de H (some id) (enc k)=de ((f k).getD z):=by
 obtain ⟨es,n,opn,esz,l,h1,h2,h3⟩:=h
 have ha:aLookup P t (.map (some id)) (enc k) false H=some ((f k).getD z):=by
  unfold aLookup
  rw [ht]
  simp only [aEntries,h1,hK.chk,z8w hK k h2]
  have:=zc8 k l 0
  rw [h3 k] at this
  cases hq:findI k l 0 with
  | none=>rw [hq] at this; simp only [Option.map_none] at this; rw [← this]; simp only [hz,hzf,cond_true]; rfl
  | some r=>rw [hq] at this; simp only [Option.map_some] at this; rw [← this]; simp only [cond_false]; rfl
 unfold lk1
 rw [ha]
 rfl
theorem zfn {k:γ}:∀{l:List (γ×Value)} {i:Nat},findI k l i=none→∀x∈l,x.1≠k
 | [],_,_,x,hx=>by cases hx
 | y :: l,i,h,x,hx=>by
  unfold findI at h
  split at h
  ·cases h
  ·rename_i hn
   rcases List.mem_cons.1 hx with rfl | hx
   ·exact fun e=>hn e.symm
   ·exact zfn h x hx
theorem zlb (l:List (γ×Value)) (k k':γ) (v:Value) (hn:∀x∈l,x.1≠k):look (l++[(k,v)]) k'=if k'=k then some v else look l k':=by
 unfold look
 rw [List.find?_append]
 by_cases h:k'=k
 ·subst h
  have:l.find? (fun x=>decide (x.1=k'))=none:=by
   rw [List.find?_eq_none]
   intro x hx
   simpa using hn x hx
  rw [this,if_pos rfl]
  simp
 ·rw [if_neg h]
  have:([(k,v)]:List (γ×Value)).find? (fun x=>decide (x.1=k'))=none:=by
   simp only [List.find?_cons,decide_eq_false (show ¬k=k' from fun e=>h e.symm),List.find?_nil]
  rw [this]
  cases l.find? fun x=>decide (x.1=k') <;> rfl
theorem zfe {k k':γ} {v:Value}:∀{l:List (γ×Value)} {i j:Nat} {w:Value},findI k l i=some (j,w)→i≤j∧j - i<l.length∧(∀(h:j - i<l.length),(l[j - i]).1=k)∧look (l.modify (j - i) fun x=>(k,v)) k'=if k'=k then some v else look l k'
 | [],i,j,w,h=>by cases h
 | x :: l,i,j,w,h=>by
  unfold findI at h
  split at h
  ·rename_i hk
   cases h
   refine ⟨Nat.le_refl _,by simp,fun _=>by simp [hk],?_⟩
   rw [Nat.sub_self]
   simp only [List.modify_zero_cons]
   unfold look
   rw [List.find?_cons,List.find?_cons]
   by_cases e:k'=k
   ·subst e
    simp
   ·rw [if_neg e,decide_eq_false (show ¬k=k' from fun q=>e q.symm),decide_eq_false (show ¬x.1=k' from fun q=>e (q.symm.trans hk.symm))]
  ·rename_i hk
   obtain ⟨h1,h2,h3,h4⟩:=zfe (k':=k') (v:=v) h
   obtain ⟨d,rfl⟩:∃d,j=i+1+d:=⟨j - (i+1),by omega⟩
   have e1:i+1+d - i=d+1:=by omega
   have e2:i+1+d - (i+1)=d:=by omega
   rw [e2] at h2 h3 h4
   rw [e1]
   refine ⟨by omega,by simp; omega,fun _=>by simpa using h3 h2,?_⟩
   rw [List.modify_succ_cons]
   unfold look at h4 ⊢
   rw [List.find?_cons,List.find?_cons]
   by_cases e:x.1=k'
   ·rw [decide_eq_true e]
    have:¬k'=k:=fun q=>hk (q.symm.trans e.symm)
    rw [if_neg this]
   ·rw [decide_eq_false e]
    exact h4
theorem z99 {t kt e:TypeId} {enc:γ→Value} (hK:KeyK P kt enc) (ht:P.underlying t=some (.map kt e)) {m:Nat} {H:AH} {id:Nat} {f:γ→Option Value} (h:MapA enc H id f) (hm:m≤id) (k:γ) (v:Value) :
  ∃H',upM P m t H (some id) (enc k) v=some H'∧MapA enc H' id (fun k'=>if k'=k then some v else f k')∧Fm (fun i=>i=id) H H'∧H'.next=H.next:=by
 obtain ⟨es,n,opn,esz,l,h1,h2,h3⟩:=h
 have hmap:aMapAt m H (.map (some id))=some (id,{ obj:=.map es n,opn:=opn,esz:=esz,ro:=false },es,n):=by
  unfold aMapAt
  simp only [h1]
  rw [show Nat.ble m id=true by simp [hm]]
  rfl
 cases hq:findI k l 0 with
 | none =>
  refine ⟨H.put id { obj:=.map (es.push { key:=enc k,val:=v,born:=n }) (n+1),opn:=opn,esz:=esz,ro:=false },?_,⟨_,_,_,_,l++[(k,v)],AH.get_put_same _ _ _,?_,fun k'=>?_⟩,Fm.put,rfl⟩
  ·unfold upM aUpdate
   rw [ht]
   simp only [hmap,hK.chk,z8w hK k h2,hq]
   rfl
  ·unfold Ents at h2 ⊢
   simp [h2]
  ·rw [zlb l k k' v (zfn hq),h3 k']
 | some r =>
  obtain ⟨j,w⟩:=r
  obtain ⟨_,h5,h6,h7⟩:=zfe (k':=k) (v:=v) hq
  rw [Nat.sub_zero] at h5 h6
  have hlen:es.size=l.length:=by
   have:=congrArg List.length h2
   simpa using this
  have hj:j<es.size:=by omega
  have hkey:(es[j]'hj).key=enc k:=by
   have h8:(es.toList.map (fun e=>(e.key,e.val)))[j]? = (l.map fun x=>(enc x.1,x.2))[j]? := by
    unfold Ents at h2
    rw [h2]
   simp [hj,h5] at h8
   rw [h8.1,h6 h5]
  have hb:Instr.sameBits 10000 (((es[j]?).map (·.key)).getD (enc k)) (enc k)=true:=by
   rw [Array.getElem?_eq_getElem hj]
   simp only [Option.map_some,Option.getD_some,hkey]
   exact hK.bits k
  refine ⟨H.put id { obj:=.map (es.modify j fun e=>{ e with key:=enc k,val:=v }) n,opn:=opn,esz:=esz,ro:=false },?_,⟨_,_,_,_,l.modify j fun x=>(k,v),AH.get_put_same _ _ _,?_,fun k'=>?_⟩,Fm.put,rfl⟩
  ·unfold upM aUpdate
   rw [ht]
   simp only [hmap,hK.chk,z8w hK k h2,hq,hb,cond_true]
   rfl
  ·unfold Ents at h2 ⊢
   have:(es.modify j fun e=>{ e with key:=enc k,val:=v }).toList=es.toList.modify j fun e=>{ e with key:=enc k,val:=v }:=by simp
   rw [this]
   refine List.ext_getElem? fun i=>?_
   have h8:(es.toList.map (fun e=>(e.key,e.val)))[i]? = (l.map fun x=>(enc x.1,x.2))[i]? := by rw [h2]
   simp only [List.getElem?_map,List.getElem?_modify] at h8 ⊢
   by_cases hij:j=i
   ·subst hij
    simp only [if_true]
    have g1:es.toList[j]? = some es[j]:=by simp [hj]
    have g2:l[j]? = some l[j]:=by simp [h5]
    rw [g1,g2]
    rfl
   ·simp only [if_neg hij]
    simpa using h8
  ·have:=(zfe (k':=k') (v:=v) hq).2.2.2
   rw [Nat.sub_zero] at this
   rw [this,h3 k']
end Go.Abs
namespace Go.Abs
inductive VecV (e:TypeId) (sz m:Nat) (H:AH) (n:Nat) (vs:List Value):Sl3→Prop
 | nil (hn:n=0) (hv:vs=[]):VecV e sz m H n vs Sl3.nil
 | zero (a:Addr) (ha:a.block<H.next∧a.spot=none) (hn:n=0) (hv:vs=[]):VecV e sz m H n vs ⟨some a,0,0⟩
 | opn (id off:Nat) (cs:Array Value) (hm:m≤id) (hid:id<H.next) (hg:H.get id=some { obj:=.cells cs e (0,0),opn:=true,esz:=sz,ro:=false }) (hl:vs.length=n*sz) (ho:vs.all one=true)
   (hx:∀(i:Nat) (v:Value),vs[i]? = some v→cs[off+i]? = some v):VecV e sz m H n vs ⟨some ⟨id,off,none⟩,n,OPEN⟩
structure RdV (sz:Nat) (H:AH) (s:Sl3) (n:Nat) (vs:List Value):Prop where
 len:s.n=n
 nil:s.p=none→n=0∧vs=[]
 rd:∀a,s.p=some a→rdCells H a 0 (n*sz)=some vs
 one:vs.all one=true
theorem VecV.len {e:TypeId} {sz m n:Nat} {H:AH} {vs:List Value} {s:Sl3} (h:VecV e sz m H n vs s):vs.length=n*sz∧s.n=n∧vs.all Abs.one=true:=by
 cases h with
 | nil hn hv=>subst hn hv; exact ⟨by simp,rfl,rfl⟩
 | zero a ha hn hv=>subst hn hv; exact ⟨by simp,rfl,rfl⟩
 | opn id off cs hm hid hg hl ho hx=>exact ⟨hl,rfl,ho⟩
theorem VecV.cell {e:TypeId} {sz m n:Nat} {H:AH} {vs:List Value} {s:Sl3} (h:VecV e sz m H n vs s) {i:Nat} {v:Value} (hv:vs[i]? = some v):∃a,s.p=some a∧Cel H (a.add i) v:=by
 cases h with
 | nil hn hv'=>subst hv'; simp at hv
 | zero a ha hn hv'=>subst hv'; simp at hv
 | opn id off cs hm hid hg hl ho hx =>
  refine ⟨⟨id,off,none⟩,rfl,?_⟩
  rw [z3i]
  exact ⟨zbo (a:=⟨id,off+i,none⟩) hg rfl rfl (hx i v hv),hid⟩
theorem VecV.rdv {e:TypeId} {sz m n:Nat} {H:AH} {vs:List Value} {s:Sl3} (h:VecV e sz m H n vs s):RdV sz H s n vs:=by
 have hl:=h.len
 refine ⟨hl.2.1,fun hp=>?_,fun a ha=>?_,hl.2.2⟩
 ·cases h with
  | nil hn hv=>exact ⟨hn,hv⟩
  | zero a ha hn hv=>cases hp
  | opn=>cases hp
 ·have:=z7b (H:=H) (a:=a) vs 0 fun i hi=>by
   obtain ⟨a',h1,h2⟩:=h.cell (i:=i) (v:=vs[i]) (by simp [hi])
   rw [ha] at h1
   cases h1
   rw [Nat.zero_add]
   exact h2.1
  rw [hl.1] at this
  exact this
def owns (s:Sl3) (id:Nat):Prop:=s.c=OPEN∧blkIs s id
theorem VecV.fr {e:TypeId} {sz m n:Nat} {H H':AH} {vs:List Value} {s:Sl3} {W:Nat→Prop} (h:VecV e sz m H n vs s) (hf:Fm W H H') (hw:∀id,owns s id→¬W id):VecV e sz m H' n vs s:=by
 cases h with
 | nil hn hv=>exact .nil hn hv
 | zero a ha hn hv=>exact .zero a ⟨Nat.lt_of_lt_of_le ha.1 hf.1,ha.2⟩ hn hv
 | opn id off cs hm hid hg hl ho hx=>exact .opn id off cs hm (Nat.lt_of_lt_of_le hid hf.1) (hf.2 _ _ hid (hw id ⟨rfl,_,rfl,rfl⟩) hg) hl ho hx
theorem VecV.ext {e:TypeId} {sz m n:Nat} {H H':AH} {vs:List Value} {s:Sl3} (h:VecV e sz m H n vs s) (hf:Ext H H'):VecV e sz m H' n vs s:=h.fr hf fun _ _ h=>h
theorem VecV.own {e:TypeId} {sz m n:Nat} {H:AH} {vs:List Value} {s:Sl3} (h:VecV e sz m H n vs s):∀id,owns s id→m≤id∧id<H.next:=by
 rintro id ⟨hc,a,ha,rfl⟩
 cases h with
 | nil hn' hv=>cases ha
 | zero a ha hn' hv=>cases hc
 | opn id off cs hm hid hg hl ho hx=>cases ha; exact ⟨hm,hid⟩
theorem VecV.app {e:TypeId} {sz bytes m n k:Nat} {H:AH} {vs ws:List Value} {s z:Sl3} (h:VecV e sz m H n vs s) (hz:RdV sz H z k ws) (hwl:ws.length=k*sz)
  (h1:(2*(n+k)+1000)*bytes≤281474976710656) (h2:n+k≤281474976710656) (hm:m≤H.next) :
  ∃s' H',appS m e sz bytes H s z=some (s',H')∧VecV e sz m H' (n+k) (vs++ws) s'∧Fm (owns s) H H'∧∀id,owns s' id→owns s id∨H.next≤id:=by
 have hO:OPEN=9223372036854775808:=rfl
 have hsrc:∀r,appL m e sz bytes H s k ws=r→appS m e sz bytes H s z=r:=by
  intro r hr
  unfold appS
  cases hp:z.p with
  | none =>
   obtain ⟨rfl,rfl⟩:=hz.nil hp
   simp only
   rw [if_pos hz.len]
   exact hr
  | some b =>
   simp only
   rw [hz.len,hz.rd b hp]
   simp only
   rw [if_pos hz.one]
   exact hr
 by_cases hk:k=0
 ·subst hk
  have:ws=[]:=List.length_eq_zero_iff.1 (by simpa using hwl)
  subst this
  refine ⟨s,H,hsrc _ ?_,by simpa using h,Fm.refl _ _,fun id hid=>.inl hid⟩
  unfold appL
  rw [if_pos rfl,if_pos]
  cases h with
  | nil=>exact Nat.le_refl _
  | zero=>exact Nat.le_refl _
  | opn=>show n≤OPEN; omega
 ·have hone:(vs++ws).all one=true:=by rw [List.all_append,h.len.2.2,hz.one]; rfl
  have hlen:(vs++ws).length=(n+k)*sz:=by rw [List.length_append,h.len.1,hwl,Nat.add_mul]
  have fin:∀(G:AH),Fm (owns s) H G→G.next=H.next→appL m e sz bytes H s k ws=some (⟨some ⟨G.next,0,none⟩,n+k,OPEN⟩,G.push { obj:=.cells (vs++ws).toArray e (0,0),opn:=true,esz:=sz,ro:=false }) →
    ∃s' H',appS m e sz bytes H s z=some (s',H')∧VecV e sz m H' (n+k) (vs++ws) s'∧Fm (owns s) H H'∧∀id,owns s' id→owns s id∨H.next≤id:=by
   intro G hG hn he
   refine ⟨_,_,hsrc _ he,.opn G.next 0 _ (by omega) (by simp) (by rw [AH.get_push_same]) hlen hone (fun i v hv=>by simpa using hv),?_,?_⟩
   ·refine ⟨by simp; omega,fun id b hid hw hb=>?_⟩
    rw [AH.get_push_other _ _ (by omega)]
    exact hG.2 id b hid hw hb
   ·rintro id ⟨_,a,ha,rfl⟩
    cases ha
    exact .inr (by show H.next≤G.next; omega)
  cases h with
  | nil hn hv =>
   subst hn hv
   refine fin H (Fm.refl _ _) rfl ?_
   unfold appL
   rw [if_neg hk]
   simp only [Sl3.nil]
   rw [if_pos ⟨trivial,trivial⟩]
   simp only [Nat.zero_add,List.nil_append] at h1 h2 ⊢
   rw [zdy h1 h2]
  | zero a ha hn hv =>
   subst hn hv
   refine fin H (Fm.refl _ _) rfl ?_
   unfold appL
   rw [if_neg hk]
   simp only [Nat.zero_mul,rdCells,Nat.zero_add,List.nil_append]
   rw [if_neg (by omega),if_neg (by omega),if_pos (Nat.le_refl _)]
   simp only [Nat.zero_add] at h1 h2
   rw [zdy h1 h2]
  | opn id off cs hm' hid hg hl ho hx =>
   have hrd:=(VecV.opn (H:=H) id off cs hm' hid hg hl ho hx).rdv.rd _ rfl
   refine fin (H.put id dead) ⟨Nat.le_refl _,fun id' b hid' hn hb=>?_⟩ rfl ?_
   ·have hne:id'≠id:=fun e=>hn ⟨rfl,_,rfl,e.symm⟩
    rw [AH.get_put_other _ _ hne]
    exact hb
   ·unfold appL
    rw [if_neg hk]
    simp only
    rw [hrd]
    simp only
    have hown:ownedB m H ⟨id,off,none⟩ e sz=true:=by
     unfold ownedB
     simp only [hg,ble_of hm',Nat.beq_refl,Bool.and_self]
    rw [if_pos trivial,if_pos ⟨hown,hz.one⟩,zdy h1 h2]
theorem zq7 {e:TypeId} {H:AH} {k sz:Nat} {cells:List Value} (hl:cells.length=k*sz) (ho:cells.all one=true):RdV sz (H.push { obj:=.cells cells.toArray e (0,0),opn:=false,esz:=0,ro:=false }) ⟨some ⟨H.next,0,none⟩,k,k⟩ k cells:=by
 refine ⟨rfl,fun h=>(by cases h),fun a ha=>?_,ho⟩
 cases ha
 rw [← hl]
 exact z7b cells 0 fun i hi=>by
  rw [z3i,Nat.zero_add,Nat.zero_add]
  exact zbo (a:=⟨H.next,i,none⟩) (AH.get_push_same _ _) rfl rfl (by simp [hi])
end Go.Abs
namespace Go.Abs
structure Enc (α:Type) where
 enc:α→List Value
 sz:Nat
 len:∀x,(enc x).length=sz
 one:∀x,(enc x).all Abs.one=true
theorem Enc.flat_len {α:Type} (E:Enc α) (l:List α):(l.flatMap E.enc).length=l.length*E.sz:=by
 induction l with
 | nil=>simp
 | cons x l ih=>rw [List.flatMap_cons,List.length_append,E.len,ih,List.length_cons,Nat.add_mul,Nat.one_mul,Nat.add_comm]
theorem Enc.flat_one {α:Type} (E:Enc α) (l:List α):(l.flatMap E.enc).all Abs.one=true:=by
 induction l with
 | nil=>rfl
 | cons x l ih=>rw [List.flatMap_cons,List.all_append,E.one,ih]; rfl
theorem Enc.flat_get {α:Type} (E:Enc α):∀{l:List α} {i j:Nat} (hi:i<l.length),j<E.sz→(l.flatMap E.enc)[i*E.sz+j]? = (E.enc l[i])[j]?
 | x :: l,0,j,hi,hj=>by
  rw [List.flatMap_cons,Nat.zero_mul,Nat.zero_add,List.getElem?_append_left (by rw [E.len]; exact hj)]
  rfl
 | x :: l,i+1,j,hi,hj=>by
  have hi':i<l.length:=by simpa using hi
  rw [List.flatMap_cons,List.getElem?_append_right (by rw [E.len,Nat.add_mul]; omega),E.len,show (i+1)*E.sz+j - E.sz=i*E.sz+j by rw [Nat.add_mul]; omega]
  rw [Enc.flat_get E hi' hj]
  rfl
def VecA {α:Type} (E:Enc α) (e:TypeId) (m:Nat) (H:AH) (l:List α) (s:Sl3):Prop:=VecV e E.sz m H l.length (l.flatMap E.enc) s
structure Ch (H:AH) (s:Sl3) (H':AH) (s':Sl3):Prop where
 fm:Fm (owns s) H H'
 ow:∀id,owns s' id→owns s id∨H.next≤id
theorem Ch.refl (H:AH) (s:Sl3):Ch H s H s:=⟨Fm.refl _ _,fun _ h=>.inl h⟩
theorem Ch.trans {H H1 H2:AH} {s s1 s2:Sl3} (h:Ch H s H1 s1) (k:Ch H1 s1 H2 s2):Ch H s H2 s2:=by
 refine ⟨h.fm.comp k.fm fun id hlt hn ho=>?_,fun id ho=>?_⟩
 ·rcases h.ow id ho with h1 | h1
  ·exact hn h1
  ·omega
 ·rcases k.ow id ho with h1 | h1
  ·exact h.ow id h1
  ·exact .inr (Nat.le_trans h.fm.1 h1)
theorem Ch.ext {H0 H H':AH} {s s':Sl3} (h:Ch H s H' s') (hx:Ext H0 H) (ho:∀id,owns s id→H0.next≤id):Ext H0 H'∧∀id,owns s' id→H0.next≤id:=by
 refine ⟨hx.comp h.fm fun id hlt _ hw=>?_,fun id hw=>?_⟩
 ·have:=ho id hw; omega
 ·rcases h.ow id hw with h1 | h1
  ·exact ho id h1
  ·exact Nat.le_trans hx.1 h1
theorem VecA.nil {α:Type} (E:Enc α) (e:TypeId) (m:Nat) (H:AH):VecA E e m H [] Sl3.nil:=VecV.nil (by rfl) (by rfl)
theorem VecA.zero {α:Type} (E:Enc α) (e:TypeId) (m:Nat) (H:AH) (a:Addr) (ha:a.block<H.next∧a.spot=none):VecA E e m H [] ⟨some a,0,0⟩:=VecV.zero a ha (by rfl) (by rfl)
theorem z3y {id:Nat}:¬owns Sl3.nil id:=by rintro ⟨_,a,ha,_⟩; cases ha
theorem zhx {id n:Nat} {a:Option Addr}:¬owns ⟨a,n,0⟩ id:=by rintro ⟨h,_⟩; cases h
theorem VecA.n {α:Type} {E:Enc α} {e:TypeId} {m:Nat} {H:AH} {l:List α} {s:Sl3} (h:VecA E e m H l s):s.n=l.length:=h.len.2.1
theorem VecA.other {α:Type} {E:Enc α} {e:TypeId} {m:Nat} {H H':AH} {l:List α} {s t t':Sl3} (h:VecA E e m H l s) (hc:Ch H t H' t') (hd:∀id,owns s id→¬owns t id):VecA E e m H' l s:=h.fr hc.fm hd
theorem VecA.app {α:Type} {E:Enc α} {e:TypeId} {bytes m:Nat} {H:AH} {l l':List α} {s z:Sl3} (h:VecA E e m H l s) (hz:RdV E.sz H z l'.length (l'.flatMap E.enc))
  (h1:(2*(l.length+l'.length)+1000)*bytes≤281474976710656) (h2:l.length+l'.length≤281474976710656) (hm:m≤H.next) :
  ∃s' H',appS m e E.sz bytes H s z=some (s',H')∧VecA E e m H' (l++l') s'∧Ch H s H' s':=by
 obtain ⟨s',H',a1,a2,a3,a4⟩:=VecV.app h hz (E.flat_len l') h1 h2 hm
 refine ⟨s',H',a1,?_,⟨a3,a4⟩⟩
 unfold VecA
 rw [List.length_append,List.flatMap_append]
 exact a2
theorem VecA.push {α:Type} {E:Enc α} {e:TypeId} {bytes m:Nat} {H:AH} {l:List α} {s:Sl3} (h:VecA E e m H l s) (x:α)
  (h1:(2*(l.length+1)+1000)*bytes≤281474976710656) (h2:l.length+1≤281474976710656) (hm:m≤H.next) (ho:∀id,owns s id→id<H.next) :
  ∃z H1 s' H',newR e 1 (E.enc x).toArray H=some (z,H1)∧appS m e E.sz bytes H1 s z=some (s',H')∧VecA E e m H' (l++[x]) s'∧Ch H s H' s':=by
 have hp:Ext H (H.push { obj:=.cells (E.enc x).toArray e (0,0),opn:=false,esz:=0,ro:=false }):=Fm.push _ _ _
 have hz:=zq7 (e:=e) (H:=H) (k:=1) (sz:=E.sz) (cells:=E.enc x) (by rw [E.len]; omega) (E.one x)
 have h':VecA E e m (H.push { obj:=.cells (E.enc x).toArray e (0,0),opn:=false,esz:=0,ro:=false }) l s:=VecV.ext h hp
 obtain ⟨s',H',a1,a2,a3⟩:=VecA.app (l':=[x]) h' (by simpa using hz) h1 h2 (by simp; omega)
 refine ⟨_,_,s',H',rfl,a1,a2,⟨?_,fun id hid=>?_⟩⟩
 ·exact (hp.weak (W':=owns s) fun _ _ h=>h.elim).comp a3.fm fun id _ hn=>hn
 ·rcases a3.ow id hid with h3 | h3
  ·exact .inl h3
  ·simp only [AH.next_push] at h3
   exact .inr (by omega)
theorem z9i {α β R:Type} {E:Enc β} {e:TypeId} {m:Nat} {xs:List α} {body:AH×Sl3×Int→Option (Lp (AH×Sl3×Int) R)} (f:α→List β) (N:Nat) {H0:AH}
  (step:∀(i:Nat) (hi:i<xs.length) (H:AH) (s:Sl3) (l:List β),VecA E e m H l s→Ext H0 H→(∀id,owns s id→H0.next≤id)→l.length+(f xs[i]).length≤N →
   ∃H' s',body (H,s,(i:Int))=some (.next (H',s',((i+1:Nat):Int)))∧VecA E e m H' (l++f xs[i]) s'∧Ch H s H' s')
  (he:∀H s,Ext H0 H→body (H,s,(xs.length:Int))=some (.brk (H,s,(xs.length:Int)))) :
  ∀(d i:Nat) (H:AH) (s:Sl3) (l:List β),i+d=xs.length→VecA E e m H l s→Ext H0 H→(∀id,owns s id→H0.next≤id)→l.length+((xs.drop i).flatMap f).length≤N →
   ∃H' s',loopO body (H,s,(i:Int))=some (.inl (H',s',(xs.length:Int)))∧VecA E e m H' (l++(xs.drop i).flatMap f) s'∧Ch H s H' s':=by
 intro d
 induction d with
 | zero =>
  intro i H s l hi hv hx ho hN
  have:i=xs.length:=by omega
  subst this
  refine ⟨H,s,zy (he H s hx),?_,Ch.refl _ _⟩
  rw [List.drop_length]
  simpa using hv
 | succ d ih =>
  intro i H s l hi hv hx ho hN
  have hlt:i<xs.length:=by omega
  rw [List.drop_eq_getElem_cons hlt,List.flatMap_cons,List.length_append] at hN
  obtain ⟨H1,s1,b1,v1,c1⟩:=step i hlt H s l hv hx ho (by omega)
  obtain ⟨x1,o1⟩:=c1.ext hx ho
  obtain ⟨H2,s2,b2,v2,c2⟩:=ih (i+1) H1 s1 (l++f xs[i]) (by omega) v1 x1 o1 (by rw [List.length_append]; omega)
  refine ⟨H2,s2,by rw [zl b1]; exact b2,?_,c1.trans c2⟩
  rw [List.drop_eq_getElem_cons hlt,List.flatMap_cons,← List.append_assoc]
  exact v2
theorem VecA.low {α:Type} {E:Enc α} {e:TypeId} {m:Nat} {H:AH} {l:List α} {s:Sl3} (h:VecA E e m H l s):∀a,s.p=some a→a.block<H.next∧a.spot=none:=by
 intro a ha
 cases h with
 | nil hn hv=>cases ha
 | zero a' h' hn hv=>cases ha; exact h'
 | opn id off cs hm hid hg hl ho hx=>cases ha; exact ⟨hid,rfl⟩
theorem VecA.sl {α:Type} {E:Enc α} {e:TypeId} {m:Nat} {H:AH} {l:List α} {s:Sl3} (h:VecA E e m H l s) (hN:l.length≤maxN) {R:AH→Addr→α→Prop}
  (hR:∀x q,(∀j v,(E.enc x)[j]? = some v→Cel H (q.add j) v)→R H q x):SlL R E.sz H s l:=by
 have hlow:=h.low
 have hO:OPEN=9223372036854775808:=rfl
 have eN:maxN=9223372036854775807:=rfl
 refine ⟨h.n,?_,by rw [h.n]; exact hN,hlow,LAt.of fun i hi=>?_⟩
 ·have hn:=h.n
  cases h with
  | nil hn hv=>exact Nat.le_refl _
  | zero a ha hn hv=>exact Nat.le_refl _
  | opn=>show l.length≤OPEN; omega
 ·have hpos:∃a,s.p=some a:=by
   cases h with
   | nil hn hv=>omega
   | zero a ha hn hv=>exact ⟨_,rfl⟩
   | opn=>exact ⟨_,rfl⟩
  obtain ⟨a,ha⟩:=hpos
  refine ⟨a,ha,?_⟩
  rw [Nat.zero_add]
  refine hR _ _ fun j v hv=>?_
  have hj:j<E.sz:=by
   have:=(List.getElem?_eq_some_iff.1 hv).1
   rw [E.len] at this
   exact this
  obtain ⟨a',h1,h2⟩:=VecV.cell h (i:=i*E.sz+j) (v:=v) (by rw [E.flat_get hi hj]; exact hv)
  rw [ha] at h1
  cases h1
  rw [zb5 (hlow a ha).2]
  exact h2
end Go.Abs
namespace Go.Abs
structure ArrV (e:TypeId) (m:Nat) (H:AH) (id:Nat) (vs:List Value):Prop where
 get:H.get id=some { obj:=.cells vs.toArray e (0,0),opn:=false,esz:=0,ro:=false }
 own:m≤id
 low:id<H.next
theorem ArrV.fr {e:TypeId} {m:Nat} {H H':AH} {id:Nat} {vs:List Value} {W:Nat→Prop} (h:ArrV e m H id vs) (hf:Fm W H H') (hw:¬W id):ArrV e m H' id vs :=
 ⟨hf.2 _ _ h.low hw h.get,h.own,Nat.lt_of_lt_of_le h.low hf.1⟩
theorem ArrV.ext {e:TypeId} {m:Nat} {H H':AH} {id:Nat} {vs:List Value} (h:ArrV e m H id vs) (hf:Ext H H'):ArrV e m H' id vs:=h.fr hf fun h=>h
theorem ArrV.cel {e:TypeId} {m:Nat} {H:AH} {id:Nat} {vs:List Value} (h:ArrV e m H id vs) {i:Nat} {v:Value} (hv:vs[i]? = some v):Cel H ((⟨id,0,none⟩:Addr).add (i*1)) v:=by
 rw [z3i]
 exact ⟨zbo (a:=⟨id,0+i*1,none⟩) h.get rfl rfl (by simpa using hv),h.low⟩
theorem ArrV.set {e:TypeId} {m:Nat} {H:AH} {id:Nat} {vs:List Value} (h:ArrV e m H id vs) {i:Nat} (hi:i<vs.length) (v:Value) :
  ∃H',H.setCell m ((⟨id,0,none⟩:Addr).add (i*1)) v=some H'∧ArrV e m H' id (vs.set i v)∧Fm (fun j=>j=id) H H'∧H'.next=H.next:=by
 have hs:=zn0 (v:=v) (off:=0+i*1) h.own h.get (by simpa using hi)
 rw [z3i]
 refine ⟨_,hs,⟨?_,h.own,h.low⟩,Fm.put,rfl⟩
 rw [AH.get_put_same]
 simp
theorem z5c {id n:Nat} {i:Nat} (hi:i<n) {v:Int} (hv:v=i):idxA 1 (⟨some ⟨id,0,none⟩,n,n⟩:Sl3) v=some ((⟨id,0,none⟩:Addr).add (i*1)):=z46 rfl hv hi
theorem zh0 {e:TypeId} {bytes m:Nat} {H:AH} {z:Value} {n:Nat} (hn:n≤281474976710656) (hb:bytes*n≤281474976710656) (hm:m≤H.next) :
  ∃H',mkS e 1 bytes #[z] H (n:Int) (n:Int)=some (⟨some ⟨H.next,0,none⟩,n,n⟩,H')∧ArrV e m H' H.next (List.replicate n z)∧Ext H H'∧H'.next=H.next+1:=by
 unfold mkS
 have hb':(bytes:Int)*(n:Int)≤281474976710656:=by
  rw [← Int.natCast_mul]
  omega
 rw [if_pos ⟨by omega,by omega,by omega,hb'⟩]
 simp only [Int.toNat_natCast,Nat.mul_one]
 refine ⟨_,rfl,⟨?_,hm,by simp⟩,Fm.push _ _ _,by simp⟩
 rw [AH.get_push_same]
 congr 2
 by_cases h0:n=0
 ·subst h0; rfl
 ·rw [if_neg h0]
  have:zerosA #[z] n=(List.replicate n z).toArray:=by
   unfold zerosA
   refine Array.ext (by simp) fun i h1 h2=>?_
   have:i % 1=0:=Nat.mod_one i
   simp [this]
  rw [this]
theorem VecA.tail {α:Type} {E:Enc α} {e:TypeId} {m:Nat} {H:AH} {x:α} {l:List α} {s:Sl3} (h:VecA E e m H (x :: l) s) (hE:E.sz=1) (hN:l.length<OPEN) :
  ∃s',slc 1 H s (some 1) none none=some s'∧VecA E e m H l s'∧∀id,owns s' id→owns s id:=by
 unfold VecA at h
 generalize hn:(x :: l).length=n at h
 generalize hv:(x :: l).flatMap E.enc=vs at h
 cases h with
 | nil hn' hv'=>subst hn'; simp at hn
 | zero a ha hn' hv'=>subst hn'; simp at hn
 | opn id off cs hm hid hg hl ho hx =>
  simp only [List.length_cons] at hn
  subst hn
  refine ⟨⟨some ((⟨id,off,none⟩:Addr).add (1*1)),l.length+1 - 1,OPEN⟩,?_,?_,?_⟩
  ·unfold slc
   have hb:slcB (l.length+1) (l.length+1) (some 1) none none=some (1,l.length+1,l.length+1):=by
    unfold slcB
    have b1:boundI (l.length+1) (l.length+1) none=some (l.length+1):=rfl
    have b3:boundI (l.length+1) 0 (some 1)=some 1:=by
     unfold boundI
     simp only []
     rw [if_pos ⟨by omega,by omega⟩]
     rfl
    simp only [b1,b3]
    rfl
   simp only [if_true,hb,hg]
   rw [if_pos ⟨trivial,hE,rfl⟩]
  ·unfold VecA
   rw [z3i,Nat.mul_one,Nat.add_sub_cancel]
   have hl1:(E.enc x).length=1:=by rw [E.len,hE]
   refine .opn id (off+1) cs hm hid hg (E.flat_len l) (E.flat_one l) fun i v hi=>?_
   rw [show off+1+i=off+(i+1) by omega]
   refine hx (i+1) v ?_
   rw [← hv,List.flatMap_cons,List.getElem?_append_right (by omega),hl1,Nat.add_sub_cancel]
   exact hi
  ·rintro id' ⟨_,a,ha,rfl⟩
   rw [z3i] at ha
   cases ha
   exact ⟨rfl,_,rfl,rfl⟩
end Go.Abs
namespace Go.Proofs.YtccbilfbhecdaaaDoor
open Go Go.Abs
set_option maxRecDepth 100000
def tabs:List Tab:=[(0,130,((zsOf Rows.laid_strings_asciiSpace).map fun z=>Value.int .u8 z).toArray),(3,159,((zsOf Rows.laid_internal_strconv_uint64pow10).map fun z=>Value.int .u64 z).toArray),(4,165,((zsOf Rows.laid_math_bits_deBruijn32tab).map fun z=>Value.int .u8 z).toArray),(5,166,((zsOf Rows.laid_math_bits_deBruijn64tab).map fun z=>Value.int .u8 z).toArray)]
theorem zlc:tabsB Tryd.prog tabs=true:=by kernel_rfl
theorem globals7:Tryd.prog.globals.size=7:=by kernel_rfl
theorem z9v:0<Tryd.prog.globals.size:=by rw [globals7]; omega
def HasT (H:AH):Prop:=∀x∈tabs,H.get x.1=some (tabBlk x)∧x.1<H.next
noncomputable def H0:AH:=startH Tryd.prog tabs
set_option maxHeartbeats 0 in
theorem zow:(acall Tryd.prog (NE.plain 1000) 100000 7 17 #[] H0).map (·.1)=some (.bool true):=by kernel_rfl
open Classical in
noncomputable def z6m (_L:LC) (H:AH):Option Bool:=if HasT H then some true else none
def zfq:Bool→Value
 | r0=>(Value.bool r0)
def zgs (H:AH):Bool→AH:=fun _=>H
theorem zgw {L:LC} {m:Nat} {H:AH} {r:Bool} (h:z6m L H=some r):CallS Tryd.prog (NE.plain 1000) m 17 #[] H (zfq r) (zgs H r):=by
 unfold z6m at h
 split at h
 ·rename_i hT
  cases h
  have hrun:=zow
  cases hq:acall Tryd.prog (NE.plain 1000) 100000 7 17 #[] H0 with
  | none=>rw [hq] at hrun; cases hrun
  | some q =>
   rw [hq] at hrun
   obtain ⟨b,H'⟩:=q
   simp only [Option.map_some,Option.some.injEq] at hrun
   subst hrun
   refine CallS.under (tabs:=tabs) z9v zlc (H1:=H') ?_ (by simp) (by rfl) fun x hx=>(hT x hx).1
   rw [globals7]
   obtain ⟨c,hc⟩:∃c,Tryd.f17.body=some c:=⟨_,rfl⟩
   exact fun hS=>⟨⟨_,c,Tryd.func17,hc⟩,fun φ w args' hg ha hi=>zpo hS Tryd.func17 hc hq hg ha hi⟩
 ·cases h
end Go.Proofs.YtccbilfbhecdaaaDoor
namespace Go.Proofs.YtccbilfbhecdaaaDoor
open Go Go.Abs
set_option maxRecDepth 100000
def zcr:Bool→Value
 | r0=>(Value.bool r0)
def zdt (H:AH):Bool→AH:=fun _=>H
noncomputable def B13:Code:=(Tryd.f13.body).getD .skip
noncomputable def z4c (_L:LC) (a0:ByteArray):Int→Option (Lp Int Bool):=fun v24_4 =>
 if v24_4<(a0.size:Int) then
  Option.bind (α:=Bool) (
   Option.bind (bytA a0 v24_4) fun x6 =>
   if x6<32 then
    some true
   else
    Option.bind (bytA a0 v24_4) fun x7 =>
    if x7 > 126 then
     some true
    else
     Option.bind (bytA a0 v24_4) fun x8 =>
     if x8=124 then
      some true
     else
      Option.bind (bytA a0 v24_4) fun x9 =>
      some (decide (x9=92))) fun v48_5 =>
  if v48_5=true then
   some (.ret false)
  else
   some (.next (IntKind.i64.wrap (v24_4+1)))
 else
  some (.brk v24_4)
def zg5 (_L:LC) (a0:ByteArray):Int→KN×Lcs:=fun v24_4=>([kI 24 v24_4,kT 0 a0,kI 23 (a0.size:Int)],[])
noncomputable def z5v (L:LC) (a0:ByteArray):Option Bool :=
 Option.bind (α:=Bool) (
  if (a0.size:Int)<1 then
   some true
  else
   if (a0.size:Int) > 200 then
    some true
   else
    Option.bind (bytA a0 0) fun x2 =>
    if x2=64 then
     some true
    else
     Option.bind (bytA a0 0) fun x3 =>
     some (decide (x3=46))) fun v21_1 =>
 if v21_1=true then
  some false
 else
  Option.bind (L.run (z4c L a0) 0) fun o=>match o with
  | .inl _ =>
   some true
  | .inr r=>some r
theorem zac {E m H L a0} :LoopF Tryd.prog (NE.plain 1000) m E Tryd.f13 ((cfst (csnd (cfst (csnd (csnd B13)))))) (zg5 L a0) (fun _=>H) 0 zcr (zdt H) (z4c L a0):=by
 rintro v24_4 o h
 unfold z4c at h
 try dsimp only at h
 refine WS.sq (WS.rg (RS.mS 1 [kB 25 (decide (v24_4<(a0.size:Int)))] (RS.dn (WS.nxt (WS.sq ?_)))))
 rcases z8 h with ⟨hp,h⟩ | ⟨hp,h⟩
 ·refine WS.fx 25 true (decide_eq_true hp) (WS.cT (WS.sk (WS.nxt (WS.sq (WS.bk 1 (WS.sq (WS.rg (RS.mS 2 [kI 3 v24_4,kI 26 v24_4] (RS.dn ?_)))))))))
  refine WS.nxt ?_
  obtain ⟨v48_5,hx,h⟩:=bind_some h
  refine WS.sq ?_
  refine WS.join ([kB 48 v48_5,kT 0 a0,kI 23 (a0.size:Int),kI 24 v24_4]) ([]) H ?_ (fun a w hs=>WS.nxt ?_ a w hs)
  ·clear h; rename _=>h
   refine WS.rg (RS.mS 2 [kI 28 v24_4,kT 27 a0] ?_)
   obtain ⟨x6,hx,h⟩:=bind_some h
   refine RS.o (H':=H) (some 29) (Value.int .u8 x6) (Abs.run_byt (t:=9) (x:=.tmp 27) (y:=.tmp 28) (s:=a0) (k:=.i64) (i:=v24_4) (by kernel_rfl) (by kernel_rfl) (by kernel_rfl) (by kernel_rfl) hx) (RS.mS 2 [kB 31 (decide (x6<32)),kB 30 (decide (x6<32))] ?_)
   rcases z8 h with ⟨hp,h⟩ | ⟨hp,h⟩
   ·refine RS.fx 31 true (decide_eq_true hp) (RS.mS 17 [kB 48 true,kU 47,kU 46,kU 45,kU 44,kB 43 true,kB 42 true,kU 41,kU 40,kU 39,kU 38,kB 37 true,kB 36 true,kU 35,kU 34,kU 33,kU 32] (RS.dn ?_))
    cases h
    exact fun a w hs=>(jsN (hs.sb 0))
   ·refine RS.fx 31 false (decide_eq_false hp) (RS.mS 2 [kI 33 v24_4,kT 32 a0] ?_)
    obtain ⟨x7,hx,h⟩:=bind_some h
    refine RS.o (H':=H) (some 34) (Value.int .u8 x7) (Abs.run_byt (t:=9) (x:=.tmp 32) (y:=.tmp 33) (s:=a0) (k:=.i64) (i:=v24_4) (by kernel_rfl) (by kernel_rfl) (by kernel_rfl) (by kernel_rfl) hx) (RS.mS 3 [kB 37 (decide (x7 > 126)),kB 36 (decide (x7 > 126)),kB 35 (decide (x7 > 126))] ?_)
    rcases z8 h with ⟨hp,h⟩ | ⟨hp,h⟩
    ·refine RS.fx 37 true (decide_eq_true hp) (RS.mS 11 [kB 48 true,kU 47,kU 46,kU 45,kU 44,kB 43 true,kB 42 true,kU 41,kU 40,kU 39,kU 38] (RS.dn ?_))
     cases h
     exact fun a w hs=>(jsN (hs.sb 0))
    ·refine RS.fx 37 false (decide_eq_false hp) (RS.mS 2 [kI 39 v24_4,kT 38 a0] ?_)
     obtain ⟨x8,hx,h⟩:=bind_some h
     refine RS.o (H':=H) (some 40) (Value.int .u8 x8) (Abs.run_byt (t:=9) (x:=.tmp 38) (y:=.tmp 39) (s:=a0) (k:=.i64) (i:=v24_4) (by kernel_rfl) (by kernel_rfl) (by kernel_rfl) (by kernel_rfl) hx) (RS.mS 3 [kB 43 (decide (x8=124)),kB 42 (decide (x8=124)),kB 41 (decide (x8=124))] ?_)
     rcases z8 h with ⟨hp,h⟩ | ⟨hp,h⟩
     ·refine RS.fx 43 true (decide_eq_true hp) (RS.mS 5 [kB 48 true,kU 47,kU 46,kU 45,kU 44] (RS.dn ?_))
      cases h
      exact fun a w hs=>(jsN (hs.sb 0))
     ·refine RS.fx 43 false (decide_eq_false hp) (RS.mS 2 [kI 45 v24_4,kT 44 a0] ?_)
      obtain ⟨x9,hx,h⟩:=bind_some h
      refine RS.o (H':=H) (some 46) (Value.int .u8 x9) (Abs.run_byt (t:=9) (x:=.tmp 44) (y:=.tmp 45) (s:=a0) (k:=.i64) (i:=v24_4) (by kernel_rfl) (by kernel_rfl) (by kernel_rfl) (by kernel_rfl) hx) (RS.mS 2 [kB 48 (decide (x9=92)),kB 47 (decide (x9=92))] (RS.dn ?_))
      cases h
      exact fun a w hs=>(jsN (hs.sb 0))
  ·clear hx
   rcases z8 h with ⟨hp,h⟩ | ⟨hp,h⟩
   ·refine WS.fx 48 true hp (WS.cT (WS.sq (WS.rg (RS.mS 1 [kB 2 false] (RS.dn (WS.nxt (WS.rt ?_)))))))
    cases h
    exact fun a w hs=>bkR (sqR (lsR rfl (rS hs)))
   ·refine WS.fx 48 false (b_not hp) (WS.cF (WS.sk ?_))
    refine fun a w hs=>bkN ((WS.nxt ?_ a w hs))
    refine WS.rg (RS.mS 2 [kI 24 (IntKind.i64.wrap (v24_4+1)),kI 49 (IntKind.i64.wrap (v24_4+1))] (RS.dn ?_))
    cases h
    exact fun a w hs=>lsN rfl (hs.sb 0)
 ·refine WS.fx 25 false (decide_eq_false hp) (WS.cF (WS.ex 0 ?_))
  cases h
  exact fun a w hs=>sqE (lsB rfl (hs.sb 0))
theorem zdv {L:LC} {m:Nat} {H:AH} {a0:ByteArray} {r:Bool} (h:z5v L a0=some r) :
  CallS Tryd.prog (NE.plain 1000) m 13 #[(Value.string a0)] H (zcr r) (zdt H r):=by
 refine CallS.mk (args:=[(Value.string a0)]) Tryd.func13 (B:=B13) (by kernel_rfl) (fun E _=>?_)
 unfold z5v at h
 refine WS.sq (WS.rg (RS.mS 1 [kB 2 false] (RS.dn (WS.nxt (WS.sq ?_)))))
 obtain ⟨v21_1,hx,h⟩:=bind_some h
 refine WS.sq ?_
 refine WS.join ([kB 21 v21_1,kT 0 a0]) ([]) H ?_ (fun a w hs=>WS.nxt ?_ a w hs)
 ·clear h; rename _=>h
  refine WS.rg (RS.mS 4 [kB 7 (decide ((a0.size:Int)<1)),kB 6 (decide ((a0.size:Int)<1)),kI 5 (a0.size:Int),kT 4 a0] ?_)
  rcases z8 h with ⟨hp,h⟩ | ⟨hp,h⟩
  ·refine RS.fx 7 true (decide_eq_true hp) (RS.mS 14 [kB 21 true,kU 20,kU 19,kU 18,kB 17 true,kB 16 true,kU 15,kU 14,kU 13,kB 12 true,kB 11 true,kU 10,kU 9,kU 8] (RS.dn ?_))
   cases h
   exact fun a w hs=>(jsN (hs.sb 0))
  ·refine RS.fx 7 false (decide_eq_false hp) (RS.mS 5 [kB 12 (decide ((a0.size:Int) > 200)),kB 11 (decide ((a0.size:Int) > 200)),kB 10 (decide ((a0.size:Int) > 200)),kI 9 (a0.size:Int),kT 8 a0] ?_)
   rcases z8 h with ⟨hp,h⟩ | ⟨hp,h⟩
   ·refine RS.fx 12 true (decide_eq_true hp) (RS.mS 9 [kB 21 true,kU 20,kU 19,kU 18,kB 17 true,kB 16 true,kU 15,kU 14,kU 13] (RS.dn ?_))
    cases h
    exact fun a w hs=>(jsN (hs.sb 0))
   ·refine RS.fx 12 false (decide_eq_false hp) (RS.mS 1 [kT 13 a0] ?_)
    obtain ⟨x2,hx,h⟩:=bind_some h
    refine RS.o (H':=H) (some 14) (Value.int .u8 x2) (Abs.run_byt (t:=9) (x:=.tmp 13) (y:=.const (Value.int .i64 0)) (s:=a0) (k:=.i64) (i:=0) (by kernel_rfl) (by kernel_rfl) (by kernel_rfl) (by kernel_rfl) hx) (RS.mS 3 [kB 17 (decide (x2=64)),kB 16 (decide (x2=64)),kB 15 (decide (x2=64))] ?_)
    rcases z8 h with ⟨hp,h⟩ | ⟨hp,h⟩
    ·refine RS.fx 17 true (decide_eq_true hp) (RS.mS 4 [kB 21 true,kU 20,kU 19,kU 18] (RS.dn ?_))
     cases h
     exact fun a w hs=>(jsN (hs.sb 0))
    ·refine RS.fx 17 false (decide_eq_false hp) (RS.mS 1 [kT 18 a0] ?_)
     obtain ⟨x3,hx,h⟩:=bind_some h
     refine RS.o (H':=H) (some 19) (Value.int .u8 x3) (Abs.run_byt (t:=9) (x:=.tmp 18) (y:=.const (Value.int .i64 0)) (s:=a0) (k:=.i64) (i:=0) (by kernel_rfl) (by kernel_rfl) (by kernel_rfl) (by kernel_rfl) hx) (RS.mS 2 [kB 21 (decide (x3=46)),kB 20 (decide (x3=46))] (RS.dn ?_))
     cases h
     exact fun a w hs=>(jsN (hs.sb 0))
 ·clear hx
  rcases z8 h with ⟨hp,h⟩ | ⟨hp,h⟩
  ·refine WS.fx 21 true hp (WS.cT (WS.sq (WS.rg (RS.mS 1 [kB 2 false] (RS.dn (WS.nxt (WS.rt ?_)))))))
   cases h
   exact fun a w hs=>sqR (rtR (rS hs))
  ·refine WS.fx 21 false (b_not hp) (WS.cF (WS.sk (WS.nxt (WS.sq (WS.sq (WS.rg (RS.mS 3 [kI 24 0,kI 23 (a0.size:Int),kT 22 a0] (RS.dn (WS.nxt ?_)))))))))
   refine WS.bk 0 ?_
   obtain ⟨o,hl,h⟩:=bind_some h
   rcases o with v24_10 | r
   ·try dsimp only at h
    refine WS.lI (zac (L:=L) (E:=E) (m:=m) (H:=H)) (L.ok hl) 0 ?_
    clear hl
    refine fun a w hs=>bkE ((WS.nxt ?_ a w hs))
    refine WS.sq (WS.rg (RS.mS 1 [kB 2 true] (RS.dn (WS.nxt (WS.rt ?_)))))
    cases h
    exact fun a w hs=>rtR (rS hs)
   ·try dsimp only at h
    refine WS.lR (zac (L:=L) (E:=E) (m:=m) (H:=H)) (L.ok hl) 0 ?_
    cases h
    exact fun a w hq=>bkR (sqR (rtR hq))
end Go.Proofs.YtccbilfbhecdaaaDoor
namespace Go.Proofs.YtccbilfbhecdaaaDoor
open Go Go.Abs
set_option maxRecDepth 100000
theorem z1r:maxN=9223372036854775807:=rfl
def bs (s:ByteArray):List UInt8:=s.data.toList
theorem bs_len (s:ByteArray):(bs s).length=s.size:=by simp [bs]
theorem zld {s:ByteArray} {i:Nat} (hi:i<s.size) {v:Int} (hv:v=i):bytA s v=some ((((bs s).getD i 0).toNat:Nat):Int):=by
 rw [zqi hi hv]
 have:(bs s).getD i 0=s[i]:=by
  simp only [bs,List.getD,Array.getElem?_toList]
  rw [Array.getElem?_eq_getElem hi]
  rfl
 rw [this]
def badB (x:Nat):Bool:=decide (x<32)||(decide (x > 126)||(decide (x=124)||decide (x=92)))
def nameS (s:ByteArray):Bool :=
 !(decide (s.size<1)||decide (s.size > 200)||decide (((bs s).getD 0 0).toNat=64)||decide (((bs s).getD 0 0).toNat=46))&&!(bs s).any fun x=>badB x.toNat
theorem zpd {α R:Type} [Inhabited α] (l:List α) (bad:α→Bool) (r:R) (d:α) :
  (List.range l.length).findSome? (fun i=>if bad (l.getD i d)=true then some r else none)=if l.any bad=true then some r else none:=by
 induction l with
 | nil=>simp
 | cons x l ih =>
  rw [List.length_cons,List.range_succ_eq_map,List.findSome?_cons,List.any_cons]
  cases hx:bad x with
  | true=>simp [hx]
  | false =>
   simp only [List.getD_cons_zero,hx,Bool.false_eq_true,if_false,Bool.false_or,List.findSome?_map,Function.comp_def,List.getD_cons_succ]
   exact ih
theorem zhy (k:Nat) {s:ByteArray} (hs:s.size≤maxN):z5v (LCo k) s=some (nameS s):=by
 unfold z5v nameS
 by_cases h1:(s.size:Int)<1
 ·rw [if_pos h1]
  have:s.size<1:=by omega
  simp [this]
 ·rw [if_neg h1]
  have h1':¬s.size<1:=by omega
  have hp:0<s.size:=by omega
  by_cases h2:(s.size:Int) > 200
  ·rw [if_pos h2]
   have:s.size > 200:=by omega
   simp [this]
  ·rw [if_neg h2]
   have h2':¬s.size > 200:=by omega
   rw [zld hp (v:=0) rfl]
   simp only [Option.bind_some]
   generalize hc:((bs s).getD 0 0).toNat=c
   by_cases h3:c=64
   ·subst h3; simp
   ·have h3':¬((c:Int)=64):=by omega
    rw [if_neg h3']
    by_cases h4:c=46
    ·subst h4; simp
    ·have h4':¬((c:Int)=46):=by omega
     simp only [decide_eq_false h4',Option.bind_some,Bool.false_eq_true,if_false]
     have hl:loopO (z4c (LCo k) s) 0=some (found s.size ((List.range s.size).findSome? (fun i=>if badB ((bs s).getD i 0).toNat=true then some false else none))):=by
      refine z4w s.size hs _ (fun i hi=>?_) ?_
      ·unfold z4c
       rw [if_pos (by omega),zld hi rfl]
       simp only [Option.bind_some]
       generalize ((bs s).getD i 0).toNat=x
       unfold badB
       by_cases e1:x<32
       ·have:(x:Int)<32:=by omega
        simp [e1,this,stepO]
       ·have e1':¬((x:Int)<32):=by omega
        rw [if_neg e1']
        by_cases e2:x > 126
        ·have:(x:Int) > 126:=by omega
         simp [e1,e2,this,stepO]
        ·have e2':¬((x:Int) > 126):=by omega
         rw [if_neg e2']
         by_cases e3:x=124
         ·subst e3; simp [stepO]
         ·have e3':¬((x:Int)=124):=by omega
          rw [if_neg e3']
          by_cases e4:x=92
          ·subst e4; simp [stepO]
          ·have e4':¬((x:Int)=92):=by omega
           simp [e1,e2,e3,e4,e4',stepO]
      ·unfold z4c
       rw [if_neg (by omega)]
     show Option.bind (loopO (z4c (LCo k) s) 0) _=_
     rw [hl,← bs_len,zpd (bs s) (fun x=>badB x.toNat) false 0]
     cases ha:(bs s).any fun x=>badB x.toNat with
     | true=>simp [found]
     | false=>simp [h1',h2',h3,h4,bs_len,found]
end Go.Proofs.YtccbilfbhecdaaaDoor
namespace Go.Proofs.YtccbilfbhecdaaaDoor
open Go Go.Abs
set_option maxRecDepth 100000
def z8l:((Option Addr)×AH)→Value
 | (r0,_)=>(Value.pointer r0)
def z9k (_:AH):((Option Addr)×AH)→AH:=fun r=>r.2
noncomputable def B36:Code:=(Tryd.f36.body).getD .skip
noncomputable def z3t (_L:LC) (m:Nat) (a0_0 _a0_1 _a0_2:Sl3) (p3:Addr):(AH×Int)→Option (Lp (AH×Int) ((Option Addr)×AH)):=fun (H5,v17_6) =>
 if v17_6<(a0_0.n:Int) then
  Option.bind (idxA 1 a0_0 v17_6) fun p7 =>
  Option.bind (rd deS H5 p7) fun x8 =>
  Option.bind (rd deM H5 (Addr.add p3 3)) fun x9 =>
  Option.bind (upM Tryd.prog m 94 H5 x9 (Value.agg #[(Value.int .i64 5),(Value.string x8)]) (Value.int .i64 0)) fun H10 =>
  some (.next (H10,(IntKind.i64.wrap (v17_6+1))))
 else
  some (.brk (H5,v17_6))
def zfu (_L:LC) (_m:Nat) (a0_0 a0_1 a0_2:Sl3) (p3:Addr):(AH×Int)→KN×Lcs:=fun (_,v17_6)=>([kI 17 v17_6,kL 1 0 0,kP 3 p3,kS 15 a0_0,kI 16 (a0_0.n:Int)],[some (33,[(Sl3.v a0_0),(Sl3.v a0_1),(Sl3.v a0_2)])])
noncomputable def z35 (_L:LC) (m:Nat) (_a0_0 a0_1 _a0_2:Sl3) (p3:Addr):(AH×Int)→Option (Lp (AH×Int) ((Option Addr)×AH)):=fun (H13,v31_14) =>
 if v31_14<(a0_1.n:Int) then
  Option.bind (α:=AH) (
   Option.bind (idxA 2 a0_1 v31_14) fun p16 =>
   Option.bind (rd deS H13 (Addr.add p16 0)) fun x17_0 =>
   Option.bind (rd deSl H13 (Addr.add p16 1)) fun _ =>
   Option.bind (rd deM H13 (Addr.add p3 3)) fun x18 =>
   Option.bind (lkM Tryd.prog 94 (deI .i64) H13 x18 (Value.agg #[(Value.int .i64 6),(Value.string x17_0)])) fun (_,b20) =>
   if b20=true then
    some H13
   else
    Option.bind (rd deM H13 (Addr.add p3 3)) fun x21 =>
    Option.bind (upM Tryd.prog m 94 H13 x21 (Value.agg #[(Value.int .i64 6),(Value.string x17_0)]) (Value.int .i64 v31_14)) fun H22 =>
    some H22) fun H15 =>
  some (.next (H15,(IntKind.i64.wrap (v31_14+1))))
 else
  some (.brk (H13,v31_14))
def zfo (_L:LC) (_m:Nat) (a0_0 a0_1 a0_2:Sl3) (p3:Addr):(AH×Int)→KN×Lcs:=fun (_,v31_14)=>([kI 31 v31_14,kP 3 p3,kS 29 a0_1,kI 30 (a0_1.n:Int)],[some (33,[(Sl3.v a0_0),(Sl3.v a0_1),(Sl3.v a0_2)])])
noncomputable def z58 (L:LC) (m:Nat) (H:AH) (a0_0 a0_1 a0_2:Sl3):Option ((Option Addr)×AH) :=
 Option.bind (newM H) fun (p1,H2) =>
 Option.bind (newB 96 [(Sl3.v a0_0),(Sl3.v a0_1),(Sl3.v a0_2),(Value.map (some p1))] H2) fun (p3,H4) =>
 Option.bind (L.run (z3t L m a0_0 a0_1 a0_2 p3) (H4,0)) fun o=>match o with
 | .inl (H11,_) =>
  Option.bind (L.run (z35 L m a0_0 a0_1 a0_2 p3) (H11,0)) fun o=>match o with
  | .inl (H23,_) =>
   some ((some p3),H23)
  | .inr r=>some r
 | .inr r=>some r
theorem zai {E H L m a0_0 a0_1 a0_2 p3} :LoopF Tryd.prog (NE.plain 1000) m E Tryd.f36 ((cfst (csnd (cfst (csnd (csnd B36)))))) (zfu L m a0_0 a0_1 a0_2 p3) (fun s=>s.1) 0 z8l (z9k H) (z3t L m a0_0 a0_1 a0_2 p3):=by
 rintro ⟨H5,v17_6⟩ o h
 unfold z3t at h
 try dsimp only at h
 refine WS.sq (WS.rg (RS.mS 1 [kB 18 (decide (v17_6<(a0_0.n:Int)))] (RS.dn (WS.nxt (WS.sq ?_)))))
 rcases z8 h with ⟨hp,h⟩ | ⟨hp,h⟩
 ·refine WS.fx 18 true (decide_eq_true hp) (WS.cT (WS.sk (WS.nxt (WS.sq (WS.bk 1 (WS.sq (WS.rg ?_)))))))
  obtain ⟨p7,hx,h⟩:=bind_some h
  refine RS.ix 19 29 9 (.tmp 15) (.tmp 17) hx ?_
  obtain ⟨x8,hx,h⟩:=bind_some h
  refine RS.ld 20 9 (.tmp 19) (z0 hx zd) (RS.mS 1 [kT 5 x8] (RS.dn (WS.nxt (WS.rg (RS.mS 3 [(23,.val (Value.pointer (some (Addr.add p3 3)))),kP 22 p3,kP 21 p3] ?_)))))
  obtain ⟨x9,hx,h⟩:=bind_some h
  refine RS.ld 24 94 (.tmp 23) (z0 hx z3h) (RS.mS 2 [kA 26 #[(Value.int .i64 5),(Value.string x8)],kT 25 x8] ?_)
  obtain ⟨H10,hx,h⟩:=bind_some h
  refine RS.o (H':=H10) none undef (Abs.run_upM (t:=94) (x:=.tmp 24) (y:=.tmp 26) (z:=.const (Value.int .i64 0)) (mm:=x9) (k:=(Value.agg #[(Value.int .i64 5),(Value.string x8)])) (v:=(Value.int .i64 0)) (by kernel_rfl) (by kernel_rfl) (by kernel_rfl) (by kernel_rfl) (by kernel_rfl) hx) (RS.dn ?_)
  refine fun a w hs=>bkN ((WS.nxt ?_ a w hs))
  refine WS.rg (RS.mS 2 [kI 17 (IntKind.i64.wrap (v17_6+1)),kI 27 (IntKind.i64.wrap (v17_6+1))] (RS.dn ?_))
  cases h
  exact fun a w hs=>lsN rfl (hs.sb 1)
 ·refine WS.fx 18 false (decide_eq_false hp) (WS.cF (WS.ex 0 ?_))
  cases h
  exact fun a w hs=>sqE (lsB rfl (hs.sb 1))
theorem zaf {E H L m a0_0 a0_1 a0_2 p3} :LoopF Tryd.prog (NE.plain 1000) m E Tryd.f36 ((cfst (csnd (cfst (csnd (csnd (csnd B36))))))) (zfo L m a0_0 a0_1 a0_2 p3) (fun s=>s.1) 2 z8l (z9k H) (z35 L m a0_0 a0_1 a0_2 p3):=by
 rintro ⟨H13,v31_14⟩ o h
 unfold z35 at h
 try dsimp only at h
 refine WS.sq (WS.rg (RS.mS 1 [kB 32 (decide (v31_14<(a0_1.n:Int)))] (RS.dn (WS.nxt (WS.sq ?_)))))
 rcases z8 h with ⟨hp,h⟩ | ⟨hp,h⟩
 ·refine WS.fx 32 true (decide_eq_true hp) (WS.cT (WS.sk (WS.nxt ?_)))
  obtain ⟨H15,hx,h⟩:=bind_some h
  refine WS.sq ?_
  refine WS.join ([kP 3 p3,kS 29 a0_1,kI 30 (a0_1.n:Int),kI 31 v31_14]) ([some (33,[(Sl3.v a0_0),(Sl3.v a0_1),(Sl3.v a0_2)])]) H15 ?_ (fun a w hs=>WS.nxt ?_ a w hs)
  ·clear h; rename _=>h
   refine WS.bk 3 (WS.sq (WS.rg (RS.mS 1 [kI 33 v31_14] ?_)))
   obtain ⟨p16,hx,h⟩:=bind_some h
   refine RS.ix 34 30 46 (.tmp 29) (.tmp 31) hx ?_
   obtain ⟨x17_0,hx0,h⟩:=bind_some h
   obtain ⟨x17_1,hx1,h⟩:=bind_some h
   refine RS.la 35 46 (.tmp 34) 2 (z7 (z0 hx0 zd) (z7 (z0 hx1 za) zf)) (RS.mL 3 [kI 6 v31_14,kL 7 1 0] ([some (33,[(Sl3.v a0_0),(Sl3.v a0_1),(Sl3.v a0_2)]),some (46,[(Value.string x17_0),(Sl3.v x17_1)])]) (RS.dn (WS.nxt (WS.sq ?_))))
   refine WS.dr [0,1,2,3,4,5,6,7] [0,1,3,7,0,16,48,127,255,511,511,1023,4095] 13 (fun hcl=>?_)
   refine DA.tK 0 (some 37) (Value.pointer (some p3)) (DA.tK 1 (some 38) (Value.pointer (some p3)) (DA.tK 2 (some 39) (Value.pointer (some (Addr.add p3 3))) ?_))
   obtain ⟨x18,hx,h⟩:=bind_some h
   refine DA.tD 3 (some 40) (Value.map x18) (Abs.det_load (t:=94) (x:=.tmp 39) (a:=(Addr.add p3 3)) (by kernel_rfl) (by kernel_rfl) (by kernel_rfl) (by kernel_rfl) (z0 hx z3h)) (DA.tL 4 (some 41) (.loc 1 0) (DA.tL 5 (some 42) (.val (Value.string x17_0)) (DA.tK 6 (some 43) (Value.agg #[(Value.int .i64 6),(Value.string x17_0)]) ?_)))
   obtain ⟨⟨x19,b20⟩,hx,h⟩:=bind_some h
   try dsimp only at h
   refine DA.tD 7 (some 44) (Value.tuple #[(Value.int .i64 x19),(Value.bool b20)]) (Abs.det_look (t:=94) (x:=.tmp 40) (y:=.tmp 43) (mm:=x18) (k:=(Value.agg #[(Value.int .i64 6),(Value.string x17_0)])) (by kernel_rfl) (by kernel_rfl) (by kernel_rfl) (by kernel_rfl) (lkM_eq hx z9)) (DA.tP 8 (some 36) (Value.tuple #[(Value.int .i64 x19),(Value.bool b20)]) (DA.tP 9 (some 45) (Value.int .i64 x19) (DA.tP 10 (some 46) (Value.bool b20) (DA.tP 11 (some 8) (Value.int .i64 x19) (DA.tP 12 (some 9) (Value.bool b20) (DA.dn (WS.nxt (WS.sq (WS.rg ?_)))))))))
   refine RS.mS 2 [kB 48 (!b20),kB 47 b20] (RS.dn (WS.nxt ?_))
   rcases z8 h with ⟨hp,h⟩ | ⟨hp,h⟩
   ·refine WS.fx 48 false (nb_not hp) (WS.cF (WS.sk ?_))
    cases h
    exact fun a w hs=>bkN ((jsN (hs.sb 1)))
   ·refine WS.fx 48 true (z2i hp) (WS.cT ?_)
    refine WS.dr [0,1,2,3,4,5] [0,1,3,7,0,16,48,0,255] 9 (fun hcl=>?_)
    refine DA.tK 0 (some 49) (Value.pointer (some p3)) (DA.tK 1 (some 50) (Value.pointer (some p3)) (DA.tK 2 (some 51) (Value.pointer (some (Addr.add p3 3))) ?_))
    obtain ⟨x21,hx,h⟩:=bind_some h
    refine DA.tD 3 (some 52) (Value.map x21) (Abs.det_load (t:=94) (x:=.tmp 51) (a:=(Addr.add p3 3)) (by kernel_rfl) (by kernel_rfl) (by kernel_rfl) (by kernel_rfl) (z0 hx z3h)) (DA.tL 4 (some 53) (.loc 1 0) (DA.tL 5 (some 54) (.val (Value.string x17_0)) (DA.tP 7 (some 56) (Value.int .i64 v31_14) (DA.on 6 (DA.aHk (H':=H13) 6 (some 55) false (Value.agg #[(Value.int .i64 6),(Value.string x17_0)]) (by kernel_rfl) ?_)))))
    obtain ⟨H22,hx,h⟩:=bind_some h
    refine DA.on 8 (DA.aH (H':=H22) 8 none undef (Abs.run_upM (t:=94) (x:=.tmp 52) (y:=.tmp 55) (z:=.tmp 56) (mm:=x21) (k:=(Value.agg #[(Value.int .i64 6),(Value.string x17_0)])) (v:=(Value.int .i64 v31_14)) (by kernel_rfl) (by kernel_rfl) (by kernel_rfl) (by kernel_rfl) (by kernel_rfl) hx) (DA.dn ?_))
    cases h
    exact fun a w hs=>bkN ((jsN (hs.sb 1)))
  ·clear hx
   refine WS.rg (RS.mS 2 [kI 31 (IntKind.i64.wrap (v31_14+1)),kI 57 (IntKind.i64.wrap (v31_14+1))] (RS.dn ?_))
   cases h
   exact fun a w hs=>lsN rfl (hs.sb 1)
 ·refine WS.fx 32 false (decide_eq_false hp) (WS.cF (WS.ex 2 ?_))
  cases h
  exact fun a w hs=>sqE (lsB rfl (hs.sb 1))
theorem z7q {L:LC} {m:Nat} {H:AH} {a0_0 a0_1 a0_2:Sl3} {r:((Option Addr)×AH)} (h:z58 L m H a0_0 a0_1 a0_2=some r) :
  CallS Tryd.prog (NE.plain 1000) m 36 #[(Value.agg #[(Sl3.v a0_0),(Sl3.v a0_1),(Sl3.v a0_2)])] H (z8l r) (z9k H r):=by
 refine CallS.mk (args:=[(Value.agg #[(Sl3.v a0_0),(Sl3.v a0_1),(Sl3.v a0_2)])]) Tryd.func36 (B:=B36) (by kernel_rfl) (fun E _=>?_)
 unfold z58 at h
 refine WS.sq (WS.rg (RS.mL 2 [(2,.val (Value.pointer none)),kL 1 0 0] ([some (33,[(Sl3.v a0_0),(Sl3.v a0_1),(Sl3.v a0_2)])]) (RS.dn (WS.nxt (WS.sq (WS.rg (RS.mS 1 [kA 10 #[(Sl3.v a0_0),(Sl3.v a0_1),(Sl3.v a0_2)]] ?_)))))))
 obtain ⟨⟨p1,H2⟩,hx,h⟩:=bind_some h
 try dsimp only at h
 refine RS.o (H':=H2) (some 11) (Value.map (some p1)) (Abs.run_newM (by kernel_rfl) hx) (RS.mS 1 [kA 12 #[(Sl3.v a0_0),(Sl3.v a0_1),(Sl3.v a0_2),(Value.map (some p1))]] ?_)
 obtain ⟨⟨p3,H4⟩,hx,h⟩:=bind_some h
 try dsimp only at h
 refine RS.o (H':=H4) (some 13) (Value.pointer (some p3)) (Abs.run_newB (by kernel_rfl) hx) (RS.mS 1 [kP 3 p3] (RS.dn (WS.nxt (WS.sq (WS.sq (WS.rg (RS.mS 4 [kI 17 0,kI 16 (a0_0.n:Int),kS 15 a0_0,kL 14 0 0] (RS.dn (WS.nxt ?_)))))))))
 refine WS.bk 0 ?_
 obtain ⟨o,hl,h⟩:=bind_some h
 rcases o with ⟨H11,v17_12⟩ | r
 ·try dsimp only at h
  refine WS.lI (zai (L:=L) (E:=E) (m:=m) (H:=H)) (L.ok hl) 1 ?_
  clear hl
  refine fun a w hs=>bkE ((WS.nxt ?_ a w hs))
  refine WS.sq (WS.sq (WS.rg (RS.mS 4 [kI 31 0,kI 30 (a0_1.n:Int),kS 29 a0_1,kL 28 0 1] (RS.dn (WS.nxt (WS.bk 2 ?_))))))
  obtain ⟨o,hl,h⟩:=bind_some h
  rcases o with ⟨H23,v31_24⟩ | r
  ·try dsimp only at h
   refine WS.lI (zaf (L:=L) (E:=E) (m:=m) (H:=H)) (L.ok hl) 1 ?_
   clear hl
   refine fun a w hs=>bkE ((WS.nxt ?_ a w hs))
   refine WS.sq (WS.rg (RS.mS 2 [kP 2 p3,kP 58 p3] (RS.dn (WS.nxt (WS.rt ?_)))))
   cases h
   exact fun a w hs=>rtR (rS hs)
  ·try dsimp only at h
   refine WS.lR (zaf (L:=L) (E:=E) (m:=m) (H:=H)) (L.ok hl) 1 ?_
   cases h
   exact fun a w hq=>bkR (sqR (rtR hq))
 ·try dsimp only at h
  refine WS.lR (zai (L:=L) (E:=E) (m:=m) (H:=H)) (L.ok hl) 1 ?_
  cases h
  exact fun a w hq=>bkR (sqR (rtR hq))
def z47:(Int×Bool)→Value
 | (r0,r1)=>(Value.tuple #[(Value.int .i64 r0),(Value.bool r1)])
def z4k (H:AH):(Int×Bool)→AH:=fun _=>H
noncomputable def B90:Code:=(Tryd.f90.body).getD .skip
noncomputable def z2l (_L:LC) (rec_sort_parts:AH→Int→Int→ByteArray→Sl3→Int→Option (Int×Bool)) (H:AH) (_a0_0 _a0_1:Int) (_a0_2:ByteArray) (a0_3:Sl3) (a1:Int):(Int×Int)→Option (Lp (Int×Int) (Int×Bool)):=fun (v6_1,v16_2) =>
 if v16_2<(a0_3.n:Int) then
  Option.bind (idxA 4 a0_3 v16_2) fun p3 =>
  Option.bind (rd (deI .i64) H (Addr.add p3 0)) fun x4_0 =>
  Option.bind (rd (deI .i64) H (Addr.add p3 1)) fun x4_1 =>
  Option.bind (rd deS H (Addr.add p3 2)) fun x4_2 =>
  Option.bind (rd deSl H (Addr.add p3 3)) fun x4_3 =>
  Option.bind (rec_sort_parts H x4_0 x4_1 x4_2 x4_3 (IntKind.i64.wrap (a1+1))) fun (x5,x6) =>
  Option.bind (α:=Bool) (
   if x6=true then
    some (decide ((IntKind.i64.wrap (v6_1+x5)) > 256))
   else
    some true) fun v35_7 =>
  if v35_7=true then
   some (.ret ((IntKind.i64.wrap (v6_1+x5)),false))
  else
   some (.next ((IntKind.i64.wrap (v6_1+x5)),(IntKind.i64.wrap (v16_2+1))))
 else
  some (.brk (v6_1,v16_2))
def zff (_L:LC) (_rec_sort_parts:AH→Int→Int→ByteArray→Sl3→Int→Option (Int×Bool)) (_H:AH) (a0_0 a0_1:Int) (a0_2:ByteArray) (a0_3:Sl3) (a1:Int):(Int×Int)→KN×Lcs:=fun (v6_1,v16_2)=>([kI 6 v6_1,kI 16 v16_2,kI 1 a1,kS 14 a0_3,kI 15 (a0_3.n:Int)],[some (28,[(Value.int .i64 a0_0),(Value.int .i64 a0_1),(Value.string a0_2),(Sl3.v a0_3)])])
noncomputable def z2x (L:LC) (rec_sort_parts:AH→Int→Int→ByteArray→Sl3→Int→Option (Int×Bool)) (H:AH) (a0_0 a0_1:Int) (a0_2:ByteArray) (a0_3:Sl3) (a1:Int):Option (Int×Bool) :=
 if a1 > 16 then
  some (0,false)
 else
  Option.bind (L.run (z2l L rec_sort_parts H a0_0 a0_1 a0_2 a0_3 a1) (1,0)) fun o=>match o with
  | .inl (v6_8,_) =>
   some (v6_8,true)
  | .inr r=>some r
noncomputable def z1s (L:LC) (n:Nat):(AH→Int→Int→ByteArray→Sl3→Int→Option (Int×Bool)):=Nat.rec (motive:=fun _=>(AH→Int→Int→ByteArray→Sl3→Int→Option (Int×Bool))) (fun _ _ _ _ _ _=>none) (fun _ p=>z2x L p) n
noncomputable def zcf (L:LC) (H:AH) (a0_0 a0_1:Int) (a0_2:ByteArray) (a0_3:Sl3) (a1:Int):Option (Int×Bool):=(z1s L L.fuel) H a0_0 a0_1 a0_2 a0_3 a1
theorem z9d {E m L rec_sort_parts H a0_0 a0_1 a0_2 a0_3 a1} (hrec_sort_parts:∀(m:Nat) (H:AH) (a0_0 a0_1:Int) (a0_2:ByteArray) (a0_3:Sl3) (a1:Int) (r:(Int×Bool)),rec_sort_parts H a0_0 a0_1 a0_2 a0_3 a1=some r→CallS Tryd.prog (NE.plain 1000) m 90 #[(Value.agg #[(Value.int .i64 a0_0),(Value.int .i64 a0_1),(Value.string a0_2),(Sl3.v a0_3)]),(Value.int .i64 a1)] H (z47 r) (z4k H r)):LoopF Tryd.prog (NE.plain 1000) m E Tryd.f90 ((cfst (csnd (cfst (csnd (csnd (csnd B90))))))) (zff L rec_sort_parts H a0_0 a0_1 a0_2 a0_3 a1) (fun _=>H) 0 z47 (z4k H) (z2l L rec_sort_parts H a0_0 a0_1 a0_2 a0_3 a1):=by
 rintro ⟨v6_1,v16_2⟩ o h
 unfold z2l at h
 try dsimp only at h
 refine WS.sq (WS.rg (RS.mS 1 [kB 17 (decide (v16_2<(a0_3.n:Int)))] (RS.dn (WS.nxt (WS.sq ?_)))))
 rcases z8 h with ⟨hp,h⟩ | ⟨hp,h⟩
 ·refine WS.fx 17 true (decide_eq_true hp) (WS.cT (WS.sk (WS.nxt (WS.sq (WS.bk 1 (WS.sq (WS.rg ?_)))))))
  obtain ⟨p3,hx,h⟩:=bind_some h
  refine RS.ix 18 26 28 (.tmp 14) (.tmp 16) hx ?_
  obtain ⟨x4_0,hx0,h⟩:=bind_some h
  obtain ⟨x4_1,hx1,h⟩:=bind_some h
  obtain ⟨x4_2,hx2,h⟩:=bind_some h
  obtain ⟨x4_3,hx3,h⟩:=bind_some h
  refine RS.la 19 28 (.tmp 18) 4 (z7 (z0 hx0 z9) (z7 (z0 hx1 z9) (z7 (z0 hx2 zd) (z7 (z0 hx3 za) zf)))) (RS.mL 2 [kL 8 1 0] ([some (28,[(Value.int .i64 a0_0),(Value.int .i64 a0_1),(Value.string a0_2),(Sl3.v a0_3)]),some (28,[(Value.int .i64 x4_0),(Value.int .i64 x4_1),(Value.string x4_2),(Sl3.v x4_3)])]) (RS.dn (WS.nxt (WS.sq (WS.rg (RS.mS 3 [kI 23 (IntKind.i64.wrap (a1+1)),kI 22 a1,kA 21 #[(Value.int .i64 x4_0),(Value.int .i64 x4_1),(Value.string x4_2),(Sl3.v x4_3)]] ?_))))))
  obtain ⟨⟨x5,x6⟩,hx,h⟩:=bind_some h
  try dsimp only at h
  refine RS.cl (some 24) (v:=(Value.tuple #[(Value.int .i64 x5),(Value.bool x6)])) 90 #[(Value.agg #[(Value.int .i64 x4_0),(Value.int .i64 x4_1),(Value.string x4_2),(Sl3.v x4_3)]),(Value.int .i64 (IntKind.i64.wrap (a1+1)))] (hrec_sort_parts _ _ _ _ _ _ _ _ hx) (RS.mS 5 [kB 10 x6,kI 9 x5,kB 26 x6,kI 25 x5,(20,.val (Value.tuple #[(Value.int .i64 x5),(Value.bool x6)]))] (RS.dn (WS.nxt (WS.sq (WS.rg (RS.mS 4 [kI 6 (IntKind.i64.wrap (v6_1+x5)),kI 29 (IntKind.i64.wrap (v6_1+x5)),kI 28 x5,kI 27 v6_1] (RS.dn (WS.nxt ?_))))))))
  obtain ⟨v35_7,hx,h⟩:=bind_some h
  refine WS.sq ?_
  refine WS.join ([kB 35 v35_7,kI 1 a1,kI 6 (IntKind.i64.wrap (v6_1+x5)),kS 14 a0_3,kI 15 (a0_3.n:Int),kI 16 v16_2]) ([some (28,[(Value.int .i64 a0_0),(Value.int .i64 a0_1),(Value.string a0_2),(Sl3.v a0_3)]),some (28,[(Value.int .i64 x4_0),(Value.int .i64 x4_1),(Value.string x4_2),(Sl3.v x4_3)])]) H ?_ (fun a w hs=>WS.nxt ?_ a w hs)
  ·clear h; rename _=>h
   refine WS.rg (RS.mS 3 [kB 32 (!x6),kB 31 (!x6),kB 30 x6] ?_)
   rcases z8 h with ⟨hp,h⟩ | ⟨hp,h⟩
   ·refine RS.fx 32 false (nb_not hp) (RS.mS 3 [kB 35 (decide ((IntKind.i64.wrap (v6_1+x5)) > 256)),kB 34 (decide ((IntKind.i64.wrap (v6_1+x5)) > 256)),kI 33 (IntKind.i64.wrap (v6_1+x5))] (RS.dn ?_))
    cases h
    exact fun a w hs=>(jsN (hs.sb 2))
   ·refine RS.fx 32 true (z2i hp) (RS.mS 3 [kB 35 true,kU 34,kU 33] (RS.dn ?_))
    cases h
    exact fun a w hs=>(jsN (hs.sb 2))
  ·clear hx
   rcases z8 h with ⟨hp,h⟩ | ⟨hp,h⟩
   ·refine WS.fx 35 true hp (WS.cT (WS.sq (WS.rg (RS.mS 3 [kB 5 false,kI 4 (IntKind.i64.wrap (v6_1+x5)),kI 36 (IntKind.i64.wrap (v6_1+x5))] (RS.dn (WS.nxt (WS.rt ?_)))))))
    cases h
    exact fun a w hs=>bkR (sqR (lsR rfl (rS hs)))
   ·refine WS.fx 35 false (b_not hp) (WS.cF (WS.sk ?_))
    refine fun a w hs=>bkN ((WS.nxt ?_ a w hs))
    refine WS.rg (RS.mS 2 [kI 16 (IntKind.i64.wrap (v16_2+1)),kI 37 (IntKind.i64.wrap (v16_2+1))] (RS.dn ?_))
    cases h
    exact fun a w hs=>lsN rfl (hs.sb 1)
 ·refine WS.fx 17 false (decide_eq_false hp) (WS.cF (WS.ex 0 ?_))
  cases h
  exact fun a w hs=>sqE (lsB rfl (hs.sb 1))
theorem zdo {L:LC} {rec_sort_parts:AH→Int→Int→ByteArray→Sl3→Int→Option (Int×Bool)} (hrec_sort_parts:∀(m:Nat) (H:AH) (a0_0 a0_1:Int) (a0_2:ByteArray) (a0_3:Sl3) (a1:Int) (r:(Int×Bool)),rec_sort_parts H a0_0 a0_1 a0_2 a0_3 a1=some r→CallS Tryd.prog (NE.plain 1000) m 90 #[(Value.agg #[(Value.int .i64 a0_0),(Value.int .i64 a0_1),(Value.string a0_2),(Sl3.v a0_3)]),(Value.int .i64 a1)] H (z47 r) (z4k H r)) {m:Nat} {H:AH} {a0_0 a0_1:Int} {a0_2:ByteArray} {a0_3:Sl3} {a1:Int} {r:(Int×Bool)} (h:z2x L rec_sort_parts H a0_0 a0_1 a0_2 a0_3 a1=some r) :
  CallS Tryd.prog (NE.plain 1000) m 90 #[(Value.agg #[(Value.int .i64 a0_0),(Value.int .i64 a0_1),(Value.string a0_2),(Sl3.v a0_3)]),(Value.int .i64 a1)] H (z47 r) (z4k H r):=by
 refine CallS.mk (args:=[(Value.agg #[(Value.int .i64 a0_0),(Value.int .i64 a0_1),(Value.string a0_2),(Sl3.v a0_3)]),(Value.int .i64 a1)]) Tryd.func90 (B:=B90) (by kernel_rfl) (fun E _=>?_)
 unfold z2x at h
 refine WS.sq (WS.rg (RS.mL 3 [kB 5 false,kI 4 0,kL 2 0 0] ([some (28,[(Value.int .i64 a0_0),(Value.int .i64 a0_1),(Value.string a0_2),(Sl3.v a0_3)])]) (RS.dn (WS.nxt (WS.sq (WS.sq (WS.rg (RS.mS 2 [kB 12 (decide (a1 > 16)),kI 11 a1] (RS.dn ?_)))))))))
 refine WS.nxt ?_
 rcases z8 h with ⟨hp,h⟩ | ⟨hp,h⟩
 ·refine WS.fx 12 true (decide_eq_true hp) (WS.cT (WS.sq (WS.rg (RS.mS 2 [kB 5 false,kI 4 0] (RS.dn (WS.nxt (WS.rt ?_)))))))
  cases h
  exact fun a w hs=>sqR (rtR (rS hs))
 ·refine WS.fx 12 false (decide_eq_false hp) (WS.cF (WS.sk (WS.nxt (WS.sq (WS.rg (RS.mS 1 [kI 6 1] (RS.dn (WS.nxt (WS.sq ?_)))))))))
  refine WS.sq (WS.rg (RS.mS 4 [kI 16 0,kI 15 (a0_3.n:Int),kS 14 a0_3,kL 13 0 3] (RS.dn (WS.nxt (WS.bk 0 ?_)))))
  obtain ⟨o,hl,h⟩:=bind_some h
  rcases o with ⟨v6_8,v16_9⟩ | r
  ·try dsimp only at h
   refine WS.lI (z9d (L:=L) (E:=E) (m:=m) (H:=H) hrec_sort_parts) (L.ok hl) 1 ?_
   clear hl
   refine fun a w hs=>bkE ((WS.nxt ?_ a w hs))
   refine WS.sq (WS.rg (RS.mS 3 [kB 5 true,kI 4 v6_8,kI 38 v6_8] (RS.dn (WS.nxt (WS.rt ?_)))))
   cases h
   exact fun a w hs=>rtR (rS hs)
  ·try dsimp only at h
   refine WS.lR (z9d (L:=L) (E:=E) (m:=m) (H:=H) hrec_sort_parts) (L.ok hl) 1 ?_
   cases h
   exact fun a w hq=>bkR (sqR (rtR hq))
theorem zeb {L:LC}:∀n,(∀(m:Nat) (H:AH) (a0_0 a0_1:Int) (a0_2:ByteArray) (a0_3:Sl3) (a1:Int) (r:(Int×Bool)),((z1s L n)) H a0_0 a0_1 a0_2 a0_3 a1=some r→CallS Tryd.prog (NE.plain 1000) m 90 #[(Value.agg #[(Value.int .i64 a0_0),(Value.int .i64 a0_1),(Value.string a0_2),(Sl3.v a0_3)]),(Value.int .i64 a1)] H (z47 r) (z4k H r)):=by
 intro n
 induction n with
 | zero=>exact (fun _ _ _ _ _ _ _ _ h=>(Option.some_ne_none _ h.symm).elim)
 | succ n ih=>exact (fun _ _ _ _ _ _ _ _ h=>zdo (L:=L) ih h)
theorem zib {L:LC} {m:Nat} {H:AH} {a0_0 a0_1:Int} {a0_2:ByteArray} {a0_3:Sl3} {a1:Int} {r:(Int×Bool)} (h:zcf L H a0_0 a0_1 a0_2 a0_3 a1=some r) :
  CallS Tryd.prog (NE.plain 1000) m 90 #[(Value.agg #[(Value.int .i64 a0_0),(Value.int .i64 a0_1),(Value.string a0_2),(Sl3.v a0_3)]),(Value.int .i64 a1)] H (z47 r) (z4k H r) :=
 (zeb _) _ _ _ _ _ _ _ _ h
end Go.Proofs.YtccbilfbhecdaaaDoor
namespace Go.Proofs.YtccbilfbhecdaaaDoor
open Go Go.Abs
set_option maxRecDepth 100000
theorem zht {α R:Type} (l:List α) (bad:α→Bool) (f:Nat→R) (d:α) :
  ((List.range l.length).findSome? (fun i=>if bad (l.getD i d)=true then some (f i) else none)).isSome=l.any bad ∧
   ∀x,(List.range l.length).findSome? (fun i=>if bad (l.getD i d)=true then some (f i) else none)=some x→∃i,x=f i:=by
 constructor
 ·induction l generalizing f with
  | nil=>rfl
  | cons x l ih =>
   rw [List.length_cons,List.range_succ_eq_map,List.findSome?_cons,List.any_cons]
   cases hx:bad x with
   | true=>simp [hx]
   | false =>
    simp only [List.getD_cons_zero,hx,Bool.false_eq_true,if_false,Bool.false_or,List.findSome?_map,Function.comp_def,List.getD_cons_succ]
    exact ih (fun i=>f (i+1))
 ·intro x h
  obtain ⟨i,_,hi⟩:=List.exists_of_findSome?_eq_some h
  split at hi
  ·cases hi; exact ⟨i,rfl⟩
  ·cases hi
end Go.Proofs.YtccbilfbhecdaaaDoor
namespace Go.Proofs.YtccbilfbhecdaaaDoor
open Go Go.Abs
theorem zom (L:LC) {H:AH} (h:HasT H):z6m L H=some true:=by
 unfold z6m
 rw [if_pos h]
end Go.Proofs.YtccbilfbhecdaaaDoor
namespace Go.Proofs.YtccbilfbhecdaaaDoor
open Go Go.Abs Go.ChangeShapes Go.WideShapes
set_option maxRecDepth 100000
theorem own:ownKnob Tryd.prog.godebug=none:=by kernel_rfl
theorem laidOut:laidOutB Tryd.prog=true:=by kernel_rfl
theorem zn4:globalsB Tryd.prog=true:=by kernel_rfl
theorem sane:Sane Tryd.prog (NE.plain 1000):=zrz (fun _ _ _=>rfl) (by kernel_rfl) (by kernel_rfl) (by kernel_rfl)
theorem zq8 (os:Os) (args:Array Value):laidMet Tryd.prog Rows.sortNamesUptoRow.laid ((laidW2 Tryd.prog Rows.sortNamesUptoRow.laid os).forCall (fun _ _=>0) ⟨#[],args,[]⟩).memory :=
 laidMet_of_run3 8 (by kernel_rfl) (by kernel_rfl) (by kernel_rfl)
theorem zpr (W:World) (hL:laidMet Tryd.prog Rows.sortNamesUptoRow.laid W) (hsh:W.ShapedOpen Tryd.prog):∀x∈tabs,∃fr,W.heap[x.1]? = some (.cells x.2.2 x.2.1 fr):=by
 intro x hx
 simp only [tabs,List.mem_cons,List.not_mem_nil,or_false] at hx
 rcases hx with rfl | rfl | rfl | rfl
 ·exact ze1 (name := "strings.asciiSpace") (te:=5) (n:=256) (t:=130) hL (by kernel_rfl) (by kernel_rfl) (by kernel_rfl) (by kernel_rfl) (by kernel_rfl) (by kernel_rfl) (by kernel_rfl) (of_decide_eq_true (by kernel_rfl)) (by kernel_rfl) hsh
 ·exact ze1 (name := "internal/strconv.uint64pow10") (te:=141) (n:=20) (t:=159) hL (by kernel_rfl) (by kernel_rfl) (by kernel_rfl) (by kernel_rfl) (by kernel_rfl) (by kernel_rfl) (by kernel_rfl) (of_decide_eq_true (by kernel_rfl)) (by kernel_rfl) hsh
 ·exact ze1 (name := "math/bits.deBruijn32tab") (te:=5) (n:=32) (t:=165) hL (by kernel_rfl) (by kernel_rfl) (by kernel_rfl) (by kernel_rfl) (by kernel_rfl) (by kernel_rfl) (by kernel_rfl) (of_decide_eq_true (by kernel_rfl)) (by kernel_rfl) hsh
 ·exact ze1 (name := "math/bits.deBruijn64tab") (te:=5) (n:=64) (t:=166) hL (by kernel_rfl) (by kernel_rfl) (by kernel_rfl) (by kernel_rfl) (by kernel_rfl) (by kernel_rfl) (by kernel_rfl) (of_decide_eq_true (by kernel_rfl)) (by kernel_rfl) hsh
theorem zmn:HasT H0:=by
 intro x hx
 simp only [tabs,List.mem_cons,List.not_mem_nil,or_false] at hx
 rcases hx with rfl | rfl | rfl | rfl <;> exact ⟨by kernel_rfl,by rw [show H0.next=Tryd.prog.globals.size from zex tabs,globals7]; decide⟩
theorem zqg {W:World} (hg:Tryd.prog.globals.size≤W.heap.size) (hL:laidMet Tryd.prog Rows.sortNamesUptoRow.laid W) (hsh:W.ShapedOpen Tryd.prog):Imp Tryd.prog (φg Tryd.prog) H0 W :=
 Imp.startT hg zlc (zpr W hL hsh)
namespace bulks
theorem one_le {H:Type} (d:DataW H):1≤Rows.uptoBulk d:=by
 cases d with
 | lit l=>cases l <;> simp [Rows.uptoBulk]
 | nil=>simp [Rows.uptoBulk]
 | ptr d=>simp [Rows.uptoBulk]
 | slice elems spare=>simp [Rows.uptoBulk]
 | agg parts=>simp [Rows.uptoBulk]
 | iface t d=>simp [Rows.uptoBulk]
 | map entries=>simp [Rows.uptoBulk]
 | held h=>simp [Rows.uptoBulk]
theorem length_le {H:Type} (l:List (DataW H)):l.length≤Rows.uptoBulkAll l:=by
 induction l with
 | nil=>simp [Rows.uptoBulkAll]
 | cons x r ih=>have:=one_le x; simp only [Rows.uptoBulkAll,List.length_cons]; omega
theorem part_le {H:Type} {d:DataW H} {l:List (DataW H)} (h:d∈l):Rows.uptoBulk d≤Rows.uptoBulkAll l:=by
 induction l with
 | nil=>cases h
 | cons x r ih =>
  simp only [Rows.uptoBulkAll]
  cases List.mem_cons.1 h with
  | inl e=>subst e; omega
  | inr e=>have:=ih e; omega
theorem bound {H:Type} {l:List (DataW H)} (hk:Rows.uptoSmall H l=true):Rows.uptoBulkAll l≤1048576:=of_decide_eq_true hk
end bulks
section
variable {H:Type} {enc:TypeId×Value→H} {W:World} {φ:Inj}
theorem ar3 {a a' b b' c c':Value} (h:VR φ a a') (h2:VR φ b b') (h3:VR φ c c'):AR φ #[a,b,c] #[a',b',c']:=by
 refine ⟨rfl,fun i x y hx hy=>?_⟩
 match i,hx,hy with
 | 0,hx,hy=>simp at hx hy; subst hx hy; exact h
 | 1,hx,hy=>simp at hx hy; subst hx hy; exact h2
 | 2,hx,hy=>simp at hx hy; subst hx hy; exact h3
 | i+3,hx,_=>simp at hx
theorem wf_i64 {n:Int} (h:(Lit.int .i64 n).wf=true):-9223372036854775808≤n∧n<9223372036854775808:=by
 have e1:IntKind.i64.min=-9223372036854775808:=by decide
 have e2:IntKind.i64.max=9223372036854775807:=by decide
 simp only [Lit.wf,Bool.and_eq_true,decide_eq_true_eq,e1,e2] at h
 omega
end
end Go.Proofs.YtccbilfbhecdaaaDoor
namespace Go.Proofs.YtccbilfbhecdaaaDoor
open Go Go.Abs
set_option maxRecDepth 100000
def z3w:Bool→Value
 | r0=>(Value.bool r0)
def z4b (H:AH):Bool→AH:=fun _=>H
noncomputable def B91:Code:=(Tryd.f91.body).getD .skip
noncomputable def z2s (_L:LC) (rec_sort_shaped:AH→Int→Int→ByteArray→Sl3→Option Bool) (H:AH) (_a0_0 _a0_1:Int) (_a0_2:ByteArray) (a0_3:Sl3):(Bool×Int)→Option (Lp (Bool×Int) Bool):=fun (v3_5,v82_6) =>
 if v82_6<(a0_3.n:Int) then
  Option.bind (α:=Bool) (
   Option.bind (idxA 4 a0_3 v82_6) fun p8 =>
   Option.bind (rd (deI .i64) H (Addr.add p8 0)) fun x9_0 =>
   Option.bind (rd (deI .i64) H (Addr.add p8 1)) fun x9_1 =>
   Option.bind (rd deS H (Addr.add p8 2)) fun x9_2 =>
   Option.bind (rd deSl H (Addr.add p8 3)) fun x9_3 =>
   if v3_5=true then
    Option.bind (rec_sort_shaped H x9_0 x9_1 x9_2 x9_3) fun x10 =>
    some x10
   else
    some false) fun v3_7 =>
  some (.next (v3_7,(IntKind.i64.wrap (v82_6+1))))
 else
  some (.brk (v3_5,v82_6))
def ze9 (_L:LC) (_rec_sort_shaped:AH→Int→Int→ByteArray→Sl3→Option Bool) (_H:AH) (a0_0 a0_1:Int) (a0_2:ByteArray) (a0_3:Sl3):(Bool×Int)→KN×Lcs:=fun (v3_5,v82_6)=>([kB 3 v3_5,kI 82 v82_6,kS 80 a0_3,kI 81 (a0_3.n:Int)],[some (28,[(Value.int .i64 a0_0),(Value.int .i64 a0_1),(Value.string a0_2),(Sl3.v a0_3)])])
noncomputable def z4h (L:LC) (rec_sort_shaped:AH→Int→Int→ByteArray→Sl3→Option Bool) (H:AH) (a0_0 a0_1:Int) (a0_2:ByteArray) (a0_3:Sl3):Option Bool :=
 Option.bind (α:=Bool) (
  Option.bind (α:=Bool) (
   if a0_0=1 then
    some true
   else
    some (decide (a0_0=2))) fun v8_2 =>
  if v8_2=true then
   if a0_1=0 then
    if (a0_2.toList == (⟨#[]⟩:ByteArray).toList)=true then
     some (decide ((a0_3.n:Int)=0))
    else
     some false
   else
    some false
  else
   if a0_0=3 then
    if a0_1≥1 then
     if a0_1≤4096 then
      if (a0_2.toList == (⟨#[]⟩:ByteArray).toList)=true then
       some (decide ((a0_3.n:Int)=0))
      else
       some false
     else
      some false
    else
     some false
   else
    if a0_0=4 then
     if a0_1=0 then
      if (a0_2.toList == (⟨#[]⟩:ByteArray).toList)=true then
       some (decide ((a0_3.n:Int)=2))
      else
       some false
     else
      some false
    else
     Option.bind (α:=Bool) (
      if a0_0=5 then
       some true
      else
       some (decide (a0_0=6))) fun v62_3 =>
     if v62_3=true then
      if a0_1=0 then
       Option.bind (z5v L a0_2) fun x4 =>
       if x4=true then
        some (decide ((a0_3.n:Int)=0))
       else
        some false
      else
       some false
     else
      some false) fun v3_1 =>
 Option.bind (L.run (z2s L rec_sort_shaped H a0_0 a0_1 a0_2 a0_3) (v3_1,0)) fun o=>match o with
 | .inl (v3_11,_) =>
  some v3_11
 | .inr r=>some r
noncomputable def z2a (L:LC) (n:Nat):(AH→Int→Int→ByteArray→Sl3→Option Bool):=Nat.rec (motive:=fun _=>(AH→Int→Int→ByteArray→Sl3→Option Bool)) (fun _ _ _ _ _=>none) (fun _ p=>z4h L p) n
noncomputable def zaz (L:LC) (H:AH) (a0_0 a0_1:Int) (a0_2:ByteArray) (a0_3:Sl3):Option Bool:=(z2a L L.fuel) H a0_0 a0_1 a0_2 a0_3
theorem z8u {E m L rec_sort_shaped H a0_0 a0_1 a0_2 a0_3} (hrec_sort_shaped:∀(m:Nat) (H:AH) (a0_0 a0_1:Int) (a0_2:ByteArray) (a0_3:Sl3) (r:Bool),rec_sort_shaped H a0_0 a0_1 a0_2 a0_3=some r→CallS Tryd.prog (NE.plain 1000) m 91 #[(Value.agg #[(Value.int .i64 a0_0),(Value.int .i64 a0_1),(Value.string a0_2),(Sl3.v a0_3)])] H (z3w r) (z4b H r)):LoopF Tryd.prog (NE.plain 1000) m E Tryd.f91 ((cfst (csnd (cfst (csnd (csnd (csnd B91))))))) (ze9 L rec_sort_shaped H a0_0 a0_1 a0_2 a0_3) (fun _=>H) 1 z3w (z4b H) (z2s L rec_sort_shaped H a0_0 a0_1 a0_2 a0_3):=by
 rintro ⟨v3_5,v82_6⟩ o h
 unfold z2s at h
 try dsimp only at h
 refine WS.sq (WS.rg (RS.mS 1 [kB 83 (decide (v82_6<(a0_3.n:Int)))] (RS.dn (WS.nxt (WS.sq ?_)))))
 rcases z8 h with ⟨hp,h⟩ | ⟨hp,h⟩
 ·refine WS.fx 83 true (decide_eq_true hp) (WS.cT (WS.sk (WS.nxt ?_)))
  obtain ⟨v3_7,hx,h⟩:=bind_some h
  refine WS.sq ?_
  refine WS.join ([kB 3 v3_7,kS 80 a0_3,kI 81 (a0_3.n:Int),kI 82 v82_6]) ([some (28,[(Value.int .i64 a0_0),(Value.int .i64 a0_1),(Value.string a0_2),(Sl3.v a0_3)])]) H ?_ (fun a w hs=>WS.nxt ?_ a w hs)
  ·clear h; rename _=>h
   refine WS.bk 2 (WS.sq (WS.rg ?_))
   obtain ⟨p8,hx,h⟩:=bind_some h
   refine RS.ix 84 26 28 (.tmp 80) (.tmp 82) hx ?_
   obtain ⟨x9_0,hx0,h⟩:=bind_some h
   obtain ⟨x9_1,hx1,h⟩:=bind_some h
   obtain ⟨x9_2,hx2,h⟩:=bind_some h
   obtain ⟨x9_3,hx3,h⟩:=bind_some h
   refine RS.la 85 28 (.tmp 84) 4 (z7 (z0 hx0 z9) (z7 (z0 hx1 z9) (z7 (z0 hx2 zd) (z7 (z0 hx3 za) zf)))) (RS.mL 2 [kL 5 1 0] ([some (28,[(Value.int .i64 a0_0),(Value.int .i64 a0_1),(Value.string a0_2),(Sl3.v a0_3)]),some (28,[(Value.int .i64 x9_0),(Value.int .i64 x9_1),(Value.string x9_2),(Sl3.v x9_3)])]) (RS.dn (WS.nxt (WS.rg (RS.mS 2 [kB 87 v3_5,kB 86 v3_5] ?_)))))
   rcases z8 h with ⟨hp,h⟩ | ⟨hp,h⟩
   ·refine RS.fx 87 true hp (RS.mS 1 [kA 88 #[(Value.int .i64 x9_0),(Value.int .i64 x9_1),(Value.string x9_2),(Sl3.v x9_3)]] ?_)
    obtain ⟨x10,hx,h⟩:=bind_some h
    refine RS.cl (some 89) (v:=(Value.bool x10)) 91 #[(Value.agg #[(Value.int .i64 x9_0),(Value.int .i64 x9_1),(Value.string x9_2),(Sl3.v x9_3)])] (hrec_sort_shaped _ _ _ _ _ _ _ hx) (RS.mS 2 [kB 3 x10,kB 90 x10] (RS.dn ?_))
    cases h
    exact fun a w hs=>bkN ((jsN (hs.sb 1)))
   ·refine RS.fx 87 false (b_not hp) (RS.mS 4 [kB 3 false,kB 90 false,kU 89,kU 88] (RS.dn ?_))
    cases h
    exact fun a w hs=>bkN ((jsN (hs.sb 1)))
  ·clear hx
   refine WS.rg (RS.mS 2 [kI 82 (IntKind.i64.wrap (v82_6+1)),kI 91 (IntKind.i64.wrap (v82_6+1))] (RS.dn ?_))
   cases h
   exact fun a w hs=>lsN rfl (hs.sb 1)
 ·refine WS.fx 83 false (decide_eq_false hp) (WS.cF (WS.ex 1 ?_))
  cases h
  exact fun a w hs=>sqE (lsB rfl (hs.sb 1))
theorem zd0 {L:LC} {rec_sort_shaped:AH→Int→Int→ByteArray→Sl3→Option Bool} (hrec_sort_shaped:∀(m:Nat) (H:AH) (a0_0 a0_1:Int) (a0_2:ByteArray) (a0_3:Sl3) (r:Bool),rec_sort_shaped H a0_0 a0_1 a0_2 a0_3=some r→CallS Tryd.prog (NE.plain 1000) m 91 #[(Value.agg #[(Value.int .i64 a0_0),(Value.int .i64 a0_1),(Value.string a0_2),(Sl3.v a0_3)])] H (z3w r) (z4b H r)) {m:Nat} {H:AH} {a0_0 a0_1:Int} {a0_2:ByteArray} {a0_3:Sl3} {r:Bool} (h:z4h L rec_sort_shaped H a0_0 a0_1 a0_2 a0_3=some r) :
  CallS Tryd.prog (NE.plain 1000) m 91 #[(Value.agg #[(Value.int .i64 a0_0),(Value.int .i64 a0_1),(Value.string a0_2),(Sl3.v a0_3)])] H (z3w r) (z4b H r):=by
 refine CallS.mk (args:=[(Value.agg #[(Value.int .i64 a0_0),(Value.int .i64 a0_1),(Value.string a0_2),(Sl3.v a0_3)])]) Tryd.func91 (B:=B91) (by kernel_rfl) (fun E _=>?_)
 unfold z4h at h
 refine WS.sq (WS.rg (RS.mL 2 [kB 2 false,kL 1 0 0] ([some (28,[(Value.int .i64 a0_0),(Value.int .i64 a0_1),(Value.string a0_2),(Sl3.v a0_3)])]) (RS.dn (WS.nxt (WS.sq (WS.rg (RS.mS 1 [kB 3 false] (RS.dn (WS.nxt ?_)))))))))
 obtain ⟨v3_1,hx,h⟩:=bind_some h
 refine WS.sq ?_
 refine WS.join ([kB 3 v3_1,kL 1 0 0]) ([some (28,[(Value.int .i64 a0_0),(Value.int .i64 a0_1),(Value.string a0_2),(Sl3.v a0_3)])]) H ?_ (fun a w hs=>WS.nxt ?_ a w hs)
 ·clear h; rename _=>h
  refine WS.sq (WS.rg (RS.mS 2 [kI 7 a0_0,kL 6 0 0] (RS.dn (WS.nxt (WS.bk 0 ?_)))))
  obtain ⟨v8_2,hx,h⟩:=bind_some h
  refine WS.sq ?_
  refine WS.join ([kB 8 v8_2,kL 1 0 0,kB 3 false,kI 7 a0_0]) ([some (28,[(Value.int .i64 a0_0),(Value.int .i64 a0_1),(Value.string a0_2),(Sl3.v a0_3)])]) H ?_ (fun a w hs=>WS.nxt ?_ a w hs)
  ·clear h; rename _=>h
   refine WS.sq (WS.rg (RS.mS 2 [kB 8 (decide (a0_0=1)),kB 9 (decide (a0_0=1))] (RS.dn (WS.nxt ?_))))
   rcases z8 h with ⟨hp,h⟩ | ⟨hp,h⟩
   ·refine WS.fx 8 true (decide_eq_true hp) (WS.cT (WS.sk ?_))
    cases h
    exact fun a w hs=>(jsN (hs.sb 1))
   ·refine WS.fx 8 false (decide_eq_false hp) (WS.cF (WS.rg (RS.mS 2 [kB 8 (decide (a0_0=2)),kB 10 (decide (a0_0=2))] (RS.dn ?_))))
    cases h
    exact fun a w hs=>(jsN (hs.sb 1))
  ·clear hx
   rcases z8 h with ⟨hp,h⟩ | ⟨hp,h⟩
   ·refine WS.fx 8 true hp (WS.cT (WS.rg (RS.mS 4 [kB 14 (decide (a0_1=0)),kB 13 (decide (a0_1=0)),kI 12 a0_1,kL 11 0 1] ?_)))
    rcases z8 h with ⟨hp,h⟩ | ⟨hp,h⟩
    ·refine RS.fx 14 true (decide_eq_true hp) (RS.mS 5 [kB 19 (a0_2.toList == (⟨#[]⟩:ByteArray).toList),kB 18 (a0_2.toList == (⟨#[]⟩:ByteArray).toList),kB 17 (a0_2.toList == (⟨#[]⟩:ByteArray).toList),kT 16 a0_2,kL 15 0 2] ?_)
     rcases z8 h with ⟨hp,h⟩ | ⟨hp,h⟩
     ·refine RS.fx 19 true hp (RS.mS 6 [kB 3 (decide ((a0_3.n:Int)=0)),kB 24 (decide ((a0_3.n:Int)=0)),kB 23 (decide ((a0_3.n:Int)=0)),kI 22 (a0_3.n:Int),kS 21 a0_3,kL 20 0 3] (RS.dn ?_))
      cases h
      exact fun a w hs=>bkN ((jsN (hs.sb 1)))
     ·refine RS.fx 19 false (b_not hp) (RS.mS 6 [kB 3 false,kB 24 false,kU 23,kU 22,kU 21,kU 20] (RS.dn ?_))
      cases h
      exact fun a w hs=>bkN ((jsN (hs.sb 1)))
    ·refine RS.fx 14 false (decide_eq_false hp) (RS.mS 11 [kB 3 false,kB 24 false,kU 23,kU 22,kU 21,kU 20,kB 19 false,kB 18 false,kU 17,kU 16,kU 15] (RS.dn ?_))
     cases h
     exact fun a w hs=>bkN ((jsN (hs.sb 1)))
   ·refine WS.fx 8 false (b_not hp) (WS.cF (WS.sq (WS.rg (RS.mS 2 [kB 25 (decide (a0_0=3)),kB 26 (decide (a0_0=3))] (RS.dn (WS.nxt ?_))))))
    rcases z8 h with ⟨hp,h⟩ | ⟨hp,h⟩
    ·refine WS.fx 25 true (decide_eq_true hp) (WS.cT (WS.rg (RS.mS 4 [kB 30 (decide (a0_1≥1)),kB 29 (decide (a0_1≥1)),kI 28 a0_1,kL 27 0 1] ?_)))
     rcases z8 h with ⟨hp,h⟩ | ⟨hp,h⟩
     ·refine RS.fx 30 true (decide_eq_true hp) (RS.mS 5 [kB 35 (decide (a0_1≤4096)),kB 34 (decide (a0_1≤4096)),kB 33 (decide (a0_1≤4096)),kI 32 a0_1,kL 31 0 1] ?_)
      rcases z8 h with ⟨hp,h⟩ | ⟨hp,h⟩
      ·refine RS.fx 35 true (decide_eq_true hp) (RS.mS 5 [kB 40 (a0_2.toList == (⟨#[]⟩:ByteArray).toList),kB 39 (a0_2.toList == (⟨#[]⟩:ByteArray).toList),kB 38 (a0_2.toList == (⟨#[]⟩:ByteArray).toList),kT 37 a0_2,kL 36 0 2] ?_)
       rcases z8 h with ⟨hp,h⟩ | ⟨hp,h⟩
       ·refine RS.fx 40 true hp (RS.mS 6 [kB 3 (decide ((a0_3.n:Int)=0)),kB 45 (decide ((a0_3.n:Int)=0)),kB 44 (decide ((a0_3.n:Int)=0)),kI 43 (a0_3.n:Int),kS 42 a0_3,kL 41 0 3] (RS.dn ?_))
        cases h
        exact fun a w hs=>bkN ((jsN (hs.sb 1)))
       ·refine RS.fx 40 false (b_not hp) (RS.mS 6 [kB 3 false,kB 45 false,kU 44,kU 43,kU 42,kU 41] (RS.dn ?_))
        cases h
        exact fun a w hs=>bkN ((jsN (hs.sb 1)))
      ·refine RS.fx 35 false (decide_eq_false hp) (RS.mS 11 [kB 3 false,kB 45 false,kU 44,kU 43,kU 42,kU 41,kB 40 false,kB 39 false,kU 38,kU 37,kU 36] (RS.dn ?_))
       cases h
       exact fun a w hs=>bkN ((jsN (hs.sb 1)))
     ·refine RS.fx 30 false (decide_eq_false hp) (RS.mS 16 [kB 3 false,kB 45 false,kU 44,kU 43,kU 42,kU 41,kB 40 false,kB 39 false,kU 38,kU 37,kU 36,kB 35 false,kB 34 false,kU 33,kU 32,kU 31] (RS.dn ?_))
      cases h
      exact fun a w hs=>bkN ((jsN (hs.sb 1)))
    ·refine WS.fx 25 false (decide_eq_false hp) (WS.cF (WS.sq (WS.rg (RS.mS 2 [kB 46 (decide (a0_0=4)),kB 47 (decide (a0_0=4))] (RS.dn (WS.nxt ?_))))))
     rcases z8 h with ⟨hp,h⟩ | ⟨hp,h⟩
     ·refine WS.fx 46 true (decide_eq_true hp) (WS.cT (WS.rg (RS.mS 4 [kB 51 (decide (a0_1=0)),kB 50 (decide (a0_1=0)),kI 49 a0_1,kL 48 0 1] ?_)))
      rcases z8 h with ⟨hp,h⟩ | ⟨hp,h⟩
      ·refine RS.fx 51 true (decide_eq_true hp) (RS.mS 5 [kB 56 (a0_2.toList == (⟨#[]⟩:ByteArray).toList),kB 55 (a0_2.toList == (⟨#[]⟩:ByteArray).toList),kB 54 (a0_2.toList == (⟨#[]⟩:ByteArray).toList),kT 53 a0_2,kL 52 0 2] ?_)
       rcases z8 h with ⟨hp,h⟩ | ⟨hp,h⟩
       ·refine RS.fx 56 true hp (RS.mS 6 [kB 3 (decide ((a0_3.n:Int)=2)),kB 61 (decide ((a0_3.n:Int)=2)),kB 60 (decide ((a0_3.n:Int)=2)),kI 59 (a0_3.n:Int),kS 58 a0_3,kL 57 0 3] (RS.dn ?_))
        cases h
        exact fun a w hs=>bkN ((jsN (hs.sb 1)))
       ·refine RS.fx 56 false (b_not hp) (RS.mS 6 [kB 3 false,kB 61 false,kU 60,kU 59,kU 58,kU 57] (RS.dn ?_))
        cases h
        exact fun a w hs=>bkN ((jsN (hs.sb 1)))
      ·refine RS.fx 51 false (decide_eq_false hp) (RS.mS 11 [kB 3 false,kB 61 false,kU 60,kU 59,kU 58,kU 57,kB 56 false,kB 55 false,kU 54,kU 53,kU 52] (RS.dn ?_))
       cases h
       exact fun a w hs=>bkN ((jsN (hs.sb 1)))
     ·refine WS.fx 46 false (decide_eq_false hp) (WS.cF ?_)
      obtain ⟨v62_3,hx,h⟩:=bind_some h
      refine WS.sq ?_
      refine WS.join ([kB 62 v62_3,kL 1 0 0,kB 3 false]) ([some (28,[(Value.int .i64 a0_0),(Value.int .i64 a0_1),(Value.string a0_2),(Sl3.v a0_3)])]) H ?_ (fun a w hs=>WS.nxt ?_ a w hs)
      ·clear h; rename _=>h
       refine WS.sq (WS.rg (RS.mS 2 [kB 62 (decide (a0_0=5)),kB 63 (decide (a0_0=5))] (RS.dn (WS.nxt ?_))))
       rcases z8 h with ⟨hp,h⟩ | ⟨hp,h⟩
       ·refine WS.fx 62 true (decide_eq_true hp) (WS.cT (WS.sk ?_))
        cases h
        exact fun a w hs=>(jsN (hs.sb 1))
       ·refine WS.fx 62 false (decide_eq_false hp) (WS.cF (WS.rg (RS.mS 2 [kB 62 (decide (a0_0=6)),kB 64 (decide (a0_0=6))] (RS.dn ?_))))
        cases h
        exact fun a w hs=>(jsN (hs.sb 1))
      ·clear hx
       rcases z8 h with ⟨hp,h⟩ | ⟨hp,h⟩
       ·refine WS.fx 62 true hp (WS.cT (WS.rg (RS.mS 4 [kB 68 (decide (a0_1=0)),kB 67 (decide (a0_1=0)),kI 66 a0_1,kL 65 0 1] ?_)))
        rcases z8 h with ⟨hp,h⟩ | ⟨hp,h⟩
        ·refine RS.fx 68 true (decide_eq_true hp) (RS.mS 2 [kT 70 a0_2,kL 69 0 2] ?_)
         obtain ⟨x4,hx,h⟩:=bind_some h
         refine RS.cl (some 71) (v:=(Value.bool x4)) 13 #[(Value.string a0_2)] (zdv hx) (RS.mS 2 [kB 73 x4,kB 72 x4] ?_)
         rcases z8 h with ⟨hp,h⟩ | ⟨hp,h⟩
         ·refine RS.fx 73 true hp (RS.mS 6 [kB 3 (decide ((a0_3.n:Int)=0)),kB 78 (decide ((a0_3.n:Int)=0)),kB 77 (decide ((a0_3.n:Int)=0)),kI 76 (a0_3.n:Int),kS 75 a0_3,kL 74 0 3] (RS.dn ?_))
          cases h
          exact fun a w hs=>bkN ((jsN (hs.sb 1)))
         ·refine RS.fx 73 false (b_not hp) (RS.mS 6 [kB 3 false,kB 78 false,kU 77,kU 76,kU 75,kU 74] (RS.dn ?_))
          cases h
          exact fun a w hs=>bkN ((jsN (hs.sb 1)))
        ·refine RS.fx 68 false (decide_eq_false hp) (RS.mS 11 [kB 3 false,kB 78 false,kU 77,kU 76,kU 75,kU 74,kB 73 false,kB 72 false,kU 71,kU 70,kU 69] (RS.dn ?_))
         cases h
         exact fun a w hs=>bkN ((jsN (hs.sb 1)))
       ·refine WS.fx 62 false (b_not hp) (WS.cF (WS.sk ?_))
        cases h
        exact fun a w hs=>bkN ((jsN (hs.sb 1)))
 ·clear hx
  refine WS.sq (WS.sq (WS.rg (RS.mS 4 [kI 82 0,kI 81 (a0_3.n:Int),kS 80 a0_3,kL 79 0 3] (RS.dn (WS.nxt (WS.bk 1 ?_))))))
  obtain ⟨o,hl,h⟩:=bind_some h
  rcases o with ⟨v3_11,v82_12⟩ | r
  ·try dsimp only at h
   refine WS.lI (z8u (L:=L) (E:=E) (m:=m) (H:=H) hrec_sort_shaped) (L.ok hl) 1 ?_
   clear hl
   refine fun a w hs=>bkE ((WS.nxt ?_ a w hs))
   refine WS.sq (WS.rg (RS.mS 2 [kB 2 v3_11,kB 92 v3_11] (RS.dn (WS.nxt (WS.rt ?_)))))
   cases h
   exact fun a w hs=>rtR (rS hs)
  ·try dsimp only at h
   refine WS.lR (z8u (L:=L) (E:=E) (m:=m) (H:=H) hrec_sort_shaped) (L.ok hl) 1 ?_
   cases h
   exact fun a w hq=>bkR (sqR (rtR hq))
theorem zdk {L:LC}:∀n,(∀(m:Nat) (H:AH) (a0_0 a0_1:Int) (a0_2:ByteArray) (a0_3:Sl3) (r:Bool),((z2a L n)) H a0_0 a0_1 a0_2 a0_3=some r→CallS Tryd.prog (NE.plain 1000) m 91 #[(Value.agg #[(Value.int .i64 a0_0),(Value.int .i64 a0_1),(Value.string a0_2),(Sl3.v a0_3)])] H (z3w r) (z4b H r)):=by
 intro n
 induction n with
 | zero=>exact (fun _ _ _ _ _ _ _ h=>(Option.some_ne_none _ h.symm).elim)
 | succ n ih=>exact (fun _ _ _ _ _ _ _ h=>zd0 (L:=L) ih h)
theorem zgl {L:LC} {m:Nat} {H:AH} {a0_0 a0_1:Int} {a0_2:ByteArray} {a0_3:Sl3} {r:Bool} (h:zaz L H a0_0 a0_1 a0_2 a0_3=some r) :
  CallS Tryd.prog (NE.plain 1000) m 91 #[(Value.agg #[(Value.int .i64 a0_0),(Value.int .i64 a0_1),(Value.string a0_2),(Sl3.v a0_3)])] H (z3w r) (z4b H r) :=
 (zdk _) _ _ _ _ _ _ _ h
def zgv:Int→Value
 | r0=>(Value.int .i64 r0)
def zi6 (H:AH):Int→AH:=fun _=>H
noncomputable def B57:Code:=(Tryd.f57.body).getD .skip
noncomputable def z7n (L:LC) (H:AH) (a0_0 a0_1:Int) (a0_2:ByteArray) (a0_3:Sl3):Option Int :=
 Option.bind (zcf L H a0_0 a0_1 a0_2 a0_3 1) fun (_,x2) =>
 if x2=true then
  Option.bind (zaz L H a0_0 a0_1 a0_2 a0_3) fun x3 =>
  if x3=true then
   some 0
  else
   some 40
 else
  some 3
theorem zia {L:LC} {m:Nat} {H:AH} {a0_0 a0_1:Int} {a0_2:ByteArray} {a0_3:Sl3} {r:Int} (h:z7n L H a0_0 a0_1 a0_2 a0_3=some r) :
  CallS Tryd.prog (NE.plain 1000) m 57 #[(Value.agg #[(Value.int .i64 a0_0),(Value.int .i64 a0_1),(Value.string a0_2),(Sl3.v a0_3)])] H (zgv r) (zi6 H r):=by
 refine CallS.mk (args:=[(Value.agg #[(Value.int .i64 a0_0),(Value.int .i64 a0_1),(Value.string a0_2),(Sl3.v a0_3)])]) Tryd.func57 (B:=B57) (by kernel_rfl) (fun E _=>?_)
 unfold z7n at h
 refine WS.sq (WS.rg (RS.mL 2 [kI 2 0,kL 1 0 0] ([some (28,[(Value.int .i64 a0_0),(Value.int .i64 a0_1),(Value.string a0_2),(Sl3.v a0_3)])]) (RS.dn (WS.nxt (WS.sq (WS.sq (WS.rg (RS.mS 1 [kA 6 #[(Value.int .i64 a0_0),(Value.int .i64 a0_1),(Value.string a0_2),(Sl3.v a0_3)]] ?_))))))))
 obtain ⟨⟨x1,x2⟩,hx,h⟩:=bind_some h
 try dsimp only at h
 refine RS.cl (some 7) (v:=(Value.tuple #[(Value.int .i64 x1),(Value.bool x2)])) 90 #[(Value.agg #[(Value.int .i64 a0_0),(Value.int .i64 a0_1),(Value.string a0_2),(Sl3.v a0_3)]),(Value.int .i64 1)] (zib hx) (RS.mS 5 [kB 4 x2,kI 3 x1,kB 9 x2,kI 8 x1,(5,.val (Value.tuple #[(Value.int .i64 x1),(Value.bool x2)]))] (RS.dn (WS.nxt (WS.sq (WS.rg (RS.mS 2 [kB 11 (!x2),kB 10 x2] (RS.dn (WS.nxt ?_))))))))
 rcases z8 h with ⟨hp,h⟩ | ⟨hp,h⟩
 ·refine WS.fx 11 false (nb_not hp) (WS.cF (WS.sk (WS.nxt (WS.sq (WS.sq (WS.rg (RS.mS 1 [kA 12 #[(Value.int .i64 a0_0),(Value.int .i64 a0_1),(Value.string a0_2),(Sl3.v a0_3)]] ?_)))))))
  obtain ⟨x3,hx,h⟩:=bind_some h
  refine RS.cl (some 13) (v:=(Value.bool x3)) 91 #[(Value.agg #[(Value.int .i64 a0_0),(Value.int .i64 a0_1),(Value.string a0_2),(Sl3.v a0_3)])] (zgl hx) (RS.mS 1 [kB 14 (!x3)] (RS.dn (WS.nxt ?_)))
  rcases z8 h with ⟨hp,h⟩ | ⟨hp,h⟩
  ·refine WS.fx 14 false (nb_not hp) (WS.cF (WS.sk (WS.nxt (WS.sq (WS.rg (RS.mS 1 [kI 2 0] (RS.dn (WS.nxt (WS.rt ?_)))))))))
   cases h
   exact fun a w hs=>rtR (rS hs)
  ·refine WS.fx 14 true (z2i hp) (WS.cT (WS.sq (WS.rg (RS.mS 1 [kI 2 40] (RS.dn (WS.nxt (WS.rt ?_)))))))
   cases h
   exact fun a w hs=>sqR (rtR (rS hs))
 ·refine WS.fx 11 true (z2i hp) (WS.cT (WS.sq (WS.rg (RS.mS 1 [kI 2 3] (RS.dn (WS.nxt (WS.rt ?_)))))))
  cases h
  exact fun a w hs=>sqR (rtR (rS hs))
def z2h:Bool→Value
 | r0=>(Value.bool r0)
def z2u (H:AH):Bool→AH:=fun _=>H
noncomputable def B67:Code:=(Tryd.f67.body).getD .skip
noncomputable def z2r (_L:LC) (rec_sort_book_known:AH→(Option Addr)→Int→Int→ByteArray→Sl3→Option Bool) (H:AH) (a0:Option Addr) (_a1_0 _a1_1:Int) (_a1_2:ByteArray) (a1_3:Sl3):Int→Option (Lp Int Bool):=fun v34_6 =>
 if v34_6<(a1_3.n:Int) then
  Option.bind (idxA 4 a1_3 v34_6) fun p7 =>
  Option.bind (rd (deI .i64) H (Addr.add p7 0)) fun x8_0 =>
  Option.bind (rd (deI .i64) H (Addr.add p7 1)) fun x8_1 =>
  Option.bind (rd deS H (Addr.add p7 2)) fun x8_2 =>
  Option.bind (rd deSl H (Addr.add p7 3)) fun x8_3 =>
  Option.bind (rec_sort_book_known H a0 x8_0 x8_1 x8_2 x8_3) fun x9 =>
  if x9=true then
   some (.next (IntKind.i64.wrap (v34_6+1)))
  else
   some (.ret false)
 else
  some (.brk v34_6)
def zbr (_L:LC) (_rec_sort_book_known:AH→(Option Addr)→Int→Int→ByteArray→Sl3→Option Bool) (_H:AH) (a0:Option Addr) (a1_0 a1_1:Int) (a1_2:ByteArray) (a1_3:Sl3):Int→KN×Lcs:=fun v34_6=>([kI 34 v34_6,(0,.val (Value.pointer a0)),kS 32 a1_3,kI 33 (a1_3.n:Int)],[some (28,[(Value.int .i64 a1_0),(Value.int .i64 a1_1),(Value.string a1_2),(Sl3.v a1_3)])])
noncomputable def z30 (L:LC) (rec_sort_book_known:AH→(Option Addr)→Int→Int→ByteArray→Sl3→Option Bool) (H:AH) (a0:Option Addr) (a1_0 a1_1:Int) (a1_2:ByteArray) (a1_3:Sl3):Option Bool :=
 Option.bind (α:=Bool) (
  if a1_0=5 then
   some true
  else
   some (decide (a1_0=6))) fun v16_1 =>
 if v16_1=true then
  Option.bind a0 fun q2 =>
  Option.bind (rd deM H (Addr.add q2 3)) fun x3 =>
  Option.bind (lkM Tryd.prog 94 (deI .i64) H x3 (Value.agg #[(Value.int .i64 a1_0),(Value.string a1_2)])) fun (_,b5) =>
  some b5
 else
  Option.bind (L.run (z2r L rec_sort_book_known H a0 a1_0 a1_1 a1_2 a1_3) 0) fun o=>match o with
  | .inl _ =>
   some true
  | .inr r=>some r
noncomputable def z3e (L:LC) (n:Nat):(AH→(Option Addr)→Int→Int→ByteArray→Sl3→Option Bool):=Nat.rec (motive:=fun _=>(AH→(Option Addr)→Int→Int→ByteArray→Sl3→Option Bool)) (fun _ _ _ _ _ _=>none) (fun _ p=>z30 L p) n
noncomputable def z7e (L:LC) (H:AH) (a0:Option Addr) (a1_0 a1_1:Int) (a1_2:ByteArray) (a1_3:Sl3):Option Bool:=(z3e L L.fuel) H a0 a1_0 a1_1 a1_2 a1_3
theorem z71 {E m L rec_sort_book_known H a0 a1_0 a1_1 a1_2 a1_3} (hrec_sort_book_known:∀(m:Nat) (H:AH) (a0:Option Addr) (a1_0 a1_1:Int) (a1_2:ByteArray) (a1_3:Sl3) (r:Bool),rec_sort_book_known H a0 a1_0 a1_1 a1_2 a1_3=some r→CallS Tryd.prog (NE.plain 1000) m 67 #[(Value.pointer a0),(Value.agg #[(Value.int .i64 a1_0),(Value.int .i64 a1_1),(Value.string a1_2),(Sl3.v a1_3)])] H (z2h r) (z2u H r)):LoopF Tryd.prog (NE.plain 1000) m E Tryd.f67 ((cfst (csnd (cfst (csnd (csnd B67)))))) (zbr L rec_sort_book_known H a0 a1_0 a1_1 a1_2 a1_3) (fun _=>H) 0 z2h (z2u H) (z2r L rec_sort_book_known H a0 a1_0 a1_1 a1_2 a1_3):=by
 rintro v34_6 o h
 unfold z2r at h
 try dsimp only at h
 refine WS.sq (WS.rg (RS.mS 1 [kB 35 (decide (v34_6<(a1_3.n:Int)))] (RS.dn (WS.nxt (WS.sq ?_)))))
 rcases z8 h with ⟨hp,h⟩ | ⟨hp,h⟩
 ·refine WS.fx 35 true (decide_eq_true hp) (WS.cT (WS.sk (WS.nxt (WS.sq (WS.bk 1 (WS.sq (WS.rg ?_)))))))
  obtain ⟨p7,hx,h⟩:=bind_some h
  refine RS.ix 36 26 28 (.tmp 32) (.tmp 34) hx ?_
  obtain ⟨x8_0,hx0,h⟩:=bind_some h
  obtain ⟨x8_1,hx1,h⟩:=bind_some h
  obtain ⟨x8_2,hx2,h⟩:=bind_some h
  obtain ⟨x8_3,hx3,h⟩:=bind_some h
  refine RS.la 37 28 (.tmp 36) 4 (z7 (z0 hx0 z9) (z7 (z0 hx1 z9) (z7 (z0 hx2 zd) (z7 (z0 hx3 za) zf)))) (RS.mL 2 [kL 8 1 0] ([some (28,[(Value.int .i64 a1_0),(Value.int .i64 a1_1),(Value.string a1_2),(Sl3.v a1_3)]),some (28,[(Value.int .i64 x8_0),(Value.int .i64 x8_1),(Value.string x8_2),(Sl3.v x8_3)])]) (RS.dn (WS.nxt (WS.sq (WS.rg (RS.mS 2 [kA 39 #[(Value.int .i64 x8_0),(Value.int .i64 x8_1),(Value.string x8_2),(Sl3.v x8_3)],(38,.val (Value.pointer a0))] ?_))))))
  obtain ⟨x9,hx,h⟩:=bind_some h
  refine RS.cl (some 40) (v:=(Value.bool x9)) 67 #[(Value.pointer a0),(Value.agg #[(Value.int .i64 x8_0),(Value.int .i64 x8_1),(Value.string x8_2),(Sl3.v x8_3)])] (hrec_sort_book_known _ _ _ _ _ _ _ _ hx) (RS.mS 1 [kB 41 (!x9)] (RS.dn (WS.nxt ?_)))
  rcases z8 h with ⟨hp,h⟩ | ⟨hp,h⟩
  ·refine WS.fx 41 false (nb_not hp) (WS.cF (WS.sk ?_))
   refine fun a w hs=>bkN ((WS.nxt ?_ a w hs))
   refine WS.rg (RS.mS 2 [kI 34 (IntKind.i64.wrap (v34_6+1)),kI 42 (IntKind.i64.wrap (v34_6+1))] (RS.dn ?_))
   cases h
   exact fun a w hs=>lsN rfl (hs.sb 1)
  ·refine WS.fx 41 true (z2i hp) (WS.cT (WS.sq (WS.rg (RS.mS 1 [kB 4 false] (RS.dn (WS.nxt (WS.rt ?_)))))))
   cases h
   exact fun a w hs=>bkR (sqR (lsR rfl (rS hs)))
 ·refine WS.fx 35 false (decide_eq_false hp) (WS.cF (WS.ex 0 ?_))
  cases h
  exact fun a w hs=>sqE (lsB rfl (hs.sb 1))
theorem za5 {L:LC} {rec_sort_book_known:AH→(Option Addr)→Int→Int→ByteArray→Sl3→Option Bool} (hrec_sort_book_known:∀(m:Nat) (H:AH) (a0:Option Addr) (a1_0 a1_1:Int) (a1_2:ByteArray) (a1_3:Sl3) (r:Bool),rec_sort_book_known H a0 a1_0 a1_1 a1_2 a1_3=some r→CallS Tryd.prog (NE.plain 1000) m 67 #[(Value.pointer a0),(Value.agg #[(Value.int .i64 a1_0),(Value.int .i64 a1_1),(Value.string a1_2),(Sl3.v a1_3)])] H (z2h r) (z2u H r)) {m:Nat} {H:AH} {a0:Option Addr} {a1_0 a1_1:Int} {a1_2:ByteArray} {a1_3:Sl3} {r:Bool} (h:z30 L rec_sort_book_known H a0 a1_0 a1_1 a1_2 a1_3=some r) :
  CallS Tryd.prog (NE.plain 1000) m 67 #[(Value.pointer a0),(Value.agg #[(Value.int .i64 a1_0),(Value.int .i64 a1_1),(Value.string a1_2),(Sl3.v a1_3)])] H (z2h r) (z2u H r):=by
 refine CallS.mk (args:=[(Value.pointer a0),(Value.agg #[(Value.int .i64 a1_0),(Value.int .i64 a1_1),(Value.string a1_2),(Sl3.v a1_3)])]) Tryd.func67 (B:=B67) (by kernel_rfl) (fun E _=>?_)
 unfold z30 at h
 refine WS.sq (WS.rg (RS.mL 2 [kB 4 false,kL 3 0 0] ([some (28,[(Value.int .i64 a1_0),(Value.int .i64 a1_1),(Value.string a1_2),(Sl3.v a1_3)])]) (RS.dn (WS.nxt (WS.sq ?_)))))
 obtain ⟨v16_1,hx,h⟩:=bind_some h
 refine WS.sq ?_
 refine WS.join ([kB 16 v16_1,(0,.val (Value.pointer a0)),kL 3 0 0]) ([some (28,[(Value.int .i64 a1_0),(Value.int .i64 a1_1),(Value.string a1_2),(Sl3.v a1_3)])]) H ?_ (fun a w hs=>WS.nxt ?_ a w hs)
 ·clear h; rename _=>h
  refine WS.rg (RS.mS 4 [kB 12 (decide (a1_0=5)),kB 11 (decide (a1_0=5)),kI 10 a1_0,kL 9 0 0] ?_)
  rcases z8 h with ⟨hp,h⟩ | ⟨hp,h⟩
  ·refine RS.fx 12 true (decide_eq_true hp) (RS.mS 4 [kB 16 true,kU 15,kU 14,kU 13] (RS.dn ?_))
   cases h
   exact fun a w hs=>(jsN (hs.sb 1))
  ·refine RS.fx 12 false (decide_eq_false hp) (RS.mS 4 [kB 16 (decide (a1_0=6)),kB 15 (decide (a1_0=6)),kI 14 a1_0,kL 13 0 0] (RS.dn ?_))
   cases h
   exact fun a w hs=>(jsN (hs.sb 1))
 ·clear hx
  rcases z8 h with ⟨hp,h⟩ | ⟨hp,h⟩
  ·refine WS.fx 16 true hp (WS.cT (WS.sq ?_))
   refine WS.dr [0,1,2,3,4,5,6,7,8,9] [0,1,3,7,0,16,0,64,240,511,1023,2047,2047,4095,16383] 15 (fun hcl=>?_)
   refine DA.tK 0 (some 18) (Value.pointer a0) ?_
   obtain ⟨q2,hx,hq2⟩:=bind_some h
   subst hx
   have h:=hq2
   refine DA.tK 1 (some 19) (Value.pointer (some q2)) (DA.tK 2 (some 20) (Value.pointer (some (Addr.add q2 3))) ?_)
   obtain ⟨x3,hx,h⟩:=bind_some h
   refine DA.tD 3 (some 21) (Value.map x3) (Abs.det_load (t:=94) (x:=.tmp 20) (a:=(Addr.add q2 3)) (by kernel_rfl) (by kernel_rfl) (by kernel_rfl) (by kernel_rfl) (z0 hx z3h)) (DA.tL 4 (some 22) (.loc 0 0) (DA.tL 5 (some 23) (.val (Value.int .i64 a1_0)) (DA.tL 6 (some 24) (.loc 0 2) (DA.tL 7 (some 25) (.val (Value.string a1_2)) (DA.tK 8 (some 26) (Value.agg #[(Value.int .i64 a1_0),(Value.string a1_2)]) ?_)))))
   obtain ⟨⟨x4,b5⟩,hx,h⟩:=bind_some h
   try dsimp only at h
   refine DA.tD 9 (some 27) (Value.tuple #[(Value.int .i64 x4),(Value.bool b5)]) (Abs.det_look (t:=94) (x:=.tmp 21) (y:=.tmp 26) (mm:=x3) (k:=(Value.agg #[(Value.int .i64 a1_0),(Value.string a1_2)])) (by kernel_rfl) (by kernel_rfl) (by kernel_rfl) (by kernel_rfl) (lkM_eq hx z9)) (DA.tP 10 (some 17) (Value.tuple #[(Value.int .i64 x4),(Value.bool b5)]) (DA.tP 11 (some 28) (Value.int .i64 x4) (DA.tP 12 (some 29) (Value.bool b5) (DA.tP 13 (some 5) (Value.int .i64 x4) (DA.tP 14 (some 6) (Value.bool b5) (DA.dn (WS.nxt (WS.sq (WS.rg ?_)))))))))
   refine RS.mS 2 [kB 4 b5,kB 30 b5] (RS.dn (WS.nxt (WS.rt ?_)))
   cases h
   exact fun a w hs=>sqR (rtR (rS hs))
  ·refine WS.fx 16 false (b_not hp) (WS.cF (WS.sk (WS.nxt (WS.sq (WS.sq (WS.rg (RS.mS 4 [kI 34 0,kI 33 (a1_3.n:Int),kS 32 a1_3,kL 31 0 3] (RS.dn (WS.nxt ?_)))))))))
   refine WS.bk 0 ?_
   obtain ⟨o,hl,h⟩:=bind_some h
   rcases o with v34_10 | r
   ·try dsimp only at h
    refine WS.lI (z71 (L:=L) (E:=E) (m:=m) (H:=H) hrec_sort_book_known) (L.ok hl) 1 ?_
    clear hl
    refine fun a w hs=>bkE ((WS.nxt ?_ a w hs))
    refine WS.sq (WS.rg (RS.mS 1 [kB 4 true] (RS.dn (WS.nxt (WS.rt ?_)))))
    cases h
    exact fun a w hs=>rtR (rS hs)
   ·try dsimp only at h
    refine WS.lR (z71 (L:=L) (E:=E) (m:=m) (H:=H) hrec_sort_book_known) (L.ok hl) 1 ?_
    cases h
    exact fun a w hq=>bkR (sqR (rtR hq))
theorem zap {L:LC}:∀n,(∀(m:Nat) (H:AH) (a0:Option Addr) (a1_0 a1_1:Int) (a1_2:ByteArray) (a1_3:Sl3) (r:Bool),((z3e L n)) H a0 a1_0 a1_1 a1_2 a1_3=some r→CallS Tryd.prog (NE.plain 1000) m 67 #[(Value.pointer a0),(Value.agg #[(Value.int .i64 a1_0),(Value.int .i64 a1_1),(Value.string a1_2),(Sl3.v a1_3)])] H (z2h r) (z2u H r)):=by
 intro n
 induction n with
 | zero=>exact (fun _ _ _ _ _ _ _ _ h=>(Option.some_ne_none _ h.symm).elim)
 | succ n ih=>exact (fun _ _ _ _ _ _ _ _ h=>za5 (L:=L) ih h)
theorem zds {L:LC} {m:Nat} {H:AH} {a0:Option Addr} {a1_0 a1_1:Int} {a1_2:ByteArray} {a1_3:Sl3} {r:Bool} (h:z7e L H a0 a1_0 a1_1 a1_2 a1_3=some r) :
  CallS Tryd.prog (NE.plain 1000) m 67 #[(Value.pointer a0),(Value.agg #[(Value.int .i64 a1_0),(Value.int .i64 a1_1),(Value.string a1_2),(Sl3.v a1_3)])] H (z2h r) (z2u H r) :=
 (zap _) _ _ _ _ _ _ _ _ h
def zd1:Int→Value
 | r0=>(Value.int .i64 r0)
def zdr (H:AH):Int→AH:=fun _=>H
noncomputable def B37:Code:=(Tryd.f37.body).getD .skip
noncomputable def z32 (L:LC) (H:AH) (a0:Option Addr) (a1_0 a1_1:Int) (a1_2:ByteArray) (a1_3:Sl3):Option Int :=
 Option.bind (z7n L H a1_0 a1_1 a1_2 a1_3) fun x1 =>
 if x1=0 then
  Option.bind (z7e L H a0 a1_0 a1_1 a1_2 a1_3) fun x2 =>
  if x2=true then
   some 0
  else
   some 40
 else
  some x1
theorem z64 {L:LC} {m:Nat} {H:AH} {a0:Option Addr} {a1_0 a1_1:Int} {a1_2:ByteArray} {a1_3:Sl3} {r:Int} (h:z32 L H a0 a1_0 a1_1 a1_2 a1_3=some r) :
  CallS Tryd.prog (NE.plain 1000) m 37 #[(Value.pointer a0),(Value.agg #[(Value.int .i64 a1_0),(Value.int .i64 a1_1),(Value.string a1_2),(Sl3.v a1_3)])] H (zd1 r) (zdr H r):=by
 refine CallS.mk (args:=[(Value.pointer a0),(Value.agg #[(Value.int .i64 a1_0),(Value.int .i64 a1_1),(Value.string a1_2),(Sl3.v a1_3)])]) Tryd.func37 (B:=B37) (by kernel_rfl) (fun E _=>?_)
 unfold z32 at h
 refine WS.sq (WS.rg (RS.mL 2 [kI 4 0,kL 3 0 0] ([some (28,[(Value.int .i64 a1_0),(Value.int .i64 a1_1),(Value.string a1_2),(Sl3.v a1_3)])]) (RS.dn (WS.nxt (WS.sq (WS.sq (WS.rg (RS.mS 1 [kA 6 #[(Value.int .i64 a1_0),(Value.int .i64 a1_1),(Value.string a1_2),(Sl3.v a1_3)]] ?_))))))))
 obtain ⟨x1,hx,h⟩:=bind_some h
 refine RS.cl (some 7) (v:=(Value.int .i64 x1)) 57 #[(Value.agg #[(Value.int .i64 a1_0),(Value.int .i64 a1_1),(Value.string a1_2),(Sl3.v a1_3)])] (zia hx) (RS.mS 1 [kI 5 x1] (RS.dn (WS.nxt (WS.sq (WS.rg (RS.mS 2 [kB 9 (!decide (x1=0)),kI 8 x1] (RS.dn (WS.nxt ?_))))))))
 rcases z8 h with ⟨hp,h⟩ | ⟨hp,h⟩
 ·refine WS.fx 9 false (z6w hp) (WS.cF (WS.sk (WS.nxt (WS.sq (WS.sq (WS.rg (RS.mS 2 [kA 12 #[(Value.int .i64 a1_0),(Value.int .i64 a1_1),(Value.string a1_2),(Sl3.v a1_3)],(11,.val (Value.pointer a0))] ?_)))))))
  obtain ⟨x2,hx,h⟩:=bind_some h
  refine RS.cl (some 13) (v:=(Value.bool x2)) 67 #[(Value.pointer a0),(Value.agg #[(Value.int .i64 a1_0),(Value.int .i64 a1_1),(Value.string a1_2),(Sl3.v a1_3)])] (zds hx) (RS.mS 1 [kB 14 (!x2)] (RS.dn (WS.nxt ?_)))
  rcases z8 h with ⟨hp,h⟩ | ⟨hp,h⟩
  ·refine WS.fx 14 false (nb_not hp) (WS.cF (WS.sk (WS.nxt (WS.sq (WS.rg (RS.mS 1 [kI 4 0] (RS.dn (WS.nxt (WS.rt ?_)))))))))
   cases h
   exact fun a w hs=>rtR (rS hs)
  ·refine WS.fx 14 true (z2i hp) (WS.cT (WS.sq (WS.rg (RS.mS 1 [kI 4 40] (RS.dn (WS.nxt (WS.rt ?_)))))))
   cases h
   exact fun a w hs=>sqR (rtR (rS hs))
 ·refine WS.fx 9 true (z5u hp) (WS.cT (WS.sq (WS.rg (RS.mS 2 [kI 4 x1,kI 10 x1] (RS.dn (WS.nxt (WS.rt ?_)))))))
  cases h
  exact fun a w hs=>sqR (rtR (rS hs))
def zh2:(Int×AH)→Value
 | (r0,_)=>(Value.int .i64 r0)
def zi7 (_:AH):(Int×AH)→AH:=fun r=>r.2
noncomputable def B18:Code:=(Tryd.f18.body).getD .skip
noncomputable def z6a (L:LC) (m:Nat) (H:AH) (a0_0 a0_1:Int) (a0_2:ByteArray) (a0_3 a1_0:Sl3) (a1_1 a1_2:Sl3):Option (Int×AH) :=
 Option.bind (z58 L (Nat.max m H.next) H a1_0 a1_1 a1_2) fun (x1,H2) =>
 Option.bind (z32 L H2 x1 a0_0 a0_1 a0_2 a0_3) fun x3 =>
 some (x3,H2)
theorem zcs {L:LC} {m:Nat} {H:AH} {a0_0 a0_1:Int} {a0_2:ByteArray} {a0_3 a1_0:Sl3} {a1_1 a1_2:Sl3} {r:(Int×AH)} (h:z6a L m H a0_0 a0_1 a0_2 a0_3 a1_0 a1_1 a1_2=some r) :
  CallS Tryd.prog (NE.plain 1000) m 18 #[(Value.agg #[(Value.int .i64 a0_0),(Value.int .i64 a0_1),(Value.string a0_2),(Sl3.v a0_3)]),(Value.agg #[(Sl3.v a1_0),(Sl3.v a1_1),(Sl3.v a1_2)])] H (zh2 r) (zi7 H r):=by
 refine CallS.mk (args:=[(Value.agg #[(Value.int .i64 a0_0),(Value.int .i64 a0_1),(Value.string a0_2),(Sl3.v a0_3)]),(Value.agg #[(Sl3.v a1_0),(Sl3.v a1_1),(Sl3.v a1_2)])]) Tryd.func18 (B:=B18) (by kernel_rfl) (fun E _=>?_)
 unfold z6a at h
 refine WS.sq (WS.rg (RS.mL 3 [kI 4 0,kL 3 1 0,kL 2 0 0] ([some (28,[(Value.int .i64 a0_0),(Value.int .i64 a0_1),(Value.string a0_2),(Sl3.v a0_3)]),some (33,[(Sl3.v a1_0),(Sl3.v a1_1),(Sl3.v a1_2)])]) (RS.dn (WS.nxt (WS.sq ?_)))))
 refine WS.dr [0,2] [0,1,0,7,15] 5 (fun hcl=>?_)
 refine DA.tL 0 (some 5) (.val (Value.agg #[(Sl3.v a1_0),(Sl3.v a1_1),(Sl3.v a1_2)])) (DA.tL 2 (some 7) (.val (Value.agg #[(Value.int .i64 a0_0),(Value.int .i64 a0_1),(Value.string a0_2),(Sl3.v a0_3)])) ?_)
 obtain ⟨⟨x1,H2⟩,hx,h⟩:=bind_some h
 try dsimp only at h
 refine DA.on 1 (DA.aCk 1 (some 6) false (v:=(Value.pointer x1)) 36 #[(Value.agg #[(Sl3.v a1_0),(Sl3.v a1_1),(Sl3.v a1_2)])] (z7q hx) ?_)
 obtain ⟨x3,hx,h⟩:=bind_some h
 refine DA.on 3 (DA.aC 3 (some 8) (v:=(Value.int .i64 x3)) 37 #[(Value.pointer x1),(Value.agg #[(Value.int .i64 a0_0),(Value.int .i64 a0_1),(Value.string a0_2),(Sl3.v a0_3)])] (z64 hx) (DA.tP 4 (some 4) (Value.int .i64 x3) (DA.dn (WS.nxt (WS.rt ?_)))))
 cases h
 exact fun a w hs=>rtR (rS hs)
end Go.Proofs.YtccbilfbhecdaaaDoor
namespace Go.Proofs.YtccbilfbhecdaaaDoor
open Go Go.Abs
set_option maxRecDepth 100000
def z6t:Bool→Value
 | r0=>(Value.bool r0)
def z7k (H:AH):Bool→AH:=fun _=>H
noncomputable def B40:Code:=(Tryd.f40.body).getD .skip
noncomputable def z2z (_L:LC) (H:AH) (_a0_0 _a0_1 _a0_2:Sl3) (_v24_2:Int) (_x4_0:ByteArray) (x4_1:Sl3):(Int×Int)→Option (Lp (Int×Int) Bool):=fun (v3_6,v46_7) =>
 if v46_7<(x4_1.n:Int) then
  Option.bind (idxA 2 x4_1 v46_7) fun p8 =>
  Option.bind (rd deS H (Addr.add p8 0)) fun _ =>
  Option.bind (rd deSl H (Addr.add p8 1)) fun x9_1 =>
  if (x9_1.n:Int) > 64 then
   some (.ret true)
  else
   some (.next ((IntKind.i64.wrap (v3_6+(x9_1.n:Int))),(IntKind.i64.wrap (v46_7+1))))
 else
  some (.brk (v3_6,v46_7))
def zgg (_L:LC) (_H:AH) (a0_0 a0_1 a0_2:Sl3) (v24_2:Int) (x4_0:ByteArray) (x4_1:Sl3):(Int×Int)→KN×Lcs:=fun (v3_6,v46_7)=>([kI 3 v3_6,kI 46 v46_7,kL 1 0 0,kS 22 a0_1,kI 23 (a0_1.n:Int),kI 24 v24_2,kS 44 x4_1,kI 45 (x4_1.n:Int)],[some (33,[(Sl3.v a0_0),(Sl3.v a0_1),(Sl3.v a0_2)]),some (46,[(Value.string x4_0),(Sl3.v x4_1)])])
noncomputable def z3r (L:LC) (H:AH) (a0_0 a0_1 a0_2:Sl3):(Int×Int)→Option (Lp (Int×Int) Bool):=fun (v3_1,v24_2) =>
 if v24_2<(a0_1.n:Int) then
  Option.bind (idxA 2 a0_1 v24_2) fun p3 =>
  Option.bind (rd deS H (Addr.add p3 0)) fun x4_0 =>
  Option.bind (rd deSl H (Addr.add p3 1)) fun x4_1 =>
  Option.bind (α:=Bool) (
   if (x4_1.n:Int)<1 then
    some true
   else
    some (decide ((x4_1.n:Int) > 64))) fun v42_5 =>
  if v42_5=true then
   some (.ret true)
  else
   Option.bind (L.run (z2z L H a0_0 a0_1 a0_2 v24_2 x4_0 x4_1) ((IntKind.i64.wrap (v3_1+(x4_1.n:Int))),0)) fun o=>match o with
   | .inl (v3_10,_) =>
    some (.next (v3_10,(IntKind.i64.wrap (v24_2+1))))
   | .inr r=>some (.ret r)
 else
  some (.brk (v3_1,v24_2))
def zg1 (_L:LC) (_H:AH) (a0_0 a0_1 a0_2:Sl3):(Int×Int)→KN×Lcs:=fun (v3_1,v24_2)=>([kI 3 v3_1,kI 24 v24_2,kL 1 0 0,kS 22 a0_1,kI 23 (a0_1.n:Int)],[some (33,[(Sl3.v a0_0),(Sl3.v a0_1),(Sl3.v a0_2)])])
noncomputable def z4e (_L:LC) (H:AH) (_a0_0 _a0_1 a0_2:Sl3) (_v3_12:Int):Int→Option (Lp Int Bool):=fun v64_14 =>
 if v64_14<(a0_2.n:Int) then
  Option.bind (idxA 6 a0_2 v64_14) fun p15 =>
  Option.bind (rd deS H (Addr.add p15 0)) fun _ =>
  Option.bind (rd deSl H (Addr.add p15 1)) fun x16_1 =>
  Option.bind (rd (deI .i64) H (Addr.add p15 2)) fun _ =>
  Option.bind (rd (deI .i64) H (Addr.add p15 3)) fun _ =>
  Option.bind (rd deS H (Addr.add p15 4)) fun _ =>
  Option.bind (rd deSl H (Addr.add p15 5)) fun _ =>
  if (x16_1.n:Int) > 64 then
   some (.ret true)
  else
   some (.next (IntKind.i64.wrap (v64_14+1)))
 else
  some (.brk v64_14)
def zga (_L:LC) (_H:AH) (a0_0 a0_1 a0_2:Sl3) (v3_12:Int):Int→KN×Lcs:=fun v64_14=>([kI 64 v64_14,kI 3 v3_12,kS 62 a0_2,kI 63 (a0_2.n:Int)],[some (33,[(Sl3.v a0_0),(Sl3.v a0_1),(Sl3.v a0_2)])])
noncomputable def z8c (L:LC) (H:AH) (a0_0 a0_1 a0_2:Sl3):Option Bool :=
 Option.bind (L.run (z3r L H a0_0 a0_1 a0_2) ((IntKind.i64.wrap ((IntKind.i64.wrap ((a0_0.n:Int)+(a0_1.n:Int)))+(a0_2.n:Int))),0)) fun o=>match o with
 | .inl (v3_12,_) =>
  Option.bind (L.run (z4e L H a0_0 a0_1 a0_2 v3_12) 0) fun o=>match o with
  | .inl _ =>
   some (decide (v3_12 > 4096))
  | .inr r=>some r
 | .inr r=>some r
theorem za8 {E m L H a0_0 a0_1 a0_2 v24_2 x4_0 x4_1} :LoopF Tryd.prog (NE.plain 1000) m E Tryd.f40 ((cfst (csnd (csnd (csnd (cfst (cfst (csnd (csnd (cfst (cfst (csnd (cfst (csnd (csnd B40))))))))))))))) (zgg L H a0_0 a0_1 a0_2 v24_2 x4_0 x4_1) (fun _=>H) 2 z6t (z7k H) (z2z L H a0_0 a0_1 a0_2 v24_2 x4_0 x4_1):=by
 rintro ⟨v3_6,v46_7⟩ o h
 unfold z2z at h
 try dsimp only at h
 refine WS.sq (WS.rg (RS.mS 1 [kB 47 (decide (v46_7<(x4_1.n:Int)))] (RS.dn (WS.nxt (WS.sq ?_)))))
 rcases z8 h with ⟨hp,h⟩ | ⟨hp,h⟩
 ·refine WS.fx 47 true (decide_eq_true hp) (WS.cT (WS.sk (WS.nxt (WS.sq (WS.bk 3 (WS.sq (WS.rg ?_)))))))
  obtain ⟨p8,hx,h⟩:=bind_some h
  refine RS.ix 48 44 50 (.tmp 44) (.tmp 46) hx ?_
  obtain ⟨x9_0,hx0,h⟩:=bind_some h
  obtain ⟨x9_1,hx1,h⟩:=bind_some h
  refine RS.la 49 50 (.tmp 48) 2 (z7 (z0 hx0 zd) (z7 (z0 hx1 za) zf)) (RS.mL 2 [kL 7 2 0] ([some (33,[(Sl3.v a0_0),(Sl3.v a0_1),(Sl3.v a0_2)]),some (46,[(Value.string x4_0),(Sl3.v x4_1)]),some (50,[(Value.string x9_0),(Sl3.v x9_1)])]) (RS.dn (WS.nxt (WS.sq (WS.rg (RS.mS 6 [kI 3 (IntKind.i64.wrap (v3_6+(x9_1.n:Int))),kI 54 (IntKind.i64.wrap (v3_6+(x9_1.n:Int))),kI 53 (x9_1.n:Int),kS 52 x9_1,kL 51 2 1,kI 50 v3_6] (RS.dn (WS.nxt (WS.sq ?_)))))))))
  refine WS.rg (RS.mS 4 [kB 58 (decide ((x9_1.n:Int) > 64)),kI 57 (x9_1.n:Int),kS 56 x9_1,kL 55 2 1] (RS.dn (WS.nxt ?_)))
  rcases z8 h with ⟨hp,h⟩ | ⟨hp,h⟩
  ·refine WS.fx 58 true (decide_eq_true hp) (WS.cT (WS.sq (WS.rg (RS.mS 1 [kB 2 true] (RS.dn (WS.nxt (WS.rt ?_)))))))
   cases h
   exact fun a w hs=>bkR (sqR (lsR rfl (rS hs)))
  ·refine WS.fx 58 false (decide_eq_false hp) (WS.cF (WS.sk ?_))
   refine fun a w hs=>bkN ((WS.nxt ?_ a w hs))
   refine WS.rg (RS.mS 2 [kI 46 (IntKind.i64.wrap (v46_7+1)),kI 59 (IntKind.i64.wrap (v46_7+1))] (RS.dn ?_))
   cases h
   exact fun a w hs=>lsN rfl (hs.sb 2)
 ·refine WS.fx 47 false (decide_eq_false hp) (WS.cF (WS.ex 2 ?_))
  cases h
  exact fun a w hs=>sqE (lsB rfl (hs.sb 2))
theorem zak {E m L H a0_0 a0_1 a0_2} :LoopF Tryd.prog (NE.plain 1000) m E Tryd.f40 ((cfst (csnd (cfst (csnd (csnd B40)))))) (zg1 L H a0_0 a0_1 a0_2) (fun _=>H) 0 z6t (z7k H) (z3r L H a0_0 a0_1 a0_2):=by
 rintro ⟨v3_1,v24_2⟩ o h
 unfold z3r at h
 try dsimp only at h
 refine WS.sq (WS.rg (RS.mS 1 [kB 25 (decide (v24_2<(a0_1.n:Int)))] (RS.dn (WS.nxt (WS.sq ?_)))))
 rcases z8 h with ⟨hp,h⟩ | ⟨hp,h⟩
 ·refine WS.fx 25 true (decide_eq_true hp) (WS.cT (WS.sk (WS.nxt (WS.sq (WS.bk 1 (WS.sq (WS.rg ?_)))))))
  obtain ⟨p3,hx,h⟩:=bind_some h
  refine RS.ix 26 30 46 (.tmp 22) (.tmp 24) hx ?_
  obtain ⟨x4_0,hx0,h⟩:=bind_some h
  obtain ⟨x4_1,hx1,h⟩:=bind_some h
  refine RS.la 27 46 (.tmp 26) 2 (z7 (z0 hx0 zd) (z7 (z0 hx1 za) zf)) (RS.mL 2 [kL 5 1 0] ([some (33,[(Sl3.v a0_0),(Sl3.v a0_1),(Sl3.v a0_2)]),some (46,[(Value.string x4_0),(Sl3.v x4_1)])]) (RS.dn (WS.nxt (WS.sq (WS.sq (WS.rg (RS.mS 6 [kI 3 (IntKind.i64.wrap (v3_1+(x4_1.n:Int))),kI 32 (IntKind.i64.wrap (v3_1+(x4_1.n:Int))),kI 31 (x4_1.n:Int),kS 30 x4_1,kL 29 1 1,kI 28 v3_1] (RS.dn (WS.nxt ?_)))))))))
  obtain ⟨v42_5,hx,h⟩:=bind_some h
  refine WS.sq ?_
  refine WS.join ([kB 42 v42_5,kL 1 0 0,kI 3 (IntKind.i64.wrap (v3_1+(x4_1.n:Int))),kL 5 1 0,kS 22 a0_1,kI 23 (a0_1.n:Int),kI 24 v24_2]) ([some (33,[(Sl3.v a0_0),(Sl3.v a0_1),(Sl3.v a0_2)]),some (46,[(Value.string x4_0),(Sl3.v x4_1)])]) H ?_ (fun a w hs=>WS.nxt ?_ a w hs)
  ·clear h; rename _=>h
   refine WS.rg (RS.mS 5 [kB 37 (decide ((x4_1.n:Int)<1)),kB 36 (decide ((x4_1.n:Int)<1)),kI 35 (x4_1.n:Int),kS 34 x4_1,kL 33 1 1] ?_)
   rcases z8 h with ⟨hp,h⟩ | ⟨hp,h⟩
   ·refine RS.fx 37 true (decide_eq_true hp) (RS.mS 5 [kB 42 true,kU 41,kU 40,kU 39,kU 38] (RS.dn ?_))
    cases h
    exact fun a w hs=>(jsN (hs.sb 2))
   ·refine RS.fx 37 false (decide_eq_false hp) (RS.mS 5 [kB 42 (decide ((x4_1.n:Int) > 64)),kB 41 (decide ((x4_1.n:Int) > 64)),kI 40 (x4_1.n:Int),kS 39 x4_1,kL 38 1 1] (RS.dn ?_))
    cases h
    exact fun a w hs=>(jsN (hs.sb 2))
  ·clear hx
   rcases z8 h with ⟨hp,h⟩ | ⟨hp,h⟩
   ·refine WS.fx 42 true hp (WS.cT (WS.sq (WS.rg (RS.mS 1 [kB 2 true] (RS.dn (WS.nxt (WS.rt ?_)))))))
    cases h
    exact fun a w hs=>sqR (bkR (sqR (lsR rfl (rS hs))))
   ·refine WS.fx 42 false (b_not hp) (WS.cF (WS.sk (WS.nxt (WS.sq (WS.rg (RS.mS 4 [kI 46 0,kI 45 (x4_1.n:Int),kS 44 x4_1,kL 43 1 1] (RS.dn (WS.nxt (WS.bk 2 ?_)))))))))
    obtain ⟨o,hl,h⟩:=bind_some h
    rcases o with ⟨v3_10,v46_11⟩ | r
    ·try dsimp only at h
     refine WS.lI (za8 (L:=L) (E:=E) (m:=m) (H:=H)) (L.ok hl) 2 ?_
     clear hl
     refine fun a w hs=>bkE (bkN ((WS.nxt ?_ a w hs)))
     refine WS.rg (RS.mS 2 [kI 24 (IntKind.i64.wrap (v24_2+1)),kI 60 (IntKind.i64.wrap (v24_2+1))] (RS.dn ?_))
     cases h
     exact fun a w hs=>lsN rfl (hs.sb 1)
    ·try dsimp only at h
     refine WS.lR (za8 (L:=L) (E:=E) (m:=m) (H:=H)) (L.ok hl) 2 ?_
     cases h
     exact fun a w hq=>bkR (bkR (sqR (lsR rfl hq)))
 ·refine WS.fx 25 false (decide_eq_false hp) (WS.cF (WS.ex 0 ?_))
  cases h
  exact fun a w hs=>sqE (lsB rfl (hs.sb 1))
theorem zah {E m L H a0_0 a0_1 a0_2 v3_12} :LoopF Tryd.prog (NE.plain 1000) m E Tryd.f40 ((cfst (csnd (cfst (csnd (csnd (csnd B40))))))) (zga L H a0_0 a0_1 a0_2 v3_12) (fun _=>H) 4 z6t (z7k H) (z4e L H a0_0 a0_1 a0_2 v3_12):=by
 rintro v64_14 o h
 unfold z4e at h
 try dsimp only at h
 refine WS.sq (WS.rg (RS.mS 1 [kB 65 (decide (v64_14<(a0_2.n:Int)))] (RS.dn (WS.nxt (WS.sq ?_)))))
 rcases z8 h with ⟨hp,h⟩ | ⟨hp,h⟩
 ·refine WS.fx 65 true (decide_eq_true hp) (WS.cT (WS.sk (WS.nxt (WS.sq (WS.bk 5 (WS.sq (WS.rg ?_)))))))
  obtain ⟨p15,hx,h⟩:=bind_some h
  refine RS.ix 66 31 89 (.tmp 62) (.tmp 64) hx ?_
  obtain ⟨x16_0,hx0,h⟩:=bind_some h
  obtain ⟨x16_1,hx1,h⟩:=bind_some h
  obtain ⟨x16_2,hx2,h⟩:=bind_some h
  obtain ⟨x16_3,hx3,h⟩:=bind_some h
  obtain ⟨x16_4,hx4,h⟩:=bind_some h
  obtain ⟨x16_5,hx5,h⟩:=bind_some h
  refine RS.la 67 89 (.tmp 66) 6 (z7 (z0 hx0 zd) (z7 (z0 hx1 za) (z7 (z0 hx2 z9) (z7 (z0 hx3 z9) (z7 (z0 hx4 zd) (z7 (z0 hx5 za) zf)))))) (RS.mL 2 [kL 9 1 0] ([some (33,[(Sl3.v a0_0),(Sl3.v a0_1),(Sl3.v a0_2)]),some (89,[(Value.string x16_0),(Sl3.v x16_1),(Value.int .i64 x16_2),(Value.int .i64 x16_3),(Value.string x16_4),(Sl3.v x16_5)])]) (RS.dn (WS.nxt (WS.sq (WS.rg (RS.mS 4 [kB 71 (decide ((x16_1.n:Int) > 64)),kI 70 (x16_1.n:Int),kS 69 x16_1,kL 68 1 1] (RS.dn (WS.nxt ?_))))))))
  rcases z8 h with ⟨hp,h⟩ | ⟨hp,h⟩
  ·refine WS.fx 71 true (decide_eq_true hp) (WS.cT (WS.sq (WS.rg (RS.mS 1 [kB 2 true] (RS.dn (WS.nxt (WS.rt ?_)))))))
   cases h
   exact fun a w hs=>bkR (sqR (lsR rfl (rS hs)))
  ·refine WS.fx 71 false (decide_eq_false hp) (WS.cF (WS.sk ?_))
   refine fun a w hs=>bkN ((WS.nxt ?_ a w hs))
   refine WS.rg (RS.mS 2 [kI 64 (IntKind.i64.wrap (v64_14+1)),kI 72 (IntKind.i64.wrap (v64_14+1))] (RS.dn ?_))
   cases h
   exact fun a w hs=>lsN rfl (hs.sb 1)
 ·refine WS.fx 65 false (decide_eq_false hp) (WS.cF (WS.ex 4 ?_))
  cases h
  exact fun a w hs=>sqE (lsB rfl (hs.sb 1))
theorem zjs {L:LC} {m:Nat} {H:AH} {a0_0 a0_1 a0_2:Sl3} {r:Bool} (h:z8c L H a0_0 a0_1 a0_2=some r) :
  CallS Tryd.prog (NE.plain 1000) m 40 #[(Value.agg #[(Sl3.v a0_0),(Sl3.v a0_1),(Sl3.v a0_2)])] H (z6t r) (z7k H r):=by
 refine CallS.mk (args:=[(Value.agg #[(Sl3.v a0_0),(Sl3.v a0_1),(Sl3.v a0_2)])]) Tryd.func40 (B:=B40) (by kernel_rfl) (fun E _=>?_)
 unfold z8c at h
 refine WS.sq (WS.rg (RS.mL 2 [kB 2 false,kL 1 0 0] ([some (33,[(Sl3.v a0_0),(Sl3.v a0_1),(Sl3.v a0_2)])]) (RS.dn (WS.nxt (WS.sq (WS.rg (RS.mS 12 [kI 3 (IntKind.i64.wrap ((IntKind.i64.wrap ((a0_0.n:Int)+(a0_1.n:Int)))+(a0_2.n:Int))),kI 20 (IntKind.i64.wrap ((IntKind.i64.wrap ((a0_0.n:Int)+(a0_1.n:Int)))+(a0_2.n:Int))),kI 19 (a0_2.n:Int),kS 18 a0_2,kL 17 0 2,kI 16 (IntKind.i64.wrap ((a0_0.n:Int)+(a0_1.n:Int))),kI 15 (a0_1.n:Int),kS 14 a0_1,kL 13 0 1,kI 12 (a0_0.n:Int),kS 11 a0_0,kL 10 0 0] (RS.dn (WS.nxt ?_)))))))))
 refine WS.sq (WS.sq (WS.rg (RS.mS 4 [kI 24 0,kI 23 (a0_1.n:Int),kS 22 a0_1,kL 21 0 1] (RS.dn (WS.nxt (WS.bk 0 ?_))))))
 obtain ⟨o,hl,h⟩:=bind_some h
 rcases o with ⟨v3_12,v24_13⟩ | r
 ·try dsimp only at h
  refine WS.lI (zak (L:=L) (E:=E) (m:=m) (H:=H)) (L.ok hl) 1 ?_
  clear hl
  refine fun a w hs=>bkE ((WS.nxt ?_ a w hs))
  refine WS.sq (WS.sq (WS.rg (RS.mS 4 [kI 64 0,kI 63 (a0_2.n:Int),kS 62 a0_2,kL 61 0 2] (RS.dn (WS.nxt (WS.bk 4 ?_))))))
  obtain ⟨o,hl,h⟩:=bind_some h
  rcases o with v64_17 | r
  ·try dsimp only at h
   refine WS.lI (zah (L:=L) (E:=E) (m:=m) (H:=H)) (L.ok hl) 1 ?_
   clear hl
   refine fun a w hs=>bkE ((WS.nxt ?_ a w hs))
   refine WS.sq (WS.rg (RS.mS 3 [kB 2 (decide (v3_12 > 4096)),kB 74 (decide (v3_12 > 4096)),kI 73 v3_12] (RS.dn (WS.nxt (WS.rt ?_)))))
   cases h
   exact fun a w hs=>rtR (rS hs)
  ·try dsimp only at h
   refine WS.lR (zah (L:=L) (E:=E) (m:=m) (H:=H)) (L.ok hl) 1 ?_
   cases h
   exact fun a w hq=>bkR (sqR (rtR hq))
 ·try dsimp only at h
  refine WS.lR (zak (L:=L) (E:=E) (m:=m) (H:=H)) (L.ok hl) 1 ?_
  cases h
  exact fun a w hq=>bkR (sqR (rtR hq))
def zfj:(Sl3×AH)→Value
 | (r0,_)=>(Sl3.v r0)
def zg8 (_:AH):(Sl3×AH)→AH:=fun r=>r.2
noncomputable def B42:Code:=(Tryd.f42.body).getD .skip
noncomputable def z54 (_L:LC) (m:Nat) (H:AH) (a0:Sl3):Option (Sl3×AH) :=
 if (isNilS a0)=true then
  some (Sl3.nil,H)
 else
  Option.bind (newR 9 0 #[] H) fun (s1,H2) =>
  Option.bind (appS m 9 1 16 H2 s1 a0) fun (s3,H4) =>
  some (s3,H4)
theorem zaa {L:LC} {m:Nat} {H:AH} {a0:Sl3} {r:(Sl3×AH)} (h:z54 L m H a0=some r) :
  CallS Tryd.prog (NE.plain 1000) m 42 #[(Sl3.v a0)] H (zfj r) (zg8 H r):=by
 refine CallS.mk (args:=[(Sl3.v a0)]) Tryd.func42 (B:=B42) (by kernel_rfl) (fun E _=>?_)
 unfold z54 at h
 refine WS.sq (WS.rg (RS.mS 1 [kS 2 Sl3.nil] (RS.dn (WS.nxt (WS.sq (WS.sq (WS.rg (RS.mS 1 [kS 3 a0] (RS.o (H':=H) (some 4) (Value.bool (isNilS a0)) (zeg (t:=29) (e:=9) (u:=29) (x:=.tmp 3) (y:=.const (Sl3.v Sl3.nil)) (s:=a0) (by kernel_rfl) (by kernel_rfl) (by kernel_rfl) (by kernel_rfl)) ?_)))))))))
 refine RS.dn (WS.nxt ?_)
 rcases z8 h with ⟨hp,h⟩ | ⟨hp,h⟩
 ·refine WS.fx 4 true hp (WS.cT (WS.sq (WS.rg (RS.mS 1 [kS 2 Sl3.nil] (RS.dn (WS.nxt (WS.rt ?_)))))))
  cases h
  exact fun a w hs=>sqR (rtR (rS hs))
 ·refine WS.fx 4 false (b_not hp) (WS.cF (WS.sk (WS.nxt (WS.sq (WS.rg ?_)))))
  obtain ⟨⟨s1,H2⟩,hx,h⟩:=bind_some h
  try dsimp only at h
  refine RS.o (H':=H2) (some 5) (Sl3.v s1) (Abs.run_newR (by kernel_rfl) (by kernel_rfl) hx) (RS.mS 1 [kS 6 a0] ?_)
  obtain ⟨⟨s3,H4⟩,hx,h⟩:=bind_some h
  try dsimp only at h
  refine RS.o (H':=H4) (some 7) (Sl3.v s3) (Abs.run_app (x:=.tmp 5) (y:=.tmp 6) (ts:=#[29,29]) (s:=s1) (z:=a0) (by kernel_rfl) (by kernel_rfl) (by kernel_rfl) (by kernel_rfl) hx) (RS.mS 1 [kS 2 s3] (RS.dn (WS.nxt (WS.rt ?_))))
  cases h
  exact fun a w hs=>rtR (rS hs)
def z56:(Sl3×Sl3×AH)→Value
 | (r0,r1,_)=>(Value.tuple #[(Sl3.v r0),(Sl3.v r1)])
def z5f (_:AH):(Sl3×Sl3×AH)→AH:=fun r=>r.2.2
noncomputable def B41:Code:=(Tryd.f41.body).getD .skip
noncomputable def z3a (_L:LC) (m:Nat) (_a0_0 _a0_1 _a0_2:Sl3) (_v20_6:Int) (_x8_0:ByteArray) (_x8_1 _s11:Sl3) (_v32_15:Int) (_x17_0:ByteArray) (x17_1:Sl3):(AH×Sl3×Int)→Option (Lp (AH×Sl3×Int) (Sl3×Sl3×AH)):=fun (H22,v5_23,v44_24) =>
 if v44_24<(x17_1.n:Int) then
  Option.bind (idxA 5 x17_1 v44_24) fun p25 =>
  Option.bind (rd deS H22 (Addr.add p25 0)) fun x26_0 =>
  Option.bind (rd (deI .i64) H22 (Addr.add p25 1)) fun _ =>
  Option.bind (rd (deI .i64) H22 (Addr.add p25 2)) fun _ =>
  Option.bind (rd deS H22 (Addr.add p25 3)) fun _ =>
  Option.bind (rd deSl H22 (Addr.add p25 4)) fun _ =>
  Option.bind (newR 9 1 #[(Value.string x26_0)] H22) fun (s27,H28) =>
  Option.bind (appS m 9 1 16 H28 v5_23 s27) fun (s29,H30) =>
  some (.next (H30,s29,(IntKind.i64.wrap (v44_24+1))))
 else
  some (.brk (H22,v5_23,v44_24))
def zf5 (_L:LC) (_m:Nat) (a0_0 a0_1 a0_2:Sl3) (v20_6:Int) (x8_0:ByteArray) (x8_1 s11:Sl3) (v32_15:Int) (x17_0:ByteArray) (x17_1:Sl3):(AH×Sl3×Int)→KN×Lcs:=fun (_,v5_23,v44_24)=>([kS 5 v5_23,kI 44 v44_24,kL 1 0 0,kS 4 s11,kS 18 a0_1,kI 19 (a0_1.n:Int),kI 20 v20_6,kS 30 x8_1,kI 31 (x8_1.n:Int),kI 32 v32_15,kS 42 x17_1,kI 43 (x17_1.n:Int)],[some (33,[(Sl3.v a0_0),(Sl3.v a0_1),(Sl3.v a0_2)]),some (46,[(Value.string x8_0),(Sl3.v x8_1)]),some (50,[(Value.string x17_0),(Sl3.v x17_1)])])
noncomputable def z3b (L:LC) (m:Nat) (a0_0 a0_1 a0_2:Sl3) (v20_6:Int) (x8_0:ByteArray) (x8_1 s11:Sl3):(AH×Sl3×Int)→Option (Lp (AH×Sl3×Int) (Sl3×Sl3×AH)):=fun (H13,v5_14,v32_15) =>
 if v32_15<(x8_1.n:Int) then
  Option.bind (idxA 2 x8_1 v32_15) fun p16 =>
  Option.bind (rd deS H13 (Addr.add p16 0)) fun x17_0 =>
  Option.bind (rd deSl H13 (Addr.add p16 1)) fun x17_1 =>
  Option.bind (newR 9 1 #[(Value.string x17_0)] H13) fun (s18,H19) =>
  Option.bind (appS m 9 1 16 H19 v5_14 s18) fun (s20,H21) =>
  Option.bind (L.run (z3a L m a0_0 a0_1 a0_2 v20_6 x8_0 x8_1 s11 v32_15 x17_0 x17_1) (H21,s20,0)) fun o=>match o with
  | .inl (H31,v5_32,_) =>
   some (.next (H31,v5_32,(IntKind.i64.wrap (v32_15+1))))
  | .inr r=>some (.ret r)
 else
  some (.brk (H13,v5_14,v32_15))
def zfd (_L:LC) (_m:Nat) (a0_0 a0_1 a0_2:Sl3) (v20_6:Int) (x8_0:ByteArray) (x8_1 s11:Sl3):(AH×Sl3×Int)→KN×Lcs:=fun (_,v5_14,v32_15)=>([kS 5 v5_14,kI 32 v32_15,kL 1 0 0,kS 4 s11,kS 18 a0_1,kI 19 (a0_1.n:Int),kI 20 v20_6,kS 30 x8_1,kI 31 (x8_1.n:Int)],[some (33,[(Sl3.v a0_0),(Sl3.v a0_1),(Sl3.v a0_2)]),some (46,[(Value.string x8_0),(Sl3.v x8_1)])])
noncomputable def z37 (L:LC) (m:Nat) (a0_0 a0_1 a0_2:Sl3):(AH×Sl3×Sl3×Int)→Option (Lp (AH×Sl3×Sl3×Int) (Sl3×Sl3×AH)):=fun (H3,v4_4,v5_5,v20_6) =>
 if v20_6<(a0_1.n:Int) then
  Option.bind (idxA 2 a0_1 v20_6) fun p7 =>
  Option.bind (rd deS H3 (Addr.add p7 0)) fun x8_0 =>
  Option.bind (rd deSl H3 (Addr.add p7 1)) fun x8_1 =>
  Option.bind (newR 9 1 #[(Value.string x8_0)] H3) fun (s9,H10) =>
  Option.bind (appS m 9 1 16 H10 v4_4 s9) fun (s11,H12) =>
  Option.bind (L.run (z3b L m a0_0 a0_1 a0_2 v20_6 x8_0 x8_1 s11) (H12,v5_5,0)) fun o=>match o with
  | .inl (H34,v5_35,_) =>
   some (.next (H34,s11,v5_35,(IntKind.i64.wrap (v20_6+1))))
  | .inr r=>some (.ret r)
 else
  some (.brk (H3,v4_4,v5_5,v20_6))
def zf2 (_L:LC) (_m:Nat) (a0_0 a0_1 a0_2:Sl3):(AH×Sl3×Sl3×Int)→KN×Lcs:=fun (_,v4_4,v5_5,v20_6)=>([kS 4 v4_4,kS 5 v5_5,kI 20 v20_6,kL 1 0 0,kS 18 a0_1,kI 19 (a0_1.n:Int)],[some (33,[(Sl3.v a0_0),(Sl3.v a0_1),(Sl3.v a0_2)])])
noncomputable def z39 (_L:LC) (m:Nat) (_a0_0 _a0_1:Sl3) (a0_2 _v4_38:Sl3):(AH×Sl3×Int)→Option (Lp (AH×Sl3×Int) (Sl3×Sl3×AH)):=fun (H41,v5_42,v59_43) =>
 if v59_43<(a0_2.n:Int) then
  Option.bind (idxA 6 a0_2 v59_43) fun p44 =>
  Option.bind (rd deS H41 (Addr.add p44 0)) fun x45_0 =>
  Option.bind (rd deSl H41 (Addr.add p44 1)) fun _ =>
  Option.bind (rd (deI .i64) H41 (Addr.add p44 2)) fun _ =>
  Option.bind (rd (deI .i64) H41 (Addr.add p44 3)) fun _ =>
  Option.bind (rd deS H41 (Addr.add p44 4)) fun _ =>
  Option.bind (rd deSl H41 (Addr.add p44 5)) fun _ =>
  Option.bind (newR 9 1 #[(Value.string x45_0)] H41) fun (s46,H47) =>
  Option.bind (appS m 9 1 16 H47 v5_42 s46) fun (s48,H49) =>
  some (.next (H49,s48,(IntKind.i64.wrap (v59_43+1))))
 else
  some (.brk (H41,v5_42,v59_43))
def zf0 (_L:LC) (_m:Nat) (a0_0 a0_1:Sl3) (a0_2 v4_38:Sl3):(AH×Sl3×Int)→KN×Lcs:=fun (_,v5_42,v59_43)=>([kS 5 v5_42,kI 59 v59_43,kS 4 v4_38,kS 57 a0_2,kI 58 (a0_2.n:Int)],[some (33,[(Sl3.v a0_0),(Sl3.v a0_1),(Sl3.v a0_2)])])
noncomputable def z78 (L:LC) (m:Nat) (H:AH) (a0_0 a0_1 a0_2:Sl3):Option (Sl3×Sl3×AH) :=
 Option.bind (z54 L m H a0_0) fun (x1,H2) =>
 Option.bind (L.run (z37 L m a0_0 a0_1 a0_2) (H2,x1,Sl3.nil,0)) fun o=>match o with
 | .inl (H37,v4_38,v5_39,_) =>
  Option.bind (L.run (z39 L m a0_0 a0_1 a0_2 v4_38) (H37,v5_39,0)) fun o=>match o with
  | .inl (H50,v5_51,_) =>
   some (v4_38,v5_51,H50)
  | .inr r=>some r
 | .inr r=>some r
theorem z9o {E H L m a0_0 a0_1 a0_2 v20_6 x8_0 x8_1 s11 v32_15 x17_0 x17_1} :LoopF Tryd.prog (NE.plain 1000) m E Tryd.f41 ((cfst (csnd (csnd (csnd (cfst (cfst (csnd (csnd (cfst (cfst (csnd (csnd (csnd (cfst (cfst (csnd (csnd (cfst (cfst (csnd (cfst (csnd (csnd (csnd B41))))))))))))))))))))))))) (zf5 L m a0_0 a0_1 a0_2 v20_6 x8_0 x8_1 s11 v32_15 x17_0 x17_1) (fun s=>s.1) 4 z56 (z5f H) (z3a L m a0_0 a0_1 a0_2 v20_6 x8_0 x8_1 s11 v32_15 x17_0 x17_1):=by
 rintro ⟨H22,v5_23,v44_24⟩ o h
 unfold z3a at h
 try dsimp only at h
 refine WS.sq (WS.rg (RS.mS 1 [kB 45 (decide (v44_24<(x17_1.n:Int)))] (RS.dn (WS.nxt (WS.sq ?_)))))
 rcases z8 h with ⟨hp,h⟩ | ⟨hp,h⟩
 ·refine WS.fx 45 true (decide_eq_true hp) (WS.cT (WS.sk (WS.nxt (WS.sq (WS.bk 5 (WS.sq (WS.rg ?_)))))))
  obtain ⟨p25,hx,h⟩:=bind_some h
  refine RS.ix 46 48 52 (.tmp 42) (.tmp 44) hx ?_
  obtain ⟨x26_0,hx0,h⟩:=bind_some h
  obtain ⟨x26_1,hx1,h⟩:=bind_some h
  obtain ⟨x26_2,hx2,h⟩:=bind_some h
  obtain ⟨x26_3,hx3,h⟩:=bind_some h
  obtain ⟨x26_4,hx4,h⟩:=bind_some h
  refine RS.la 47 52 (.tmp 46) 5 (z7 (z0 hx0 zd) (z7 (z0 hx1 z9) (z7 (z0 hx2 z9) (z7 (z0 hx3 zd) (z7 (z0 hx4 za) zf))))) (RS.mL 2 [kL 11 3 0] ([some (33,[(Sl3.v a0_0),(Sl3.v a0_1),(Sl3.v a0_2)]),some (46,[(Value.string x8_0),(Sl3.v x8_1)]),some (50,[(Value.string x17_0),(Sl3.v x17_1)]),some (52,[(Value.string x26_0),(Value.int .i64 x26_1),(Value.int .i64 x26_2),(Value.string x26_3),(Sl3.v x26_4)])]) (RS.dn (WS.nxt (WS.rg (RS.mS 3 [kT 50 x26_0,kL 49 3 0,kS 48 v5_23] ?_)))))
  obtain ⟨⟨s27,H28⟩,hx,h⟩:=bind_some h
  try dsimp only at h
  refine RS.o (H':=H28) (some 51) (Sl3.v s27) (Abs.run_newR (by kernel_rfl) (by kernel_rfl) hx) ?_
  obtain ⟨⟨s29,H30⟩,hx,h⟩:=bind_some h
  try dsimp only at h
  refine RS.o (H':=H30) (some 52) (Sl3.v s29) (Abs.run_app (x:=.tmp 48) (y:=.tmp 51) (ts:=#[29,29]) (s:=v5_23) (z:=s27) (by kernel_rfl) (by kernel_rfl) (by kernel_rfl) (by kernel_rfl) hx) (RS.mS 1 [kS 5 s29] (RS.dn ?_))
  refine fun a w hs=>bkN ((WS.nxt ?_ a w hs))
  refine WS.rg (RS.mS 2 [kI 44 (IntKind.i64.wrap (v44_24+1)),kI 53 (IntKind.i64.wrap (v44_24+1))] (RS.dn ?_))
  cases h
  exact fun a w hs=>lsN rfl (hs.sb 3)
 ·refine WS.fx 45 false (decide_eq_false hp) (WS.cF (WS.ex 4 ?_))
  cases h
  exact fun a w hs=>sqE (lsB rfl (hs.sb 3))
theorem z9s {E H L m a0_0 a0_1 a0_2 v20_6 x8_0 x8_1 s11} :LoopF Tryd.prog (NE.plain 1000) m E Tryd.f41 ((cfst (csnd (csnd (csnd (cfst (cfst (csnd (csnd (cfst (cfst (csnd (cfst (csnd (csnd (csnd B41)))))))))))))))) (zfd L m a0_0 a0_1 a0_2 v20_6 x8_0 x8_1 s11) (fun s=>s.1) 2 z56 (z5f H) (z3b L m a0_0 a0_1 a0_2 v20_6 x8_0 x8_1 s11):=by
 rintro ⟨H13,v5_14,v32_15⟩ o h
 unfold z3b at h
 try dsimp only at h
 refine WS.sq (WS.rg (RS.mS 1 [kB 33 (decide (v32_15<(x8_1.n:Int)))] (RS.dn (WS.nxt (WS.sq ?_)))))
 rcases z8 h with ⟨hp,h⟩ | ⟨hp,h⟩
 ·refine WS.fx 33 true (decide_eq_true hp) (WS.cT (WS.sk (WS.nxt (WS.sq (WS.bk 3 (WS.sq (WS.rg ?_)))))))
  obtain ⟨p16,hx,h⟩:=bind_some h
  refine RS.ix 34 44 50 (.tmp 30) (.tmp 32) hx ?_
  obtain ⟨x17_0,hx0,h⟩:=bind_some h
  obtain ⟨x17_1,hx1,h⟩:=bind_some h
  refine RS.la 35 50 (.tmp 34) 2 (z7 (z0 hx0 zd) (z7 (z0 hx1 za) zf)) (RS.mL 2 [kL 9 2 0] ([some (33,[(Sl3.v a0_0),(Sl3.v a0_1),(Sl3.v a0_2)]),some (46,[(Value.string x8_0),(Sl3.v x8_1)]),some (50,[(Value.string x17_0),(Sl3.v x17_1)])]) (RS.dn (WS.nxt (WS.sq (WS.rg (RS.mS 3 [kT 38 x17_0,kL 37 2 0,kS 36 v5_14] ?_))))))
  obtain ⟨⟨s18,H19⟩,hx,h⟩:=bind_some h
  try dsimp only at h
  refine RS.o (H':=H19) (some 39) (Sl3.v s18) (Abs.run_newR (by kernel_rfl) (by kernel_rfl) hx) ?_
  obtain ⟨⟨s20,H21⟩,hx,h⟩:=bind_some h
  try dsimp only at h
  refine RS.o (H':=H21) (some 40) (Sl3.v s20) (Abs.run_app (x:=.tmp 36) (y:=.tmp 39) (ts:=#[29,29]) (s:=v5_14) (z:=s18) (by kernel_rfl) (by kernel_rfl) (by kernel_rfl) (by kernel_rfl) hx) (RS.mS 1 [kS 5 s20] (RS.dn (WS.nxt (WS.sq (WS.rg (RS.mS 4 [kI 44 0,kI 43 (x17_1.n:Int),kS 42 x17_1,kL 41 2 1] (RS.dn (WS.nxt (WS.bk 4 ?_)))))))))
  obtain ⟨o,hl,h⟩:=bind_some h
  rcases o with ⟨H31,v5_32,v44_33⟩ | r
  ·try dsimp only at h
   refine WS.lI (z9o (L:=L) (E:=E) (m:=m) (H:=H)) (L.ok hl) 3 ?_
   clear hl
   refine fun a w hs=>bkE (bkN ((WS.nxt ?_ a w hs)))
   refine WS.rg (RS.mS 2 [kI 32 (IntKind.i64.wrap (v32_15+1)),kI 54 (IntKind.i64.wrap (v32_15+1))] (RS.dn ?_))
   cases h
   exact fun a w hs=>lsN rfl (hs.sb 2)
  ·try dsimp only at h
   refine WS.lR (z9o (L:=L) (E:=E) (m:=m) (H:=H)) (L.ok hl) 3 ?_
   cases h
   exact fun a w hq=>bkR (bkR (sqR (lsR rfl hq)))
 ·refine WS.fx 33 false (decide_eq_false hp) (WS.cF (WS.ex 2 ?_))
  cases h
  exact fun a w hs=>sqE (lsB rfl (hs.sb 2))
theorem z9f {E H L m a0_0 a0_1 a0_2} :LoopF Tryd.prog (NE.plain 1000) m E Tryd.f41 ((cfst (csnd (cfst (csnd (csnd (csnd B41))))))) (zf2 L m a0_0 a0_1 a0_2) (fun s=>s.1) 0 z56 (z5f H) (z37 L m a0_0 a0_1 a0_2):=by
 rintro ⟨H3,v4_4,v5_5,v20_6⟩ o h
 unfold z37 at h
 try dsimp only at h
 refine WS.sq (WS.rg (RS.mS 1 [kB 21 (decide (v20_6<(a0_1.n:Int)))] (RS.dn (WS.nxt (WS.sq ?_)))))
 rcases z8 h with ⟨hp,h⟩ | ⟨hp,h⟩
 ·refine WS.fx 21 true (decide_eq_true hp) (WS.cT (WS.sk (WS.nxt (WS.sq (WS.bk 1 (WS.sq (WS.rg ?_)))))))
  obtain ⟨p7,hx,h⟩:=bind_some h
  refine RS.ix 22 30 46 (.tmp 18) (.tmp 20) hx ?_
  obtain ⟨x8_0,hx0,h⟩:=bind_some h
  obtain ⟨x8_1,hx1,h⟩:=bind_some h
  refine RS.la 23 46 (.tmp 22) 2 (z7 (z0 hx0 zd) (z7 (z0 hx1 za) zf)) (RS.mL 2 [kL 7 1 0] ([some (33,[(Sl3.v a0_0),(Sl3.v a0_1),(Sl3.v a0_2)]),some (46,[(Value.string x8_0),(Sl3.v x8_1)])]) (RS.dn (WS.nxt (WS.sq (WS.rg (RS.mS 3 [kT 26 x8_0,kL 25 1 0,kS 24 v4_4] ?_))))))
  obtain ⟨⟨s9,H10⟩,hx,h⟩:=bind_some h
  try dsimp only at h
  refine RS.o (H':=H10) (some 27) (Sl3.v s9) (Abs.run_newR (by kernel_rfl) (by kernel_rfl) hx) ?_
  obtain ⟨⟨s11,H12⟩,hx,h⟩:=bind_some h
  try dsimp only at h
  refine RS.o (H':=H12) (some 28) (Sl3.v s11) (Abs.run_app (x:=.tmp 24) (y:=.tmp 27) (ts:=#[29,29]) (s:=v4_4) (z:=s9) (by kernel_rfl) (by kernel_rfl) (by kernel_rfl) (by kernel_rfl) hx) (RS.mS 1 [kS 4 s11] (RS.dn (WS.nxt (WS.sq (WS.rg (RS.mS 4 [kI 32 0,kI 31 (x8_1.n:Int),kS 30 x8_1,kL 29 1 1] (RS.dn (WS.nxt (WS.bk 2 ?_)))))))))
  obtain ⟨o,hl,h⟩:=bind_some h
  rcases o with ⟨H34,v5_35,v32_36⟩ | r
  ·try dsimp only at h
   refine WS.lI (z9s (L:=L) (E:=E) (m:=m) (H:=H)) (L.ok hl) 2 ?_
   clear hl
   refine fun a w hs=>bkE (bkN ((WS.nxt ?_ a w hs)))
   refine WS.rg (RS.mS 2 [kI 20 (IntKind.i64.wrap (v20_6+1)),kI 55 (IntKind.i64.wrap (v20_6+1))] (RS.dn ?_))
   cases h
   exact fun a w hs=>lsN rfl (hs.sb 1)
  ·try dsimp only at h
   refine WS.lR (z9s (L:=L) (E:=E) (m:=m) (H:=H)) (L.ok hl) 2 ?_
   cases h
   exact fun a w hq=>bkR (bkR (sqR (lsR rfl hq)))
 ·refine WS.fx 21 false (decide_eq_false hp) (WS.cF (WS.ex 0 ?_))
  cases h
  exact fun a w hs=>sqE (lsB rfl (hs.sb 1))
theorem z9m {E H L m a0_0 a0_1 a0_2 v4_38} :LoopF Tryd.prog (NE.plain 1000) m E Tryd.f41 ((cfst (csnd (cfst (csnd (csnd (csnd (csnd B41)))))))) (zf0 L m a0_0 a0_1 a0_2 v4_38) (fun s=>s.1) 6 z56 (z5f H) (z39 L m a0_0 a0_1 a0_2 v4_38):=by
 rintro ⟨H41,v5_42,v59_43⟩ o h
 unfold z39 at h
 try dsimp only at h
 refine WS.sq (WS.rg (RS.mS 1 [kB 60 (decide (v59_43<(a0_2.n:Int)))] (RS.dn (WS.nxt (WS.sq ?_)))))
 rcases z8 h with ⟨hp,h⟩ | ⟨hp,h⟩
 ·refine WS.fx 60 true (decide_eq_true hp) (WS.cT (WS.sk (WS.nxt (WS.sq (WS.bk 7 (WS.sq (WS.rg ?_)))))))
  obtain ⟨p44,hx,h⟩:=bind_some h
  refine RS.ix 61 31 89 (.tmp 57) (.tmp 59) hx ?_
  obtain ⟨x45_0,hx0,h⟩:=bind_some h
  obtain ⟨x45_1,hx1,h⟩:=bind_some h
  obtain ⟨x45_2,hx2,h⟩:=bind_some h
  obtain ⟨x45_3,hx3,h⟩:=bind_some h
  obtain ⟨x45_4,hx4,h⟩:=bind_some h
  obtain ⟨x45_5,hx5,h⟩:=bind_some h
  refine RS.la 62 89 (.tmp 61) 6 (z7 (z0 hx0 zd) (z7 (z0 hx1 za) (z7 (z0 hx2 z9) (z7 (z0 hx3 z9) (z7 (z0 hx4 zd) (z7 (z0 hx5 za) zf)))))) (RS.mL 2 [kL 13 1 0] ([some (33,[(Sl3.v a0_0),(Sl3.v a0_1),(Sl3.v a0_2)]),some (89,[(Value.string x45_0),(Sl3.v x45_1),(Value.int .i64 x45_2),(Value.int .i64 x45_3),(Value.string x45_4),(Sl3.v x45_5)])]) (RS.dn (WS.nxt (WS.rg (RS.mS 3 [kT 65 x45_0,kL 64 1 0,kS 63 v5_42] ?_)))))
  obtain ⟨⟨s46,H47⟩,hx,h⟩:=bind_some h
  try dsimp only at h
  refine RS.o (H':=H47) (some 66) (Sl3.v s46) (Abs.run_newR (by kernel_rfl) (by kernel_rfl) hx) ?_
  obtain ⟨⟨s48,H49⟩,hx,h⟩:=bind_some h
  try dsimp only at h
  refine RS.o (H':=H49) (some 67) (Sl3.v s48) (Abs.run_app (x:=.tmp 63) (y:=.tmp 66) (ts:=#[29,29]) (s:=v5_42) (z:=s46) (by kernel_rfl) (by kernel_rfl) (by kernel_rfl) (by kernel_rfl) hx) (RS.mS 1 [kS 5 s48] (RS.dn ?_))
  refine fun a w hs=>bkN ((WS.nxt ?_ a w hs))
  refine WS.rg (RS.mS 2 [kI 59 (IntKind.i64.wrap (v59_43+1)),kI 68 (IntKind.i64.wrap (v59_43+1))] (RS.dn ?_))
  cases h
  exact fun a w hs=>lsN rfl (hs.sb 1)
 ·refine WS.fx 60 false (decide_eq_false hp) (WS.cF (WS.ex 6 ?_))
  cases h
  exact fun a w hs=>sqE (lsB rfl (hs.sb 1))
theorem zih {L:LC} {m:Nat} {H:AH} {a0_0 a0_1 a0_2:Sl3} {r:(Sl3×Sl3×AH)} (h:z78 L m H a0_0 a0_1 a0_2=some r) :
  CallS Tryd.prog (NE.plain 1000) m 41 #[(Value.agg #[(Sl3.v a0_0),(Sl3.v a0_1),(Sl3.v a0_2)])] H (z56 r) (z5f H r):=by
 refine CallS.mk (args:=[(Value.agg #[(Sl3.v a0_0),(Sl3.v a0_1),(Sl3.v a0_2)])]) Tryd.func41 (B:=B41) (by kernel_rfl) (fun E _=>?_)
 unfold z78 at h
 refine WS.sq (WS.rg (RS.mL 3 [kS 3 Sl3.nil,kS 2 Sl3.nil,kL 1 0 0] ([some (33,[(Sl3.v a0_0),(Sl3.v a0_1),(Sl3.v a0_2)])]) (RS.dn (WS.nxt (WS.sq (WS.rg (RS.mS 2 [kS 15 a0_0,kL 14 0 0] ?_)))))))
 obtain ⟨⟨x1,H2⟩,hx,h⟩:=bind_some h
 try dsimp only at h
 refine RS.cl (some 16) (v:=(Sl3.v x1)) 42 #[(Sl3.v a0_0)] (zaa hx) (RS.mS 1 [kS 4 x1] (RS.dn (WS.nxt (WS.sq (WS.rg (RS.mS 1 [kS 5 Sl3.nil] (RS.dn (WS.nxt (WS.sq ?_)))))))))
 refine WS.sq (WS.rg (RS.mS 4 [kI 20 0,kI 19 (a0_1.n:Int),kS 18 a0_1,kL 17 0 1] (RS.dn (WS.nxt (WS.bk 0 ?_)))))
 obtain ⟨o,hl,h⟩:=bind_some h
 rcases o with ⟨H37,v4_38,v5_39,v20_40⟩ | r
 ·try dsimp only at h
  refine WS.lI (z9f (L:=L) (E:=E) (m:=m) (H:=H)) (L.ok hl) 1 ?_
  clear hl
  refine fun a w hs=>bkE ((WS.nxt ?_ a w hs))
  refine WS.sq (WS.sq (WS.rg (RS.mS 4 [kI 59 0,kI 58 (a0_2.n:Int),kS 57 a0_2,kL 56 0 2] (RS.dn (WS.nxt (WS.bk 6 ?_))))))
  obtain ⟨o,hl,h⟩:=bind_some h
  rcases o with ⟨H50,v5_51,v59_52⟩ | r
  ·try dsimp only at h
   refine WS.lI (z9m (L:=L) (E:=E) (m:=m) (H:=H)) (L.ok hl) 1 ?_
   clear hl
   refine fun a w hs=>bkE ((WS.nxt ?_ a w hs))
   refine WS.sq (WS.rg (RS.mS 4 [kS 3 v5_51,kS 2 v4_38,kS 70 v5_51,kS 69 v4_38] (RS.dn (WS.nxt (WS.rt ?_)))))
   cases h
   exact fun a w hs=>rtR (rS hs)
  ·try dsimp only at h
   refine WS.lR (z9m (L:=L) (E:=E) (m:=m) (H:=H)) (L.ok hl) 1 ?_
   cases h
   exact fun a w hq=>bkR (sqR (rtR hq))
 ·try dsimp only at h
  refine WS.lR (z9f (L:=L) (E:=E) (m:=m) (H:=H)) (L.ok hl) 1 ?_
  cases h
  exact fun a w hq=>bkR (sqR (rtR hq))
def zb3:(Bool×AH)→Value
 | (r0,_)=>(Value.bool r0)
def zcp (_:AH):(Bool×AH)→AH:=fun r=>r.2
noncomputable def B43:Code:=(Tryd.f43.body).getD .skip
noncomputable def z36 (_L:LC) (m:Nat) (a0:Sl3) (p1:Nat):(AH×Int)→Option (Lp (AH×Int) (Bool×AH)):=fun (H3,v9_4) =>
 if v9_4<(a0.n:Int) then
  Option.bind (idxA 1 a0 v9_4) fun p5 =>
  Option.bind (rd deS H3 p5) fun x6 =>
  Option.bind (lk1 Tryd.prog 102 deB H3 (some p1) (Value.string x6)) fun x7 =>
  if x7=true then
   some (.ret (true,H3))
  else
   Option.bind (upM Tryd.prog m 102 H3 (some p1) (Value.string x6) (Value.bool true)) fun H8 =>
   some (.next (H8,(IntKind.i64.wrap (v9_4+1))))
 else
  some (.brk (H3,v9_4))
def zfg (_L:LC) (_m:Nat) (a0:Sl3) (p1:Nat):(AH×Int)→KN×Lcs:=fun (_,v9_4)=>([kI 9 v9_4,(3,.val (Value.map (some p1))),kS 7 a0,kI 8 (a0.n:Int)],[])
noncomputable def z4q (L:LC) (m:Nat) (H:AH) (a0:Sl3):Option (Bool×AH) :=
 Option.bind (newM H) fun (p1,H2) =>
 Option.bind (L.run (z36 L m a0 p1) (H2,0)) fun o=>match o with
 | .inl (H9,_) =>
  some (false,H9)
 | .inr r=>some r
theorem z94 {E H L m a0 p1} :LoopF Tryd.prog (NE.plain 1000) m E Tryd.f43 ((cfst (csnd (cfst (csnd (csnd B43)))))) (zfg L m a0 p1) (fun s=>s.1) 0 zb3 (zcp H) (z36 L m a0 p1):=by
 rintro ⟨H3,v9_4⟩ o h
 unfold z36 at h
 try dsimp only at h
 refine WS.sq (WS.rg (RS.mS 1 [kB 10 (decide (v9_4<(a0.n:Int)))] (RS.dn (WS.nxt (WS.sq ?_)))))
 rcases z8 h with ⟨hp,h⟩ | ⟨hp,h⟩
 ·refine WS.fx 10 true (decide_eq_true hp) (WS.cT (WS.sk (WS.nxt (WS.sq (WS.bk 1 (WS.sq (WS.rg ?_)))))))
  obtain ⟨p5,hx,h⟩:=bind_some h
  refine RS.ix 11 29 9 (.tmp 7) (.tmp 9) hx ?_
  obtain ⟨x6,hx,h⟩:=bind_some h
  refine RS.ld 12 9 (.tmp 11) (z0 hx zd) (RS.mS 1 [kT 5 x6] (RS.dn (WS.nxt (WS.sq (WS.sq (WS.rg (RS.mS 2 [kT 14 x6,(13,.val (Value.map (some p1)))] ?_)))))))
  obtain ⟨x7,hx,h⟩:=bind_some h
  refine RS.o (H':=H3) (some 15) (Value.bool x7) (Abs.run_look (t:=102) (x:=.tmp 13) (y:=.tmp 14) (mm:=(some p1)) (k:=(Value.string x6)) (by kernel_rfl) (by kernel_rfl) (by kernel_rfl) (by kernel_rfl) (lk1_eq hx z55)) (RS.dn (WS.nxt ?_))
  rcases z8 h with ⟨hp,h⟩ | ⟨hp,h⟩
  ·refine WS.fx 15 true hp (WS.cT (WS.sq (WS.rg (RS.mS 1 [kB 2 true] (RS.dn (WS.nxt (WS.rt ?_)))))))
   cases h
   exact fun a w hs=>sqR (bkR (sqR (lsR rfl (rS hs))))
  ·refine WS.fx 15 false (b_not hp) (WS.cF (WS.sk (WS.nxt (WS.rg (RS.mS 2 [kT 17 x6,(16,.val (Value.map (some p1)))] ?_)))))
   obtain ⟨H8,hx,h⟩:=bind_some h
   refine RS.o (H':=H8) none undef (Abs.run_upM (t:=102) (x:=.tmp 16) (y:=.tmp 17) (z:=.const (Value.bool true)) (mm:=(some p1)) (k:=(Value.string x6)) (v:=(Value.bool true)) (by kernel_rfl) (by kernel_rfl) (by kernel_rfl) (by kernel_rfl) (by kernel_rfl) hx) (RS.dn ?_)
   refine fun a w hs=>bkN ((WS.nxt ?_ a w hs))
   refine WS.rg (RS.mS 2 [kI 9 (IntKind.i64.wrap (v9_4+1)),kI 18 (IntKind.i64.wrap (v9_4+1))] (RS.dn ?_))
   cases h
   exact fun a w hs=>lsN rfl (hs.sb 0)
 ·refine WS.fx 10 false (decide_eq_false hp) (WS.cF (WS.ex 0 ?_))
  cases h
  exact fun a w hs=>sqE (lsB rfl (hs.sb 0))
theorem zcu {L:LC} {m:Nat} {H:AH} {a0:Sl3} {r:(Bool×AH)} (h:z4q L m H a0=some r) :
  CallS Tryd.prog (NE.plain 1000) m 43 #[(Sl3.v a0)] H (zb3 r) (zcp H r):=by
 refine CallS.mk (args:=[(Sl3.v a0)]) Tryd.func43 (B:=B43) (by kernel_rfl) (fun E _=>?_)
 unfold z4q at h
 refine WS.sq (WS.rg (RS.mS 1 [kB 2 false] (RS.dn (WS.nxt (WS.sq (WS.rg ?_))))))
 obtain ⟨⟨p1,H2⟩,hx,h⟩:=bind_some h
 try dsimp only at h
 refine RS.o (H':=H2) (some 6) (Value.map (some p1)) (Abs.run_newM (by kernel_rfl) hx) (RS.mS 1 [(3,.val (Value.map (some p1)))] (RS.dn (WS.nxt (WS.sq (WS.sq (WS.rg (RS.mS 3 [kI 9 0,kI 8 (a0.n:Int),kS 7 a0] (RS.dn (WS.nxt ?_)))))))))
 refine WS.bk 0 ?_
 obtain ⟨o,hl,h⟩:=bind_some h
 rcases o with ⟨H9,v9_10⟩ | r
 ·try dsimp only at h
  refine WS.lI (z94 (L:=L) (E:=E) (m:=m) (H:=H)) (L.ok hl) 0 ?_
  clear hl
  refine fun a w hs=>bkE ((WS.nxt ?_ a w hs))
  refine WS.sq (WS.rg (RS.mS 1 [kB 2 false] (RS.dn (WS.nxt (WS.rt ?_)))))
  cases h
  exact fun a w hs=>rtR (rS hs)
 ·try dsimp only at h
  refine WS.lR (z94 (L:=L) (E:=E) (m:=m) (H:=H)) (L.ok hl) 0 ?_
  cases h
  exact fun a w hq=>bkR (sqR (rtR hq))
def zcy:(Sl3×AH)→Value
 | (r0,_)=>(Sl3.v r0)
def zdj (_:AH):(Sl3×AH)→AH:=fun r=>r.2
noncomputable def B73:Code:=(Tryd.f73.body).getD .skip
noncomputable def z4s (_L:LC) (m:Nat) (H:AH) (a0:Sl3):Option (Sl3×AH) :=
 if (isNilS a0)=true then
  some (Sl3.nil,H)
 else
  Option.bind (newR 28 0 #[] H) fun (s1,H2) =>
  Option.bind (appS m 28 4 56 H2 s1 a0) fun (s3,H4) =>
  some (s3,H4)
theorem z5s {L:LC} {m:Nat} {H:AH} {a0:Sl3} {r:(Sl3×AH)} (h:z4s L m H a0=some r) :
  CallS Tryd.prog (NE.plain 1000) m 73 #[(Sl3.v a0)] H (zcy r) (zdj H r):=by
 refine CallS.mk (args:=[(Sl3.v a0)]) Tryd.func73 (B:=B73) (by kernel_rfl) (fun E _=>?_)
 unfold z4s at h
 refine WS.sq (WS.rg (RS.mS 1 [kS 2 Sl3.nil] (RS.dn (WS.nxt (WS.sq (WS.sq (WS.rg (RS.mS 1 [kS 3 a0] (RS.o (H':=H) (some 4) (Value.bool (isNilS a0)) (zeg (t:=26) (e:=28) (u:=26) (x:=.tmp 3) (y:=.const (Sl3.v Sl3.nil)) (s:=a0) (by kernel_rfl) (by kernel_rfl) (by kernel_rfl) (by kernel_rfl)) ?_)))))))))
 refine RS.dn (WS.nxt ?_)
 rcases z8 h with ⟨hp,h⟩ | ⟨hp,h⟩
 ·refine WS.fx 4 true hp (WS.cT (WS.sq (WS.rg (RS.mS 1 [kS 2 Sl3.nil] (RS.dn (WS.nxt (WS.rt ?_)))))))
  cases h
  exact fun a w hs=>sqR (rtR (rS hs))
 ·refine WS.fx 4 false (b_not hp) (WS.cF (WS.sk (WS.nxt (WS.sq (WS.rg ?_)))))
  obtain ⟨⟨s1,H2⟩,hx,h⟩:=bind_some h
  try dsimp only at h
  refine RS.o (H':=H2) (some 5) (Sl3.v s1) (Abs.run_newR (by kernel_rfl) (by kernel_rfl) hx) (RS.mS 1 [kS 6 a0] ?_)
  obtain ⟨⟨s3,H4⟩,hx,h⟩:=bind_some h
  try dsimp only at h
  refine RS.o (H':=H4) (some 7) (Sl3.v s3) (Abs.run_app (x:=.tmp 5) (y:=.tmp 6) (ts:=#[26,26]) (s:=s1) (z:=a0) (by kernel_rfl) (by kernel_rfl) (by kernel_rfl) (by kernel_rfl) hx) (RS.mS 1 [kS 2 s3] (RS.dn (WS.nxt (WS.rt ?_))))
  cases h
  exact fun a w hs=>rtR (rS hs)
end Go.Proofs.YtccbilfbhecdaaaDoor
namespace Go.Proofs.YtccbilfbhecdaaaDoor
open Go Go.Abs
set_option maxRecDepth 100000
theorem HasT.ext {H H':AH} (h:HasT H) (hf:Ext H H'):HasT H':=fun x hx =>
 ⟨hf.2 _ _ (h x hx).2 (fun h=>h) (h x hx).1,Nat.lt_of_lt_of_le (h x hx).2 hf.1⟩
end Go.Proofs.YtccbilfbhecdaaaDoor
namespace Go.Proofs.YtccbilfbhecdaaaDoor
open Go Go.Abs
set_option maxRecDepth 100000
inductive Fo where
 | nil
 | cons (k w:Int) (n:ByteArray) (a r:Fo)
def Fo.len:Fo→Nat
 | .nil=>0
 | .cons _ _ _ _ r=>r.len+1
def Fo.dep:Fo→Nat
 | .nil=>0
 | .cons _ _ _ a r=>max (a.dep+1) r.dep
def maxS:Nat:=140737488351232
structure SoC (H:AH) (q:Addr) (k w:Int) (n:ByteArray) (s:Sl3):Prop where
 ck:Cel H (q.add 0) (.int .i64 k)
 cw:Cel H (q.add 1) (.int .i64 w)
 cn:Cel H (q.add 2) (.string n)
 cs:Cel H (q.add 3) s.v
 hn:n.size≤maxS
theorem SoC.ext {H H':AH} {q:Addr} {k w:Int} {n:ByteArray} {s:Sl3} (h:SoC H q k w n s) (hf:Ext H H'):SoC H' q k w n s :=
 ⟨h.ck.ext hf,h.cw.ext hf,h.cn.ext hf,h.cs.ext hf,h.hn⟩
def FoA (H:AH):Option Addr→Nat→Fo→Prop
 | _,_,.nil=>True
 | p,i,.cons k w n a r=>(∃q s,p=some q∧SoC H (q.add (i*4)) k w n s∧s.n=a.len∧s.n≤maxN∧FoA H s.p 0 a)∧FoA H p (i+1) r
def SlF (H:AH) (s:Sl3) (f:Fo):Prop:=s.n=f.len∧s.n≤maxN∧FoA H s.p 0 f
theorem FoA.ext {H H':AH} (hf:Ext H H'):∀{f:Fo} {p:Option Addr} {i:Nat},FoA H p i f→FoA H' p i f
 | .nil,_,_,_=>trivial
 | .cons _ _ _ _ _,_,_,h=>by
  obtain ⟨⟨q,s,h1,h2,h3,h4,h5⟩,h6⟩:=h
  exact ⟨⟨q,s,h1,h2.ext hf,h3,h4,FoA.ext hf h5⟩,FoA.ext hf h6⟩
theorem SlF.ext {H H':AH} {s:Sl3} {f:Fo} (h:SlF H s f) (hf:Ext H H'):SlF H' s f:=⟨h.1,h.2.1,h.2.2.ext hf⟩
theorem FoA.rd {H:AH} {s:Sl3} {i:Nat} {k w:Int} {n:ByteArray} {a r:Fo} (h:FoA H s.p i (.cons k w n a r)) (hi:i<s.n) :
  ∃q s',idxA 4 s (i:Int)=some q∧rd (deI .i64) H (Addr.add q 0)=some k∧rd (deI .i64) H (Addr.add q 1)=some w∧rd deS H (Addr.add q 2)=some n∧rd deSl H (Addr.add q 3)=some s'∧SlF H s' a∧n.size≤maxS∧FoA H s.p (i+1) r:=by
 obtain ⟨⟨q,s',h1,h2,h3,h4,h5⟩,h6⟩:=h
 exact ⟨_,s',z46 h1 rfl hi,by rw [h2.ck.rd]; rfl,by rw [h2.cw.rd]; rfl,by rw [h2.cn.rd]; rfl,by rw [h2.cs.rd]; rfl,⟨h3,h4,h5⟩,h2.hn,h6⟩
def pF (d:Int):Fo→Int→Int×Bool
 | .nil,n=>(n,true)
 | .cons _ _ _ a r,n =>
  let q:=if IntKind.i64.wrap (d+1) > 16 then (0,false) else pF (IntKind.i64.wrap (d+1)) a 1
  let n':=IntKind.i64.wrap (n+q.1)
  if (!q.2||decide (n' > 256))=true then (n',false) else pF d r n'
def pS (d:Int) (a:Fo):Int×Bool:=if d > 16 then (0,false) else pF d a 1
theorem zmp (k:Nat) {H:AH}:∀(f:Fo) (s:Sl3) (i:Nat) (n d:Int) (fuel:Nat) (x0 x1:Int) (x2:ByteArray),FoA H s.p i f→s.n=i+f.len→s.n≤maxN→f.dep≤fuel →
  loopO (z2l (LCo k) (z1s (LCo k) fuel) H x0 x1 x2 s d) (n,(i:Int))=some (if (pF d f n).2=true then .inl ((pF d f n).1,(s.n:Int)) else .inr ((pF d f n).1,false)):=by
 intro f
 induction f with
 | nil =>
  intro s i n d fuel x0 x1 x2 h hn hm hd
  refine zy ?_
  simp only [Fo.len,Nat.add_zero] at hn
  unfold z2l
  simp only [if_neg (show ¬((i:Int)<(s.n:Int)) by omega),pF]
  rw [hn]
 | cons k' w' n' a r iha ihr =>
  intro s i n d fuel x0 x1 x2 h hn hm hd
  simp only [Fo.len] at hn
  simp only [Fo.dep] at hd
  obtain ⟨q,s',r1,r2,r3,r4,r5,r6,_,r7⟩:=h.rd (by omega)
  obtain ⟨g,rfl⟩:∃g,fuel=g+1:=⟨fuel - 1,by omega⟩
  have hrec:z1s (LCo k) (g+1) H k' w' n' s' (IntKind.i64.wrap (d+1))=some (pS (IntKind.i64.wrap (d+1)) a):=by
   show z2x (LCo k) (z1s (LCo k) g) H k' w' n' s' (IntKind.i64.wrap (d+1))=_
   unfold z2x pS
   split
   ·rfl
   ·have:=iha s' 0 1 (IntKind.i64.wrap (d+1)) g k' w' n' r6.2.2 (by rw [r6.1]; omega) r6.2.1 (by omega)
    show Option.bind (loopO (z2l (LCo k) (z1s (LCo k) g) H k' w' n' s' (IntKind.i64.wrap (d+1))) (1,((0:Nat):Int))) _=_
    rw [this]
    cases hq:pF (IntKind.i64.wrap (d+1)) a 1 with
    | mk y b=>cases b <;> rfl
  have hb:z2l (LCo k) (z1s (LCo k) (g+1)) H x0 x1 x2 s d (n,(i:Int)) =
    some (if (!(pS (IntKind.i64.wrap (d+1)) a).2||decide (IntKind.i64.wrap (n+(pS (IntKind.i64.wrap (d+1)) a).1) > 256))=true then .ret (IntKind.i64.wrap (n+(pS (IntKind.i64.wrap (d+1)) a).1),false)
     else .next (IntKind.i64.wrap (n+(pS (IntKind.i64.wrap (d+1)) a).1),IntKind.i64.wrap ((i:Int)+1))):=by
   unfold z2l
   simp only [if_pos (show (i:Int)<(s.n:Int) by omega),r1,r2,r3,r4,r5,Option.bind_some,hrec]
   cases (pS (IntKind.i64.wrap (d+1)) a).2 with
   | false=>rfl
   | true =>
    by_cases hc:IntKind.i64.wrap (n+(pS (IntKind.i64.wrap (d+1)) a).1) > 256
    ·simp [hc]
    ·simp [hc]
  have hp:pF d (.cons k' w' n' a r) n=if (!(pS (IntKind.i64.wrap (d+1)) a).2||decide (IntKind.i64.wrap (n+(pS (IntKind.i64.wrap (d+1)) a).1) > 256))=true then (IntKind.i64.wrap (n+(pS (IntKind.i64.wrap (d+1)) a).1),false) else pF d r (IntKind.i64.wrap (n+(pS (IntKind.i64.wrap (d+1)) a).1)):=rfl
  rw [hp]
  split at hb
  ·rename_i hc
   rw [if_pos hc]
   exact z45 hb
  ·rename_i hc
   rw [if_neg hc,zl hb,zi (n:=s.n) (by omega) hm]
   exact ihr s (i+1) _ d (g+1) x0 x1 x2 r7 (by omega) hm (by omega)
theorem znc (k fuel:Nat) {H:AH} {s:Sl3} {a:Fo} (h:SlF H s a) (hd:a.dep≤fuel) (x0 x1:Int) (x2:ByteArray) (d:Int):z1s (LCo k) (fuel+1) H x0 x1 x2 s d=some (pS d a):=by
 show z2x (LCo k) (z1s (LCo k) fuel) H x0 x1 x2 s d=_
 unfold z2x pS
 split
 ·rfl
 ·have:=zmp k a s 0 1 d fuel x0 x1 x2 h.2.2 (by rw [h.1]; omega) h.2.1 hd
  show Option.bind (loopO (z2l (LCo k) (z1s (LCo k) fuel) H x0 x1 x2 s d) (1,((0:Nat):Int))) _=_
  rw [this]
  cases hq:pF d a 1 with
  | mk y b=>cases b <;> rfl
def Fo.size:Fo→Nat
 | .nil=>0
 | .cons _ _ _ a r=>a.size+1+r.size
end Go.Proofs.YtccbilfbhecdaaaDoor
namespace Go.Proofs.YtccbilfbhecdaaaDoor
open Go Go.Abs Go.ChangeShapes Go.WideShapes
set_option maxRecDepth 100000
theorem cells28:Tryd.prog.cellsOf 28=4:=by kernel_rfl
theorem cells25:Tryd.prog.cellsOf 25=1:=by kernel_rfl
theorem cells3:Tryd.prog.cellsOf 3=1:=by kernel_rfl
theorem cells9:Tryd.prog.cellsOf 9=1:=by kernel_rfl
theorem cells26:Tryd.prog.cellsOf 26=1:=by kernel_rfl
structure SortV (H:AH) (cs:List Value) (b:(Int×Int×ByteArray×Fo)):Prop where
 ex:∃s,cs=[.int .i64 b.1,.int .i64 b.2.1,.string b.2.2.1,Sl3.v s]∧b.2.2.1.size≤maxS∧SlF H s b.2.2.2
def foOf:List (Int×Int×ByteArray×Fo)→Fo
 | []=>.nil
 | x :: l=>.cons x.1 x.2.1 x.2.2.1 x.2.2.2 (foOf l)
theorem zj6:∀l,(foOf l).len=l.length
 | []=>rfl
 | x :: l=>by simp [foOf,Fo.len,zj6 l]
theorem SortV.ext (H H':AH) (cs:List Value) (b:(Int×Int×ByteArray×Fo)) (hf:Ext H H') (h:SortV H cs b):SortV H' cs b:=by
 obtain ⟨s,h1,h2,h3⟩:=h.ex
 exact ⟨s,h1,h2,h3.ext hf⟩
theorem zo9 {H:AH} {q:Addr} {b:(Int×Int×ByteArray×Fo)} (h:Stands 4 SortV H q b):∃s,SoC H q b.1 b.2.1 b.2.2.1 s∧SlF H s b.2.2.2:=by
 obtain ⟨cs,h1,h2,h3⟩:=h
 obtain ⟨s,rfl,h4,h5⟩:=h3.ex
 exact ⟨s,⟨h2 0 _ rfl,h2 1 _ rfl,h2 2 _ rfl,h2 3 _ rfl,h4⟩,h5⟩
theorem slF_of {H:AH} {s:Sl3} {l:List (Int×Int×ByteArray×Fo)} (h:SlL (Stands 4 SortV) 4 H s l):SlF H s (foOf l):=by
 refine ⟨by rw [zj6]; exact h.n,h.top,?_⟩
 have key:∀(l:List (Int×Int×ByteArray×Fo)) (p:Option Addr) (i:Nat),LAt (Stands 4 SortV) 4 H p i l→FoA H p i (foOf l):=by
  intro l
  induction l with
  | nil=>intro p i _; trivial
  | cons x l ih =>
   intro p i h
   obtain ⟨⟨a,h1,h2⟩,h3⟩:=h
   obtain ⟨s,h4,h5⟩:=zo9 h2
   exact ⟨⟨a,s,h1,h4,h5.1,h5.2.1,h5.2.2⟩,ih p (i+1) h3⟩
 exact key l s.p 0 h.at_
section
variable {H:Type} {enc:TypeId×Value→H} {W:World}
theorem wt_all {l:List Nat} (h:l.all (·≤reachBytes)=true) {n:Nat} (hn:n∈l):n≤maxS:=by
 rw [List.all_eq_true] at h
 have:=h n hn
 simp only [decide_eq_true_eq] at this
 exact this
theorem zba {P:Program} {e:TypeId}:∀{l:List (DataW H)} {d:DataW H},d∈l→∀n∈d.weights P e,n∈DataW.weightsAll P e l
 | x :: l,d,hd,n,hn=>by
  simp only [DataW.weightsAll,List.mem_append]
  rcases List.mem_cons.1 hd with rfl | hd
  ·exact .inl hn
  ·exact .inr (zba hd n hn)
theorem z50 {t e:TypeId} {sz:Nat} (ht:Tryd.prog.underlying t=some (.slice e)) (hc:Tryd.prog.cellsOf e=sz) (hsz:0<sz) {β:Type} {R:AH→List Value→β→Prop} (hR:∀H H' cs b,Ext H H'→R H cs b→R H' cs b)
  {fuel:Nat} {cs:List Value} {x:DataW H×List MemPlace} (elem:∀n,n<fuel→∀cs y,DataW.trod enc Tryd.prog W 0 (fun _=>true) true n e cs=some y→(y.1.weights Tryd.prog e).all (·≤reachBytes)=true→Rows.uptoBulk y.1≤Rows.uptoBulk x.1→ElemIn Tryd.prog W sz R cs)
  (hx:DataW.trod enc Tryd.prog W 0 (fun _=>true) true fuel t cs=some x) (hw:(x.1.weights Tryd.prog t).all (·≤reachBytes)=true) {φ:Inj} {H0:AH} (h:Imp Tryd.prog φ H0 W) :
  ∃v φ' H' s bs,cs=[v]∧Imp Tryd.prog φ' H' W∧φ.le φ'∧Ext H0 H'∧VR φ' (Sl3.v s) v∧SlL (Stands sz R) sz H' s (bs:List β)∧(0<Tryd.prog.bytesOf e→bs.length≤maxS)∧bs.length≤Rows.uptoBulk x.1:=by
 rcases DataW.trod_slice ht hx with ⟨rfl,rfl⟩ | ⟨a,len,cap,elems,rest,n,rfl,rfl,rfl,hb,hl,hm,hlen,hel,hsp,_⟩
 ·obtain ⟨φ',H',s,bs,h1,h2,h3,h4,h5,h6⟩:=Imp.slice (n:=0) (c:=0) (A:=none) hsz hR h z9v (Nat.le_refl _) (Nat.zero_le _) (fun _=>rfl) (C:=fun _=>[]) (fun i hi=>absurd hi (Nat.not_lt_zero _)) (fun a ha=>by cases ha) (fun a ha=>by cases ha)
  exact ⟨_,φ',H',s,bs,rfl,h1,h2,h3,h4,h5,fun _=>by omega,by omega⟩
 ·have get:∀i,i<len→∃cs' y,W.cells? 0 (a.add (i*sz)) sz=some cs'∧DataW.trod enc Tryd.prog W 0 (fun _=>true) true n e cs'=some y∧y∈elems:=by
   intro i hi
   have:=hel i hi
   rw [hc,List.getElem?_eq_getElem (by omega)] at this
   obtain ⟨cs',h1,h2⟩:=Option.bind_eq_some_iff.1 this
   exact ⟨cs',_,h1,h2,List.getElem_mem _⟩
  have hww:∀y∈elems,(y.1.weights Tryd.prog e).all (·≤reachBytes)=true:=by
   intro y hy
   rw [List.all_eq_true]
   intro w hw'
   rw [List.all_eq_true] at hw
   refine hw w ?_
   simp only [DataW.weights,ht,List.mem_cons,List.mem_append]
   exact .inr (.inl (zba (List.mem_map.2 ⟨y,hy,rfl⟩) w hw'))
  obtain ⟨φ',H',s,bs,h1,h2,h3,h4,h5,h6⟩:=Imp.slice (n:=len) (c:=cap) (A:=some a) hsz hR h z9v hl hm (fun h=>by cases h) (C:=fun i=>(W.cells? 0 (a.add (i*sz)) sz).getD []) (fun i hi=>by
    obtain ⟨cs',y,g1,g2,g3⟩:=get i hi
    simp only [g1,Option.getD_some]
    exact elem n (Nat.lt_succ_self n) cs' y g2 (hww y g3) (by
     have:=bulks.part_le (List.mem_map.2 ⟨y,g3,rfl⟩:y.1∈elems.map (·.1))
     simp only [Rows.uptoBulk]
     omega)) (fun a' ha' hpos=>by
    cases ha'
    by_cases h0:0<len
    ·obtain ⟨cs',y,g1,g2,g3⟩:=get 0 h0
     obtain ⟨_,k2,k3⟩:=World.cells?_some g1
     have:=k3 0 hsz
     rw [Nat.zero_mul,add_zero,add_zero] at this
     exact ⟨_,this.trans (List.getElem?_eq_getElem (by omega))⟩
    ·obtain rfl:len=0:=by omega
     obtain ⟨q1,q2⟩:=hsp rfl
     have:=q2 0 (by omega)
     rw [hc,List.getElem?_eq_getElem (by omega)] at this
     obtain ⟨cs',g1,g2⟩:=Option.bind_eq_some_iff.1 this
     obtain ⟨_,k2,k3⟩:=World.cells?_some g1
     have:=k3 0 hsz
     rw [Nat.zero_add,Nat.zero_mul,add_zero,add_zero] at this
     exact ⟨_,this.trans (List.getElem?_eq_getElem (by omega))⟩) (fun a' ha' i hi j hj=>by
    cases ha'
    obtain ⟨cs',y,g1,g2,g3⟩:=get i hi
    obtain ⟨_,k2,k3⟩:=World.cells?_some g1
    have:=k3 j hj
    simp only [g1,Option.getD_some]
    rw [← this]
    have hsp:a.spot=none:=by
     obtain ⟨cs0,y0,g1,g2,g3⟩:=get 0 (by omega)
     obtain ⟨_,k2,k3⟩:=World.cells?_some g1
     have k0:=k3 0 hsz
     rw [Nat.zero_mul,add_zero,add_zero] at k0
     obtain ⟨_,_,_,_,hs,_⟩:=z90 (k0.trans (List.getElem?_eq_getElem (by omega)))
     exact hs
    rw [zb5 hsp])
  refine ⟨_,φ',H',s,bs,rfl,h1,h2,h3,h4,h5,fun hbe=>?_,by
   have:=bulks.length_le (elems.map (·.1))
   rw [List.length_map] at this
   simp only [Rows.uptoBulk]
   omega⟩
  have hm:(elems.length+rest.length)*Tryd.prog.bytesOf e≤maxS:=wt_all hw (by simp [DataW.weights,ht])
  have h7:elems.length+rest.length≤(elems.length+rest.length)*Tryd.prog.bytesOf e:=Nat.le_mul_of_pos_right _ hbe
  omega
theorem z9r {fuel:Nat} {t:TypeId} (ht:Tryd.prog.underlying t=some .string) {cs:List Value} {x:DataW H×List MemPlace} (h:DataW.trod enc Tryd.prog W 0 (fun _=>true) true fuel t cs=some x) (hw:(x.1.weights Tryd.prog t).all (·≤reachBytes)=true) :
  ∃s,cs=[.string s]∧s.size≤maxS:=by
 obtain ⟨s,rfl,rfl,_⟩:=DataW.trod_string ht h
 refine ⟨s,rfl,?_⟩
 have:=wt_all hw (n:=s.data.toList.length) (by simp [DataW.weights])
 simpa using this
theorem z7f:∀(fuel:Nat) (cs:List Value) (x:DataW H×List MemPlace),DataW.trod enc Tryd.prog W 0 (fun _=>true) true fuel 28 cs=some x→(x.1.weights Tryd.prog 28).all (·≤reachBytes)=true→ElemIn Tryd.prog W 4 SortV cs:=by
 intro fuel
 induction fuel using Nat.strongRecOn with
 | ind fuel ih =>
  intro cs x hx hw φ H0 h
  obtain ⟨xs,n,rfl,rfl,hl,hlen,hf⟩:=DataW.trod_struct Tryd.underlying28 hx
  rw [cells28] at hl
  match xs,hlen with
  | [y0,y1,y2,y3],_ =>
   match cs,hl with
   | [c0,c1,c2,c3],_ =>
    have f0:DataW.trod enc Tryd.prog W 0 (fun _=>true) true n 25 (([c0,c1,c2,c3].drop 0).take (Tryd.prog.cellsOf 25))=some y0:=hf 0 _ rfl
    rw [cells25] at f0
    change DataW.trod enc Tryd.prog W 0 (fun _=>true) true n 25 [c0]=some y0 at f0
    have f1:DataW.trod enc Tryd.prog W 0 (fun _=>true) true n 3 (([c0,c1,c2,c3].drop 1).take (Tryd.prog.cellsOf 3))=some y1:=hf 1 _ rfl
    rw [cells3] at f1
    change DataW.trod enc Tryd.prog W 0 (fun _=>true) true n 3 [c1]=some y1 at f1
    have f2:DataW.trod enc Tryd.prog W 0 (fun _=>true) true n 9 (([c0,c1,c2,c3].drop 2).take (Tryd.prog.cellsOf 9))=some y2:=hf 2 _ rfl
    rw [cells9] at f2
    change DataW.trod enc Tryd.prog W 0 (fun _=>true) true n 9 [c2]=some y2 at f2
    have f3:DataW.trod enc Tryd.prog W 0 (fun _=>true) true n 26 (([c0,c1,c2,c3].drop 3).take (Tryd.prog.cellsOf 26))=some y3:=hf 3 _ rfl
    rw [cells26] at f3
    change DataW.trod enc Tryd.prog W 0 (fun _=>true) true n 26 [c3]=some y3 at f3
    simp only [DataW.weights,Tryd.underlying28,List.map_cons,List.map_nil,DataW.weightsEach,List.append_nil,List.all_append,Bool.and_eq_true] at hw
    obtain ⟨n0,e0,_,_⟩:=DataW.trod_int Tryd.underlying25 f0
    obtain ⟨n1,e1,_,_⟩:=DataW.trod_int Tryd.underlying3 f1
    obtain ⟨s2,e2,hs2⟩:=z9r Tryd.underlying9 f2 hw.2.2.1
    obtain ⟨v,φ',H',s,bs,e3,g1,g2,g3,g4,g5,_⟩:=z50 (enc:=enc) Tryd.underlying26 cells28 (by omega) SortV.ext (fun m hm cs x q1 q2 _=>ih m (by omega) cs x q1 q2) f3 hw.2.2.2 h
    simp only [List.cons.injEq,and_true] at e0 e1 e2 e3
    subst e0 e1 e2 e3
    exact ⟨φ',H',[.int .i64 n0,.int .i64 n1,.string s2,Sl3.v s],(n0,n1,s2,foOf bs),g1,g2,g3,rfl,rfl,.cons (.int _ _) (.cons (.int _ _) (.cons (.string _) (.cons g4 .nil))),⟨s,rfl,hs2,slF_of g5⟩⟩
theorem zkv {φ:Inj} {H0:AH} (h:Imp Tryd.prog φ H0 W) {v:Value} {d:DataW H} {ps:List MemPlace} {base:Nat} (hd:DataW.Trod enc Tryd.prog W 0 (fun _=>true) true 28 v d ps) (hv:Value.okWide Tryd.prog W .any base 28 v)
  (hw:(d.weights Tryd.prog 28).all (·≤reachBytes)=true):∃φ' H' k w n s a,Imp Tryd.prog φ' H' W∧φ.le φ'∧Ext H0 H'∧VR φ' (.agg #[.int .i64 k,.int .i64 w,.string n,Sl3.v s]) v∧SlF H' s a∧n.size≤maxS:=by
 obtain ⟨fuel,hf⟩:=hd
 have hvv:=hv
 simp only [Value.okWide,Tryd.underlying28] at hvv
 obtain ⟨cs,rfl,hs,_⟩:=hvv
 obtain ⟨φ',H',cs',b,h1,h2,h3,h4,h5,h6,h7⟩:=z7f fuel _ _ hf hw φ H0 h
 obtain ⟨s,rfl,h8,h9⟩:=h7.ex
 refine ⟨φ',H',b.1,b.2.1,b.2.2.1,s,b.2.2.2,h1,h2,h3,?_,h9,h8⟩
 have hg:=z48 h6
 exact .agg _ _ (by have:=hg.1; simpa [Value.cells] using this) fun i x y hx hy=>hg.2 i x y (by simpa using hx) (by simpa [Value.cells] using hy)
end
end Go.Proofs.YtccbilfbhecdaaaDoor
