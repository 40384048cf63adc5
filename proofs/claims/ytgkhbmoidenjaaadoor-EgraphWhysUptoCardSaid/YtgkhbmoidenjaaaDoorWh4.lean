/- Parts of the proof: an abstract interpreter of the loaded program and its soundness, printed functions, the law's own texts; part 4. No condition. -/
import Derived.Test.YtgkhbmoidenjaaaDoorWh3
import Derived.Shelf.SortM.Plain
import Derived.Shelf.SortM.SortNone
import Derived.Shelf.Strconv.Itoa3
import Derived.Test.YtgkhbmoidenjaaaDoorChecked
import Derived.Test.YtgkhbmoidenjaaaDoorRows
import Derived.Test.YtgkhbmoidenjaaaDoorCards
import Derived.Test.YtgkhbmoidenjaaaDoorTie
import Derived.Deep.DeepWitnessRowRef
import Derived.ChangeMaps5
namespace Go.Abs
variable {P:Program} {ne:NE} {m n:Nat}
theorem z5e {α β:Type} {R:α→β→Prop} {l:List α} {l':List β} (h:F2 R l l') {b:β} (hb:b∈l'):∃a,a∈l∧R a b:=by
 induction h with
 | nil=>cases hb
 | cons hab _ ih =>
  rcases List.mem_cons.1 hb with e | e
  ·subst e; exact ⟨_,List.mem_cons_self,hab⟩
  ·obtain ⟨a,h1,h2⟩:=ih e;exact ⟨a,List.mem_cons_of_mem _ h1,h2⟩
theorem run_choose {w:World} {k:Nat} (hk:0<k):∃c w',c<k∧(choose (.mapNext k)).run P w=.ok c w'∧(w'=w∨w'={ w with drawn:=w.drawn+1 }):=by
 unfold Go.choose;simp only [Sem.run];by_cases h:(Question.mapNext k).forced=true
 ·rw [if_pos h];exact ⟨0,w,hk,rfl,.inl rfl⟩
 ·rw [if_neg h];exact ⟨_,_,Nat.mod_lt _ hk,rfl,.inr rfl⟩
theorem zhp {φ:Inj} {H:AH} {w:World} (hi:Inv φ H w) {b r since last clock:Nat} {seen:Array Nat} {B R:Blk} {es:Array MapEntry} (hb:H.get b=some B) (hB:B.obj=.mapIter (some r) since seen last) (hro:B.ro=false) (hm:m≤b)
  (hr:H.get r=some R) (hR:R.obj=.map es clock) (hok:(!seen.isEmpty&&!es.isEmpty&&es.all fun e=>decide (e.born≥last))=false) (hold:∀e∈es,e.born<since) {x':Value} (hx:VR φ (.pointer (some ⟨b,0,none⟩)) x') (t:TypeId) :
  ∃φ' v v' w' H',(Instr.next x' false t).run P w=.ok v' w'∧VR φ' v v'∧Inv φ' H' w'∧Step m φ H w φ' H' w' ∧
   (((∀e∈es,e.born∈seen)∧v=.tuple #[.bool false]∧H'=H)∨∃e∈es,e.born ∉ seen∧v=.tuple #[.bool true,e.key,e.val]∧H'=H.put b { B with obj:=.mapIter (some r) since (seen.push e.born) clock }):=by
 obtain ⟨l,o',h1,h2,h3,h4⟩:=hi.ref hb (by rw [hB]; rfl);obtain ⟨lr,u',g1,g2,g3,g4⟩:=hi.ref hr (by rw [hR]; rfl);rw [hB] at h3;rw [hR] at g3;cases hx with
 | ptr _ _ l1 hl1 =>
 rw [h1] at hl1; cases hl1;cases o' with
 | mapIter mp' since' seen' last' =>
  obtain ⟨hmp,rfl,rfl,rfl⟩:=h3;cases hmp with
  | map _ lr' hlr =>
  rw [g1] at hlr; cases hlr;cases u' with
  | map es' clock' =>
   obtain ⟨rfl,hes⟩:=g3;have hf:=MR_iff.1 hes;have e1:es.isEmpty=es'.isEmpty:=by simpa using hf.isEmpty
   have e2:(es.all fun e=>decide (e.born≥last))=(es'.all fun e=>decide (e.born≥last)):=by
    have:=F2.all (fun e:MapEntry=>decide (e.born≥last)) (fun e:MapEntry=>decide (e.born≥last)) (fun x y hxy=>by rw [hxy.2.2.1]) hf
    simpa using this
   have f1:=F2.filter (fun e:MapEntry=>!seen.contains e.born) (fun e:MapEntry=>!seen.contains e.born) (fun x y hxy=>by rw [hxy.2.2.1]) hf;have hnew:((es'.filter fun e=>!seen.contains e.born).filter fun e=>decide (e.born≥since))=#[]:=by
    apply Array.ext';rw [Array.toList_filter,List.toList_toArray,List.filter_eq_nil_iff];intro e he;rw [Array.toList_filter] at he;obtain ⟨e0,h5,h6⟩:=z5e hf ((List.mem_filter.1 he).1);have:=hold e0 (by simpa using h5);rw [← h6.2.2.1]
    simpa using this
   have hleft:((es'.filter fun e=>!seen.contains e.born).filter fun e=>decide (e.born<since))=(es'.filter fun e=>!seen.contains e.born):=by
    apply Array.ext';rw [Array.toList_filter,List.filter_eq_self];intro e he;rw [Array.toList_filter] at he;obtain ⟨e0,h5,h6⟩:=z5e hf ((List.mem_filter.1 he).1);have:=hold e0 (by simpa using h5);rw [← h6.2.2.1]
    simpa using this
   unfold Instr.next;simp only [h4,Nat.zero_add,Go.getObj,Sem.run_bind,Sem.run,h2,Result.andThen_ok,g2];rw [← e1,← e2,hok];simp only [Bool.false_eq_true,if_false,hnew,hleft,Array.append_empty];have hmem:∀e'∈(es'.filter fun e=>!seen.contains e.born).toList,∃e∈es,ER φ e e'∧e.born ∉ seen:=by
    intro e' he';rw [Array.toList_filter] at he';obtain ⟨h5,h6⟩:=List.mem_filter.1 he';obtain ⟨e,h7,h8⟩:=z5e hf h5;refine ⟨e,by simpa using h7,h8,?_⟩;rw [h8.2.2.1]
    simpa using h6
   have hemp:(es'.filter fun e=>!seen.contains e.born).isEmpty=true→∀e∈es,e.born∈seen:=by
    intro he e hm;have h5:(es'.filter fun e=>!seen.contains e.born).toList=[]:=by simpa using he
    rw [Array.toList_filter] at h5;have h6:=f1.length;rw [h5] at h6;have h7:List.filter (fun e:MapEntry=>!seen.contains e.born) es.toList=[]:=List.length_eq_zero_iff.1 h6;rw [List.filter_eq_nil_iff] at h7;have:=h7 e (by simpa using hm)
    simpa using this
   generalize (es'.filter fun e=>!seen.contains e.born)=left at hmem hemp;cases he:left.isEmpty with
   | true =>
    have hl0:left=#[]:=by simpa using he
    subst hl0;obtain ⟨c,w1,hc,hcr,hw⟩:=run_choose (P:=P) (w:=w) (k:=1) (by omega);obtain rfl:c=0:=by omega
    have hsz:((if true=true then #[none] else #[])++Array.map some (#[]:Array MapEntry):Array (Option MapEntry))=#[none]:=by simp
    rw [hsz];refine ⟨φ,_,_,w1,H,?_,z5l (.bool false),?_,?_,.inl ⟨hemp he,rfl,rfl⟩⟩
    ·show (Sem.run P (choose (.mapNext 1) >>= _) w)=_;rw [Sem.run_bind,hcr];rfl
    ·rcases hw with rfl | rfl
     ·exact hi
     ·exact hi.drew
    ·rcases hw with rfl | rfl
     ·exact Step.refl _ _ _ _
     ·exact Step.drew H w
   | false =>
    have hsz:((if false=true then #[none] else #[])++Array.map some left:Array (Option MapEntry))=Array.map some left:=by simp
    rw [hsz];have hpos:0<(Array.map some left).size:=by
     rw [Array.size_map];have:left≠#[]:=fun e=>by rw [e] at he; simp at he
     exact Nat.pos_of_ne_zero fun e=>this (Array.eq_empty_of_size_eq_zero e)
    obtain ⟨c,w1,hc,hcr,hw⟩:=run_choose (P:=P) (w:=w) hpos;have hcl:c<left.size:=by simpa using hc
    obtain ⟨e,hem,her,hns⟩:=hmem left[c] (by simp);have hi1:Inv φ H w1:=by
     rcases hw with rfl | rfl
     ·exact hi
     ·exact hi.drew
    have hs1:Step m φ H w φ H w1:=by
     rcases hw with rfl | rfl
     ·exact Step.refl _ _ _ _
     ·exact Step.drew H w
    obtain ⟨φ',y,w',q1,q2,q3,_⟩:=z19 (P:=P) (m:=m) h1 (o:=.mapIter (some r) since (seen.push e.born) clock) (o':=.mapIter (some lr.blk) since (seen.push e.born) clock) ⟨.map r lr g1,rfl,rfl,rfl⟩ H w1 () (H.put b { B with obj:=.mapIter (some r) since (seen.push e.born) clock }) (by
      simp only [Go.setObj,arun,hb];rw [hB,hro,show Nat.ble m b=true by simp [hm]];rfl) hi1
    refine ⟨φ',.tuple #[.bool true,e.key,e.val],.tuple #[.bool true,left[c].key,left[c].val],w',_,?_,?_,q2,hs1.trans hi q3,.inr ⟨e,hem,hns,rfl,rfl⟩⟩
    ·rw [Sem.run_bind,hcr];simp only [Result.andThen_ok,Array.getElem?_map,Array.getElem?_eq_getElem hcl,Option.map_some];rw [← her.2.2.1,Sem.run_bind,q1];rfl
    ·rw [← her.1];exact z65 (.bool true) (A2 _ her.2.2.2) (her.2.1.mono q3.ext)
  | _=>exact g3.elim
 | _=>exact h3.elim
section
variable {E:Ent} {kn:KN} {ls:Lcs} {H:AH} {Q:Exit→Act→World→Prop}
theorem RS.nx {ops:Array Oper} {k:Nat} (d x:Nat) {b r since last clock:Nat} {seen:Array Nat} {B R:Blk} {es:Array MapEntry} (hb:H.get b=some B) (hB:B.obj=.mapIter (some r) since seen last) (hro:B.ro=false) (hm:m≤b)
  (hr:H.get r=some R) (hR:R.obj=.map es clock) (hok:(!seen.isEmpty&&!es.isEmpty&&es.all fun e=>decide (e.born≥last))=false) (hold:∀e∈es,e.born<since)
  (h0:(∀e∈es,e.born∈seen)→RS P ne m E n ops (k+1) (putV kn (some d) (.val (.tuple #[.bool false]))) ls H Q)
  (h1:∀e∈es,e.born ∉ seen→RS P ne m E n ops (k+1) (putV kn (some d) (.val (.tuple #[.bool true,e.key,e.val]))) ls (H.put b { B with obj:=.mapIter (some r) since (seen.push e.born) clock }) Q)
  (hop:(opAt ops k).op=.next (.tmp x) false:=by kernel_rfl) (hg:(opAt ops k).guard=none:=by kernel_rfl) (hd:(opAt ops k).dst=some d:=by kernel_rfl) (hdn:Nat.blt d n=true:=by kernel_rfl) (ho:ops[k]? = some (opAt ops k):=by kernel_rfl)
  (hx:lkV kn x=some (.val (.pointer (some ⟨b,0,none⟩))):=by kernel_rfl):RS P ne m E n ops k kn ls H Q:=by
 intro a w hs;obtain ⟨φ,cs,hs⟩:=hs;rw [w9 ho,wpOps_cons];unfold wpOp;rw [ho];have hw:wantV ops kn (opAt ops k)=some true:=by unfold wantV; rw [hg]
 simp only [I4 hs hw,if_true];left;have hxv:VR φ (.pointer (some ⟨b,0,none⟩)) (a.eval (.tmp x)):=hs.slot x _ hx;obtain ⟨φ',v,v',w',H',g1,g2,g3,g4,g5⟩:=zhp (P:=P) hs.inv hb hB hro hm hr hR hok hold hxv (opAt ops k).type;have hex:(execOp a.eval (opAt ops k)).run P w=.ok (.value v') w':=by
  generalize opAt ops k=o at hop g1;obtain ⟨dst,op,ty,pos,after,guard⟩:=o;simp only at hop;subst hop;show (Instr.next (a.eval (.tmp x)) false ty >>= fun v=>(pure (Next.value v):Sem Next)).run P w=_;rw [Sem.run_bind,g1];rfl
 refine E4 (φ:=φ) (H:=H) (H':=H') (m:=m) (v:=v) ⟨φ',w',.value v',hex,g3,g4,.inl ⟨v',rfl,g2⟩⟩ fun φ2 v2 w2 k1 k2 k3=>?_;rw [hd];have hs2:∀{vv},v=vv→SS P ne m E n (putV kn (some d) (.val vv)) ls H' (a.put (some d) v2) w2:=fun e=>by
  subst e;exact ⟨φ2,cs,(hs.heap k2 k3).put (by exact hdn) k1⟩
 rcases g5 with ⟨j1,j2,rfl⟩ | ⟨e,j1,j2,j3,rfl⟩
 ·exact h0 j1 _ _ (hs2 j2)
 ·exact h1 e j1 j2 _ _ (hs2 j3)
def iterB (r clock:Nat):Blk:={ obj:=.mapIter (some r) clock #[] clock,opn:=false,esz:=0,ro:=false }
theorem zfr {o:Oper} {ρ:Operand→Value} {t k e:TypeId} {x:Operand} {r clock:Nat} {R:Blk} {es:Array MapEntry} (hop:o.op=.range t x) (hu:P.underlying t=some (.map k e)) (hx:ρ x=.map (some r)) (hr:H.get r=some R) (hR:R.obj=.map es clock) {ih:Ex} :
  runOp P ne ih m o ρ H=some (.pointer (some ⟨H.next,0,none⟩),H.push (iterB r clock)):=by
 obtain ⟨dst,op,ty,pos,after,guard⟩:=o;simp only at hop;subst hop;have h1:arun P m (Instr.range t (ρ x)) H=some (.pointer (some ⟨H.next,0,none⟩),H.push (iterB r clock)):=by
  unfold Instr.range;rw [hx];simp only [Go.underlying,Go.program,Bind.bind,Sem.bind,arun,hu,Go.getObj,hr,hR,Go.newObj,isRef,cond_true,Pure.pure,blkOf];rfl
 have h2:arun P m (execOp ρ { dst:=dst,op:=.range t x,type:=ty,pos:=pos,after:=after,guard:=guard }) H=some (.value (.pointer (some ⟨H.next,0,none⟩)),H.push (iterB r clock)):=by
  show arun P m ((Instr.range t (ρ x)).bind fun v=>.pure (Next.value v)) H=_;rw [I2,h1];rfl
 show asNext (arun P m (execOp ρ { dst:=dst,op:=.range t x,type:=ty,pos:=pos,after:=after,guard:=guard }) H)=_;rw [h2];rfl
theorem zgz {o:Oper} {ρ:Operand→Value} {x:Operand} {b r since clock:Nat} {seen:Array Nat} {B R:Blk} {es:Array MapEntry} {stamp:Nat} {en:MapEntry} (hop:o.op=.entry x) (hx:ρ x=.pointer (some ⟨b,0,none⟩)) (hb:H.get b=some B) (hB:B.obj=.mapIter (some r) since seen clock)
  (hr:H.get r=some R) (hR:R.obj=.map es clock) (hs:seen.back? = some stamp) (he:es.find? (fun e=>e.born == stamp)=some en) {ih:Ex} :
  runOp P ne ih m o ρ H=some (.tuple #[en.key,en.val],H):=by
 obtain ⟨dst,op,ty,pos,after,guard⟩:=o;simp only at hop;subst hop;have h1:arun P m (Instr.entry (ρ x)) H=some (.tuple #[en.key,en.val],H):=by
  unfold Instr.entry;rw [hx];simp only [Bind.bind,Sem.bind,Go.getObj,arun,hb,hB,isRef,cond_true,Pure.pure,hs,hr,hR,bne_self_eq_false,Bool.false_eq_true,if_false,he]
 have h2:arun P m (execOp ρ { dst:=dst,op:=.entry x,type:=ty,pos:=pos,after:=after,guard:=guard }) H=some (.value (.tuple #[en.key,en.val]),H):=by
  show arun P m ((Instr.entry (ρ x)).bind fun v=>.pure (Next.value v)) H=_;rw [I2,h1];rfl
 show asNext (arun P m (execOp ρ { dst:=dst,op:=.entry x,type:=ty,pos:=pos,after:=after,guard:=guard }) H)=_;rw [h2];rfl
theorem SS.forget {a:Act} {w:World} {H':AH} (hs:SS P ne m E n kn ls H a w) (hn:H'.next=H.next) (hg:∀id b,H'.get id=some b→H.get id=some b):SS P ne m E n kn ls H' a w:=by
 obtain ⟨φ,cs,h⟩:=hs;refine ⟨φ,cs,h.glob,⟨fun id l hl=>by rw [hn]; exact h.inv.dom id l hl,fun id b hb=>h.inv.obj id b (hg id b hb),fun id id' b b' l l' hb hb'=>h.inv.sep id id' b b' l l' (hg id b hb) (hg id' b' hb')⟩,
  ⟨by rw [hn]; exact h.step.le,h.step.ext,h.step.new,fun id hi=>h.step.alv id ?_,h.step.size,h.step.keep,h.step.os,h.step.tape,h.step.output⟩,h.len,h.loc,h.inj,h.low,h.slot,h.size,h.defers,h.sane,h.inv0⟩
 cases hq:H'.get id with
 | none=>rw [hq] at hi; cases hi
 | some b=>rw [hg id b hq]; rfl
def relS {S:Type} (P:Program) (ne:NE) (m:Nat) (E:Ent) (n:Nat) (knOf:S→KN) (lsOf:S→Lcs) (hOf:S→AH) (i:Nat) (I F:S→Prop) (μ:S→Nat) (s:S):Exit→Act→World→Prop
 | .normal,a,w=>∃s',I s'∧μ s'<μ s∧SS P ne m E n (knOf s') (lsOf s') (hOf s') a w
 | .exit j,a,w=>∃s',F s'∧j=i∧SS P ne m E n (knOf s') (lsOf s') (hOf s') a w
 | _,_,_=>False
theorem WS.loopRel {S:Type} {c:Code} (knOf:S→KN) (lsOf:S→Lcs) (hOf:S→AH) (i:Nat) (I F:S→Prop) (μ:S→Nat)
  (hbody:∀s,I s→WS P ne m E n (cfst c) (knOf s) (lsOf s) (hOf s) (relS P ne m E n knOf lsOf hOf i I F μ s)) {s:S} (hI:I s)
  (h1:∀s',F s'→∀a w,SS P ne m E n (knOf s') (lsOf s') (hOf s') a w→Q (.exit i) a w) (hc:isLoop c=true:=by kernel_rfl):WS P ne m E n c (knOf s) (lsOf s) (hOf s) Q:=by
 cases c with
 | loop body =>
  have key:∀(k:Nat) (s:S),μ s<k→I s→∀a w,SS P ne m E n (knOf s) (lsOf s) (hOf s) a w→Code.rounds P body Q k a w:=by
   intro k;induction k with
   | zero=>intro s hk; exact absurd hk (Nat.not_lt_zero _)
   | succ k ih =>
    intro s hk hI a w hs;rw [rounds_succ];refine wp_mono (hbody s hI a w hs) fun e a' w' hq=>?_;cases e with
    | normal =>
     obtain ⟨s',hI',hlt,hs'⟩:=hq;exact ih s' (by omega) hI' a' w' hs'
    | exit j =>
     obtain ⟨s',hF,rfl,hs'⟩:=hq;exact h1 s' hF a' w' hs'
    | _=>exact hq.elim
  exact fun a w hs=>wp_loop_rounds (μ s+1) (key (μ s+1) s (by omega) hI a w hs)
 | _=>cases hc
end
end Go.Abs
namespace Go.Abs
open Go.Shelf Go.Proofs
open Go.Sort (putRow putCells onCells Holds)
variable {P:Program} {ne:NE} {m n:Nat}
def zcells (zs:List Int):Array Value:=(zs.map fun z=>Value.int .i64 z).toArray
def sortI (zs:List Int):List Int:=zs.mergeSort fun x y=>decide (x≤y)
theorem z9r (zs:List Int):(sortI zs).length=zs.length:=List.length_mergeSort zs
theorem z3q (zs:List Int) (i:Nat):(zcells zs)[i]? = (zs[i]?).map fun z=>Value.int .i64 z:=by
 unfold zcells;rw [List.getElem?_toArray,List.getElem?_map]
theorem Inv.grow {φ:Inj} {H:AH} {w:World} (h:Inv φ H w) (os:Array Obj):Inv φ H (Go.Sort.grow w os):=by
 have hsz:w.heap.size≤(Go.Sort.grow w os).heap.size:=by show w.heap.size≤(w.heap++os).size; simp
 refine ⟨fun id l hl=>⟨(h.dom id l hl).1,Nat.lt_of_lt_of_le (h.dom id l hl).2 hsz⟩,fun id b hb=>?_,h.sep⟩;obtain ⟨l,h1,h2⟩:=h.obj id b hb;refine ⟨l,h1,h2.same ?_⟩;have hlt:=(h.dom id l h1).2;show (w.heap++os)[l.blk]? = w.heap[l.blk]?;rw [Array.getElem?_append_left hlt]
theorem Step.grow {φ:Inj} {H:AH} (w:World) (os:Array Obj):Step m φ H w φ H (Go.Sort.grow w os) :=
 ⟨Nat.le_refl _,Inj.le_refl _,fun id l h h'=>(by rw [h] at h'; cases h'),fun _ h=>.inl h,by show w.heap.size≤(w.heap++os).size; simp,fun c hc _=>by
  show (w.heap++os)[c]? = _;rw [Array.getElem?_append_left hc],rfl,rfl,rfl⟩
theorem zgm {ρ:Ren} (Ly:SlLaysM.n5 P ρ) (hf:∃fn c,P.funcs[ρ.f 5]? = some fn∧fn.body=some c) {H:AH} {id:Nat} {zs:List Int} {e:TypeId} {opn:Bool} {esz c:Nat} (hb:H.get id=some { obj:=.cells (zcells zs) e (0,0),opn:=opn,esz:=esz,ro:=false }) (hm:m≤id) (h0:0<zs.length) (hz:zs.length<4611686018427387904) :
  CallS P ne m (ρ.f 5) #[.slice (some ⟨id,0,none⟩) zs.length c] H (.tuple #[]) (H.put id { obj:=.cells (zcells (sortI zs)) e (0,0),opn:=opn,esz:=esz,ro:=false }):=by
 intro hS;refine ⟨hf,fun φ w args' hg ha hi=>?_⟩;obtain ⟨l,c',f',g1,g2,g3⟩:=hi.cells hb rfl;have harg:∃c2,args'=#[.slice (some ⟨l.blk,l.off,none⟩) zs.length c2]:=by
  obtain ⟨hsz,hel⟩:=ha;have hsz:args'.size=1:=hsz.symm;obtain ⟨x',rfl⟩:∃x',args'=#[x']:=by
   match args',hsz with
   | ⟨[x']⟩,_=>exact ⟨x',rfl⟩
  have hx:=hel 0 _ _ rfl rfl;generalize hn:zs.length=nn at hx h0;generalize hcc:c=cc at hx;cases hx with
  | slice _ _ _ _ l1 hl1 hc1=>rw [g1] at hl1; cases hl1; exact ⟨_,rfl⟩
  | sliceOpen _ _ _ _ l1 hl1 hn1 hc1=>rw [g1] at hl1; cases hl1; exact ⟨_,rfl⟩
  | sliceEnd=>omega
  | sliceZero=>omega
 obtain ⟨c2,rfl⟩:=harg;have hlt:l.blk<w.heap.size:=(hi.dom id l g1).2;have hcell:∀(j:Nat) (hj:j<zs.length),c'[l.off+j]? = some (.int .i64 zs[j]):=fun j hj=>by
  obtain ⟨v',h1,h2⟩:=g3.cell j (.int .i64 zs[j]) (by rw [z3q,List.getElem?_eq_getElem hj]; rfl);cases h2;exact h1
 have hH:Holds (Value.int .i64) w l.blk l.off zs.toArray:=by
  intro j hj;have hj:j<zs.length:=by simpa using hj
  refine ⟨?_,?_⟩
  ·unfold World.cell?;simp only [g2];rw [hcell j hj]
   congr 2
   rw [getElem!_pos _ j (by simpa using hj)];simp
  ·unfold World.frozen?;simp only [g2];have hsz:=(Array.getElem?_eq_some_iff.1 (hcell j hj)).1;rcases g3.own rfl with h | h
   ·simp only [Bool.and_eq_false_iff,decide_eq_false_iff_not]; omega
   ·simp only [Bool.and_eq_false_iff,decide_eq_false_iff_not]; omega
 refine (Proofs.AnyM.slices_Sort_int Ly l.blk l.off c2 zs w hH hlt hz).mono fun en w' hh=>?_;obtain ⟨rfl,k,os,rfl⟩:=hh
 let w1:World:=putRow (Value.int .i64) (Go.Sort.ahead w k) l.blk l.off (sortI zs).toArray
 have hw1:w1.heap=w.heap.modify l.blk (onCells (putCells (Value.int .i64) l.off (sortI zs).toArray)):=rfl;have hs1:w1.heap.size=w.heap.size:=by rw [hw1]; simp
 have ho1:∀c,c≠l.blk→w1.heap[c]? = w.heap[c]? := fun c hc=>by rw [hw1,Array.getElem?_modify,if_neg (fun h=>hc h.symm)]
 have ha1:w1.heap[l.blk]? = some (.cells (putCells (Value.int .i64) l.off (sortI zs).toArray c') e f'):=by
  rw [hw1,Array.getElem?_modify,if_pos rfl,g2];rfl
 have hor:OR φ l { obj:=.cells (zcells (sortI zs)) e (0,0),opn:=opn,esz:=esz,ro:=false } w1:=by
  refine ⟨_,e,f',ha1,⟨fun i v hv=>?_,?_,g3.esz,fun ho=>?_,fun hr=>?_,rfl⟩⟩
  ·rw [z3q] at hv;have hi':i<(sortI zs).length:=by
    by_cases h:i<(sortI zs).length
    ·exact h
    ·rw [List.getElem?_eq_none (by omega)] at hv; cases hv
   rw [List.getElem?_eq_getElem hi'] at hv;simp only [Option.map_some,Option.some.injEq] at hv;subst hv;refine ⟨.int .i64 (sortI zs)[i],?_,.int _ _⟩;have hl:=z9r zs;simp only [putCells,Array.getElem?_mapIdx,hcell i (by omega),Option.map_some];rw [if_pos (by simp; omega)]
   congr 2
   rw [show l.off+i - l.off=i by omega,getElem!_pos _ i (by simpa using hi')];simp
  ·simp only [putCells,Array.size_mapIdx]; exact g3.fin
  ·obtain ⟨h1,h2⟩:=g3.exact_ ho;refine ⟨h1,?_⟩;simp only [putCells,Array.size_mapIdx];rw [h2];simp [zcells,z9r]
  ·simp only [putCells,Array.size_mapIdx]; exact g3.own rfl
 have hi0:Inv φ H (Go.Sort.ahead w k):=⟨hi.dom,hi.obj,hi.sep⟩;have hst:Step m φ H w φ (H.put id { obj:=.cells (zcells (sortI zs)) e (0,0),opn:=opn,esz:=esz,ro:=false }) w1:=Step.put hm hb g1 hs1 ho1 rfl rfl rfl;have hin:Inv φ (H.put id { obj:=.cells (zcells (sortI zs)) e (0,0),opn:=opn,esz:=esz,ro:=false }) w1:=Inv.put hi hb rfl rfl g1 hs1 ho1 hor;exact ⟨φ,.tuple #[],rfl,.tuple #[] #[] rfl (fun i x y h=>by simp at h),hin.grow os,hst.trans hi (Step.grow w1 os)⟩
theorem zi6 {ρ:Ren} (Ly:SlLaysM.n5 P ρ) (hf:∃fn c,P.funcs[ρ.f 5]? = some fn∧fn.body=some c) {H:AH}:CallS P ne m (ρ.f 5) #[.slice none 0 0] H (.tuple #[]) H:=by
 intro hS;refine ⟨hf,fun φ w args' hg ha hi=>?_⟩;have harg:args'=#[.slice none 0 0]:=by
  obtain ⟨hsz,hel⟩:=ha;have hsz:args'.size=1:=hsz.symm;obtain ⟨x',rfl⟩:∃x',args'=#[x']:=by
   match args',hsz with
   | ⟨[x']⟩,_=>exact ⟨x',rfl⟩
  have hx:=hel 0 _ _ rfl rfl;cases hx with
  | sliceNil=>rfl
 subst harg;refine (Proofs.AnyM.slices_Sort_int_none Ly none 0 w).mono fun en w' hh=>?_;obtain ⟨rfl,rfl⟩:=hh;exact ⟨φ,.tuple #[],rfl,.tuple #[] #[] rfl (fun i x y h=>by simp at h),hi,Step.refl _ _ _ _⟩
end Go.Abs
namespace Go.Abs
variable {P:Program} {ne:NE} {m n:Nat}
theorem zea {l l':List Int} (h:l.Perm l'):sortI l=sortI l':=by
 have ht:∀a b c:Int,decide (a≤b)=true→decide (b≤c)=true→decide (a≤c)=true:=fun a b c h1 h2=>by simp at *; omega
 have hc:∀a b:Int,(decide (a≤b)||decide (b≤a))=true:=fun a b=>by simp; omega
 refine List.Perm.eq_of_pairwise (le:=fun a b=>decide (a≤b)=true) (fun a b _ _ h1 h2=>by simp at h1 h2; omega) (List.pairwise_mergeSort ht hc l) (List.pairwise_mergeSort ht hc l') ?_;exact (List.mergeSort_perm l _).trans (h.trans (List.mergeSort_perm l' _).symm)
def keyZ (e:MapEntry):Option Int:=match e.key with
 | .int .i64 z=>some z
 | _=>none
theorem zfw {e:MapEntry} {z:Int} (h:keyZ e=some z):e.key=.int .i64 z:=by
 unfold keyZ at h;split at h
 ·rename_i z' hk;cases h;exact hk
 ·cases h
def keysZ:List MapEntry→Option (List Int)
 | []=>some []
 | e :: l=>match keyZ e,keysZ l with
  | some z,some zs=>some (z :: zs)
  | _,_=>none
theorem I5 {e:MapEntry} {l:List MapEntry} {zs:List Int} (h:keysZ (e :: l)=some zs):∃z r,keyZ e=some z∧keysZ l=some r∧zs=z :: r:=by
 simp only [keysZ] at h;split at h
 ·rename_i z r h1 h2;cases h;exact ⟨z,r,h1,h2,rfl⟩
 ·cases h
theorem z24:∀{l:List MapEntry} {zs:List Int},keysZ l=some zs→zs.length=l.length
 | [],zs,h=>by cases h; rfl
 | e :: l,zs,h=>by
  obtain ⟨z,r,_,h2,rfl⟩:=I5 h;simp [z24 h2]
theorem z5g:∀{l:List MapEntry} {zs:List Int},keysZ l=some zs→∀e∈l,∃z,keyZ e=some z
 | [],zs,h,e,he=>by cases he
 | x :: l,zs,h,e,he=>by
  obtain ⟨z,r,h1,h2,rfl⟩:=I5 h;rcases List.mem_cons.1 he with rfl | he
  ·exact ⟨z,h1⟩
  ·exact z5g h2 e he
theorem z4k:∀{l:List MapEntry} {zs:List Int} {e:MapEntry} {z:Int},keysZ l=some zs→keyZ e=some z→keysZ (l++[e])=some (zs++[z])
 | [],zs,e,z,h,hz=>by cases h; simp [keysZ,hz]
 | x :: l,zs,e,z,h,hz=>by
  obtain ⟨y,r,h1,h2,rfl⟩:=I5 h;simp [keysZ,h1,z4k h2 hz]
theorem z9i:∀{l:List MapEntry},(∀e∈l,∃z,keyZ e=some z)→∃zs,keysZ l=some zs
 | [],_=>⟨[],rfl⟩
 | e :: l,h=>by
  obtain ⟨z,hz⟩:=h e List.mem_cons_self;obtain ⟨zs,h2⟩:=z9i fun e he=>h e (List.mem_cons_of_mem _ he);exact ⟨z :: zs,by simp [keysZ,hz,h2]⟩
theorem zes {l l':List MapEntry} (hp:l.Perm l'):∀(zs zs':List Int),keysZ l=some zs→keysZ l'=some zs'→zs.Perm zs':=by
 induction hp with
 | nil=>intro zs zs' h h'; cases h; cases h'; exact .refl _
 | cons x _ ih =>
  intro zs zs' h h';obtain ⟨z,r,h1,h2,rfl⟩:=I5 h;obtain ⟨z',r',h3,h4,rfl⟩:=I5 h';rw [h1] at h3; cases h3;exact (ih _ _ h2 h4).cons z
 | swap x y l =>
  intro zs zs' h h';obtain ⟨z,r,h1,h2,rfl⟩:=I5 h;obtain ⟨z2,r2,h3,h4,rfl⟩:=I5 h2;obtain ⟨z',r',h5,h6,rfl⟩:=I5 h';obtain ⟨z2',r2',h7,h8,rfl⟩:=I5 h6;rw [h1] at h7; cases h7;rw [h3] at h5; cases h5;rw [h4] at h8; cases h8;exact .swap _ _ _
 | trans h1 h2 ih1 ih2 =>
  intro zs zs' h h';have:∃ys,keysZ _=some ys:=(z9i (fun e he=>z5g h e ((h1.mem_iff).2 he)));obtain ⟨ys,hy⟩:=this;exact (ih1 _ _ h hy).trans (ih2 _ _ hy h')
def rowB (e:TypeId) (zs:List Int):Blk:={ obj:=.cells (zcells zs) e (0,0),opn:=true,esz:=1,ro:=false }
def outS (e:TypeId) (H:AH) (zs:List Int):Sl3×AH :=
 if zs=[] then (Sl3.nil,{ H with next:=H.next+1 })
 else (⟨some ⟨H.next+2*zs.length,0,none⟩,zs.length,OPEN⟩,AH.push { H with next:=H.next+2*zs.length } (rowB e (sortI zs)))
def keysS (e:TypeId) (m:Nat) (H:AH) (r:Nat):Option (Sl3×AH) :=
 match H.get r with
 | some { obj:=.map es clock,.. } =>
  match keysZ es.toList with
  | some zs=>if (es.toList.map (·.born)).Nodup∧(∀e∈es.toList,e.born<clock)∧zs.length≤1073741824∧m≤H.next then some (outS e H zs) else none
  | none=>none
 | _=>none
structure KeyI (e:TypeId) (H:AH) (r clock:Nat) (es:Array MapEntry) (s:AH×Sl3×List MapEntry):Prop where
 next:s.1.next=H.next+1+2*s.2.2.length
 low:∀id,id<H.next→s.1.get id=H.get id
 iter:s.1.get H.next=some { obj:=.mapIter (some r) clock (s.2.2.map (·.born)).toArray clock,opn:=false,esz:=0,ro:=false }
 nd:(s.2.2.map (·.born)).Nodup
 sub:∀x∈s.2.2,x∈es
 keys:∃zs,keysZ s.2.2=some zs∧((zs=[]∧s.2.1=Sl3.nil)∨(zs≠[]∧s.2.1=⟨some ⟨H.next+2*zs.length,0,none⟩,zs.length,OPEN⟩∧s.1.get (H.next+2*zs.length)=some (rowB e zs)))
theorem KeyI.step {e:TypeId} {H:AH} {r clock:Nat} {es:Array MapEntry} {s:AH×Sl3×List MapEntry} (h:KeyI e H r clock es s) (hm:m≤H.next) {x:MapEntry} {z:Int} (hx:x∈es) (hn:x.born ∉ (s.2.2.map (·.born)).toArray) (hz:keyZ x=some z) (hl:s.2.2.length≤1073741824) :
  ∃row H2 out H3,newR e 1 #[.int .i64 z] (s.1.put H.next { obj:=.mapIter (some r) clock ((s.2.2.map (·.born)).toArray.push x.born) clock,opn:=false,esz:=0,ro:=false })=some (row,H2)∧appS m e 1 8 H2 s.2.1 row=some (out,H3)∧KeyI e H r clock es (H3,out,s.2.2++[x]):=by
 obtain ⟨zs,hk,hc⟩:=h.keys;have hlen:=z24 hk
 let H1:=s.1.put H.next { obj:=.mapIter (some r) clock ((s.2.2.map (·.born)).toArray.push x.born) clock,opn:=false,esz:=0,ro:=false }
 have n1:H1.next=s.1.next:=rfl
 let B:Blk:={ obj:=.cells #[.int .i64 z] e (0,0),opn:=false,esz:=0,ro:=false }
 let H2:=H1.push B
 have n2:H2.next=H.next+2*s.2.2.length+2:=by show H1.next+1=_; rw [n1,h.next]; omega
 have g2:∀id,id≠H1.next→H2.get id=H1.get id:=fun id hid=>AH.get_push_other H1 B hid;have g1:∀id,id≠H.next→H1.get id=s.1.get id:=fun id hid=>AH.get_put_other _ _ hid;have hrow:rdCells H2 ⟨H1.next,0,none⟩ 0 1=some [.int .i64 z]:=by
  have:H2.cell ((⟨H1.next,0,none⟩:Addr).add 0)=some (.int .i64 z):=by
   rw [add_zero];unfold AH.cell;rw [show H2.get H1.next=some B from AH.get_push_same _ _];rfl
  simp only [rdCells,this]
 have hone:([.int .i64 z]:List Value).all one=true:=rfl;have nd':((s.2.2++[x]).map (·.born)).Nodup:=by
  rw [List.map_append,List.nodup_append];refine ⟨h.nd,by simp,fun a ha b hb e=>?_⟩;simp only [List.map_cons,List.map_nil,List.mem_singleton] at hb;rw [e,hb] at ha;exact hn (by simpa using ha)
 have sub':∀y∈s.2.2++[x],y∈es:=fun y hy=>by
  rcases List.mem_append.1 hy with hy | hy
  ·exact h.sub y hy
  ·rw [List.mem_singleton] at hy; rw [hy]; exact hx
 have it':((s.2.2++[x]).map (·.born)).toArray=(s.2.2.map (·.born)).toArray.push x.born:=by simp
 have hpos:H.next≠H1.next:=by rw [n1,h.next]; omega
 rcases hc with ⟨hz0,hs⟩ | ⟨hzn,hs,hg⟩
 ·
  have hl0:s.2.2=[]:=by
   rw [hz0] at hlen;exact List.length_eq_zero_iff.1 hlen.symm
  refine ⟨⟨some ⟨H1.next,0,none⟩,1,1⟩,H2,⟨some ⟨H2.next,0,none⟩,1,OPEN⟩,H2.push (rowB e [z]),rfl,?_,?_⟩
  ·unfold appS;simp only [Nat.mul_one];rw [hrow];simp only [hone,if_true];unfold appL;rw [if_neg (by omega),hs];simp only [Sl3.nil,and_self,if_true];unfold grownS;rw [if_pos ⟨by omega,by omega⟩];rfl
  ·have n2':H2.next=H.next+2:=by rw [n2,hl0]; rfl
   refine ⟨?_,fun id hid=>?_,?_,nd',sub',zs++[z],z4k hk hz,.inr ⟨by simp,?_,?_⟩⟩
   ·show H2.next+1=_;rw [n2',hl0]; rfl
   ·show (H2.push _).get id=_;rw [AH.get_push_other _ _ (by omega),g2 id (by rw [n1,h.next]; omega),g1 id (by omega)];exact h.low id hid
   ·show (H2.push _).get H.next=_;rw [AH.get_push_other _ _ (by omega),g2 _ hpos,AH.get_put_same,it']
   ·rw [hz0];show _=(⟨some ⟨H.next+2*1,0,none⟩,1,OPEN⟩:Sl3);rw [n2']
   ·rw [hz0];show (H2.push _).get (H.next+2*1)=_;rw [show H.next+2*1=H2.next by rw [n2'],AH.get_push_same];rfl
 ·
  have hzl:0<zs.length:=List.length_pos_iff.2 hzn;have hold:H2.get (H.next+2*zs.length)=some (rowB e zs):=by
   rw [g2 _ (by rw [n1,h.next]; omega),g1 _ (by omega)];exact hg
  have hrd:rdCells H2 ⟨H.next+2*zs.length,0,none⟩ 0 zs.length=some (zs.map fun z=>Value.int .i64 z):=by
   have:=J7 (H:=H2) (a:=⟨H.next+2*zs.length,0,none⟩) (zs.map fun z=>Value.int .i64 z) 0 fun i hi=>by
    rw [List.length_map] at hi;rw [Nat.zero_add,U5];unfold AH.cell;simp only [hold,rowB,Nat.zero_add];rw [z3q,List.getElem?_eq_getElem hi,List.getElem_map];rfl
   rw [List.length_map] at this;exact this
  let H3:=H2.put (H.next+2*zs.length) dead
  have n3:H3.next=H2.next:=rfl;refine ⟨⟨some ⟨H1.next,0,none⟩,1,1⟩,H2,⟨some ⟨H3.next,0,none⟩,zs.length+1,OPEN⟩,H3.push (rowB e (zs++[z])),rfl,?_,?_⟩
  ·unfold appS;simp only [Nat.mul_one];rw [hrow];simp only [hone,if_true];unfold appL;rw [if_neg (by omega),hs];simp only [Nat.mul_one,hrd,if_true];have hob:ownedB m H2 ⟨H.next+2*zs.length,0,none⟩ e 1=true:=by
    unfold ownedB;simp only [hold,rowB];rw [ble_of (by omega),Nat.beq_refl,Nat.beq_refl];rfl
   rw [if_pos ⟨hob,hone⟩];unfold grownS;rw [if_pos ⟨by omega,by omega⟩];have:(List.map (fun z=>Value.int .i64 z) zs++[Value.int .i64 z]).toArray=zcells (zs++[z]):=by unfold zcells; rw [List.map_append]; rfl
   rw [this];rfl
  ·refine ⟨?_,fun id hid=>?_,?_,nd',sub',zs++[z],z4k hk hz,.inr ⟨by simp,?_,?_⟩⟩
   ·show H3.next+1=_;rw [n3,n2,List.length_append];simp only [List.length_singleton]; omega
   ·show (H3.push _).get id=_;rw [AH.get_push_other _ _ (by rw [n3,n2]; omega),show H3.get id=H2.get id from AH.get_put_other _ _ (by omega),g2 id (by rw [n1,h.next]; omega),g1 id (by omega)];exact h.low id hid
   ·show (H3.push _).get H.next=_;rw [AH.get_push_other _ _ (by rw [n3,n2]; omega),show H3.get H.next=H2.get H.next from AH.get_put_other _ _ (by omega),g2 _ hpos,AH.get_put_same,it']
   ·show (⟨some ⟨H3.next,0,none⟩,zs.length+1,OPEN⟩:Sl3)=_;rw [List.length_append,n3,n2,hlen];simp only [List.length_singleton];rw [show H.next+2*s.2.2.length+2=H.next+2*(s.2.2.length+1) by omega]
   ·show (H3.push _).get (H.next+2*(zs++[z]).length)=_;rw [List.length_append];simp only [List.length_singleton];rw [show H.next+2*(zs.length+1)=H3.next by rw [n3,n2,hlen]; omega,AH.get_push_same]
end Go.Abs
namespace Go.Abs
open Go.Shelf Go.Proofs
variable {P:Program} {ne:NE} {m:Nat}
theorem zfj {ρ:Ren} (Ly:LaysM.n171 P ρ) (hf:∃fn c,P.funcs[ρ.f 171]? = some fn∧fn.body=some c) {g:Nat} (hg:P.globalNamed "internal/strconv.uint64pow10"=some g) (hgl:g<P.globals.size) {H:AH} {c:Array Value} {e:TypeId} {esz:Nat} {ro:Bool}
  (hb:H.get g=some { obj:=.cells c e (0,0),opn:=false,esz:=esz,ro:=ro }) (hc:c=(Lib.pow10Tab.map fun z=>Value.int .u64 z).toArray) {n:Int} (h0:-9223372036854775808≤n) (h1:n≤9223372036854775807) :
  CallS P ne m (ρ.f 171) #[.int .i64 n] H (.string ⟨(Lib.itoa n).toArray⟩) H:=by
 intro hS;refine ⟨hf,fun φ w args' hG ha hi=>?_⟩;obtain ⟨l,c',f',g1,g2,g3⟩:=hi.cells hb rfl;obtain ⟨l',k1,k2,k3⟩:=hG g hgl;rw [g1] at k1;cases k1;have harg:args'=#[.int .i64 n]:=by
  obtain ⟨hsz,hel⟩:=ha;have hsz:args'.size=1:=hsz.symm;obtain ⟨x',rfl⟩:∃x',args'=#[x']:=by
   match args',hsz with
   | ⟨[x']⟩,_=>exact ⟨x',rfl⟩
  have hx:=hel 0 _ _ rfl rfl;cases hx;rfl
 subst harg;obtain ⟨e1,e2⟩:=g3.exact_ rfl;have hcc:c'=c:=by
  refine Array.ext e2 fun i hi1 hi2=>?_;obtain ⟨v',q1,q2⟩:=g3.cell i c[i] (Array.getElem?_eq_getElem hi2);rw [e1,Nat.zero_add,Array.getElem?_eq_getElem hi1] at q1;cases q1;have:∃z,c[i]=Value.int .u64 z:=by
   subst hc;simp
  obtain ⟨z,hz⟩:=this;rw [hz] at q2 ⊢;generalize c'[i]=y at q2;cases q2;rfl
 have htab:Lib.TabIs P w "internal/strconv.uint64pow10" .u64 Lib.pow10Tab:=by
  unfold Lib.TabIs World.var?;rw [hg];rw [k2] at g2;simp only [Option.bind_some,g2,hcc,hc]
 refine (Any.strconv_Itoa Ly n h0 h1 w htab).mono fun en w' hh=>?_;obtain ⟨rfl,k,os,rfl⟩:=hh;have hi0:Inv φ H (w.drewN k):=⟨hi.dom,hi.obj,hi.sep⟩;have hst:Step m φ H w φ H (Go.Sort.grow (w.drewN k) os) :=
  ⟨Nat.le_refl _,Inj.le_refl _,fun id l h h'=>(by rw [h] at h'; cases h'),fun _ h=>.inl h,by show w.heap.size≤(w.heap++os).size; simp,fun c hc _=>by
   show (w.heap++os)[c]? = _;rw [Array.getElem?_append_left hc],rfl,rfl,rfl⟩
 exact ⟨φ,.string ⟨(Lib.itoa n).toArray⟩,rfl,.string _,hi0.grow os,hst⟩
end Go.Abs
namespace Go.Abs.Eg
abbrev Lb:=Int×Int×Int×Bool
def US (fe:List Ed) (i j:Nat) (l:Lb):Prop:=fe[i]? = some ((j:Int),l)∨fe[j]? = some ((i:Int),l)
def Tagged (sd:List Sd) (t:Int) (i j:Nat):Prop:=∃s∈sd,s.2.2.2=false∧s.2.2.1=t∧(s.1=i∧s.2.1=j∨s.1=j∧s.2.1=i)
theorem Tagged.symm {sd:List Sd} {t:Int} {i j:Nat} (h:Tagged sd t i j):Tagged sd t j i:=by
 obtain ⟨s,h1,h2,h3,h4⟩:=h;exact ⟨s,h1,h2,h3,h4.symm⟩
theorem Tagged.mono {sd sd':List Sd} {t:Int} {i j:Nat} (h:Tagged sd t i j) (hs:∀s∈sd,s∈sd'):Tagged sd' t i j:=by
 obtain ⟨s,h1,h2⟩:=h;exact ⟨s,hs s h1,h2⟩
inductive Ju (N:List Nd) (sd:List Sd) (U:Nat→Nat→Lb→Prop):Nat→Nat→Prop
 | refl (i:Nat):Ju N sd U i i
 | symm {i j:Nat}:Ju N sd U i j→Ju N sd U j i
 | trans {i j k:Nat}:Ju N sd U i j→Ju N sd U j k→Ju N sd U i k
 | tag {i j:Nat} {t f o:Int}:U i j (t,f,o,false)→Tagged sd t i j→Ju N sd U i j
 | cong {i j a b:Nat} {t:Int} {x y:Nd}:U i j (t,(a:Int),(b:Int),true)→(i=a∧j=b∨i=b∧j=a)→N[a]? = some x→N[b]? = some y→x.value=y.value→x.sym=y.sym→x.args.length=y.args.length →
   (∀(k u v:Nat),x.args[k]? = some u→y.args[k]? = some v→Ju N sd U u v)→Ju N sd U i j
def LOK (N:List Nd) (sd:List Sd) (U:Nat→Nat→Lb→Prop) (i j:Nat) (l:Lb):Prop :=
 (l.2.2.2=false∧Tagged sd l.1 i j)∨(l.2.2.2=true∧∃(a b:Nat) (x y:Nd),l.2.1=a∧l.2.2.1=b∧(i=a∧j=b∨i=b∧j=a)∧N[a]? = some x∧N[b]? = some y∧x.value=y.value∧x.sym=y.sym∧x.args.length=y.args.length ∧
  ∀(k u v:Nat),x.args[k]? = some u→y.args[k]? = some v→Ju N sd U u v)
section
variable {N N':List Nd} {sd sd':List Sd} {U U':Nat→Nat→Lb→Prop} {i j:Nat} {l:Lb}
theorem Ju.of (hU:U i j l) (h:LOK N sd U i j l):Ju N sd U i j:=by
 obtain ⟨t,f,o,c⟩:=l;rcases h with ⟨rfl,h⟩ | ⟨rfl,a,b,x,y,rfl,rfl,h1,h2,h3,h4,h5,h6,h7⟩
 ·exact .tag hU h
 ·exact .cong hU h1 h2 h3 h4 h5 h6 h7
theorem Ju.mono (hN:∀(i:Nat) x,N[i]? = some x→N'[i]? = some x) (hs:∀s∈sd,s∈sd') (hU:∀i j l,U i j l→U' i j l) (h:Ju N sd U i j):Ju N' sd' U' i j:=by
 induction h with
 | refl i=>exact .refl i
 | symm _ ih=>exact .symm ih
 | trans _ _ h1 h2=>exact .trans h1 h2
 | tag h1 h2=>exact .tag (hU _ _ _ h1) (h2.mono hs)
 | cong h1 h2 h3 h4 h5 h6 h7 _ ih=>exact .cong (hU _ _ _ h1) h2 (hN _ _ h3) (hN _ _ h4) h5 h6 h7 ih
theorem LOK.symm (h:LOK N sd U i j l):LOK N sd U j i l:=by
 rcases h with ⟨h1,h2⟩ | ⟨h1,a,b,x,y,h2,h3,h4,h5⟩
 ·exact .inl ⟨h1,h2.symm⟩
 ·exact .inr ⟨h1,a,b,x,y,h2,h3,h4.symm.imp (fun h=>⟨h.2,h.1⟩) (fun h=>⟨h.2,h.1⟩),h5⟩
theorem LOK.mono (hN:∀(i:Nat) x,N[i]? = some x→N'[i]? = some x) (hs:∀s∈sd,s∈sd') (hU:∀i j l,U i j l→U' i j l) (h:LOK N sd U i j l):LOK N' sd' U' i j l:=by
 rcases h with ⟨h1,h2⟩ | ⟨h1,a,b,x,y,h2,h3,h4,h5,h6,h7,h8,h9,h10⟩
 ·exact .inl ⟨h1,h2.mono hs⟩
 ·exact .inr ⟨h1,a,b,x,y,h2,h3,h4,hN _ _ h5,hN _ _ h6,h7,h8,h9,fun k u v hu hv=>(h10 k u v hu hv).mono hN hs hU⟩
end
def LI (N:List Nd) (sd:List Sd) (fe:List Ed) (n:Nat) (o:Nat→Nat):Prop:=∀i j,i<n→j<n→o i=o j→Ju N sd (US fe) i j
theorem US.set {fe:List Ed} {a b:Nat} {l l0:Lb} (ha:fe[a]? = some (-1,l0)) (hb:a<fe.length) {i j:Nat} {l1:Lb} (h:US fe i j l1):US (fe.set a ((b:Int),l)) i j l1:=by
 have key:∀i j:Nat,fe[i]? = some ((j:Int),l1)→(fe.set a ((b:Int),l))[i]? = some ((j:Int),l1):=fun i j h=>by
  by_cases e:a=i
  ·subst e;rw [ha] at h;simp only [Option.some.injEq,Prod.mk.injEq] at h;omega
  ·rw [List.getElem?_set_ne e]; exact h
 rcases h with h | h
 ·exact .inl (key _ _ h)
 ·exact .inr (key _ _ h)
theorem US.new {fe:List Ed} {a b:Nat} {l:Lb} (hb:a<fe.length):US (fe.set a ((b:Int),l)) a b l:=.inl (by rw [List.getElem?_set_self hb])
theorem LI.join {N:List Nd} {sd:List Sd} {fe:List Ed} {n:Nat} {o:Nat→Nat} (h:LI N sd fe n o) {a b:Nat} {l l0:Lb} (han:a<n) (hbn:b<n) (ha:fe[a]? = some (-1,l0)) (hl:a<fe.length) (hk:LOK N sd (US fe) a b l)
  {o':Nat→Nat} (ho:∀i,i<n→o' i=re (o a) (o b) (o i)):LI N sd (fe.set a ((b:Int),l)) n o':=by
 have up:∀{i j},Ju N sd (US fe) i j→Ju N sd (US (fe.set a ((b:Int),l))) i j:=fun hj=>hj.mono (fun _ _ h=>h) (fun _ h=>h) fun _ _ _ hu=>hu.set ha hl;have hab:Ju N sd (US (fe.set a ((b:Int),l))) a b:=Ju.of (US.new hl) (hk.mono (fun _ _ h=>h) (fun _ h=>h) fun _ _ _ hu=>hu.set ha hl);intro i j hi hj e;rw [ho i hi,ho j hj] at e;have toB:∀i,i<n→(o i=o a∨o i=o b)→Ju N sd (US (fe.set a ((b:Int),l))) i b:=by
  rintro i hi (e | e)
  ·exact (up (h i a hi han e)).trans hab
  ·exact up (h i b hi hbn e)
 rcases (re_eq (o a) (o b) _ _).1 e with e | ⟨e1,e2⟩
 ·exact up (h i j hi hj e)
 ·exact (toB i hi e1).trans (toB j hj e2).symm
inductive Pa (fe:List Ed):Nat→List Nat→Prop
 | root {i:Nat} {l:Lb}:fe[i]? = some (-1,l)→Pa fe i [i]
 | step {i j:Nat} {l:Lb} {p:List Nat}:fe[i]? = some ((j:Int),l)→Pa fe j p→Pa fe i (i :: p)
section
variable {fe:List Ed} {i j:Nat} {p q:List Nat}
theorem Way.pa {fo:List Int} (h:Way fo i) (hf:fe.map (·.1)=fo):∃p,Pa fe i p:=by
 induction h with
 | root h =>
  rename_i i;rw [← hf,List.getElem?_map] at h;cases hx:fe[i]? with
  | none=>rw [hx] at h; cases h
  | some x =>
   rw [hx] at h;obtain ⟨t,l⟩:=x;simp only [Option.map_some,Option.some.injEq] at h;subst h;exact ⟨_,.root hx⟩
 | step h _ ih =>
  rename_i i j _;obtain ⟨p,hp⟩:=ih;rw [← hf,List.getElem?_map] at h;cases hx:fe[i]? with
  | none=>rw [hx] at h; cases h
  | some x =>
   rw [hx] at h;obtain ⟨t,l⟩:=x;simp only [Option.map_some,Option.some.injEq] at h;subst h;exact ⟨_,.step hx hp⟩
theorem Pa.uniq (h:Pa fe i p):∀{q},Pa fe i q→p=q:=by
 induction h with
 | root h =>
  intro q h';cases h' with
  | root _=>rfl
  | step h' _=>rw [h] at h'; simp only [Option.some.injEq,Prod.mk.injEq] at h'; omega
 | step h _ ih =>
  intro q h';cases h' with
  | root h'=>rw [h] at h'; simp only [Option.some.injEq,Prod.mk.injEq] at h'; omega
  | step h' hp =>
   rw [h] at h';simp only [Option.some.injEq,Prod.mk.injEq] at h';obtain rfl:_=_:=Int.ofNat.inj h'.1;rw [ih hp]
theorem Pa.mem (h:Pa fe i p) {n:Nat} (hn:n∈p):∃u r,p=u++r∧Pa fe n r:=by
 induction h with
 | root h =>
  rw [List.mem_singleton] at hn;subst hn;exact ⟨[],_,rfl,.root h⟩
 | step h hp ih =>
  rcases List.mem_cons.1 hn with e | e
  ·subst e;exact ⟨[],_,rfl,.step h hp⟩
  ·obtain ⟨u,r,h1,h2⟩:=ih e;exact ⟨_ :: u,r,by rw [h1]; rfl,h2⟩
theorem Pa.head (h:Pa fe i p):∃r,p=i :: r:=by
 cases h with
 | root h=>exact ⟨[],rfl⟩
 | step h hp=>exact ⟨_,rfl⟩
theorem Pa.nodup (h:Pa fe i p):p.Nodup:=by
 induction h with
 | root h=>simp
 | step h hp ih =>
  rename_i i j l p;refine List.nodup_cons.2 ⟨fun hm=>?_,ih⟩;obtain ⟨u,r,h1,h2⟩:=hp.mem hm;have:=(Pa.step h hp).uniq h2;have h3:=congrArg List.length h1;have h4:=congrArg List.length this;simp at h3 h4;omega
def Btw (p q:List Nat) (n:Nat):Prop:=(n∈p∧n ∉ q)∨(n∈q∧n ∉ p)
def Strip (p q x y:List Nat):Prop:=∃c,p=x++c∧q=y++c∧(x=[]∨y=[]∨x.getLast? ≠ y.getLast?)
theorem Strip.btw (hp:Pa fe i p) (hq:Pa fe j q) {x y:List Nat} (h:Strip p q x y) (n:Nat):n∈x++y↔Btw p q n:=by
 obtain ⟨c,rfl,rfl,hl⟩:=h;have nx:=hp.nodup;have ny:=hq.nodup;rw [List.nodup_append] at nx ny;have both:∀n,n∈x→n∈y→False:=by
  intro n h1 h2;obtain ⟨u,r,e1,r1⟩:=hp.mem (n:=n) (List.mem_append_left _ h1);obtain ⟨v,r',e2,r2⟩:=hq.mem (n:=n) (List.mem_append_left _ h2);obtain rfl:=r1.uniq r2;obtain ⟨r0,hr0⟩:=r1.head;have nr:n ∉ c:=fun hc=>(nx.2.2 n h1 n hc) rfl;have cut:∀(z w:List Nat),z++c=w++r→∃d,z=w++d∧r=d++c:=by
   intro z w e;rcases List.append_eq_append_iff.1 e with ⟨a,h1,h2⟩ | ⟨a,h1,h2⟩
   ·exfalso;apply nr;rw [h2,hr0];simp
   ·exact ⟨a,h1,h2⟩
  obtain ⟨d1,hx,hd1⟩:=cut _ _ e1;obtain ⟨d2,hy,hd2⟩:=cut _ _ e2;have hd:d1=d2:=List.append_cancel_right (hd1.symm.trans hd2);subst hd;have hne:d1≠[]:=fun e=>by
   rw [e,List.nil_append] at hd1;exact nr (by rw [← hd1,hr0]; simp)
  rcases hl with h | h | h
  ·rw [h] at h1; cases h1
  ·rw [h] at h2; cases h2
  ·apply h;rw [hx,hy,List.getLast?_append,List.getLast?_append];cases hq:d1.getLast? with
   | none=>exact absurd (List.getLast?_eq_none_iff.1 hq) hne
   | some z=>rfl
 unfold Btw;constructor
 ·intro h;rcases List.mem_append.1 h with h | h
  ·refine .inl ⟨List.mem_append_left _ h,fun hh=>?_⟩;rcases List.mem_append.1 hh with hh | hh
   ·exact both n h hh
   ·exact nx.2.2 n h n hh rfl
  ·refine .inr ⟨List.mem_append_left _ h,fun hh=>?_⟩;rcases List.mem_append.1 hh with hh | hh
   ·exact both n hh h
   ·exact ny.2.2 n h n hh rfl
 ·rintro (⟨h1,h2⟩ | ⟨h1,h2⟩)
  ·rcases List.mem_append.1 h1 with h1 | h1
   ·exact List.mem_append_left _ h1
   ·exact absurd (List.mem_append_right _ h1) h2
  ·rcases List.mem_append.1 h1 with h1 | h1
   ·exact List.mem_append_right _ h1
   ·exact absurd (List.mem_append_right _ h1) h2
theorem z8g {p:List Nat} (h:p≠[]) (c:List Nat):p.dropLast++(p.getLast h :: c)=p++c:=by
 have:=List.dropLast_concat_getLast h;rw [show p.dropLast++(p.getLast h :: c)=(p.dropLast++[p.getLast h])++c by simp,this]
theorem Strip.exists:∀(p q:List Nat),∃x y,Strip p q x y:=by
 intro p q;generalize hn:p.length=n;have key:∀(n:Nat) (p q c:List Nat),p.length=n→∃x y,∃c',p++c=x++c'∧q++c=y++c'∧(x=[]∨y=[]∨x.getLast? ≠ y.getLast?):=by
  intro n;induction n with
  | zero =>
   intro p q c hp;obtain rfl:=List.length_eq_zero_iff.1 hp;exact ⟨[],q,c,rfl,rfl,.inl rfl⟩
  | succ n ih =>
   intro p q c hp;by_cases hq:q=[]
   ·subst hq; exact ⟨p,[],c,rfl,rfl,.inr (.inl rfl)⟩
   ·by_cases e:p.getLast? = q.getLast?
    ·have hpn:p≠[]:=fun e=>by rw [e] at hp; cases hp
     rw [List.getLast?_eq_some_getLast hpn,List.getLast?_eq_some_getLast hq] at e;have e:=Option.some.inj e;obtain ⟨x,y,c',h1,h2,h3⟩:=ih p.dropLast q.dropLast (p.getLast hpn :: c) (by rw [List.length_dropLast]; omega);refine ⟨x,y,c',?_,?_,h3⟩
     ·rw [← h1]; exact (z8g hpn c).symm
     ·rw [← h2,e]; exact (z8g hq c).symm
    ·exact ⟨p,q,c,rfl,rfl,.inr (.inr e)⟩
 obtain ⟨x,y,c,h1,h2,h3⟩:=key n p q [] hn;exact ⟨x,y,c,by simpa using h1,by simpa using h2,h3⟩
end
end Go.Abs.Eg
namespace Go.Abs.Eg
def withT (sd:List Sd) (T:Int→Prop) [DecidablePred T]:List Sd:=sd.filter fun s=>decide (T s.2.2.1)
section
variable {N:List Nd} {sd:List Sd} {fe:List Ed} {T:Int→Prop} [DecidablePred T]
theorem z6x {t:Int} {i j:Nat} (h:Tagged sd t i j) (ht:T t):Cong N (Mof (withT sd T)) i j:=by
 obtain ⟨s,h1,h2,h3,h4⟩:=h;have hm:(s.1.toNat,s.2.1.toNat)∈Mof (withT sd T):=by
  unfold Mof withT;refine List.mem_filterMap.2 ⟨s,List.mem_filter.2 ⟨h1,?_⟩,by simp [h2]⟩;rw [h3]
  simpa using ht
 rcases h4 with ⟨e1,e2⟩ | ⟨e1,e2⟩
 ·rw [e1,e2] at hm;exact .base (by simpa using hm)
 ·rw [e1,e2] at hm;exact .symm (.base (by simpa using hm))
structure Clo (N:List Nd) (fe:List Ed) (D:Nat→Prop) (T:Int→Prop):Prop where
 tag:∀n j t f o,D n→fe[n]? = some ((j:Int),t,f,o,false)→T t
 cong:∀(n j a b:Nat) (t:Int) (x y:Nd) (k u v:Nat) (p q:List Nat) (c:Nat),D n→fe[n]? = some ((j:Int),t,(a:Int),(b:Int),true)→N[a]? = some x→N[b]? = some y→x.args[k]? = some u→y.args[k]? = some v→Pa fe u p→Pa fe v q→Btw p q c→D c
def Good (N:List Nd) (sd:List Sd) (fe:List Ed) (D:Nat→Prop) (T:Int→Prop) [DecidablePred T] (n:Nat):Prop:=D n→∀(j:Nat) (l:Lb),fe[n]? = some ((j:Int),l)→Cong N (Mof (withT sd T)) n j
theorem za3 {p q r:List Nat} {n:Nat} (h:Btw p r n):Btw p q n∨Btw q r n:=by
 unfold Btw at *;by_cases hq:n∈q
 ·rcases h with ⟨h1,h2⟩ | ⟨h1,h2⟩
  ·exact .inr (.inl ⟨hq,h2⟩)
  ·exact .inl (.inr ⟨hq,h2⟩)
 ·rcases h with ⟨h1,h2⟩ | ⟨h1,h2⟩
  ·exact .inl (.inl ⟨h1,hq⟩)
  ·exact .inr (.inr ⟨h1,hq⟩)
theorem zax {p q:List Nat} {n:Nat} (h:Btw p q n):Btw q p n:=Or.symm h
theorem pa_lt {i:Nat} {p:List Nat} (h:Pa fe i p):i<fe.length:=by
 cases h with
 | root h=>exact (List.getElem?_eq_some_iff.1 h).1
 | step h _=>exact (List.getElem?_eq_some_iff.1 h).1
theorem z1l {i j:Nat} {l:Lb} {p q:List Nat} (hU:US fe i j l) (hp:Pa fe i p) (hq:Pa fe j q) {n:Nat} (h:Btw p q n):(n=i∧fe[i]? = some ((j:Int),l))∨(n=j∧fe[j]? = some ((i:Int),l)):=by
 rcases hU with hU | hU
 ·have:=hp.uniq (Pa.step hU hq);subst this;rcases h with ⟨h1,h2⟩ | ⟨h1,h2⟩
  ·rcases List.mem_cons.1 h1 with e | e
   ·exact .inl ⟨e,hU⟩
   ·exact absurd e h2
  ·exact absurd (List.mem_cons_of_mem _ h1) h2
 ·have:=hq.uniq (Pa.step hU hp);subst this;rcases h with ⟨h1,h2⟩ | ⟨h1,h2⟩
  ·exact absurd (List.mem_cons_of_mem _ h1) h2
  ·rcases List.mem_cons.1 h1 with e | e
   ·exact .inr ⟨e,hU⟩
   ·exact absurd e h2
theorem zgr {i j:Nat} {l:Lb} {p q:List Nat} (hU:US fe i j l) (hp:Pa fe i p) (hq:Pa fe j q):p.getLast? = q.getLast? := by
 rcases hU with hU | hU
 ·have:=hp.uniq (Pa.step hU hq);subst this;obtain ⟨r,rfl⟩:=hq.head;simp
 ·have:=hq.uniq (Pa.step hU hp);subst this;obtain ⟨r,rfl⟩:=hp.head;simp
theorem us_lt {i j:Nat} {l:Lb} (hall:∀i,i<fe.length→∃p,Pa fe i p) (hU:US fe i j l):(∃p,Pa fe i p)∧∃q,Pa fe j q:=by
 have one:∀{i j:Nat},fe[i]? = some ((j:Int),l)→(∃p,Pa fe i p)∧∃q,Pa fe j q:=fun {i j} h=>by
  obtain ⟨p,hp⟩:=hall i (List.getElem?_eq_some_iff.1 h).1;refine ⟨⟨p,hp⟩,?_⟩;cases hp with
  | root h'=>rw [h] at h'; simp only [Option.some.injEq,Prod.mk.injEq] at h'; omega
  | step h' hp =>
   rw [h] at h';simp only [Option.some.injEq,Prod.mk.injEq] at h';obtain rfl:_=_:=Int.ofNat.inj h'.1;exact ⟨_,hp⟩
 rcases hU with h | h
 ·exact one h
 ·exact (one h).symm
theorem N8 (hall:∀i,i<fe.length→∃p,Pa fe i p) {i j:Nat} (h:Ju N sd (US fe) i j):(∀p q,Pa fe i p→Pa fe j q→p.getLast? = q.getLast?)∧((∃p,Pa fe i p)↔∃q,Pa fe j q):=by
 have edge:∀{i j l},US fe i j l→(∀p q,Pa fe i p→Pa fe j q→p.getLast? = q.getLast?)∧((∃p,Pa fe i p)↔∃q,Pa fe j q):=fun hU=>⟨fun p q hp hq=>zgr hU hp hq,by
  obtain ⟨h1,h2⟩:=us_lt hall hU;exact ⟨fun _=>h2,fun _=>h1⟩⟩
 induction h with
 | refl i=>exact ⟨fun p q hp hq=>by rw [hp.uniq hq],Iff.rfl⟩
 | symm _ ih=>exact ⟨fun p q hp hq=>(ih.1 q p hq hp).symm,ih.2.symm⟩
 | trans _ _ h1 h2 =>
  refine ⟨fun p q hp hq=>?_,h1.2.trans h2.2⟩;obtain ⟨r,hr⟩:=h1.2.1 ⟨p,hp⟩;exact (h1.1 p r hp hr).trans (h2.1 r q hr hq)
 | tag hU _=>exact edge hU
 | cong hU _ _ _ _ _ _ _ _=>exact edge hU
theorem along {C:Nat→Nat→Prop} (hr:∀i,C i i) (ht:∀i j k,C i j→C j k→C i k):∀(x:List Nat) {i:Nat} {c:List Nat} {z:Nat},Pa fe i (x++z :: c)→(∀n∈x,∀(j:Nat) (l:Lb),fe[n]? = some ((j:Int),l)→C n j)→C i z:=by
 intro x;induction x with
 | nil =>
  intro i c z hp _;obtain ⟨r,hr'⟩:=hp.head;simp only [List.nil_append,List.cons.injEq] at hr';rw [hr'.1];exact hr i
 | cons n x ih =>
  intro i c z hp hC;generalize hq:(n :: x)++z :: c=q at hp;cases hp with
  | root h=>simp at hq
  | step h hp =>
   simp only [List.cons_append,List.cons.injEq] at hq;obtain ⟨rfl,rfl⟩:=hq;exact ht _ _ _ (hC n List.mem_cons_self _ _ h) (ih hp fun m hm=>hC m (List.mem_cons_of_mem _ hm))
theorem zc5 {i j:Nat} {p q:List Nat} (hp:Pa fe i p) (hq:Pa fe j q) (hl:p.getLast? = q.getLast?) {C:Nat→Nat→Prop} (hr:∀i,C i i) (hs:∀i j,C i j→C j i) (ht:∀i j k,C i j→C j k→C i k)
  (hC:∀n,Btw p q n→∀(j:Nat) (l:Lb),fe[n]? = some ((j:Int),l)→C n j):C i j:=by
 obtain ⟨x,y,hst⟩:=Strip.exists p q;have hb:=hst.btw hp hq;obtain ⟨c,rfl,rfl,hd⟩:=hst;cases c with
 | nil =>
  exfalso;simp only [List.append_nil] at hl hp hq;obtain ⟨r1,e1⟩:=hp.head;obtain ⟨r2,e2⟩:=hq.head;rcases hd with h | h | h
  ·rw [h] at e1; cases e1
  ·rw [h] at e2; cases e2
  ·exact h hl
 | cons z c =>
  have h1:=along hr ht x hp fun n hn j l hnj=>hC n ((hb n).1 (List.mem_append_left _ hn)) j l hnj;have h2:=along hr ht y hq fun n hn j l hnj=>hC n ((hb n).1 (List.mem_append_right _ hn)) j l hnj;exact ht _ _ _ h1 (hs _ _ h2)
theorem ju_out (hall:∀i,i<fe.length→∃p,Pa fe i p) {i j:Nat} (h:Ju N sd (US fe) i j) (hP:¬∃p,Pa fe i p):i=j:=by
 induction h with
 | refl i=>rfl
 | symm h ih=>exact (ih fun hh=>hP ((N8 hall h).2.1 hh)).symm
 | trans h1 _ ih1 ih2=>exact (ih1 hP).trans (ih2 fun hh=>hP ((N8 hall h1).2.2 hh))
 | tag hU _=>exact absurd (us_lt hall hU).1 hP
 | cong hU _ _ _ _ _ _ _ _=>exact absurd (us_lt hall hU).1 hP
theorem zjh (hall:∀i,i<fe.length→∃p,Pa fe i p) {D:Nat→Prop} (hc:Clo N fe D T) {i j:Nat} (h:Ju N sd (US fe) i j):∀p q,Pa fe i p→Pa fe j q→∀n,Btw p q n→Good N sd fe D T n:=by
 induction h with
 | refl i =>
  intro p q hp hq n hn;rw [hp.uniq hq] at hn;rcases hn with ⟨h1,h2⟩ | ⟨h1,h2⟩ <;> exact absurd h1 h2
 | symm _ ih=>exact fun p q hp hq n hn=>ih q p hq hp n (zax hn)
 | trans h1 _ ih1 ih2 =>
  intro p q hp hq n hn;obtain ⟨r,hr⟩:=(N8 hall h1).2.1 ⟨p,hp⟩;rcases za3 (q:=r) hn with h | h
  ·exact ih1 p r hp hr n h
  ·exact ih2 r q hr hq n h
 | tag hU ht =>
  rename_i i j t f o;intro p q hp hq n hn hD j' l' hnj;rcases z1l hU hp hq hn with ⟨rfl,h⟩ | ⟨rfl,h⟩
  ·rw [h] at hnj;simp only [Option.some.injEq,Prod.mk.injEq] at hnj;obtain rfl:_=_:=Int.ofNat.inj hnj.1;exact z6x ht (hc.tag n _ t f o hD h)
  ·rw [h] at hnj;simp only [Option.some.injEq,Prod.mk.injEq] at hnj;obtain rfl:_=_:=Int.ofNat.inj hnj.1;exact z6x ht.symm (hc.tag n _ t f o hD h)
 | cong hU hab ha hb h1 h2 h3 hj ih =>
  rename_i i j a b t x y;intro p q hp hq n hn hD j' l' hnj;have main:Cong N (Mof (withT sd T)) a b:=by
   refine .congr ha hb h1 h2 h3 fun k u v hu hv=>?_;have hju:=hj k u v hu hv;by_cases hP:∃p,Pa fe u p
   ·obtain ⟨pu,hpu⟩:=hP;obtain ⟨pv,hpv⟩:=(N8 hall hju).2.1 ⟨pu,hpu⟩;refine zc5 hpu hpv ((N8 hall hju).1 _ _ hpu hpv) (fun i=>.refl i) (fun i j h=>h.symm) (fun i j k h1 h2=>h1.trans h2) fun c hbc=>?_;have hDc:D c:=by
     rcases z1l hU hp hq hn with ⟨rfl,h⟩ | ⟨rfl,h⟩
     ·exact hc.cong n _ a b t x y k u v pu pv c hD h ha hb hu hv hpu hpv hbc
     ·exact hc.cong n _ a b t x y k u v pu pv c hD h ha hb hu hv hpu hpv hbc
    exact ih k u v hu hv pu pv hpu hpv c hbc hDc
   ·
    have:u=v:=ju_out hall hju hP;rw [this]; exact .refl v
  rcases z1l hU hp hq hn with ⟨rfl,h⟩ | ⟨rfl,h⟩ <;>
  ·rw [h] at hnj;simp only [Option.some.injEq,Prod.mk.injEq] at hnj;obtain rfl:_=_:=Int.ofNat.inj hnj.1;rcases hab with ⟨rfl,rfl⟩ | ⟨rfl,rfl⟩
   ·first | exact main | exact main.symm
   ·first | exact main.symm | exact main
theorem why_ok (hall:∀i,i<fe.length→∃p,Pa fe i p) {D:Nat→Prop} (hc:Clo N fe D T) {i j:Nat} (h:Ju N sd (US fe) i j) {p q:List Nat} (hp:Pa fe i p) (hq:Pa fe j q) (hD:∀n,Btw p q n→D n):Cong N (Mof (withT sd T)) i j :=
 zc5 hp hq ((N8 hall h).1 p q hp hq) (fun i=>.refl i) (fun i j h=>h.symm) (fun i j k h1 h2=>h1.trans h2) fun n hn j l hnj=>zjh hall hc h p q hp hq n hn (hD n hn) j l hnj
end
end Go.Abs.Eg
namespace Go.Abs.Eg
def USx (fe:List Ed) (c i j:Nat) (l:Lb):Prop:=(i≠c∧fe[i]? = some ((j:Int),l))∨(j≠c∧fe[j]? = some ((i:Int),l))
def Ed1 (c:Nat) (z:Ed) (i j:Nat) (l:Lb):Prop:=(i=c∧z=((j:Int),l))∨(j=c∧z=((i:Int),l))
theorem us_at {fe:List Ed} {c:Nat} (hc:c<fe.length) (i j:Nat) (l:Lb):US fe i j l↔USx fe c i j l∨Ed1 c fe[c] i j l:=by
 have one:∀i j:Nat,fe[i]? = some ((j:Int),l)↔(i≠c∧fe[i]? = some ((j:Int),l))∨(i=c∧fe[c]=((j:Int),l)):=fun i j=>by
  by_cases e:i=c
  ·subst e;rw [List.getElem?_eq_getElem hc];simp
  ·simp [e]
 unfold US USx Ed1;have h1:=one i j;have h2:=one j i;constructor
 ·rintro (h | h)
  ·exact (h1.1 h).elim (fun h=>.inl (.inl h)) fun h=>.inr (.inl h)
  ·exact (h2.1 h).elim (fun h=>.inl (.inr h)) fun h=>.inr (.inr h)
 ·rintro ((h | h) | (h | h))
  ·exact .inl h.2
  ·exact .inr h.2
  ·exact .inl (h1.2 (.inr h))
  ·exact .inr (h2.2 (.inr h))
theorem us_set {fe:List Ed} {c:Nat} (hc:c<fe.length) (z:Ed) (i j:Nat) (l:Lb):US (fe.set c z) i j l↔USx fe c i j l∨Ed1 c z i j l:=by
 rw [us_at (fe:=fe.set c z) (c:=c) (by simpa using hc)];have h1:USx (fe.set c z) c i j l↔USx fe c i j l:=by
  unfold USx;refine or_congr (and_congr_right fun h=>?_) (and_congr_right fun h=>?_)
  ·rw [List.getElem?_set_ne (fun e=>h e.symm)]
  ·rw [List.getElem?_set_ne (fun e=>h e.symm)]
 rw [h1];simp
def Fl (prev:Int) (c:Nat) (lb:Lb) (i j:Nat) (l:Lb):Prop:=∃p:Nat,prev=p∧l=lb∧(i=p∧j=c∨i=c∧j=p)
theorem ed1_fl (c:Nat) (prev:Int) (lb:Lb) (i j:Nat) (l:Lb):Ed1 c (if prev<0 then (-1,0,0,0,false) else (prev,lb)) i j l↔Fl prev c lb i j l:=by
 unfold Ed1 Fl;by_cases h:prev<0
 ·rw [if_pos h];constructor
  ·rintro (⟨_,h⟩ | ⟨_,h⟩)
   ·simp only [Prod.mk.injEq] at h; omega
   ·simp only [Prod.mk.injEq] at h; omega
  ·rintro ⟨p,hp,_⟩; omega
 ·rw [if_neg h];simp only [Prod.mk.injEq];constructor
  ·rintro (⟨h1,h2,h3⟩ | ⟨h1,h2,h3⟩)
   ·exact ⟨j,h2,h3.symm,.inr ⟨h1,rfl⟩⟩
   ·exact ⟨i,h2,h3.symm,.inl ⟨rfl,h1⟩⟩
  ·rintro ⟨p,hp,h3,⟨h1,h2⟩ | ⟨h1,h2⟩⟩
   ·exact .inr ⟨h2,by rw [h1]; exact hp,h3.symm⟩
   ·exact .inl ⟨h1,by rw [h2]; exact hp,h3.symm⟩
theorem zhb (c:Nat) (z:Ed) (i j:Nat) (l:Lb) (hz:∃n:Nat,z.1=n):Ed1 c z i j l↔Fl (c:Int) z.1.toNat z.2 i j l:=by
 obtain ⟨t,lb⟩:=z;obtain ⟨n,rfl⟩:=hz;unfold Ed1 Fl;simp only [Prod.mk.injEq,Int.toNat_natCast];constructor
 ·rintro (⟨h1,h2,h3⟩ | ⟨h1,h2,h3⟩)
  ·exact ⟨c,rfl,h3.symm,.inl ⟨h1,by omega⟩⟩
  ·exact ⟨c,rfl,h3.symm,.inr ⟨by omega,h1⟩⟩
 ·rintro ⟨p,hp,h3,⟨h1,h2⟩ | ⟨h1,h2⟩⟩
  ·exact .inl ⟨by omega,by omega,h3.symm⟩
  ·exact .inr ⟨by omega,by omega,h3.symm⟩
theorem zi5 (c:Nat) (lb:Lb) (i j:Nat) (l:Lb):¬Ed1 c (-1,lb) i j l:=by
 rintro (⟨_,h⟩ | ⟨_,h⟩) <;> simp only [Prod.mk.injEq] at h <;> omega
theorem LI.us {N:List Nd} {sd:List Sd} {fe fe':List Ed} {n:Nat} {o:Nat→Nat} (h:LI N sd fe n o) (hU:∀i j l,US fe i j l→US fe' i j l):LI N sd fe' n o:=fun i j hi hj e=>(h i j hi hj e).mono (fun _ _ h=>h) (fun _ h=>h) hU
theorem zh9 {g:St} {M q:List (Nat×Nat)} {s t:Nat} {fo:List Int} {a:Nat} (h:MI g M q) (ha:a<g.n) (hs:g.o a=s) (u k:Nat) (hm:(u,k)∈(joinSt g s t fo).2) :
  u<g.n∧k<g.n∧(joinSt g s t fo).1.sig u=(joinSt g s t fo).1.sig k:=by
 have uS:=h.uses a ha; rw [hs] at uS;have useLt:∀u∈(g.c s).uses,u<g.n:=fun u hu=>let ⟨x,hx,_⟩:=(uS u).1 hu; (List.getElem?_eq_some_iff.1 hx).1
 have stay:∀{i x},g.N[i]? = some x→i ∉ (g.c s).uses→(joinSt g s t fo).1.sig i=g.sig i:=by
  intro i x hx hu;rw [zaq h.len h.args hx,sig_of hx];exact zb5 fun a ha e=>hu ((uS i).2 ⟨x,hx,a,ha,e⟩)
 have from_:=z9g (sg:=(joinSt g s t fo).1.sig) (g.c s).uses (delS g (g.c s).uses,[]);have hout:(joinSt g s t fo).2=(insS (joinSt g s t fo).1.sig (g.c s).uses (delS g (g.c s).uses,[])).2:=rfl;rw [hout] at hm;rcases from_.2 u k hm with hm | ⟨h1,h2⟩
 ·cases hm
 ·have hu:=useLt u h1;rcases h2 with h2 | ⟨h2,h3⟩
  ·have h2:delS g (g.c s).uses ((joinSt g s t fo).1.sig u)=some k:=h2;unfold delS at h2;cases hg:g.sigs ((joinSt g s t fo).1.sig u) with
   | none=>rw [hg] at h2; cases h2
   | some u' =>
    rw [hg] at h2;simp only at h2;split at h2
    ·cases h2
    ·rename_i hn;cases h2;obtain ⟨h4,h5⟩:=h.s1 _ _ hg;obtain ⟨x,hx⟩:=R5 h4;exact ⟨hu,h4,by rw [stay hx hn,h5]⟩
  ·exact ⟨hu,useLt k h2,h3.symm⟩
theorem zdo {g:St} {sd:List Sd} {fe:List Ed} (ha:∀(i:Nat) x,g.N[i]? = some x→∀a∈x.args,a<i) (h:LI g.N sd fe g.n g.o) {u k:Nat} (hu:u<g.n) (hk:k<g.n) (hs:g.sig u=g.sig k) (t:Int):LOK g.N sd (US fe) u k (t,(u:Int),(k:Int),true):=by
 obtain ⟨x,hx⟩:=R5 hu;obtain ⟨y,hy⟩:=R5 hk;rw [sig_of hx,sig_of hy] at hs;obtain ⟨h1,h2,h3,h4⟩:=key_eq hs;refine .inr ⟨rfl,u,k,x,y,rfl,rfl,.inl ⟨rfl,rfl⟩,hx,hy,h1,h2,h3,fun n a b ha' hb'=>?_⟩;have h5:=ha u x hx a (List.mem_of_getElem? ha');have h6:=ha k y hy b (List.mem_of_getElem? hb');exact h a b (by omega) (by omega) (h4 n a b ha' hb')
theorem zit {fe:List Ed} (z:Lb) {i j:Nat} {l:Lb} (h:US fe i j l):US (fe++[(-1,z)]) i j l:=by
 rcases h with h | h
 ·exact .inl (by rw [List.getElem?_append_left (List.getElem?_eq_some_iff.1 h).1]; exact h)
 ·exact .inr (by rw [List.getElem?_append_left (List.getElem?_eq_some_iff.1 h).1]; exact h)
theorem LI.beg {g:St} {sd:List Sd} {fe:List Ed} (h:LI g.N sd fe g.n g.o) (hl:g.of.length=g.n) (hc:∀i,i<g.n→g.o i<g.cls.length) (y:Nd) (z:Lb):LI (g.N++[y]) sd (fe++[(-1,z)]) (g.n+1) (begSt g y).o:=by
 intro i j hi hj e;by_cases hin:i=g.n
 ·by_cases hjn:j=g.n
  ·rw [hin,hjn]; exact .refl _
  ·exfalso;rw [hin,z39 hl,B5 hl (by omega)] at e;have:=hc j (by omega);omega
 ·by_cases hjn:j=g.n
  ·exfalso;rw [hjn,z39 hl,B5 hl (by omega)] at e;have:=hc i (by omega);omega
  ·rw [B5 hl (by omega),B5 hl (by omega)] at e;refine (h i j (by omega) (by omega) e).mono (fun k x hk=>?_) (fun _ h=>h) fun _ _ _ hu=>zit z hu;rw [List.getElem?_append_left (List.getElem?_eq_some_iff.1 hk).1];exact hk
def nd (n:Nat):Nat:=if h:n<10 then 1 else nd (n / 10)+1
termination_by n
decreasing_by exact Nat.div_lt_self (by omega) (by omega)
theorem z1j {n:Nat} (h:n<10):nd n=1:=by rw [nd]; simp [h]
theorem nd_big {n:Nat} (h:¬n<10):nd n=nd (n / 10)+1:=by rw [nd]; simp [h]
theorem nd_pos (n:Nat):1≤nd n:=by
 by_cases h:n<10
 ·rw [z1j h]; exact Nat.le_refl _
 ·rw [nd_big h]; omega
theorem nd_lt:∀(n:Nat),n<10 ^ nd n:=by
 intro n;induction n using Nat.strongRecOn with
 | ind n ih =>
  by_cases h:n<10
  ·rw [z1j h]; omega
  ·rw [nd_big h,Nat.pow_succ];have:=ih (n / 10) (Nat.div_lt_self (by omega) (by omega));omega
theorem nd_le:∀(d n:Nat),n<10 ^ (d+1)→nd n≤d+1:=by
 intro d;induction d with
 | zero=>intro n h; rw [z1j (by simpa using h)]; exact Nat.le_refl _
 | succ d ih =>
  intro n h;by_cases h':n<10
  ·rw [z1j h']; omega
  ·rw [nd_big h'];have:=ih (n / 10) (by rw [Nat.pow_succ] at h; omega);omega
def decD:Nat→Nat→List Nat
 | 0,_=>[]
 | d+1,n=>decD d (n / 10)++[48+n % 10]
theorem z77:∀(d n:Nat),(decD d n).length=d
 | 0,_=>rfl
 | d+1,n=>by simp [decD,z77 d]
def valD (l:List Nat):Nat:=l.foldl (fun a b=>a*10+(b - 48)) 0
theorem z7g:∀(d n:Nat),n<10 ^ d→valD (decD d n)=n
 | 0,n,h=>by simp at h; subst h; rfl
 | d+1,n,h=>by
  unfold decD valD;rw [List.foldl_append];have:=z7g d (n / 10) (by rw [Nat.pow_succ] at h; omega);unfold valD at this;rw [this];simp only [List.foldl_cons,List.foldl_nil];omega
theorem z76:∀(d n:Nat) (b:Nat),b∈decD d n→48≤b∧b≤57
 | 0,_,b,h=>by cases h
 | d+1,n,b,h=>by
  unfold decD at h;rcases List.mem_append.1 h with h | h
  ·exact z76 d _ b h
  ·rw [List.mem_singleton] at h; omega
def itoaL (a:Int):List Nat:=(if a<0 then [45] else [])++decD (nd a.natAbs) a.natAbs
theorem z5i (a:Int) (b:Nat) (h:b∈itoaL a):b=45∨48≤b∧b≤57:=by
 unfold itoaL at h;rcases List.mem_append.1 h with h | h
 ·split at h
  ·rw [List.mem_singleton] at h; exact .inl h
  ·cases h
 ·exact .inr (z76 _ _ _ h)
theorem zbp {n n':Nat} (h:decD (nd n) n=decD (nd n') n'):n=n':=by
 rw [← z7g _ _ (nd_lt n),h,z7g _ _ (nd_lt n')]
theorem z9f (n:Nat):∃b l,decD (nd n) n=b :: l∧48≤b:=by
 cases h:decD (nd n) n with
 | nil =>
  have:=congrArg List.length h;rw [z77] at this;have:=nd_pos n;simp at *;omega
 | cons b l=>exact ⟨b,l,rfl,(z76 (nd n) n b (by rw [h]; simp)).1⟩
theorem z9y {a b:Int} (h:itoaL a=itoaL b):a=b:=by
 unfold itoaL at h;obtain ⟨x,l,hx,hx48⟩:=z9f a.natAbs;obtain ⟨y,l',hy,hy48⟩:=z9f b.natAbs;by_cases ha:a<0 <;> by_cases hb:b<0
 ·rw [if_pos ha,if_pos hb] at h;have:=zbp (List.append_cancel_left h);omega
 ·rw [if_pos ha,if_neg hb,hy] at h;simp at h;omega
 ·rw [if_neg ha,if_pos hb,hx] at h;simp at h;omega
 ·rw [if_neg ha,if_neg hb] at h;have:=zbp (List.append_cancel_left h);omega
theorem z8y:∀{l1 l2 r1 r2:List Nat},(∀b∈l1,b≠32)→(∀b∈l2,b≠32)→(r1=[]∨∃t,r1=32 :: t)→(r2=[]∨∃t,r2=32 :: t)→l1++r1=l2++r2→l1=l2∧r1=r2
 | [],[],r1,r2,_,_,_,_,h=>⟨rfl,by simpa using h⟩
 | [],b :: l2,r1,r2,_,h2,h3,_,h=>by
  exfalso;rcases h3 with rfl | ⟨t,rfl⟩
  ·simp at h
  ·simp at h;exact h2 b (by simp) h.1.symm
 | a :: l1,[],r1,r2,h1,_,_,h4,h=>by
  exfalso;rcases h4 with rfl | ⟨t,rfl⟩
  ·simp at h
  ·simp at h;exact h1 a (by simp) h.1
 | a :: l1,b :: l2,r1,r2,h1,h2,h3,h4,h=>by
  simp only [List.cons_append,List.cons.injEq] at h;obtain ⟨e1,e2⟩:=z8y (fun c hc=>h1 c (List.mem_cons_of_mem _ hc)) (fun c hc=>h2 c (List.mem_cons_of_mem _ hc)) h3 h4 h.2;exact ⟨by rw [h.1,e1],e2⟩
def argsL (l:List Nat):List Nat:=l.flatMap fun (a:Nat)=>32 :: itoaL (a:Int)
theorem z1b (l:List Nat):argsL l=[]∨∃t,argsL l=32 :: t:=by
 cases l with
 | nil=>exact .inl rfl
 | cons a l=>exact .inr ⟨_,rfl⟩
theorem z68 (a:Int):∀b∈itoaL a,b≠32:=fun b hb=>by
 have:=z5i a b hb;omega
theorem z9u:∀{l l':List Nat},argsL l=argsL l'→l=l'
 | [],[],_=>rfl
 | [],a :: l,h=>by simp [argsL] at h
 | a :: l,[],h=>by simp [argsL] at h
 | a :: l,b :: l',h=>by
  have h:32 :: (itoaL (a:Int)++argsL l)=32 :: (itoaL (b:Int)++argsL l'):=h;simp only [List.cons.injEq,true_and] at h;obtain ⟨e1,e2⟩:=z8y (z68 _) (z68 _) (z1b l) (z1b l') h;have e1:=z9y e1;have e1:a=b:=by omega
  rw [e1,z9u e2]
def txL (k:Key):List Nat:=(if k.1 then 118 else 115) :: (itoaL k.2.1++argsL k.2.2)
theorem zjp {k k':Key} (h:txL k=txL k'):k=k':=by
 obtain ⟨v,s,l⟩:=k;obtain ⟨v',s',l'⟩:=k';unfold txL at h;simp only [List.cons.injEq] at h;obtain ⟨h1,h2⟩:=h;have ev:v=v':=by cases v <;> cases v' <;> simp at h1 <;> rfl
 obtain ⟨e1,e2⟩:=z8y (z68 _) (z68 _) (z1b l) (z1b l') h2;rw [ev,z9y e1,z9u e2]
def bytesL (l:List Nat):ByteArray:=⟨(l.map Nat.toUInt8).toArray⟩
theorem z84:∀{l l':List Nat},(∀b∈l,b<256)→(∀b∈l',b<256)→l.map Nat.toUInt8=l'.map Nat.toUInt8→l=l'
 | [],[],_,_,_=>rfl
 | [],b :: l',_,_,h=>by simp at h
 | a :: l,[],_,_,h=>by simp at h
 | a :: l,b :: l',h1,h2,h=>by
  simp only [List.map_cons,List.cons.injEq] at h;have ha:=h1 a (by simp);have hb:=h2 b (by simp);have:a=b:=by
   have:=congrArg UInt8.toNat h.1
   simpa [Nat.toUInt8,Nat.mod_eq_of_lt ha,Nat.mod_eq_of_lt hb] using this
  rw [this,z84 (fun c hc=>h1 c (List.mem_cons_of_mem _ hc)) (fun c hc=>h2 c (List.mem_cons_of_mem _ hc)) h.2]
theorem zdy {l l':List Nat} (h1:∀b∈l,b<256) (h2:∀b∈l',b<256) (h:bytesL l=bytesL l'):l=l':=by
 unfold bytesL at h;simp only [ByteArray.mk.injEq] at h;exact z84 h1 h2 (by simpa using h)
theorem txL_lt (k:Key):∀b∈txL k,b<256:=by
 intro b hb;unfold txL at hb;rcases List.mem_cons.1 hb with h | h
 ·rw [h]; split <;> omega
 ·rcases List.mem_append.1 h with h | h
  ·have:=z5i _ _ h; omega
  ·unfold argsL at h;obtain ⟨a,_,ha⟩:=List.mem_flatMap.1 h;rcases List.mem_cons.1 ha with h | h
   ·omega
   ·have:=z5i _ _ h; omega
def txK (k:Key):ByteArray:=bytesL (txL k)
theorem zji (k k':Key) (h:txK k=txK k'):k=k':=zjp (zdy (txL_lt k) (txL_lt k') h)
theorem zal (l l':List Nat):bytesL (l++l')=bytesL l++bytesL l':=by
 unfold bytesL;rw [List.map_append];apply ByteArray.ext;simp [ByteArray.data_append]
theorem z6w (l:List Nat):(bytesL l).size=l.length:=by
 show ((l.map Nat.toUInt8).toArray).size=_;simp
end Go.Abs.Eg
namespace Go.Abs
variable {P:Program}
def BornAt (H:AH) (id:Nat):Prop:=∃es n opn esz,H.get id=some { obj:=.map es n,opn:=opn,esz:=esz,ro:=false }∧(es.toList.map (·.born)).Nodup∧∀e∈es.toList,e.born<n
theorem BornAt.fr {W:Nat→Prop} {H H':AH} {id:Nat} (h:BornAt H id) (hf:Fm W H H') (hlt:id<H.next) (hw:¬W id):BornAt H' id:=by
 obtain ⟨es,n,opn,esz,h1,h2⟩:=h;exact ⟨es,n,opn,esz,hf.2 _ _ hlt hw h1,h2⟩
theorem BornAt.new {H:AH}:BornAt (H.push mapB) H.next:=⟨#[],0,false,0,by rw [AH.get_push_same]; rfl,by simp,by simp⟩
theorem BornAt.up {H H':AH} {id m:Nat} {t:TypeId} {k v:Value} (h:BornAt H id) (hu:upM P m t H (some id) k v=some H'):BornAt H' id:=by
 obtain ⟨es,n,opn,esz,hg,hnd,hlt⟩:=h;have hm:aMapAt m H (.map (some id))=bif Nat.ble m id then some (id,{ obj:=.map es n,opn:=opn,esz:=esz,ro:=false },es,n) else none:=by
  unfold aMapAt;simp only [hg]
 have aux:∀v' H1,aUpdate P m t (.map (some id)) k v H=some (v',H1)→BornAt H1 id:=by
  intro v' H1 ha;unfold aUpdate at ha;split at ha
  ·rename_i kt e hP;rw [hm] at ha;cases hb:Nat.ble m id with
   | false=>rw [hb] at ha; cases ha
   | true =>
    rw [hb] at ha;simp only [cond_true] at ha;split at ha
    ·rename_i i w hc hf;cases hs:Instr.sameBits 10000 (((es[i]?).map (·.key)).getD k) k with
     | false=>rw [hs] at ha; cases ha
     | true =>
      rw [hs] at ha;simp only [cond_true,Option.some.injEq,Prod.mk.injEq] at ha;obtain ⟨_,rfl⟩:=ha;have e1:(es.modify i fun e=>{ e with key:=k,val:=v }).toList.map (·.born)=es.toList.map (·.born):=by
       rw [Array.toList_modify];refine List.ext_getElem? fun j=>?_;simp only [List.getElem?_map,List.getElem?_modify];by_cases hij:i=j
       ·subst hij;cases es.toList[i]? <;> simp
       ·simp [hij]
      refine ⟨_,_,_,_,AH.get_put_same _ _ _,by rw [e1]; exact hnd,fun x hx=>?_⟩;have hx':x.born∈(es.modify i fun e=>{ e with key:=k,val:=v }).toList.map (·.born):=List.mem_map.2 ⟨x,hx,rfl⟩;rw [e1] at hx';obtain ⟨y,hy,he⟩:=List.mem_map.1 hx';rw [← he]; exact hlt y hy
    ·rename_i hc hf;simp only [Option.some.injEq,Prod.mk.injEq] at ha;obtain ⟨_,rfl⟩:=ha;refine ⟨_,_,_,_,AH.get_put_same _ _ _,?_,fun x hx=>?_⟩
     ·rw [Array.toList_push,List.map_append];refine List.nodup_append.2 ⟨hnd,by simp,fun a ha b hb he=>?_⟩;simp only [List.map_cons,List.map_nil,List.mem_singleton] at hb;obtain ⟨y,hy,rfl⟩:=List.mem_map.1 ha;have:=hlt y hy;omega
     ·rw [Array.toList_push] at hx;rcases List.mem_append.1 hx with hx | hx
      ·have:=hlt x hx; omega
      ·rw [List.mem_singleton] at hx;rw [hx];exact Nat.lt_succ_self n
    ·cases ha
  ·cases ha
 unfold upM at hu;split at hu
 ·rename_i cs H1 h1;split at hu
  ·cases hu;exact aux _ _ h1
  ·cases hu
 ·cases hu
structure MapB (H:AH) (id:Nat) (f:Int→Option Value):Prop where
 u:MapU (Value.int .i64) H id f
 b:BornAt H id
theorem MapB.fr {W:Nat→Prop} {H H':AH} {id:Nat} {f:Int→Option Value} (h:MapB H id f) (hf:Fm W H H') (hlt:id<H.next) (hw:¬W id):MapB H' id f:=⟨h.u.fr hf hlt hw,h.b.fr hf hlt hw⟩
theorem MapB.new {H:AH}:MapB (H.push mapB) H.next fun _=>none:=⟨MapU.new _,BornAt.new⟩
theorem MapB.up {t kt e:TypeId} (hK:KeyK P kt (Value.int .i64)) (ht:P.underlying t=some (.map kt e)) {m:Nat} {H:AH} {id:Nat} {f:Int→Option Value} (h:MapB H id f) (hm:m≤id) (k:Int) (v:Value) :
  ∃H',upM P m t H (some id) (.int .i64 k) v=some H'∧MapB H' id (fun k'=>if k'=k then some v else f k')∧Fm (fun i=>i=id) H H'∧H'.next=H.next:=by
 obtain ⟨H',h1,h2,h3,h4⟩:=z7b hK ht h.u hm k v;exact ⟨H',h1,⟨h2,h.b.up h1⟩,h3,h4⟩
theorem z95:∀{l l':List Int},l.Nodup→(∀b∈l,b∈l')→l.length≤l'.length
 | [],_,_,_=>Nat.zero_le _
 | x :: l,l',hn,hs=>by
  rw [List.nodup_cons] at hn;have h1:=z95 hn.2 (l':=l'.erase x) fun b hb=>(List.mem_erase_of_ne (fun e:b=x=>hn.1 (by rw [← e]; exact hb))).2 (hs b (List.mem_cons_of_mem _ hb));have h2:=List.length_erase_of_mem (hs x List.mem_cons_self);have h3:=List.length_pos_of_mem (hs x List.mem_cons_self);simp only [List.length_cons];omega
theorem zck {l:List (Int×Value)} {k:Int}:(look l k).isSome=true↔k∈l.map (·.1):=by
 unfold look;rw [Option.isSome_map,List.find?_isSome];constructor
 ·rintro ⟨x,hx,he⟩
  exact List.mem_map.2 ⟨x,hx,by simpa using he⟩
 ·intro h;obtain ⟨x,hx,he⟩:=List.mem_map.1 h;exact ⟨x,hx,by simpa using he⟩
theorem zar {l:List Int} (h:l.Nodup):(sortI l).Pairwise (·<·):=by
 have ht:∀a b c:Int,decide (a≤b)=true→decide (b≤c)=true→decide (a≤c)=true:=fun a b c h1 h2=>by simp at *; omega
 have hc:∀a b:Int,(decide (a≤b)||decide (b≤a))=true:=fun a b=>by simp; omega
 have h1:=List.pairwise_mergeSort ht hc l;have h2:(sortI l).Nodup:=(List.mergeSort_perm l _).nodup_iff.2 h;exact (h1.and h2).imp fun {a b} hh=>by
  have:=hh.1;simp at this;have:=hh.2;omega
theorem zg4 {l:List Int} {z:Int}:z∈sortI l↔z∈l:=(List.mergeSort_perm l _).mem_iff
theorem zb3:∀{es:List MapEntry} {l:List (Int×Value)},Ents (Value.int .i64) es l→keysZ es=some (l.map (·.1))
 | [],[],_=>rfl
 | [],_ :: _,h=>by simp [Ents] at h
 | _ :: _,[],h=>by simp [Ents] at h
 | e :: es,x :: l,h=>by
  have h':=h;simp only [Ents,List.map_cons,List.cons.injEq,Prod.mk.injEq] at h';have h1:keyZ e=some x.1:=by unfold keyZ; rw [h'.1.1]
  simp only [keysZ,h1,zb3 (es:=es) (l:=l) h'.2,List.map_cons]
theorem zgl {e:TypeId} {m:Nat} {H:AH} {r:Nat} {f:Int→Option Value} (h:MapB H r f) (hm:m≤H.next) {T:List Int} (hT:∀z,(f z).isSome=true→z∈T) (hl:T.length≤1073741824) :
  ∃zs s H',keysS e m H r=some (s,H')∧zs.Pairwise (·<·)∧(∀z,z∈zs↔(f z).isSome=true)∧SlA EZ e m H' zs s∧Ext H H'∧∀id,fpt s id→H.next≤id:=by
 obtain ⟨l,⟨es,n,opn,esz,h1,h2⟩,h3,h4⟩:=h.u;obtain ⟨es',n',opn',esz',g1,g2,g3⟩:=h.b;rw [h1] at g1;cases g1;have hk:=zb3 h2;have hmem:∀z,z∈l.map (·.1)↔(f z).isSome=true:=fun z=>by rw [← h4 z,zck]
 have hlen:(l.map (·.1)).length≤1073741824:=Nat.le_trans (z95 h3 fun z hz=>hT z ((hmem z).1 hz)) hl;refine ⟨sortI (l.map (·.1)),(outS e H (l.map (·.1))).1,(outS e H (l.map (·.1))).2,?_,zar h3,fun z=>by rw [zg4,hmem],?_⟩
 ·unfold keysS;rw [h1];simp only [hk];rw [if_pos ⟨g2,g3,hlen,hm⟩]
 ·generalize l.map (·.1)=zs at *;unfold outS;by_cases hz:zs=[]
  ·rw [if_pos hz,hz];refine ⟨?_,⟨Nat.le_succ _,fun id b _ _ hb=>hb⟩,fun id hid=>absurd hid U1⟩;have:sortI []=[]:=by unfold sortI; simp
   rw [this];exact SlA.nil
  ·rw [if_neg hz];have hsl:(sortI zs).length=zs.length:=(List.mergeSort_perm zs _).length_eq;refine ⟨?_,⟨?_,fun id b hid _ hb=>?_⟩,fun id hid=>?_⟩
   ·show SlA EZ e m (AH.push { H with next:=H.next+2*zs.length } (rowB e (sortI zs))) (sortI zs) ⟨some ⟨H.next+2*zs.length,0,none⟩,zs.length,OPEN⟩;rw [← hsl];refine .own ?_;have hfm:∀l:List Int,l.flatMap EZ.enc=l.map fun z=>Value.int .i64 z:=fun l=>by induction l with
     | nil=>rfl
     | cons a l ih=>rw [List.flatMap_cons,ih]; rfl
    refine VecV.opn (H.next+2*(sortI zs).length) 0 (zcells (sortI zs)) (by omega) ?_ ?_ (EZ.flat_len _) (EZ.flat_one _) fun i v hv=>?_
    ·show _<H.next+2*(sortI zs).length+1;omega
    ·exact AH.get_push_same _ _
    ·rw [hfm] at hv;unfold zcells;rw [Nat.zero_add]
     simpa using hv
   ·show H.next≤H.next+2*zs.length+1;omega
   ·show (AH.push { H with next:=H.next+2*zs.length } (rowB e (sortI zs))).get id=some b;rw [AH.get_push_other _ _ (by show id≠H.next+2*zs.length; omega)];exact hb
   ·obtain ⟨_,a,ha,rfl⟩:=hid;cases ha;show H.next≤H.next+2*zs.length;omega
structure Vw (H:AH) (s:Sl3) (l:List Nat):Prop where
 n:s.n=l.length
 cap:(s.c=OPEN∧∀a,s.p=some a→∃b,H.get a.block=some b∧b.opn=true∧b.esz=1∧isCells b.obj=true)∨(s.n≤s.c∧s.c<OPEN∧0<s.c)
 p:∃a,s.p=some a∧a.spot=none∧a.block<H.next∧∀(i:Nat) (h:i<l.length),Cel H (a.add i) (.int .i64 (l[i]:Nat))
theorem Vw.of {e:TypeId} {m:Nat} {H:AH} {l:List Nat} {s:Sl3} (h:SlA EI e m H l s) (hl:l≠[]):Vw H s l:=by
 have hpos:0<l.length:=List.length_pos_iff.2 hl;obtain ⟨a,h1,_,h3,h4⟩:=h.at_ (by decide) hpos (v:=((0:Nat):Int)) rfl;have hcel:∀(i:Nat) (hi:i<l.length),Cel H (a.add i) (.int .i64 (l[i]:Nat)):=fun i hi=>by
  obtain ⟨a',g1,_,g3,g4⟩:=h.at_ (by decide) hi (v:=(i:Int)) rfl;rw [h1] at g1;cases g1;have:=g4 0 (.int .i64 (l[i]:Nat)) rfl;rw [z2z h3] at this;have e1:i*EI.sz+0=i:=Nat.mul_one i;rw [e1] at this;exact this
 refine ⟨h.cnt,?_,a,h1,h3,?_,hcel⟩
 ·unfold SlA at h;cases h with
  | own h =>
   cases h with
   | nil hn hv=>omega
   | zero a ha hn hv=>omega
   | opn id off cs hm hid hg hl ho hx =>
    exact .inl ⟨rfl,fun a ha=>by cases ha; exact ⟨_,hg,rfl,rfl,rfl⟩⟩
  | full id hm hid hg hl ho hn hN=>exact .inr ⟨Nat.le_refl _,hN,hn⟩
 ·have:=(hcel 0 hpos).2;rw [z28] at this;exact this
theorem Vw.ext {H H':AH} {s:Sl3} {l:List Nat} (h:Vw H s l) (hf:Ext H H'):Vw H' s l:=by
 obtain ⟨h1,h2,a,h3,h4,h5,h6⟩:=h;refine ⟨h1,?_,a,h3,h4,Nat.lt_of_lt_of_le h5 hf.1,fun i hi=>(h6 i hi).ext hf⟩;rcases h2 with ⟨h2,h7⟩ | h2
 ·refine .inl ⟨h2,fun b hb=>?_⟩;obtain ⟨bb,h8,h9⟩:=h7 b hb;rw [h3] at hb;cases hb;exact ⟨bb,hf.2 _ _ h5 (fun h=>h) h8,h9⟩
 ·exact .inr h2
theorem Vw.at_ {H:AH} {s:Sl3} {l:List Nat} (h:Vw H s l) {i:Nat} (hi:i<l.length) {v:Int} (hv:v=i):∃q,idxA 1 s v=some q∧rd (deI .i64) H q=some (l[i]:Int):=by
 obtain ⟨h1,h2,a,h3,h4,h5,h6⟩:=h;refine ⟨a.add (i*1),z5r h3 hv (by rw [h1]; exact hi),?_⟩;rw [Nat.mul_one,(h6 i hi).rd];rfl
theorem Vw.init {H:AH} {s:Sl3} {l:List Nat} {k:Nat} (h:Vw H s (l.take (k+1))) (hk:k<l.length) {v:Int} (hv:v=k):∃s',slc 1 H s none (some v) none=some s'∧Vw H s' (l.take k):=by
 obtain ⟨h1,h2,a,h3,h4,h5,h6⟩:=h;subst hv;have hn:s.n=k+1:=by rw [h1,List.length_take]; omega
 have hlen:(l.take k).length=k:=by rw [List.length_take]; omega
 have hb:∀c,k+1≤c→slcB s.n c none (some (k:Int)) none=some (0,k,c):=by
  intro c hc;unfold slcB;simp only [boundI,Option.isSome_none,Bool.false_and,cond_false];rw [if_pos ⟨Int.natCast_nonneg k,Int.ofNat_le.2 (by omega)⟩];simp
 have hcel:∀(i:Nat) (hi:i<(l.take k).length),Cel H (a.add i) (.int .i64 ((l.take k)[i]:Nat)):=fun i hi=>by
  have:=h6 i (by rw [List.length_take] at *; omega);rw [List.getElem_take] at this ⊢;exact this
 rcases h2 with ⟨h2,h7⟩ | ⟨h2,h7,h8⟩
 ·obtain ⟨b,g1,g2⟩:=h7 a h3;refine ⟨⟨some a,k,OPEN⟩,?_,⟨hlen.symm,.inl ⟨rfl,fun a' ha'=>by cases ha'; exact ⟨b,g1,g2⟩⟩,a,rfl,h4,h5,hcel⟩⟩;unfold slc;simp only [h3];rw [if_pos h2,hb s.n (by omega)];simp only [g1];rw [if_pos g2,Nat.zero_mul,add_zero];rfl
 ·refine ⟨⟨some a,k,s.c⟩,?_,⟨hlen.symm,.inr ⟨by show k≤s.c; omega,h7,h8⟩,a,rfl,h4,h5,hcel⟩⟩;unfold slc;simp only [h3];rw [if_neg (by omega),hb s.c (by omega)];simp only;rw [if_pos ⟨h7,by omega⟩,if_neg (by omega),Nat.zero_mul,add_zero];rfl
theorem Vw.rdv {H:AH} {s:Sl3} {l:List Nat} (h:Vw H s l):RdV 1 H s l.length (l.flatMap EI.enc):=by
 obtain ⟨h1,h2,a,h3,h4,h5,h6⟩:=h;have hfm:∀l:List Nat,l.flatMap EI.enc=l.map fun (z:Nat)=>Value.int .i64 (z:Int):=fun l=>by induction l with
  | nil=>rfl
  | cons a l ih=>rw [List.flatMap_cons,ih]; rfl
 refine ⟨h1,fun hp=>(by rw [h3] at hp; cases hp),fun b hb=>?_,EI.flat_one l⟩;rw [h3] at hb;cases hb;have:=J7 (H:=H) (a:=a) (l.flatMap EI.enc) 0 fun i hi=>by
  simp only [hfm,List.length_map] at hi;simp only [hfm,List.getElem_map,Nat.zero_add];exact (h6 i hi).1
 rw [EI.flat_len] at this;exact this
end Go.Abs
namespace Go.Abs.Eg
section
variable {N:List Nd} {sd:List Sd} {fe:List Ed} {i j:Nat} {p q:List Nat}
theorem ju_lok (hall:∀i,i<fe.length→∃p,Pa fe i p) (h:Ju N sd (US fe) i j):∀p q,Pa fe i p→Pa fe j q→∀n,Btw p q n→∀(k:Nat) (l:Lb),fe[n]? = some ((k:Int),l)→LOK N sd (US fe) n k l:=by
 have same:∀{n k k':Nat} {l l':Lb},fe[n]? = some ((k:Int),l)→fe[n]? = some ((k':Int),l')→k=k'∧l=l':=fun h1 h2=>by
  rw [h1] at h2;simp only [Option.some.injEq,Prod.mk.injEq] at h2;exact ⟨Int.ofNat.inj h2.1,by ext <;> simp [h2]⟩
 induction h with
 | refl i =>
  intro p q hp hq n hn;rw [hp.uniq hq] at hn;rcases hn with ⟨h1,h2⟩ | ⟨h1,h2⟩ <;> exact absurd h1 h2
 | symm _ ih=>exact fun p q hp hq n hn=>ih q p hq hp n (zax hn)
 | trans h1 _ ih1 ih2 =>
  intro p q hp hq n hn;obtain ⟨r,hr⟩:=(N8 hall h1).2.1 ⟨p,hp⟩;rcases za3 (q:=r) hn with h | h
  ·exact ih1 p r hp hr n h
  ·exact ih2 r q hr hq n h
 | tag hU ht =>
  intro p q hp hq n hn k l hk;rcases z1l hU hp hq hn with ⟨rfl,h⟩ | ⟨rfl,h⟩
  ·obtain ⟨rfl,rfl⟩:=same h hk;exact .inl ⟨rfl,ht⟩
  ·obtain ⟨rfl,rfl⟩:=same h hk;exact .inl ⟨rfl,ht.symm⟩
 | cong hU hab ha hb h1 h2 h3 hj ih =>
  intro p q hp hq n hn k l hk;rcases z1l hU hp hq hn with ⟨rfl,h⟩ | ⟨rfl,h⟩
  ·obtain ⟨rfl,rfl⟩:=same h hk;exact .inr ⟨rfl,_,_,_,_,rfl,rfl,hab,ha,hb,h1,h2,h3,hj⟩
  ·obtain ⟨rfl,rfl⟩:=same h hk;exact .inr ⟨rfl,_,_,_,_,rfl,rfl,hab.symm.imp (fun h=>⟨h.2,h.1⟩) (fun h=>⟨h.2,h.1⟩),ha,hb,h1,h2,h3,hj⟩
theorem z8w:∀(x:List Nat) {i:Nat} {c:List Nat},c≠[]→Pa fe i (x++c)→∀n∈x,∃(k:Nat) (l:Lb),fe[n]? = some ((k:Int),l)
 | [],_,_,_,_,n,hn=>by cases hn
 | y :: x,i,c,hc,hp,n,hn=>by
  generalize hw:(y :: x)++c=w at hp;cases hp with
  | root h =>
   have:=congrArg List.length hw;have h2:=List.length_pos_iff.2 hc;simp only [List.length_append,List.length_cons,List.length_nil] at this;omega
  | step h hp =>
   simp only [List.cons_append,List.cons.injEq] at hw;obtain ⟨rfl,rfl⟩:=hw;rcases List.mem_cons.1 hn with rfl | hn
   ·exact ⟨_,_,h⟩
   ·exact z8w x hc hp n hn
theorem pa_ne (h:Pa fe i p):p≠[]:=by
 obtain ⟨r,rfl⟩:=h.head;simp
theorem zh7 (h:Pa fe i p) {n:Nat} (hn:n∈p):n<fe.length:=by
 obtain ⟨u,r,_,h2⟩:=h.mem hn;exact pa_lt h2
theorem pa_len (h:Pa fe i p):p.length≤fe.length:=G8 _ _ h.nodup fun n hn=>zh7 h hn
theorem ze5 {x y:List Nat} (hp:Pa fe i p) (hq:Pa fe j q) (hl:p.getLast? = q.getLast?) (hst:Strip p q x y):(∀n∈x++y,∃(k:Nat) (l:Lb),fe[n]? = some ((k:Int),l)):=by
 obtain ⟨c,rfl,rfl,hd⟩:=hst;cases c with
 | nil =>
  exfalso;simp only [List.append_nil] at hl hp hq;rcases hd with h | h | h
  ·exact pa_ne hp h
  ·exact pa_ne hq h
  ·exact h hl
 | cons z c =>
  intro n hn;rcases List.mem_append.1 hn with hn | hn
  ·exact z8w x (by simp) hp n hn
  ·exact z8w y (by simp) hq n hn
theorem z7n {k l:Nat} (hk:k≤p.length) (hl:l≤q.length) (hd:p.drop k=q.drop l) (he:k=0∨l=0∨p[k - 1]? ≠ q[l - 1]?):Strip p q (p.take k) (q.take l):=by
 refine ⟨p.drop k,(List.take_append_drop k p).symm,by rw [hd]; exact (List.take_append_drop l q).symm,?_⟩;rcases he with rfl | rfl | h
 ·exact .inl rfl
 ·exact .inr (.inl rfl)
 ·by_cases h0:k=0
  ·subst h0; exact .inl rfl
  by_cases h1:l=0
  ·subst h1; exact .inr (.inl rfl)
  refine .inr (.inr ?_);rw [List.getLast?_eq_getElem?,List.getLast?_eq_getElem?,List.length_take,List.length_take,Nat.min_eq_left hk,Nat.min_eq_left hl,List.getElem?_take_of_lt (by omega),List.getElem?_take_of_lt (by omega)];exact h
def Dn (fe:List Ed) (D:Nat→Prop) (u v:Nat):Prop:=∀p q c,Pa fe u p→Pa fe v q→Btw p q c→D c
theorem Dn.mono {D D':Nat→Prop} {u v:Nat} (h:Dn fe D u v) (hd:∀n,D n→D' n):Dn fe D' u v:=fun p q c hp hq hc=>hd c (h p q c hp hq hc)
structure XI (N:List Nd) (sd:List Sd) (fe:List Ed) (a b:Nat) (q:List (Nat×Nat)) (D:List Nat) (T:List Int):Prop where
 dn:D.Nodup
 dl:∀n∈D,n<fe.length
 qj:∀w∈q,Ju N sd (US fe) w.1 w.2∧w.1<fe.length∧w.2<fe.length
 tag:∀n∈D,∀(j:Int) t f o,fe[n]? = some (j,t,f,o,false)→t∈T
 cong:∀n∈D,∀(j a b:Nat) (t:Int) (x y:Nd) (k u v:Nat),fe[n]? = some ((j:Int),t,(a:Int),(b:Int),true)→N[a]? = some x→N[b]? = some y→x.args[k]? = some u→y.args[k]? = some v→(u,v)∈q∨Dn fe (·∈D) u v
 goal:(a,b)∈q∨Dn fe (·∈D) a b
 tl:∀t∈T,∃s∈sd,s.2.2.2=false∧s.2.2.1=t
variable {a b:Nat} {Q:List (Nat×Nat)} {D:List Nat} {T:List Int}
theorem XI.start (h:Ju N sd (US fe) a b) (ha:a<fe.length) (hb:b<fe.length):XI N sd fe a b [(a,b)] [] [] :=
 ⟨by simp,(by intro n hn; cases hn),(by intro w hw; rw [List.mem_singleton] at hw; subst hw; exact ⟨h,ha,hb⟩),(by intro n hn; cases hn),(by intro n hn; cases hn),.inl (by simp),(by intro n hn; cases hn)⟩
theorem XI.le (h:XI N sd fe a b Q D T):D.length≤fe.length:=G8 _ _ h.dn h.dl
theorem XI.tagged (h:XI N sd fe a b Q D T) {n k:Nat} {t f o:Int} (hn:n ∉ D) (he:fe[n]? = some ((k:Int),t,f,o,false)) (ht:Tagged sd t n k):XI N sd fe a b Q (n :: D) (t :: T):=by
 have hmm:∀m,m∈D→m∈n :: D:=fun m hm=>List.mem_cons_of_mem _ hm;refine ⟨List.nodup_cons.2 ⟨hn,h.dn⟩,fun m hm=>?_,h.qj,fun m hm j t' f' o' he'=>?_,fun m hm j a' b' t' x y k' u v he' ha hb hu hv=>?_,h.goal.imp id fun h=>h.mono hmm,fun t' ht'=>?_⟩
 ·rcases List.mem_cons.1 hm with rfl | hm
  ·exact (List.getElem?_eq_some_iff.1 he).1
  ·exact h.dl m hm
 ·rcases List.mem_cons.1 hm with rfl | hm
  ·rw [he] at he';simp only [Option.some.injEq,Prod.mk.injEq] at he';rw [← he'.2.1];exact List.mem_cons_self
  ·exact List.mem_cons_of_mem _ (h.tag m hm j t' f' o' he')
 ·rcases List.mem_cons.1 hm with rfl | hm'
  ·rw [he] at he';simp at he'
  ·exact (h.cong m hm' j a' b' t' x y k' u v he' ha hb hu hv).imp id fun h=>h.mono hmm
 ·rcases List.mem_cons.1 ht' with rfl | ht'
  ·obtain ⟨s,h1,h2,h3,_⟩:=ht;exact ⟨s,h1,h2,h3⟩
  ·exact h.tl t' ht'
theorem zjg {l l':List Nat} {k u v:Nat} (h1:l[k]? = some u) (h2:l'[k]? = some v):(u,v)∈l.zip l':=by
 refine List.mem_iff_getElem?.2 ⟨k,?_⟩;rw [List.getElem?_zip_eq_some];exact ⟨h1,h2⟩
theorem XI.congd (h:XI N sd fe a b Q D T) {n k a' b':Nat} {t:Int} {x y:Nd} (hn:n ∉ D) (he:fe[n]? = some ((k:Int),t,(a':Int),(b':Int),true)) (hx:N[a']? = some x) (hy:N[b']? = some y)
  (hj:∀(k u v:Nat),x.args[k]? = some u→y.args[k]? = some v→Ju N sd (US fe) u v∧u<fe.length∧v<fe.length):XI N sd fe a b (Q++x.args.zip y.args) (n :: D) T:=by
 have hmm:∀m,m∈D→m∈n :: D:=fun m hm=>List.mem_cons_of_mem _ hm;refine ⟨List.nodup_cons.2 ⟨hn,h.dn⟩,fun m hm=>?_,fun w hw=>?_,fun m hm j t' f' o' he'=>?_,fun m hm j a1 b1 t' x1 y1 k' u v he' ha hb hu hv=>?_,h.goal.imp (fun h=>List.mem_append_left _ h) fun h=>h.mono hmm,h.tl⟩
 ·rcases List.mem_cons.1 hm with rfl | hm
  ·exact (List.getElem?_eq_some_iff.1 he).1
  ·exact h.dl m hm
 ·rcases List.mem_append.1 hw with hw | hw
  ·exact h.qj w hw
  ·obtain ⟨k',hk'⟩:=List.mem_iff_getElem?.1 hw;rw [List.getElem?_zip_eq_some] at hk';exact hj k' _ _ hk'.1 hk'.2
 ·rcases List.mem_cons.1 hm with rfl | hm
  ·rw [he] at he';simp at he'
  ·exact h.tag m hm j t' f' o' he'
 ·rcases List.mem_cons.1 hm with rfl | hm'
  ·rw [he] at he';simp only [Option.some.injEq,Prod.mk.injEq] at he';obtain ⟨_,_,e1,e2,_⟩:=he';obtain rfl:a'=a1:=Int.ofNat.inj e1;obtain rfl:b'=b1:=Int.ofNat.inj e2;rw [hx] at ha; cases ha;rw [hy] at hb; cases hb;exact .inl (List.mem_append_right _ (zjg hu hv))
  ·exact (h.cong m hm' j a1 b1 t' x1 y1 k' u v he' ha hb hu hv).imp (fun h=>List.mem_append_left _ h) fun h=>h.mono hmm
theorem XI.pop {w:Nat×Nat} (h:XI N sd fe a b (w :: Q) D T) (hd:Dn fe (·∈D) w.1 w.2):XI N sd fe a b Q D T:=by
 have key:∀u v,((u,v)∈w :: Q∨Dn fe (·∈D) u v)→(u,v)∈Q∨Dn fe (·∈D) u v:=by
  rintro u v (h | h)
  ·rcases List.mem_cons.1 h with e | h
   ·rw [← e] at hd; exact .inr hd
   ·exact .inl h
  ·exact .inr h
 exact ⟨h.dn,h.dl,fun w' hw=>h.qj w' (List.mem_cons_of_mem _ hw),h.tag,fun n hn j a' b' t x y k u v h1 h2 h3 h4 h5=>key _ _ (h.cong n hn j a' b' t x y k u v h1 h2 h3 h4 h5),key _ _ h.goal,h.tl⟩
theorem XI.done (hall:∀i,i<fe.length→∃p,Pa fe i p) (hj:Ju N sd (US fe) a b) (ha:a<fe.length) (hb:b<fe.length) (h:XI N sd fe a b [] D T) {zs:List Int} (hz:∀z,z∈zs↔z∈T):Cong N (Mof (withT sd (·∈zs))) a b:=by
 obtain ⟨p,hp⟩:=hall a ha;obtain ⟨q,hq⟩:=hall b hb;refine why_ok (T:=(·∈zs)) (D:=(·∈D)) hall ⟨fun n j t f o hn he=>(hz t).2 (h.tag n hn j t f o he),fun n j a' b' t x y k u v p q c hn he h1 h2 h3 h4 hp hq hc=>?_⟩ hj hp hq fun n hn=>?_
 ·rcases h.cong n hn j a' b' t x y k u v he h1 h2 h3 h4 with h | h
  ·cases h
  ·exact h p q c hp hq hc
 ·rcases h.goal with h | h
  ·cases h
  ·exact h p q n hp hq hn
end
end Go.Abs.Eg
namespace Go.Abs.Eg
structure RQ (N:List Nd) (M:List (Nat×Nat)) (n:Nat) (r:Nat→Nat):Prop where
 low:∀i,i<n→r i≤i
 idem:∀i,i<n→r (r i)=r i
 snd:∀i j,i<n→j<n→r i=r j→Cong N M i j
def jn (r:Nat→Nat) (x y:Nat) (i:Nat):Nat:=if r i=y then x else r i
def rts (n:Nat) (r:Nat→Nat):Nat:=((List.range n).filter fun i=>decide (r i=i)).length
theorem zbt:∀{l l':List Nat},l.Nodup→(∀b∈l,b∈l')→l.length≤l'.length
 | [],_,_,_=>Nat.zero_le _
 | x :: l,l',hn,hs=>by
  rw [List.nodup_cons] at hn;have h1:=zbt hn.2 (l':=l'.erase x) fun b hb=>(List.mem_erase_of_ne (fun e:b=x=>hn.1 (by rw [← e]; exact hb))).2 (hs b (List.mem_cons_of_mem _ hb));have h2:=List.length_erase_of_mem (hs x List.mem_cons_self);have h3:=List.length_pos_of_mem (hs x List.mem_cons_self);simp only [List.length_cons];omega
section
variable {N:List Nd} {M:List (Nat×Nat)} {n:Nat} {r:Nat→Nat} {a b x y:Nat}
theorem RQ.id:RQ N M n fun i=>i:=⟨fun i _=>Nat.le_refl _,fun i _=>rfl,fun i j _ _ h=>by rw [show i=j from h]; exact .refl j⟩
theorem RQ.rlt (h:RQ N M n r) (ha:a<n):r a<n:=Nat.lt_of_le_of_lt (h.low a ha) ha
theorem RQ.join (h:RQ N M n r) (ha:a<n) (hb:b<n) (hc:Cong N M a b) (hxy:x≤y) (he:r a=x∧r b=y∨r a=y∧r b=x):RQ N M n (jn r x y)∧jn r x y a=jn r x y b∧(x≠y→rts n (jn r x y)<rts n r):=by
 have hx:r x=x:=by rcases he with ⟨e,_⟩ | ⟨_,e⟩ <;> (rw [← e]; exact h.idem _ ‹_›)
 have hy:r y=y:=by rcases he with ⟨_,e⟩ | ⟨e,_⟩ <;> (rw [← e]; exact h.idem _ ‹_›)
 have hyn:y<n:=by rcases he with ⟨_,e⟩ | ⟨e,_⟩ <;> (rw [← e]; exact h.rlt ‹_›)
 have hxn:x<n:=by omega
 have cxy:Cong N M x y:=by
  rcases he with ⟨e1,e2⟩ | ⟨e1,e2⟩
  ·exact ((h.snd x a hxn ha (by rw [hx,e1])).trans hc).trans (h.snd b y hb hyn (by rw [hy,e2]))
  ·exact ((h.snd x b hxn hb (by rw [hx,e2])).trans hc.symm).trans (h.snd a y ha hyn (by rw [hy,e1]))
 refine ⟨⟨fun i hi=>?_,fun i hi=>?_,fun i j hi hj hij=>?_⟩,?_,fun hne=>?_⟩
 ·unfold jn;have:=h.low i hi;split <;> omega
 ·have hjx:jn r x y x=x:=by unfold jn; rw [hx]; split <;> omega
  by_cases e:r i=y
  ·rw [show jn r x y i=x from if_pos e];exact hjx
  ·rw [show jn r x y i=r i from if_neg e];unfold jn;rw [h.idem i hi,if_neg e]
 ·have cy:∀i,i<n→r i=y→Cong N M i x:=fun i hi e=>(h.snd i y hi hyn (by rw [hy,e])).trans cxy.symm;unfold jn at hij;by_cases e1:r i=y
  ·by_cases e2:r j=y
   ·exact h.snd i j hi hj (by rw [e1,e2])
   ·rw [if_pos e1,if_neg e2] at hij;exact (cy i hi e1).trans (h.snd x j hxn hj (by rw [hx,hij]))
  ·by_cases e2:r j=y
   ·rw [if_neg e1,if_pos e2] at hij;exact (h.snd i x hi hxn (by rw [hx,hij])).trans (cy j hj e2).symm
   ·rw [if_neg e1,if_neg e2] at hij;exact h.snd i j hi hj hij
 ·unfold jn;rcases he with ⟨e1,e2⟩ | ⟨e1,e2⟩
  ·rw [e1,e2,if_pos rfl]; split <;> omega
  ·rw [e1,e2,if_pos rfl]; split <;> omega
 ·have hnd:((List.range n).filter fun i=>decide (jn r x y i=i)).Nodup:=List.nodup_range.filter _;have hmem:∀i,i∈(List.range n).filter (fun i=>decide (jn r x y i=i))→i∈(List.range n).filter (fun i=>decide (r i=i))∧i≠y:=by
   intro i hi;rw [List.mem_filter,List.mem_range] at hi;obtain ⟨h1,h2⟩:=hi;have h2:=of_decide_eq_true h2;unfold jn at h2;by_cases e:r i=y
   ·rw [if_pos e] at h2;subst h2;rw [hx] at e;exact absurd e hne
   ·rw [if_neg e] at h2;refine ⟨List.mem_filter.2 ⟨List.mem_range.2 h1,by simpa using h2⟩,fun e2=>e (by rw [h2,e2])⟩
  have:=zbt (l:=y :: (List.range n).filter fun i=>decide (jn r x y i=i)) (l':=(List.range n).filter fun i=>decide (r i=i)) (List.nodup_cons.2 ⟨fun hm=>(hmem y hm).2 rfl,hnd⟩) fun i hi=>by
   rcases List.mem_cons.1 hi with rfl | hi
   ·exact List.mem_filter.2 ⟨List.mem_range.2 hyn,by simpa using hy⟩
   ·exact (hmem i hi).1
  unfold rts;rw [List.length_cons] at this;exact this
theorem zd9 {i j:Nat} (h:r i=r j):jn r x y i=jn r x y j:=by unfold jn; rw [h]
def alk (r:Nat→Nat) (p q:Nd):Bool:=!p.value&&!q.value&&decide (p.sym=q.sym)&&decide (p.args.map r=q.args.map r)
theorem zhr (h:RQ N M n r) {i k:Nat} {p q:Nd} (hp:N[i]? = some p) (hq:N[k]? = some q) (ha:∀a∈p.args,a<n) (hb:∀a∈q.args,a<n) (hk:alk r p q=true):Cong N M i k:=by
 unfold alk at hk;simp only [Bool.and_eq_true,Bool.not_eq_true',decide_eq_true_eq] at hk;obtain ⟨⟨⟨h1,h2⟩,h3⟩,h4⟩:=hk;have hl:p.args.length=q.args.length:=by have:=congrArg List.length h4; simpa using this
 refine .congr hp hq (by rw [h1,h2]) h3 hl fun j u v hu hv=>h.snd u v (ha u (List.mem_of_getElem? hu)) (hb v (List.mem_of_getElem? hv)) ?_;have:=congrArg (fun l:List Nat=>l[j]?) h4
 simpa [hu,hv] using this
theorem RQ.full (h:RQ N M n r) (hn:n=N.length) (hN:NOK N) (hM:∀i j,(i,j)∈M→r i=r j) (hA:∀i k p q,k<i→i<n→N[i]? = some p→N[k]? = some q→alk r p q=true→r i=r k) {i j:Nat} (hc:Cong N M i j):r i=r j:=by
 induction hc with
 | base h=>exact hM _ _ h
 | refl i=>rfl
 | symm _ ih=>exact ih.symm
 | trans _ _ h1 h2=>exact h1.trans h2
 | congr hp hq h1 h2 h3 _ ih =>
  rename_i i k p q _;have hi:i<n:=by rw [hn]; exact (List.getElem?_eq_some_iff.1 hp).1
  have hk:k<n:=by rw [hn]; exact (List.getElem?_eq_some_iff.1 hq).1
  have hm:p.args.map r=q.args.map r:=by
   refine List.ext_getElem? fun j=>?_;rw [List.getElem?_map,List.getElem?_map];by_cases hj:j<p.args.length
   ·rw [List.getElem?_eq_getElem hj,List.getElem?_eq_getElem (show j<q.args.length by omega)];simp only [Option.map_some];rw [ih j _ _ (List.getElem?_eq_getElem hj) (List.getElem?_eq_getElem (show j<q.args.length by omega))]
   ·rw [List.getElem?_eq_none (by omega),List.getElem?_eq_none (by omega)]
  by_cases hv:p.value=true
  ·
   have hv2:q.value=true:=by rw [← h1]; exact hv
   have e1:=hN.va p (List.mem_of_getElem? hp) hv;have e2:=hN.va q (List.mem_of_getElem? hq) hv2;have:p=q:=by
    cases p; cases q;simp only at h1 h2 e1 e2;rw [h1,h2,e1,e2]
   subst this;have h3:i=k:=(List.getElem?_inj (by rw [← hn]; exact hi) hN.nd).1 (hp.trans hq.symm);rw [h3]
  ·have hv:p.value=false:=by simpa using hv
   have hv2:q.value=false:=by rw [← h1]; exact hv
   have a1:alk r p q=true:=by unfold alk; simp [hv,hv2,h2,hm]
   have a2:alk r q p=true:=by unfold alk; simp [hv,hv2,h2,hm]
   rcases Nat.lt_trichotomy i k with e | e | e
   ·exact (hA k i q p e hk hq hp a2).symm
   ·rw [e]
   ·exact hA i k p q e hi hp hq a1
end
end Go.Abs.Eg
namespace Go.Proofs.YtgkhbmoidenjaaaDoor
open Go Go.Abs
set_option maxRecDepth 100000
def tabs:List Tab:=[(0,155,((zsOf Rows.laid_internal_strconv_uint64pow10).map fun z=>Value.int .u64 z).toArray)]
theorem zdd:tabsB Tryd.prog tabs=true:=by kernel_rfl
theorem globalsN:Tryd.prog.globals.size=3:=by kernel_rfl
theorem l9:0<Tryd.prog.globals.size:=by rw [globalsN]; omega
def HasT (H:AH):Prop:=∀x∈tabs,H.get x.1=some (tabBlk x)∧x.1<H.next
theorem HasT.ext {H H':AH} (h:HasT H) (hf:Ext H H'):HasT H':=fun x hx=>⟨hf.2 _ _ (h x hx).2 (fun h=>h) (h x hx).1,Nat.lt_of_lt_of_le (h x hx).2 hf.1⟩
noncomputable def H0:AH:=startH Tryd.prog tabs
set_option maxHeartbeats 0 in
theorem zgj:(acall Tryd.prog ⟨1000,orN⟩ 100000 3 13 #[] H0).map (·.1)=some (.bool true):=by kernel_rfl
open Classical in
noncomputable def D8 (_L:LC) (H:AH):Option Bool:=if HasT H then some true else none
def z8f:Bool→Value
 | r0=>(Value.bool r0)
def z8p (H:AH):Bool→AH:=fun _=>H
theorem z99 {L:LC} {m:Nat} {H:AH} {r:Bool} (h:D8 L H=some r):CallS Tryd.prog (NE.plain 1000) m 13 #[] H (z8f r) (z8p H r):=by
 unfold D8 at h;split at h
 ·rename_i hT;cases h;have hrun:=zgj;cases hq:acall Tryd.prog ⟨1000,orN⟩ 100000 3 13 #[] H0 with
  | none=>rw [hq] at hrun; cases hrun
  | some q =>
   rw [hq] at hrun;obtain ⟨b,H'⟩:=q;simp only [Option.map_some,Option.some.injEq] at hrun;subst hrun;have hc:=CallS.ofRun (ne:=NE.plain 1000) (c:=(Tryd.f13.body).getD .skip) orN_ok (show Tryd.prog.funcs[13]? = some Tryd.f13 from Tryd.func13) (by kernel_rfl) hq;refine CallS.under (tabs:=tabs) l9 zdd (H1:=H') ?_ (by simp) (by rfl) fun x hx=>(hT x hx).1;rw [globalsN];exact hc
 ·cases h
theorem zg9 (L:LC) {H:AH} (h:HasT H):D8 L H=some true:=by
 unfold D8;rw [if_pos h]
end Go.Proofs.YtgkhbmoidenjaaaDoor
namespace Go.Proofs.YtgkhbmoidenjaaaDoor
open Go Go.Abs Go.ChangeShapes Go.WideShapes
set_option maxRecDepth 100000
theorem own:ownKnob Tryd.prog.godebug=none:=by kernel_rfl
theorem laidOut:laidOutB Tryd.prog=true:=by kernel_rfl
theorem zel:globalsB Tryd.prog=true:=by kernel_rfl
theorem sane:Sane Tryd.prog (NE.plain 1000):=zjf (fun _ _ _ _=>rfl) (by kernel_rfl) (by kernel_rfl) (by kernel_rfl)
theorem zih (os:Os) (args:Array Value):laidMet Tryd.prog Rows.egraphOrderUptoRow.laid ((laidW2 Tryd.prog Rows.egraphOrderUptoRow.laid os).forCall (fun _ _=>0) ⟨#[],args,[]⟩).memory :=
 laidMet_of_run3 8 (by kernel_rfl) (by kernel_rfl) (by kernel_rfl)
theorem zhj (W:World) (hL:laidMet Tryd.prog Rows.egraphOrderUptoRow.laid W) (hsh:W.ShapedOpen Tryd.prog):∀x∈tabs,∃fr,W.heap[x.1]? = some (.cells x.2.2 x.2.1 fr):=by
 intro x hx;simp only [tabs,List.mem_cons,List.not_mem_nil,or_false] at hx;subst hx;exact zis (name := "internal/strconv.uint64pow10") (te:=138) (n:=20) (t:=155) hL (by kernel_rfl) (by kernel_rfl) (by kernel_rfl) (by kernel_rfl) (by kernel_rfl) (by kernel_rfl) (by kernel_rfl) (of_decide_eq_true (by kernel_rfl)) (by kernel_rfl) hsh
theorem zf9:HasT H0:=by
 intro x hx;simp only [tabs,List.mem_cons,List.not_mem_nil,or_false] at hx;subst hx; exact ⟨by kernel_rfl,by rw [show H0.next=Tryd.prog.globals.size from z6p tabs,globalsN]; decide⟩
theorem zio {W:World} (hg:Tryd.prog.globals.size≤W.heap.size) (hL:laidMet Tryd.prog Rows.egraphOrderUptoRow.laid W) (hsh:W.ShapedOpen Tryd.prog):Imp Tryd.prog (φg Tryd.prog) H0 W :=
 Imp.startT hg zdd (zhj W hL hsh)
namespace bulks
theorem one_le {H:Type} (d:DataW H):1≤Rows.uptoBulk d:=by
 cases d with
 | lit l=>cases l <;> simp [Rows.uptoBulk]
 | nil=>simp [Rows.uptoBulk]
 | ptr d=>simp [Rows.uptoBulk]
 | slice elems spare=>simp [Rows.uptoBulk]
 | agg parts=>simp [Rows.uptoBulk]
 | iface t d=>simp [Rows.uptoBulk]
 | map entries=>simp [Rows.uptoBulk]
 | held h=>simp [Rows.uptoBulk]
theorem bound {H:Type} {l:List (DataW H)} (hk:Rows.uptoSmall H l=true):Rows.uptoBulkAll l≤1048576:=of_decide_eq_true hk
end bulks
section
variable {H:Type} {enc:TypeId×Value→H} {W:World} {φ:Inj}
theorem ar1 {a a':Value} (h:VR φ a a'):AR φ #[a] #[a']:=by
 refine ⟨rfl,fun i x y hx hy=>?_⟩
 match i,hx,hy with
 | 0,hx,hy=>simp at hx hy; subst hx hy; exact h
 | i+1,hx,_=>simp at hx
theorem wf_i64 {n:Int} (h:(Lit.int .i64 n).wf=true):-9223372036854775808≤n∧n<9223372036854775808:=by
 have e1:IntKind.i64.min=-9223372036854775808:=by decide
 have e2:IntKind.i64.max=9223372036854775807:=by decide
 simp only [Lit.wf,Bool.and_eq_true,decide_eq_true_eq,e1,e2] at h;omega
end
end Go.Proofs.YtgkhbmoidenjaaaDoor
namespace Go.Proofs.YtgkhbmoidenjaaaDoor
open Go Go.Abs Go.Abs.Eg Go.ChangeShapes Go.WideShapes
set_option maxRecDepth 100000
theorem cells55:Tryd.prog.cellsOf 55=6:=by kernel_rfl
theorem cells3:Tryd.prog.cellsOf 3=1:=by kernel_rfl
theorem cells27:Tryd.prog.cellsOf 27=1:=by kernel_rfl
section
variable {H:Type} {enc:TypeId×Value→H} {W:World}
theorem z3l {P:Program} {e:TypeId}:∀{l:List (DataW H)} {d:DataW H},d∈l→∀n∈d.weights P e,n∈DataW.weightsAll P e l
 | x :: l,d,hd,n,hn=>by
  simp only [DataW.weightsAll,List.mem_append];rcases List.mem_cons.1 hd with rfl | hd
  ·exact .inl hn
  ·exact .inr (z3l hd n hn)
theorem lr1 {φ:Inj} {a a':Value} (h:VR φ a a'):LR φ [a] [a']:=.cons h .nil
theorem z9q {β:Type} {w:β→Nat}:∀(bs:List β) (es:List (DataW H)),bs.length=es.length→(∀(i:Nat) b y,bs[i]? = some b→es[i]? = some y→w b≤Rows.uptoBulk y)→(bs.map w).sum≤Rows.uptoBulkAll es
 | [],[],_,_=>Nat.le_refl _
 | [],_ :: _,h,_=>by cases h
 | _ :: _,[],h,_=>by cases h
 | b :: bs,y :: es,h,hw=>by
  have h1:=z9q bs es (by simpa using h) fun i b' y' hb hy=>hw (i+1) b' y' (by simpa using hb) (by simpa using hy);have h2:=hw 0 b y rfl rfl;simp only [List.map_cons,List.sum_cons,Rows.uptoBulkAll];omega
theorem z4n {t e:TypeId} {sz:Nat} (ht:Tryd.prog.underlying t=some (.slice e)) (hc:Tryd.prog.cellsOf e=sz) (hsz:0<sz) {β:Type} {R:AH→List Value→β→Prop} {w:β→Nat} (hR:∀H H' cs b,Ext H H'→R H cs b→R H' cs b)
  {fuel:Nat} {cs:List Value} {x:DataW H×List MemPlace} (elem:∀n,n<fuel→∀cs y,DataW.trod enc Tryd.prog W 0 (fun _=>true) true n e cs=some y→(y.1.weights Tryd.prog e).all (·≤reachBytes)=true→ElemK Tryd.prog W sz R (fun b=>w b≤Rows.uptoBulk y.1) cs)
  (hx:DataW.trod enc Tryd.prog W 0 (fun _=>true) true fuel t cs=some x) (hw:(x.1.weights Tryd.prog t).all (·≤reachBytes)=true) {φ:Inj} {H0:AH} (h:Imp Tryd.prog φ H0 W) :
  ∃v φ' H' s bs,cs=[v]∧Imp Tryd.prog φ' H' W∧φ.le φ'∧Ext H0 H'∧VR φ' (Sl3.v s) v∧SlL (Stands sz R) sz H' s (bs:List β)∧(bs.map w).sum≤Rows.uptoBulk x.1:=by
 rcases DataW.trod_slice ht hx with ⟨rfl,rfl⟩ | ⟨a,len,cap,elems,rest,n,rfl,rfl,rfl,hb,hl,hm,hlen,hel,hsp,_⟩
 ·obtain ⟨φ',H',s,bs,h1,h2,h3,h4,h5,h6,_,_⟩:=Imp.sliceK (n:=0) (c:=0) (A:=none) (K:=fun _ _=>True) hsz hR h l9 (Nat.le_refl _) (Nat.zero_le _) (fun _=>rfl) (C:=fun _=>[]) (fun i hi=>absurd hi (Nat.not_lt_zero _)) (fun a ha=>by cases ha) (fun a ha=>by cases ha);have:bs=[]:=List.length_eq_zero_iff.1 h6;subst this;exact ⟨_,φ',H',s,[],rfl,h1,h2,h3,h4,h5,Nat.zero_le _⟩
 ·have get:∀i (hi:i<len),∃cs',W.cells? 0 (a.add (i*sz)) sz=some cs'∧DataW.trod enc Tryd.prog W 0 (fun _=>true) true n e cs'=some (elems[i]'(by omega)):=by
   intro i hi;have:=hel i hi;rw [hc,List.getElem?_eq_getElem (by omega)] at this;obtain ⟨cs',h1,h2⟩:=Option.bind_eq_some_iff.1 this;exact ⟨cs',h1,h2⟩
  have hww:∀y∈elems,(y.1.weights Tryd.prog e).all (·≤reachBytes)=true:=by
   intro y hy;rw [List.all_eq_true];intro w' hw';rw [List.all_eq_true] at hw;refine hw w' ?_;simp only [DataW.weights,ht,List.mem_cons,List.mem_append];exact .inr (.inl (z3l (List.mem_map.2 ⟨y,hy,rfl⟩) w' hw'))
  obtain ⟨φ',H',s,bs,h1,h2,h3,h4,h5,h6,_,h8⟩:=Imp.sliceK (n:=len) (c:=cap) (A:=some a) (K:=fun i b=>∀y,(elems.map (·.1))[i]? = some y→w b≤Rows.uptoBulk y) hsz hR h l9 hl hm (fun h=>by cases h) (C:=fun i=>(W.cells? 0 (a.add (i*sz)) sz).getD []) (fun i hi=>by
    obtain ⟨cs',g1,g2⟩:=get i hi;simp only [g1,Option.getD_some];intro φ0 H0 hi0;obtain ⟨φ',H',cs2,b,q1,q2,q3,q4,q5,q6,q7,q8⟩:=elem n (Nat.lt_succ_self n) cs' _ g2 (hww _ (List.getElem_mem _)) φ0 H0 hi0;refine ⟨φ',H',cs2,b,q1,q2,q3,q4,q5,q6,q7,fun y hy=>?_⟩;rw [List.getElem?_map,List.getElem?_eq_getElem (by omega),Option.map_some] at hy;cases hy;exact q8) (fun a' ha' hpos=>by
    cases ha';by_cases h0:0<len
    ·obtain ⟨cs',g1,g2⟩:=get 0 h0;obtain ⟨_,k2,k3⟩:=World.cells?_some g1;have:=k3 0 hsz;rw [Nat.zero_mul,add_zero,add_zero] at this;exact ⟨_,this.trans (List.getElem?_eq_getElem (by omega))⟩
    ·obtain rfl:len=0:=by omega
     obtain ⟨q1,q2⟩:=hsp rfl;have:=q2 0 (by omega);rw [hc,List.getElem?_eq_getElem (by omega)] at this;obtain ⟨cs',g1,g2⟩:=Option.bind_eq_some_iff.1 this;obtain ⟨_,k2,k3⟩:=World.cells?_some g1;have:=k3 0 hsz;rw [Nat.zero_add,Nat.zero_mul,add_zero,add_zero] at this;exact ⟨_,this.trans (List.getElem?_eq_getElem (by omega))⟩) (fun a' ha' i hi j hj=>by
    cases ha';obtain ⟨cs',g1,g2⟩:=get i hi;obtain ⟨_,k2,k3⟩:=World.cells?_some g1;have:=k3 j hj;simp only [g1,Option.getD_some];rw [← this];have hsp:a.spot=none:=by
     obtain ⟨cs0,g1,g2⟩:=get 0 (by omega);obtain ⟨_,k2,k3⟩:=World.cells?_some g1;have k0:=k3 0 hsz;rw [Nat.zero_mul,add_zero,add_zero] at k0;obtain ⟨_,_,_,_,hs,_⟩:=z17 (k0.trans (List.getElem?_eq_getElem (by omega)));exact hs
    rw [z2z hsp])
  refine ⟨_,φ',H',s,bs,rfl,h1,h2,h3,h4,h5,?_⟩;have:=z9q bs (elems.map (·.1)) (by rw [List.length_map]; omega) fun i b y hb hy=>h8 i b hb y hy;simp only [Rows.uptoBulk];omega
structure ZV (H:AH) (cs:List Value) (b:Int):Prop where
 ex:cs=[.int .i64 b]
theorem ZV.ext (H H':AH) (cs:List Value) (b:Int) (hf:Ext H H') (h:ZV H cs b):ZV H' cs b:=⟨h.ex⟩
theorem fl_EZ:∀l:List Int,l.flatMap EZ.enc=l.map fun n=>Value.int .i64 n
 | []=>rfl
 | x :: l=>by rw [List.flatMap_cons,List.map_cons,fl_EZ l]; rfl
theorem ar_of {H:AH} {s:Sl3} {l:List Int} (h:SlL (Stands 1 ZV) 1 H s l):AR H s l:=by
 have cell:∀(i:Nat) (hi:i<l.length),∃a,s.p=some a∧Cel H (a.add i) (.int .i64 l[i]):=fun i hi=>by
  obtain ⟨a,h1,cs,h2,h3,h4⟩:=h.at_.get i hi;obtain rfl:=h4.ex;have:=h3 0 _ rfl;rw [add_zero,Nat.mul_one,Nat.zero_add] at this;exact ⟨a,h1,this⟩
 have fl:=fl_EZ l;refine ⟨h.n,⟨h.n,fun hp=>?_,fun a ha=>?_,?_⟩,fun i hi=>?_⟩
 ·cases l with
  | nil=>exact ⟨rfl,rfl⟩
  | cons x l=>obtain ⟨a,h1,_⟩:=cell 0 (by simp); rw [hp] at h1; cases h1
 ·rw [fl,Nat.mul_one];have:=J7 (H:=H) (a:=a) (l.map fun n=>Value.int .i64 n) 0 fun i hi=>by
   rw [List.length_map] at hi;obtain ⟨a',h1,h2⟩:=cell i hi;rw [ha] at h1;cases h1;rw [Nat.zero_add,List.getElem_map];exact h2.1
  rw [List.length_map] at this;exact this
 ·rw [fl,List.all_eq_true];intro v hv;obtain ⟨n,_,rfl⟩:=List.mem_map.1 hv;rfl
 ·obtain ⟨a,h1,h2⟩:=cell i hi;refine ⟨a.add (i*1),?_,?_⟩
  ·unfold idxA;rw [h1];simp only [h.n,if_pos (show (0:Int)≤(i:Int)∧(i:Int)<((l.length:Nat):Int) by omega),Int.toNat_natCast]
  ·rw [Nat.mul_one,h2.rd]; rfl
structure OpV (H:AH) (cs:List Value) (o:OpD):Prop where
 ex:∃s:Sl3,cs=[.int .i64 o.kd,.int .i64 o.sy,s.v,.int .i64 o.a,.int .i64 o.b,.int .i64 o.tg]∧∀H',Ext H H'→AR H' s o.aa
 ok:-9223372036854775808≤o.sy∧o.sy<9223372036854775808
theorem OpV.ext (H H':AH) (cs:List Value) (o:OpD) (hf:Ext H H') (h:OpV H cs o):OpV H' cs o:=⟨let ⟨s,h1,h2⟩:=h.ex; ⟨s,h1,fun H2 hx=>h2 H2 (hf.trans hx)⟩,h.ok⟩
theorem SlZ.ext {H H':AH} {s:Sl3} {l:List Int} (h:SlL (Stands 1 ZV) 1 H s l) (hf:Ext H H'):SlL (Stands 1 ZV) 1 H' s l :=
 ⟨h.n,h.cap,h.top,fun a ha=>⟨Nat.lt_of_lt_of_le (h.low a ha).1 hf.1,(h.low a ha).2⟩,h.at_.imp fun a x hx=>let ⟨cs,h1,h2,h3⟩:=hx; ⟨cs,h1,fun j v hj=>(h2 j v hj).ext hf,⟨h3.ex⟩⟩⟩
theorem zgc (fuel:Nat) (cs:List Value) (x:DataW H×List MemPlace) (hx:DataW.trod enc Tryd.prog W 0 (fun _=>true) true fuel 55 cs=some x) (hw:(x.1.weights Tryd.prog 55).all (·≤reachBytes)=true):ElemK Tryd.prog W 6 OpV (fun o=>o.aa.length+1≤Rows.uptoBulk x.1) cs:=by
 intro φ H0 h;obtain ⟨xs,n,rfl,rfl,hl,hlen,hf⟩:=DataW.trod_struct Tryd.underlying55 hx;rw [cells55] at hl
 match xs,hlen with
 | [y0,y1,y2,y3,y4,y5],_ =>
  match cs,hl with
  | [c0,c1,c2,c3,c4,c5],_ =>
   have f0:DataW.trod enc Tryd.prog W 0 (fun _=>true) true n 3 (([c0,c1,c2,c3,c4,c5].drop 0).take (Tryd.prog.cellsOf 3))=some y0:=hf 0 _ rfl;rw [cells3] at f0;change DataW.trod enc Tryd.prog W 0 (fun _=>true) true n 3 [c0]=some y0 at f0;have f1:DataW.trod enc Tryd.prog W 0 (fun _=>true) true n 3 (([c0,c1,c2,c3,c4,c5].drop 1).take (Tryd.prog.cellsOf 3))=some y1:=hf 1 _ rfl;rw [cells3] at f1;change DataW.trod enc Tryd.prog W 0 (fun _=>true) true n 3 [c1]=some y1 at f1;have f2:DataW.trod enc Tryd.prog W 0 (fun _=>true) true n 27 (([c0,c1,c2,c3,c4,c5].drop 2).take (Tryd.prog.cellsOf 27))=some y2:=hf 2 _ rfl;rw [cells27] at f2;change DataW.trod enc Tryd.prog W 0 (fun _=>true) true n 27 [c2]=some y2 at f2;have f3:DataW.trod enc Tryd.prog W 0 (fun _=>true) true n 3 (([c0,c1,c2,c3,c4,c5].drop 3).take (Tryd.prog.cellsOf 3))=some y3:=hf 3 _ rfl;rw [cells3] at f3;change DataW.trod enc Tryd.prog W 0 (fun _=>true) true n 3 [c3]=some y3 at f3;have f4:DataW.trod enc Tryd.prog W 0 (fun _=>true) true n 3 (([c0,c1,c2,c3,c4,c5].drop 4).take (Tryd.prog.cellsOf 3))=some y4:=hf 4 _ rfl;rw [cells3] at f4;change DataW.trod enc Tryd.prog W 0 (fun _=>true) true n 3 [c4]=some y4 at f4;have f5:DataW.trod enc Tryd.prog W 0 (fun _=>true) true n 3 (([c0,c1,c2,c3,c4,c5].drop 5).take (Tryd.prog.cellsOf 3))=some y5:=hf 5 _ rfl;rw [cells3] at f5;change DataW.trod enc Tryd.prog W 0 (fun _=>true) true n 3 [c5]=some y5 at f5;simp only [DataW.weights,Tryd.underlying55,List.map_cons,List.map_nil,DataW.weightsEach,List.append_nil,List.all_append,Bool.and_eq_true] at hw;obtain ⟨n0,e0,d0,w0⟩:=DataW.trod_int Tryd.underlying3 f0;obtain ⟨n1,e1,d1,w1⟩:=DataW.trod_int Tryd.underlying3 f1;obtain ⟨n3,e3,d3,w3⟩:=DataW.trod_int Tryd.underlying3 f3;obtain ⟨n4,e4,d4,w4⟩:=DataW.trod_int Tryd.underlying3 f4;obtain ⟨n5,e5,d5,w5⟩:=DataW.trod_int Tryd.underlying3 f5;obtain ⟨v,φ',H',s,bs,e2,g1,g2,g3,g4,g5,g7⟩:=z4n (enc:=enc) (w:=fun _:Int=>1) Tryd.underlying27 cells3 (by omega) ZV.ext (fun m hm cs x q1 q2=>fun φ0 H1 h1=>by
    obtain ⟨z,rfl,_,_⟩:=DataW.trod_int Tryd.underlying3 q1;exact ⟨φ0,H1,[.int .i64 z],z,h1,Inj.le_refl _,Fm.refl _ _,rfl,rfl,lr1 (.int _ _),⟨rfl⟩,bulks.one_le _⟩) f2 hw.2.2.1 h
   have g8:(bs.map fun _:Int=>1).sum=bs.length:=by clear g7 g5; induction bs with
    | nil=>rfl
    | cons b bs ih=>rw [List.map_cons,List.sum_cons,ih,List.length_cons]; omega
   simp only [List.cons.injEq,and_true] at e0 e1 e2 e3 e4 e5;subst e0 e1 e2 e3 e4 e5;refine ⟨φ',H',[.int .i64 n0,.int .i64 n1,Sl3.v s,.int .i64 n3,.int .i64 n4,.int .i64 n5],⟨n0,n1,bs,n3,n4,n5⟩,g1,g2,g3,rfl,rfl,.cons (.int _ _) (.cons (.int _ _) (.cons g4 (.cons (.int _ _) (.cons (.int _ _) (.cons (.int _ _) .nil))))),⟨⟨s,rfl,fun H2 hx=>ar_of (SlZ.ext g5 hx)⟩,?_⟩,?_⟩
   ·exact wf_i64 w1
   ·simp only [Rows.uptoBulk,Rows.uptoBulkAll,List.map_cons];show bs.length+1≤_;omega
theorem ops_of {H:AH} {s:Sl3} {l:List OpD} (h:SlL (Stands 6 OpV) 6 H s l):OpsR H s l:=by
 refine ⟨h.n,fun i hi=>?_⟩;obtain ⟨a,h1,cs,h2,h3,h4⟩:=h.at_.get i hi;obtain ⟨sl,rfl,h5⟩:=h4.ex;rw [Nat.zero_add] at h3;refine ⟨a.add (i*6),?_,⟨h3 0 _ rfl,h3 1 _ rfl,⟨sl,h3 2 _ rfl,h5⟩,h3 3 _ rfl,h3 4 _ rfl,h3 5 _ rfl,h4.ok⟩⟩;unfold idxA;rw [h1];simp only [h.n,if_pos (show (0:Int)≤(i:Int)∧(i:Int)<((l.length:Nat):Int) by omega),Int.toNat_natCast]
theorem zdm:∀ops:List OpD,bulkO ops=(ops.map fun o=>o.aa.length+1).sum
 | []=>rfl
 | o :: ops=>by
  have:=zdm ops;unfold bulkO at this ⊢;simp only [List.length_cons,List.map_cons,List.sum_cons];omega
theorem zed {φ:Inj} {H0:AH} (h:Imp Tryd.prog φ H0 W) {v:Value} {d:DataW H} {ps:List MemPlace} (hd:DataW.Trod enc Tryd.prog W 0 (fun _=>true) true 22 v d ps) {base:Nat} (hv:Value.okWide Tryd.prog W .any base 22 v) (hw:(d.weights Tryd.prog 22).all (·≤reachBytes)=true) :
  ∃φ' H' s ops,Imp Tryd.prog φ' H' W∧φ.le φ'∧Ext H0 H'∧VR φ' (Sl3.v s) v∧OpsR H' s ops∧bulkO ops≤Rows.uptoBulk d:=by
 obtain ⟨A,Ln,C,rfl⟩:=okWide_slice Tryd.underlying22 hv;obtain ⟨fuel,hf⟩:=hd;change DataW.trod enc Tryd.prog W 0 (fun _=>true) true fuel 22 [.slice A Ln C]=some (d,ps) at hf;obtain ⟨v',φ',H',s,bs,e,h1,h2,h3,h4,h5,h6⟩:=z4n (enc:=enc) (w:=fun o:OpD=>o.aa.length+1) Tryd.underlying22 cells55 (by omega) OpV.ext (fun m hm cs x q1 q2=>zgc m cs x q1 q2) hf hw h;simp only [List.cons.injEq,and_true] at e;subst e;exact ⟨φ',H',s,bs,h1,h2,h3,h4,ops_of h5,Nat.le_trans (Nat.le_of_eq (zdm bs)) h6⟩
end
end Go.Proofs.YtgkhbmoidenjaaaDoor
namespace Go.Proofs.YtgkhbmoidenjaaaDoor
open Go Go.Abs
set_option maxRecDepth 100000
def sortRen:Go.Shelf.Ren:=⟨fun | 5=>55 | 8=>69 | 7=>68 | 19=>87 | 20=>88 | 10=>78 | 11=>79 | 12=>80 | 13=>81 | 14=>82 | 15=>83 | 16=>84 | 17=>85 | 18=>86 | 30=>90 | 31=>91 | 32=>92 | 33=>93 | 34=>94 | 35=>95 | 40=>97 | n=>n,fun | 23=>27 | 25=>3 | 3=>3 | 32=>118 | 22=>27 | 0=>0 | 44=>136 | 46=>138 | 4=>4 | 36=>130 | 35=>129 | 41=>38 | 5=>5 | 9=>9 | 53=>140 | 57=>144 | 63=>147 | 64=>94 | n=>n,fun n=>n⟩
theorem sortLays:Go.Proofs.SlLaysM.n5 Tryd.prog sortRen:={
 mixed:=by kernel_rfl,
 f5:=⟨Tryd.f55.name,by decide,Tryd.func55.trans (congrArg some (by kernel_rfl))⟩,
 f7:=⟨Tryd.f68.name,by decide,Tryd.func68.trans (congrArg some (by kernel_rfl))⟩,
 f8:=Tryd.func69.trans (congrArg some (by kernel_rfl)),
 f10:=⟨Tryd.f78.name,by decide,Tryd.func78.trans (congrArg some (by kernel_rfl))⟩,
 f11:=⟨Tryd.f79.name,by decide,Tryd.func79.trans (congrArg some (by kernel_rfl))⟩,
 f12:=⟨Tryd.f80.name,by decide,Tryd.func80.trans (congrArg some (by kernel_rfl))⟩,
 f13:=⟨Tryd.f81.name,by decide,Tryd.func81.trans (congrArg some (by kernel_rfl))⟩,
 f14:=⟨Tryd.f82.name,by decide,Tryd.func82.trans (congrArg some (by kernel_rfl))⟩,
 f15:=⟨Tryd.f83.name,by decide,Tryd.func83.trans (congrArg some (by kernel_rfl))⟩,
 f16:=⟨Tryd.f84.name,by decide,Tryd.func84.trans (congrArg some (by kernel_rfl))⟩,
 f17:=⟨Tryd.f85.name,by decide,Tryd.func85.trans (congrArg some (by kernel_rfl))⟩,
 f18:=⟨Tryd.f86.name,by decide,Tryd.func86.trans (congrArg some (by kernel_rfl))⟩,
 f19:=Tryd.func87.trans (congrArg some (by kernel_rfl)),
 f20:=Tryd.func88.trans (congrArg some (by kernel_rfl)),
 f30:=⟨Tryd.f90.name,by decide,Tryd.func90.trans (congrArg some (by kernel_rfl))⟩,
 f31:=Tryd.func91.trans (congrArg some (by kernel_rfl)),
 f32:=Tryd.func92.trans (congrArg some (by kernel_rfl)),
 f33:=⟨Tryd.f93.name,by decide,Tryd.func93.trans (congrArg some (by kernel_rfl))⟩,
 f34:=⟨Tryd.f94.name,by decide,Tryd.func94.trans (congrArg some (by kernel_rfl))⟩,
 f35:=⟨Tryd.f95.name,by decide,Tryd.func95.trans (congrArg some (by kernel_rfl))⟩,
 f40:=⟨Tryd.f97.name,by decide,Tryd.func97.trans (congrArg some (by kernel_rfl))⟩,
 t0:=by kernel_rfl,
 a0:=fun _=>by kernel_rfl,
 z0:=fun _=>by kernel_rfl,
 v0:=fun _=>by kernel_rfl,
 t3:=by kernel_rfl,
 a3:=fun _=>by kernel_rfl,
 z3:=fun _=>by kernel_rfl,
 v3:=fun _=>by kernel_rfl,
 t4:=by kernel_rfl,
 a4:=fun _=>by kernel_rfl,
 z4:=fun _=>by kernel_rfl,
 v4:=fun _=>by kernel_rfl,
 t5:=by kernel_rfl,
 a5:=fun _=>by kernel_rfl,
 z5:=fun _=>by kernel_rfl,
 v5:=fun _=>by kernel_rfl,
 t9:=by kernel_rfl,
 a9:=fun _=>by kernel_rfl,
 z9:=fun _=>by kernel_rfl,
 v9:=fun _=>by kernel_rfl,
 t22:=by kernel_rfl,
 a22:=fun _=>by kernel_rfl,
 z22:=fun _=>by kernel_rfl,
 v22:=fun _=>by kernel_rfl,
 t23:=by kernel_rfl,
 a23:=fun _=>by kernel_rfl,
 z23:=fun _=>by kernel_rfl,
 v23:=fun _=>by kernel_rfl,
 t25:=by kernel_rfl,
 a25:=fun _=>by kernel_rfl,
 z25:=fun _=>by kernel_rfl,
 v25:=fun _=>by kernel_rfl,
 t32:=by kernel_rfl,
 a32:=fun _=>by kernel_rfl,
 z32:=fun _=>by kernel_rfl,
 v32:=fun _=>by kernel_rfl,
 t35:=by kernel_rfl,
 a35:=fun _=>by kernel_rfl,
 z35:=fun _=>by kernel_rfl,
 v35:=fun _=>by kernel_rfl,
 t36:=by kernel_rfl,
 a36:=fun _=>by kernel_rfl,
 z36:=fun _=>by kernel_rfl,
 v36:=fun _=>by kernel_rfl,
 t41:=by kernel_rfl,
 a41:=fun _=>by kernel_rfl,
 z41:=fun _=>by kernel_rfl,
 v41:=fun _=>by kernel_rfl,
 t44:=by kernel_rfl,
 a44:=fun _=>by kernel_rfl,
 z44:=fun _=>by kernel_rfl,
 v44:=fun _=>by kernel_rfl,
 t46:=by kernel_rfl,
 a46:=fun _=>by kernel_rfl,
 z46:=fun _=>by kernel_rfl,
 v46:=fun _=>by kernel_rfl,
 t53:=by kernel_rfl,
 a53:=fun _=>by kernel_rfl,
 z53:=fun _=>by kernel_rfl,
 v53:=fun _=>by kernel_rfl,
 t57:=by kernel_rfl,
 a57:=fun _=>by kernel_rfl,
 z57:=fun _=>by kernel_rfl,
 v57:=fun _=>by kernel_rfl,
 t63:=by kernel_rfl,
 a63:=fun _=>by kernel_rfl,
 z63:=fun _=>by kernel_rfl,
 v63:=fun _=>by kernel_rfl,
 t64:=by kernel_rfl,
 a64:=fun _=>by kernel_rfl,
 z64:=fun _=>by kernel_rfl,
 v64:=fun _=>by kernel_rfl }
theorem z9o:∃fn c,Tryd.prog.funcs[sortRen.f 5]? = some fn∧fn.body=some c:=⟨Tryd.f55,(Tryd.f55.body).getD .skip,Tryd.func55,by kernel_rfl⟩
theorem z5d {es:List MapEntry} (hn:(es.map (·.born)).Nodup) {e:MapEntry} (he:e∈es):es.find? (fun x=>x.born == e.born)=some e:=by
 induction es with
 | nil=>cases he
 | cons x l ih =>
  rw [List.map_cons,List.nodup_cons] at hn;rw [List.find?_cons];rcases List.mem_cons.1 he with rfl | he
  ·simp
  ·have:¬x.born=e.born:=fun h=>hn.1 (by rw [h]; exact List.mem_map.2 ⟨e,he,rfl⟩);simp only [beq_iff_eq,this,Bool.false_eq_true,beq_eq_false_iff_ne.2 this];exact ih hn.2 he
theorem zin {es:List MapEntry} (hn:(es.map (·.born)).Nodup) {x y:MapEntry} (hx:x∈es) (hy:y∈es) (h:x.born=y.born):x=y:=by
 have h1:=z5d hn hx;have h2:=z5d hn hy;rw [h,h2] at h1;exact (Option.some.inj h1).symm
theorem z5f {es:List MapEntry} (h:(es.map (·.born)).Nodup):es.Nodup:=by
 induction es with
 | nil=>simp
 | cons x l ih =>
  rw [List.map_cons,List.nodup_cons] at h;exact List.nodup_cons.2 ⟨fun hx=>h.1 (List.mem_map.2 ⟨x,hx,rfl⟩),ih h.2⟩
theorem z9k:∀{l l':List Nat},l.Nodup→(∀b∈l,b∈l')→l.length≤l'.length
 | [],_,_,_=>Nat.zero_le _
 | x :: l,l',hn,hs=>by
  rw [List.nodup_cons] at hn;have h1:=z9k hn.2 (l':=l'.erase x) fun b hb=>(List.mem_erase_of_ne (fun e:b=x=>hn.1 (by rw [← e]; exact hb))).2 (hs b (List.mem_cons_of_mem _ hb));have h2:=List.length_erase_of_mem (hs x List.mem_cons_self);have h3:=List.length_pos_of_mem (hs x List.mem_cons_self);simp only [List.length_cons];omega
noncomputable def BX:Code:=(Tryd.f32.body).getD .skip
theorem zg2 {m:Nat} {E:Ent} {H:AH} {p1:Nat} {r:Sl3×AH} (h:keysS 3 m H p1=some r) :
  WS Tryd.prog (NE.plain 1000) m E Tryd.f32.ntmps (csnd (csnd (csnd (csnd (csnd (csnd BX)))))) [(7,.val (Value.map (some p1))),kS 18 Sl3.nil] [] H (retS Tryd.prog (NE.plain 1000) m E Tryd.f32 (Sl3.v r.1) r.2):=by
 intro a0 w0 hs0;have hlt:∀id b,H.get id=some b→id<H.next:=fun id b hb=>by
  obtain ⟨φ,cs,hh⟩:=hs0;exact hh.inv.get_lt hb
 revert a0 w0
 suffices hW:WS Tryd.prog (NE.plain 1000) m E Tryd.f32.ntmps (csnd (csnd (csnd (csnd (csnd (csnd BX)))))) [(7,.val (Value.map (some p1))),kS 18 Sl3.nil] [] H (retS Tryd.prog (NE.plain 1000) m E Tryd.f32 (Sl3.v r.1) r.2) from fun a w hs=>hW a w hs
 unfold keysS at h;split at h
 ·rename_i es clock opn esz ro hb;split at h
  ·rename_i zs hz;split at h
   ·rename_i hc;obtain ⟨hnd,hbc,hzl,hm⟩:=hc;cases h;have hlen:=z24 hz;have hp1:=hlt _ _ hb;refine B0 (B0 (WS.rg (u0 1 [(141,.val (.map (some p1)))] ?_)));refine RS.o (H':=H.push (iterB p1 clock)) (some 142) (.pointer (some ⟨H.next,0,none⟩)) (zfr (t:=110) (k:=3) (e:=3) (x:=.tmp 141) (by kernel_rfl) (by kernel_rfl) (by kernel_rfl) hb rfl) (RS.dn (A0 (M0 8 ?_)));refine WS.sub [(142,.val (.pointer (some ⟨H.next,0,none⟩))),kS 18 Sl3.nil] 0 [] (SubV.of (by kernel_rfl)) rfl (by kernel_rfl) ?_;refine WS.loopRel (S:=AH×Sl3×List MapEntry) (fun s=>[(142,.val (.pointer (some ⟨H.next,0,none⟩))),kS 18 s.2.1]) (fun _=>[]) (fun s=>s.1) 8 (KeyI 3 H p1 clock es) (fun s=>KeyI 3 H p1 clock es s∧∀x∈es,x.born∈s.2.2.map (·.born)) (fun s=>es.size - s.2.2.length) ?_ (s:=(H.push (iterB p1 clock),Sl3.nil,[])) ?_ ?_
    ·rintro ⟨Hj,out,seen⟩ hI
     have hr:Hj.get p1=some _:=(hI.low p1 hp1).trans hb;have hok:(!((seen.map (·.born)).toArray).isEmpty&&!es.isEmpty&&es.all fun e=>decide (e.born≥clock))=false:=by
      cases he:es.isEmpty with
      | true=>simp
      | false =>
       have:(es.all fun e=>decide (e.born≥clock))=false:=by
        have hne:es.toList≠[]:=fun e=>by
         have:es=#[]:=by simpa using e
         rw [this] at he; simp at he
        obtain ⟨x,l,hx⟩:=List.exists_cons_of_ne_nil hne;rw [← Array.all_toList,hx,List.all_cons];have:=hbc x (by rw [hx]; exact List.mem_cons_self);simp;omega
       rw [this]; simp
     refine B0 (WS.rg (RS.nx 143 142 hI.iter rfl rfl hm hr rfl hok (fun e he=>hbc e (by simpa using he)) (fun hall=>?_) (fun e he hne=>?_)))
     ·refine u0 1 [kB 144 false] (RS.dn (A0 (B0 (I0 (WS.ex 8 ?_)))));exact fun a w hs=>sqE (Q:=relS Tryd.prog (NE.plain 1000) m E Tryd.f32.ntmps _ _ _ 8 _ _ _ _) ⟨(Hj,out,seen),⟨hI,fun x hx=>by simpa using hall x hx⟩,rfl,hs.sb 0⟩
     ·obtain ⟨z,hkz⟩:=z5g hz e (by simpa using he);have hsl:seen.length<es.size:=by
       have h1:(e.born :: seen.map (·.born)).Nodup:=List.nodup_cons.2 ⟨fun hh=>hne (by simpa using hh),hI.nd⟩;have h2:(e.born :: seen.map (·.born)).length≤(es.toList.map (·.born)).length:=z9k h1 (fun b hb'=>by
        rcases List.mem_cons.1 hb' with rfl | hb'
        ·exact List.mem_map.2 ⟨e,by simpa using he,rfl⟩
        ·obtain ⟨x,hx,rfl⟩:=List.mem_map.1 hb';exact List.mem_map.2 ⟨x,by simpa using hI.sub x hx,rfl⟩)
       simp only [List.length_cons,List.length_map,Array.length_toList] at h2;omega
      obtain ⟨row,H2,out',H3,q1,q2,q3⟩:=hI.step hm he hne hkz (by show seen.length≤_; have:=Array.length_toList (xs:=es); omega);have hkey:=zfw hkz;refine u0 1 [kB 144 true] (RS.dn (A0 (B0 (G0 (J0 (A0 (M0 9 (B0 (WS.rg ?_)))))))));refine RS.o (H':=Hj.put H.next { obj:=.mapIter (some p1) clock ((seen.map (·.born)).toArray.push e.born) clock,opn:=false,esz:=0,ro:=false }) (some 145) (.tuple #[.int .i64 z,e.val]) ?_ (u0 2 [kI 19 z,kI 146 z] (RS.dn (A0 (WS.rg (u0 2 [kI 148 z,kS 147 out] ?_)))))
      ·rw [← hkey];refine zgz (x:=.tmp 142) (by kernel_rfl) (by kernel_rfl) (AH.get_put_same _ _ _) rfl ((AH.get_put_other _ _ (by omega)).trans hr) rfl (stamp:=e.born) (by simp) ?_;have:=z5d hnd (e:=e) (by simpa using he);rw [Array.find?_toList] at this;exact this
      refine RS.o (H':=H2) (some 149) (Sl3.v row) (Abs.run_newR (by kernel_rfl) (by kernel_rfl) q1) ?_;refine RS.o (H':=H3) (some 150) (Sl3.v out') (Abs.run_app (x:=.tmp 147) (y:=.tmp 149) (ts:=#[27,27]) (s:=out) (z:=row) (by kernel_rfl) (by kernel_rfl) (by kernel_rfl) (by kernel_rfl) q2) (u0 1 [kS 18 out'] (RS.dn ?_));exact fun a w hs=>bkN (Q:=relS Tryd.prog (NE.plain 1000) m E Tryd.f32.ntmps _ _ _ 8 _ _ _ _) ⟨(H3,out',seen++[e]),q3,by show es.size - (seen++[e]).length<es.size - seen.length; rw [List.length_append]; simp only [List.length_singleton]; omega,hs.sb 0⟩
    ·refine ⟨rfl,fun id hid=>AH.get_push_other _ _ (by omega),AH.get_push_same _ _,by simp,fun x hx=>(by cases hx),[],rfl,.inl ⟨rfl,rfl⟩⟩
    ·rintro ⟨Hf,out,seen⟩ ⟨hI,hall⟩ a w hs
     have hsn:seen.Nodup:=z5f hI.nd;have hen:es.toList.Nodup:=z5f hnd;have hperm:seen.Perm es.toList:=(List.perm_ext_iff_of_nodup hsn hen).2 fun x=>⟨fun hx=>by simpa using hI.sub x hx,fun hx=>by
      obtain ⟨y,hy,hyb⟩:=List.mem_map.1 (hall x (by simpa using hx));rw [← zin hnd (by simpa using hI.sub y hy) hx hyb]; exact hy⟩
     obtain ⟨ys,hys,hcase⟩:=hI.keys;have hpz:=zes hperm _ _ hys hz;have hyl:ys.length=zs.length:=hpz.length_eq;have hsl:seen.length=zs.length:=by rw [← hyl]; exact (z24 hys).symm
     refine bkE ((A0 (kn:=[(142,.val (.pointer (some ⟨H.next,0,none⟩))),kS 18 out]) (ls:=[]) (H:=Hf) ?_ a w hs));refine B0 (WS.rg (u0 1 [kS 151 out] ?_));rcases hcase with ⟨h0,hout⟩ | ⟨h0,hout,hget⟩
     ·have hzs:zs=[]:=by rw [h0] at hyl; exact List.length_eq_zero_iff.1 hyl.symm
      have hout:out=Sl3.nil:=hout;subst hout;refine RS.cl (H':=Hf) (some 152) (v:=.tuple #[]) 55 _ (zi6 sortLays z9o) (RS.dn (A0 (B0 (WS.rg (u0 2 [kS 6 Sl3.nil,kS 153 Sl3.nil] (RS.dn (A0 (K0 ?_))))))));have hr:outS 3 H zs=(Sl3.nil,{ H with next:=H.next+1 }):=by unfold outS; rw [if_pos hzs]
      rw [hr];intro a w hs;refine rtR (rS (SS.forget hs ?_ fun id b hb'=>?_))
      ·show H.next+1=Hf.next;have:=hI.next;rw [show Hf.next=_ from this,hsl,hzs]; rfl
      ·have hb':H.get id=some b:=hb';exact (hI.low id (hlt id b hb')).trans hb'
     ·have hzn:zs≠[]:=fun e=>h0 (by rw [e] at hyl; exact List.length_eq_zero_iff.1 hyl);have hout:out=⟨some ⟨H.next+2*ys.length,0,none⟩,ys.length,OPEN⟩:=hout;subst hout;have hget:Hf.get (H.next+2*ys.length)=some (rowB 3 ys):=hget;refine RS.cl (H':=Hf.put (H.next+2*ys.length) (rowB 3 (sortI ys))) (some 152) (v:=.tuple #[]) 55 _ (zgm (c:=OPEN) sortLays z9o hget (by omega) (List.length_pos_iff.2 h0) (by omega)) (RS.dn (A0 (B0 (WS.rg (u0 2 [kS 6 ⟨some ⟨H.next+2*ys.length,0,none⟩,ys.length,OPEN⟩,kS 153 ⟨some ⟨H.next+2*ys.length,0,none⟩,ys.length,OPEN⟩] (RS.dn (A0 (K0 ?_))))))));have hr:outS 3 H zs=(⟨some ⟨H.next+2*ys.length,0,none⟩,ys.length,OPEN⟩,AH.push { H with next:=H.next+2*ys.length } (rowB 3 (sortI ys))):=by
       unfold outS;rw [if_neg hzn,← hyl,← zea hpz]
      rw [hr];intro a w hs;refine rtR (rS (SS.forget hs ?_ fun id b hb'=>?_))
      ·show H.next+2*ys.length+1=Hf.next;rw [show Hf.next=_ from hI.next];show _=H.next+1+2*seen.length;omega
      ·by_cases e:id=H.next+2*ys.length
       ·subst e;rw [show (AH.push { H with next:=H.next+2*ys.length } (rowB 3 (sortI ys))).get (H.next+2*ys.length)=some (rowB 3 (sortI ys)) from AH.get_push_same _ _] at hb';rw [AH.get_put_same];exact hb'
       ·rw [show (AH.push { H with next:=H.next+2*ys.length } (rowB 3 (sortI ys))).get id=H.get id from AH.get_push_other _ _ e] at hb';rw [AH.get_put_other _ _ e];exact (hI.low id (hlt id b hb')).trans hb'
   ·cases h
  ·cases h
 ·cases h
def itoaRen:Go.Shelf.Ren:=⟨fun | 171=>76 | 243=>89 | 246=>96 | 283=>98 | 284=>99 | 285=>100 | 286=>101 | 129=>88 | 317=>102 | 318=>103 | 319=>104 | 320=>105 | 337=>106 | 338=>107 | n=>n,fun | 3=>3 | 9=>9 | 2=>2 | 4=>4 | 171=>149 | 0=>0 | 53=>138 | 37=>151 | 5=>5 | 173=>152 | 212=>155 | 51=>136 | 20=>20 | 213=>156 | 46=>118 | 232=>157 | 233=>158 | n=>n,fun | 17=>0 | 18=>1 | 19=>2 | n=>n⟩
theorem itoaLays:Go.Proofs.LaysM.n171 Tryd.prog itoaRen:={
 mixed:=by kernel_rfl,
 f129:=Tryd.func88.trans (congrArg some (by kernel_rfl)),
 f171:=Tryd.func76.trans (congrArg some (by kernel_rfl)),
 f243:=Tryd.func89.trans (congrArg some (by kernel_rfl)),
 f246:=Tryd.func96.trans (congrArg some (by kernel_rfl)),
 f283:=Tryd.func98.trans (congrArg some (by kernel_rfl)),
 f284:=Tryd.func99.trans (congrArg some (by kernel_rfl)),
 f285:=Tryd.func100.trans (congrArg some (by kernel_rfl)),
 f286:=Tryd.func101.trans (congrArg some (by kernel_rfl)),
 f317:=Tryd.func102.trans (congrArg some (by kernel_rfl)),
 f318:=Tryd.func103.trans (congrArg some (by kernel_rfl)),
 f319:=Tryd.func104.trans (congrArg some (by kernel_rfl)),
 f320:=Tryd.func105.trans (congrArg some (by kernel_rfl)),
 f337:=Tryd.func106.trans (congrArg some (by kernel_rfl)),
 f338:=Tryd.func107.trans (congrArg some (by kernel_rfl)),
 t0:=by kernel_rfl,
 a0:=fun _=>by kernel_rfl,
 z0:=fun _=>by kernel_rfl,
 v0:=fun _=>by kernel_rfl,
 t2:=by kernel_rfl,
 a2:=fun _=>by kernel_rfl,
 z2:=fun _=>by kernel_rfl,
 v2:=fun _=>by kernel_rfl,
 t3:=by kernel_rfl,
 a3:=fun _=>by kernel_rfl,
 z3:=fun _=>by kernel_rfl,
 v3:=fun _=>by kernel_rfl,
 t4:=by kernel_rfl,
 a4:=fun _=>by kernel_rfl,
 z4:=fun _=>by kernel_rfl,
 v4:=fun _=>by kernel_rfl,
 t5:=by kernel_rfl,
 a5:=fun _=>by kernel_rfl,
 z5:=fun _=>by kernel_rfl,
 v5:=fun _=>by kernel_rfl,
 t9:=by kernel_rfl,
 a9:=fun _=>by kernel_rfl,
 z9:=fun _=>by kernel_rfl,
 v9:=fun _=>by kernel_rfl,
 t20:=by kernel_rfl,
 a20:=fun _=>by kernel_rfl,
 z20:=fun _=>by kernel_rfl,
 v20:=fun _=>by kernel_rfl,
 t37:=by kernel_rfl,
 a37:=fun _=>by kernel_rfl,
 z37:=fun _=>by kernel_rfl,
 v37:=fun _=>by kernel_rfl,
 t46:=by kernel_rfl,
 a46:=fun _=>by kernel_rfl,
 z46:=fun _=>by kernel_rfl,
 v46:=fun _=>by kernel_rfl,
 t51:=by kernel_rfl,
 a51:=fun _=>by kernel_rfl,
 z51:=fun _=>by kernel_rfl,
 v51:=fun _=>by kernel_rfl,
 t53:=by kernel_rfl,
 a53:=fun _=>by kernel_rfl,
 z53:=fun _=>by kernel_rfl,
 v53:=fun _=>by kernel_rfl,
 t171:=by kernel_rfl,
 a171:=fun _=>by kernel_rfl,
 z171:=fun _=>by kernel_rfl,
 v171:=fun _=>by kernel_rfl,
 t173:=by kernel_rfl,
 a173:=fun _=>by kernel_rfl,
 z173:=fun _=>by kernel_rfl,
 v173:=fun _=>by kernel_rfl,
 t212:=by kernel_rfl,
 a212:=fun _=>by kernel_rfl,
 z212:=fun _=>by kernel_rfl,
 v212:=fun _=>by kernel_rfl,
 t213:=by kernel_rfl,
 a213:=fun _=>by kernel_rfl,
 z213:=fun _=>by kernel_rfl,
 t232:=by kernel_rfl,
 a232:=fun _=>by kernel_rfl,
 z232:=fun _=>by kernel_rfl,
 v232:=fun _=>by kernel_rfl,
 t233:=by kernel_rfl,
 a233:=fun _=>by kernel_rfl,
 z233:=fun _=>by kernel_rfl,
 v233:=fun _=>by kernel_rfl,
 g17:=by kernel_rfl,
 g18:=by kernel_rfl,
 g19:=by kernel_rfl,
 i0:=by kernel_rfl,
 i2:=by kernel_rfl,
 i3:=by kernel_rfl,
 i4:=by kernel_rfl,
 i5:=by kernel_rfl,
 i9:=by kernel_rfl,
 i20:=by kernel_rfl,
 i37:=by kernel_rfl,
 i46:=by kernel_rfl,
 i51:=by kernel_rfl,
 i53:=by kernel_rfl,
 i171:=by kernel_rfl,
 i173:=by kernel_rfl,
 i212:=by kernel_rfl,
 i232:=by kernel_rfl,
 i233:=by kernel_rfl,
 m17:=by kernel_rfl,
 m18:=by kernel_rfl,
 m19:=by kernel_rfl }
open Classical in
noncomputable def strconv_Itoa (_L:LC) (_m:Nat) (H:AH) (a0:Int):Option (ByteArray×AH):=if HasT H∧-9223372036854775808≤a0∧a0≤9223372036854775807 then some (⟨(Go.Lib.itoa a0).toArray⟩,H) else none
def z78:(ByteArray×AH)→Value
 | (r0,_)=>(Value.string r0)
def z87 (_:AH):(ByteArray×AH)→AH:=fun r=>r.2
theorem z2b {L:LC} {m:Nat} {H:AH} {a0:Int} {r:(ByteArray×AH)} (h:strconv_Itoa L m H a0=some r):CallS Tryd.prog (NE.plain 1000) m 76 #[(Value.int .i64 a0)] H (z78 r) (z87 H r):=by
 unfold strconv_Itoa at h;split at h
 ·rename_i hh;obtain ⟨hT,h0,h1⟩:=hh;cases h;exact zfj itoaLays ⟨Tryd.f76,(Tryd.f76.body).getD .skip,Tryd.func76,by kernel_rfl⟩ (g:=0) (by kernel_rfl) l9 (hT _ (List.mem_cons_self)).1 (by kernel_rfl) h0 h1
 ·cases h
end Go.Proofs.YtgkhbmoidenjaaaDoor
namespace Go.Proofs.YtgkhbmoidenjaaaDoor
open Go Go.Abs
open Go.Value renaming int → vI, string → vS, pointer → vP, agg → vA, bool → vB
set_option maxRecDepth 100000
def z33:Bool→Value
 | r0=>(vB r0)
def z3r (H:AH):Bool→AH:=fun _=>H
noncomputable def B38:Code:=(Tryd.f38.body).getD .skip
noncomputable def F3 (_L:LC) (H:AH) (a0:Option Addr):Option Bool :=
 match a0 with
 | none =>
  some false
 | some q1 =>
  (rd deM H (Addr.add q1 1)).bind fun x2 => match x2 with
  | none =>
   some false
  | some _ =>
   some true
theorem N5 {L:LC} {m:Nat} {H:AH} {a0:Option Addr} {r:Bool} (h:F3 L H a0=some r) :
  CallS Tryd.prog (NE.plain 1000) m 38 #[(vP a0)] H (z33 r) (z3r H r):=by
 refine CallS.mk (args:=[(vP a0)]) Tryd.func38 (B:=B38) (by kernel_rfl) (fun E _=>?_);unfold F3 at h;refine B0 (WS.rg (u0 1 [kB 2 false] (RS.dn (A0 (B0 (WS.rg (u0 1 [(3,.val (vP a0))] ?_)))))));rcases a0 with _ | q1
 ·try dsimp only at h
  refine u0 9 [kB 2 false,kB 11 false,kU 10,kU 9,kU 8,kU 7,kU 6,kB 5 false,kB 4 false] (RS.dn (A0 (K0 ?_)));cases h;exact fun a w hs=>rtR (rS hs)
 ·try dsimp only at h
  refine u0 5 [(8,.val (vP (some (Addr.add q1 1)))),kP 7 q1,kP 6 q1,kB 5 true,kB 4 true] ?_;obtain ⟨x2,hx,h⟩:=bind_some h;refine O0 9 58 (.tmp 8) (X0 hx G7) ?_;rcases x2 with _ | q3
  ·try dsimp only at h
   refine u0 3 [kB 2 false,kB 11 false,kB 10 false] (RS.dn (A0 (K0 ?_)));cases h;exact fun a w hs=>rtR (rS hs)
  ·try dsimp only at h
   refine u0 3 [kB 2 true,kB 11 true,kB 10 true] (RS.dn (A0 (K0 ?_)));cases h;exact fun a w hs=>rtR (rS hs)
def z42:Bool→Value
 | r0=>(vB r0)
def z5b (H:AH):Bool→AH:=fun _=>H
noncomputable def B31:Code:=(Tryd.f31.body).getD .skip
noncomputable def E3 (L:LC) (H:AH) (a0:Option Addr) (a1:Int):Option Bool :=
 (F3 L H a0).bind fun x1 => if x1=true then
  if a1≥0 then
   a0.bind fun q2 => (rd deSl H (Addr.add q2 0)).bind fun x3 => some (decide (a1<(x3.n:Int)))
  else
   some false
 else
  some false
theorem P4 {L:LC} {m:Nat} {H:AH} {a0:Option Addr} {a1:Int} {r:Bool} (h:E3 L H a0 a1=some r) :
  CallS Tryd.prog (NE.plain 1000) m 31 #[(vP a0),(vI .i64 a1)] H (z42 r) (z5b H r):=by
 refine CallS.mk (args:=[(vP a0),(vI .i64 a1)]) Tryd.func31 (B:=B31) (by kernel_rfl) (fun E _=>?_);unfold E3 at h;refine B0 (WS.rg (u0 1 [kB 4 false] (RS.dn (A0 (B0 (WS.rg (u0 1 [(5,.val (vP a0))] ?_)))))));obtain ⟨x1,hx,h⟩:=bind_some h;refine RS.cl (some 6) (v:=(vB x1)) 38 _ (N5 hx) (u0 1 [kB 7 x1] ?_);rcases Y0 h with ⟨hp,h⟩ | ⟨hp,h⟩
 ·refine U0 7 true hp (u0 4 [kB 11 (decide (a1≥0)),kB 10 (decide (a1≥0)),kB 9 (decide (a1≥0)),kI 8 a1] ?_);rcases Y0 h with ⟨hp,h⟩ | ⟨hp,h⟩
  ·refine U0 11 true (decide_eq_true hp) (u0 2 [(13,.val (vP a0)),kI 12 a1] ?_);obtain ⟨q2,hx,hq2⟩:=bind_some h;subst hx;have h:=hq2;refine u0 2 [(15,.val (vP (some (Addr.add q2 0)))),kP 14 q2] ?_;obtain ⟨x3,hx,h⟩:=bind_some h;refine O0 16 57 (.tmp 15) (X0 hx C1) (u0 4 [kB 4 (decide (a1<(x3.n:Int))),kB 19 (decide (a1<(x3.n:Int))),kB 18 (decide (a1<(x3.n:Int))),kI 17 (x3.n:Int)] (RS.dn (A0 (K0 ?_))));cases h;exact fun a w hs=>rtR (rS hs)
  ·refine U0 11 false (decide_eq_false hp) (u0 9 [kB 4 false,kB 19 false,kU 18,kU 17,kU 16,kU 15,kU 14,kU 13,kU 12] (RS.dn (A0 (K0 ?_))));cases h;exact fun a w hs=>rtR (rS hs)
 ·refine U0 7 false (b_not hp) (u0 13 [kB 4 false,kB 19 false,kU 18,kU 17,kU 16,kU 15,kU 14,kU 13,kU 12,kB 11 false,kB 10 false,kU 9,kU 8] (RS.dn (A0 (K0 ?_))));cases h;exact fun a w hs=>rtR (rS hs)
def z94:((Option Addr)×AH)→Value
 | (r0,_)=>(vP r0)
def zai (_:AH):((Option Addr)×AH)→AH:=fun r=>r.2
noncomputable def B16:Code:=(Tryd.f16.body).getD .skip
noncomputable def z1a (_L:LC) (_m:Nat) (H:AH):Option ((Option Addr)×AH) :=
 (newM H).bind fun (p1,H2) => (newM H2).bind fun (p3,H4) => (newB 63 [(Sl3.v Sl3.nil),(Value.map (some p1)),(Sl3.v Sl3.nil),(Sl3.v Sl3.nil),(Sl3.v Sl3.nil),(Sl3.v Sl3.nil),(Sl3.v Sl3.nil),(Value.map (some p3))] H4).bind fun (p5,H6) => some ((some p5),H6)
theorem zag {L:LC} {m:Nat} {H:AH} {r:((Option Addr)×AH)} (h:z1a L m H=some r) :
  CallS Tryd.prog (NE.plain 1000) m 16 #[] H (z94 r) (zai H r):=by
 refine CallS.mk (args:=[]) Tryd.func16 (B:=B16) (by kernel_rfl) (fun E _=>?_);unfold z1a at h;refine B0 (WS.rg (u0 1 [(0,.val (vP none))] (RS.dn (A0 (B0 (WS.rg ?_))))));obtain ⟨⟨p1,H2⟩,hx,h⟩:=bind_some h;try dsimp only at h
 refine RS.o (H':=H2) (some 1) (Value.map (some p1)) (Abs.run_newM (by kernel_rfl) hx) ?_;obtain ⟨⟨p3,H4⟩,hx,h⟩:=bind_some h;try dsimp only at h
 refine RS.o (H':=H4) (some 2) (Value.map (some p3)) (Abs.run_newM (by kernel_rfl) hx) (u0 1 [kA 3 #[(Sl3.v Sl3.nil),(Value.map (some p1)),(Sl3.v Sl3.nil),(Sl3.v Sl3.nil),(Sl3.v Sl3.nil),(Sl3.v Sl3.nil),(Sl3.v Sl3.nil),(Value.map (some p3))]] ?_);obtain ⟨⟨p5,H6⟩,hx,h⟩:=bind_some h;try dsimp only at h
 refine RS.o (H':=H6) (some 4) (vP (some p5)) (Abs.run_newB (by kernel_rfl) hx) (u0 1 [kP 0 p5] (RS.dn (A0 (K0 ?_))));cases h;exact fun a w hs=>rtR (rS hs)
def W7:AH→Value
 | _=>(Value.tuple #[])
def B8 (_:AH):AH→AH:=fun r=>r
noncomputable def B72:Code:=(Tryd.f72.body).getD .skip
noncomputable def O1 (_L:LC) (m:Nat) (a0:Option Addr):(AH×Int×Int×Int×Int×Int×Int×Bool)→Option (Lp (AH×Int×Int×Int×Int×Int×Int×Bool) AH):=fun (H1,v1_2,v4_3,w0_4,w0_5,w0_6,w0_7,w0_8) =>
 if v1_2≥0 then
  a0.bind fun q9 => (rd deSl H1 (Addr.add q9 6)).bind fun x10 => (idxA 5 x10 v1_2).bind fun p11 => (rd (deI .i64) H1 (Addr.add p11 0)).bind fun x12_0 => (rd (deI .i64) H1 (Addr.add p11 1)).bind fun x12_1 => (rd (deI .i64) H1 (Addr.add p11 2)).bind fun x12_2 => (rd (deI .i64) H1 (Addr.add p11 3)).bind fun x12_3 => (rd deB H1 (Addr.add p11 4)).bind fun x12_4 => Option.bind (α:=(AH×Int×Int×Int×Int×Bool)) (
   if v4_3<0 then
    (rd deSl H1 (Addr.add q9 6)).bind fun x19 => (idxA 5 x19 v1_2).bind fun p20 => (wrCells m p20 0 [(vI .i64 (-1)),(vI .i64 0),(vI .i64 0),(vI .i64 0),(vB false)] H1).bind fun H21 => some (H21,w0_4,w0_5,w0_6,w0_7,w0_8)
   else
    (rd deSl H1 (Addr.add q9 6)).bind fun x22 => (idxA 5 x22 v1_2).bind fun p23 => (wrCells m p23 0 [(vI .i64 v4_3),(vI .i64 w0_5),(vI .i64 w0_6),(vI .i64 w0_7),(vB w0_8)] H1).bind fun H24 => some (H24,v4_3,w0_5,w0_6,w0_7,w0_8)) fun (H13,_,_,_,_,_) =>
  some (.next (H13,x12_0,v1_2,x12_0,x12_1,x12_2,x12_3,x12_4))
 else
  some (.brk (H1,v1_2,v4_3,w0_4,w0_5,w0_6,w0_7,w0_8))
def z16 (_L:LC) (_m:Nat) (a0:Option Addr):(AH×Int×Int×Int×Int×Int×Int×Bool)→KN×Lcs:=fun (_,v1_2,v4_3,w0_4,w0_5,w0_6,w0_7,w0_8)=>([kI 1 v1_2,kI 4 v4_3,(0,.val (vP a0)),kL 5 0 0],[some (109,[(vI .i64 w0_4),(vI .i64 w0_5),(vI .i64 w0_6),(vI .i64 w0_7),(vB w0_8)])])
noncomputable def Z3 (L:LC) (m:Nat) (H:AH) (a0:Option Addr) (a1:Int):Option AH :=
 (L.run (O1 L m a0) (H,a1,(-1),0,0,0,0,false)).bind fun o=>match o with
 | .inl (H25,_,_,_,_,_,_,_) =>
  some H25
 | .inr r=>some r
theorem o7 {E H L m a0} :LoopF Tryd.prog (NE.plain 1000) m E Tryd.f72 ((cfst (csnd B72))) (z16 L m a0) (fun s=>s.1) 0 W7 (B8 H) (O1 L m a0):=by
 rintro ⟨H1,v1_2,v4_3,w0_4,w0_5,w0_6,w0_7,w0_8⟩ o h
 unfold O1 at h;try dsimp only at h
 refine B0 (B0 (WS.rg (u0 2 [kB 9 (decide (v1_2≥0)),kI 8 v1_2] (RS.dn (A0 ?_)))));rcases Y0 h with ⟨hp,h⟩ | ⟨hp,h⟩
 ·refine E0 9 true (decide_eq_true hp) (G0 (J0 (A0 (M0 1 (B0 (WS.rg (u0 1 [(10,.val (vP a0))] ?_)))))));obtain ⟨q9,hx,hq9⟩:=bind_some h;subst hx;have h:=hq9;refine u0 2 [(12,.val (vP (some (Addr.add q9 6)))),kP 11 q9] ?_;obtain ⟨x10,hx,h⟩:=bind_some h;refine O0 13 61 (.tmp 12) (X0 hx C1) (u0 1 [kI 14 v1_2] ?_);obtain ⟨p11,hx,h⟩:=bind_some h;refine T0 15 61 109 (.tmp 13) (.tmp 14) hx ?_;obtain ⟨x12_0,hx0,h⟩:=bind_some h;obtain ⟨x12_1,hx1,h⟩:=bind_some h;obtain ⟨x12_2,hx2,h⟩:=bind_some h;obtain ⟨x12_3,hx3,h⟩:=bind_some h;obtain ⟨x12_4,hx4,h⟩:=bind_some h;refine RS.la 16 109 (.tmp 15) 5 (I1 (X0 hx0 A1) (I1 (X0 hx1 A1) (I1 (X0 hx2 A1) (I1 (X0 hx3 A1) (I1 (X0 hx4 Z5) V6))))) (W0 2 [kL 6 1 0] ([some (109,[(vI .i64 w0_4),(vI .i64 w0_5),(vI .i64 w0_6),(vI .i64 w0_7),(vB w0_8)]),some (109,[(vI .i64 x12_0),(vI .i64 x12_1),(vI .i64 x12_2),(vI .i64 x12_3),(vB x12_4)])]) (RS.dn (A0 ?_)));obtain ⟨⟨H13,w0_14,w0_15,w0_16,w0_17,w0_18⟩,hx,h⟩:=bind_some h;try dsimp only at h
  refine B0 ?_;refine WS.join ([kP 0 q9,kI 1 v1_2,kL 5 0 0,kL 6 1 0]) ([some (109,[(vI .i64 w0_14),(vI .i64 w0_15),(vI .i64 w0_16),(vI .i64 w0_17),(vB w0_18)]),some (109,[(vI .i64 x12_0),(vI .i64 x12_1),(vI .i64 x12_2),(vI .i64 x12_3),(vB x12_4)])]) H13 ?_ (fun a w hs=>A0 ?_ a w hs)
  ·clear h; rename _=>h;refine B0 (WS.rg (u0 2 [kB 18 (decide (v4_3<0)),kI 17 v4_3] (RS.dn (A0 ?_))));rcases Y0 h with ⟨hp,h⟩ | ⟨hp,h⟩
   ·refine E0 18 true (decide_eq_true hp) (G0 (WS.rg (u0 3 [(21,.val (vP (some (Addr.add q9 6)))),kP 20 q9,kP 19 q9] ?_)));obtain ⟨x19,hx,h⟩:=bind_some h;refine O0 22 61 (.tmp 21) (X0 hx C1) (u0 2 [kA 24 #[(vI .i64 (-1)),(vI .i64 0),(vI .i64 0),(vI .i64 0),(vB false)],kI 23 v1_2] ?_);obtain ⟨p20,hx,h⟩:=bind_some h;refine T0 25 61 109 (.tmp 22) (.tmp 23) hx ?_;obtain ⟨H21,hx,h⟩:=bind_some h;refine RS.o (H':=H21) none undef (Abs.run_storeA (t:=109) (x:=.tmp 25) (y:=.tmp 24) (a:=p20) (v:=(vA #[(vI .i64 (-1)),(vI .i64 0),(vI .i64 0),(vI .i64 0),(vB false)])) (by kernel_rfl) (by kernel_rfl) (by kernel_rfl) (by kernel_rfl) (by kernel_rfl) hx) (RS.dn ?_);cases h;exact fun a w hs=>(jsN (hs.sb 2))
   ·refine E0 18 false (decide_eq_false hp) (I0 (B0 (WS.rg (W0 3 [kL 27 0 0,kI 26 v4_3] ([some (109,[(vI .i64 v4_3),(vI .i64 w0_5),(vI .i64 w0_6),(vI .i64 w0_7),(vB w0_8)]),some (109,[(vI .i64 x12_0),(vI .i64 x12_1),(vI .i64 x12_2),(vI .i64 x12_3),(vB x12_4)])]) (RS.dn (A0 ?_))))));refine Q0 [0,1,2,3,5] [0,1,3,7,0,0,63,127] 8 (fun hcl=>?_);refine C0 0 (some 28) (vP (some q9)) (C0 1 (some 29) (vP (some q9)) (C0 2 (some 30) (vP (some (Addr.add q9 6))) ?_));obtain ⟨x22,hx,h⟩:=bind_some h;refine F0 3 (some 31) (Sl3.v x22) (Abs.det_load (t:=61) (x:=.tmp 30) (a:=(Addr.add q9 6)) (by kernel_rfl) (by kernel_rfl) (by kernel_rfl) (by kernel_rfl) (X0 hx C1)) (DA.tL 5 (some 33) (.val (vA #[(vI .i64 v4_3),(vI .i64 w0_5),(vI .i64 w0_6),(vI .i64 w0_7),(vB w0_8)])) (DA.tP 4 (some 32) (vI .i64 v1_2) ?_));obtain ⟨p23,hx,h⟩:=bind_some h;refine DA.tPx 6 (some 34) (vP (some p23)) (Abs.det_idx (s:=x22) (k:=.i64) (t:=61) (e:=109) (x:=.tmp 31) (y:=.tmp 32) (by kernel_rfl) (by kernel_rfl) (by kernel_rfl) (by kernel_rfl) (by kernel_rfl) hx) ?_;obtain ⟨H24,hx,h⟩:=bind_some h;refine DA.on 7 (V0 (H':=H24) 7 none undef (Abs.run_storeA (t:=109) (x:=.tmp 34) (y:=.tmp 33) (a:=p23) (v:=(vA #[(vI .i64 v4_3),(vI .i64 w0_5),(vI .i64 w0_6),(vI .i64 w0_7),(vB w0_8)])) (by kernel_rfl) (by kernel_rfl) (by kernel_rfl) (by kernel_rfl) (by kernel_rfl) hx) (DA.dn ?_));cases h;exact fun a w hs=>(jsN (hs.sb 2))
  ·clear hx;refine B0 ?_;refine Q0 [1] [0,0,1,7] 4 (fun hcl=>?_);refine DA.tL 1 (some 36) (.val (vA #[(vI .i64 x12_0),(vI .i64 x12_1),(vI .i64 x12_2),(vI .i64 x12_3),(vB x12_4)])) (DA.tP 0 (some 35) (vI .i64 v1_2) (DA.tP 2 (some 4) (vI .i64 v1_2) (DA.on 3 (DA.aL 3 none (.val undef) ([some (109,[(vI .i64 x12_0),(vI .i64 x12_1),(vI .i64 x12_2),(vI .i64 x12_3),(vB x12_4)]),some (109,[(vI .i64 x12_0),(vI .i64 x12_1),(vI .i64 x12_2),(vI .i64 x12_3),(vB x12_4)])]) false (DA.dn (A0 (WS.rg (u0 3 [kI 1 x12_0,kI 38 x12_0,kL 37 1 0] (RS.dn ?_)))))))));cases h;exact fun a w hs=>bkN (lsN rfl (hs.sb 1))
 ·refine E0 9 false (decide_eq_false hp) (I0 (WS.ex 0 ?_));cases h;exact fun a w hs=>sqE (lsB rfl (hs.sb 1))
theorem z2m {L:LC} {m:Nat} {H:AH} {a0:Option Addr} {a1:Int} {r:AH} (h:Z3 L m H a0 a1=some r) :
  CallS Tryd.prog (NE.plain 1000) m 72 #[(vP a0),(vI .i64 a1)] H (W7 r) (B8 H r):=by
 refine CallS.mk (args:=[(vP a0),(vI .i64 a1)]) Tryd.func72 (B:=B72) (by kernel_rfl) (fun E _=>?_);unfold Z3 at h;refine B0 (WS.rg (W0 4 [kI 4 (-1),kL 5 0 0,kA 7 #[(vI .i64 0),(vI .i64 0),(vI .i64 0),(vI .i64 0),(vB false)]] ([some (109,[(vI .i64 0),(vI .i64 0),(vI .i64 0),(vI .i64 0),(vB false)])]) (RS.dn (A0 (M0 0 ?_)))));obtain ⟨o,hl,h⟩:=bind_some h;rcases o with ⟨H25,v1_26,v4_27,w0_28,w0_29,w0_30,w0_31,w0_32⟩ | r
 ·try dsimp only at h
  refine S0 (o7 (L:=L) (E:=E) (m:=m) (H:=H)) (L.ok hl) 1 ?_;clear hl;cases h;exact fun a w hs=>bkE (rtN (rS hs))
 ·try dsimp only at h
  refine R0 (o7 (L:=L) (E:=E) (m:=m) (H:=H)) (L.ok hl) 1 ?_;cases h;exact fun a w hq=>bkR (rtR hq)
def z4v:AH→Value
 | _=>(Value.tuple #[])
def z5q (_:AH):AH→AH:=fun r=>r
noncomputable def B70:Code:=(Tryd.f70.body).getD .skip
noncomputable def F4 (_L:LC) (m:Nat) (H:AH) (a0:Option Addr) (a1:Sl3):Option AH :=
 a0.bind fun q1 => (rd deSl H (Addr.add q1 0)).bind fun x2 => (appS m 3 1 8 H x2 a1).bind fun (s3,H4) => (H4.setCell m (Addr.add q1 0) (Sl3.v s3)).bind fun H5 => some H5
theorem za {L:LC} {m:Nat} {H:AH} {a0:Option Addr} {a1:Sl3} {r:AH} (h:F4 L m H a0 a1=some r) :
  CallS Tryd.prog (NE.plain 1000) m 70 #[(vP a0),(Sl3.v a1)] H (z4v r) (z5q H r):=by
 refine CallS.mk (args:=[(vP a0),(Sl3.v a1)]) Tryd.func70 (B:=B70) (by kernel_rfl) (fun E _=>?_);unfold F4 at h;refine WS.rg (u0 2 [(5,.val (vP a0)),(4,.val (vP a0))] ?_);obtain ⟨q1,hx,hq1⟩:=bind_some h;subst hx;have h:=hq1;refine u0 2 [(7,.val (vP (some (Addr.add q1 0)))),kP 6 q1] ?_;obtain ⟨x2,hx,h⟩:=bind_some h;refine O0 8 27 (.tmp 7) (X0 hx C1) (u0 1 [kS 9 a1] ?_);obtain ⟨⟨s3,H4⟩,hx,h⟩:=bind_some h;try dsimp only at h
 refine RS.o (H':=H4) (some 10) (Sl3.v s3) (Abs.run_app (x:=.tmp 8) (y:=.tmp 9) (ts:=#[27,27]) (s:=x2) (z:=a1) (by kernel_rfl) (by kernel_rfl) (by kernel_rfl) (by kernel_rfl) hx) (u0 2 [(12,.val (vP (some (Addr.add q1 0)))),kP 11 q1] ?_);obtain ⟨H5,hx,h⟩:=bind_some h;refine RS.o (H':=H5) none undef (Abs.run_store1 (t:=27) (x:=.tmp 12) (y:=.tmp 10) (a:=(Addr.add q1 0)) (v:=(Sl3.v s3)) (by kernel_rfl) (by kernel_rfl) (by kernel_rfl) (by kernel_rfl) (by kernel_rfl) hx) (RS.dn ?_);cases h;exact fun a w hs=>rtN (rS hs)
def z27:(ByteArray×AH)→Value
 | (r0,_)=>(vS r0)
def z2x (_:AH):(ByteArray×AH)→AH:=fun r=>r.2
noncomputable def B63:Code:=(Tryd.f63.body).getD .skip
noncomputable def V4 (L:LC) (m:Nat) (a2:Sl3):(AH×ByteArray×Int)→Option (Lp (AH×ByteArray×Int) (ByteArray×AH)):=fun (H5,v7_6,v17_7) =>
 if v17_7<(a2.n:Int) then
  (idxA 1 a2 v17_7).bind fun p8 => (rd (deI .i64) H5 p8).bind fun x9 => (strconv_Itoa L m H5 x9).bind fun (x10,H11) => (strcat (⟨#[32]⟩:ByteArray) x10).bind fun s12 => (strcat v7_6 s12).bind fun s13 => some (.next (H11,s13,(IntKind.i64.wrap (v17_7+1))))
 else
  some (.brk (H5,v7_6,v17_7))
def z6k (_L:LC) (_m:Nat) (a2:Sl3):(AH×ByteArray×Int)→KN×Lcs:=fun (_,v7_6,v17_7)=>([kT 7 v7_6,kI 17 v17_7,kS 15 a2,kI 16 (a2.n:Int)],[])
noncomputable def W6 (L:LC) (m:Nat) (H:AH) (a0:Bool) (a1:Int) (a2:Sl3):Option (ByteArray×AH) :=
 Option.bind (α:=ByteArray) (
  if a0=true then
   some (⟨#[118]⟩:ByteArray)
  else
   some (⟨#[115]⟩:ByteArray)) fun v7_1 =>
 (strconv_Itoa L m H a1).bind fun (x2,H3) => (strcat v7_1 x2).bind fun s4 => (L.run (V4 L m a2) (H3,s4,0)).bind fun o=>match o with
 | .inl (H14,v7_15,_) =>
  some (v7_15,H14)
 | .inr r=>some r
theorem z11 {E H L m a2} :LoopF Tryd.prog (NE.plain 1000) m E Tryd.f63 ((cfst (csnd (cfst (csnd (csnd (csnd (csnd B63)))))))) (z6k L m a2) (fun s=>s.1) 0 z27 (z2x H) (V4 L m a2):=by
 rintro ⟨H5,v7_6,v17_7⟩ o h
 unfold V4 at h;try dsimp only at h
 refine B0 (WS.rg (u0 1 [kB 18 (decide (v17_7<(a2.n:Int)))] (RS.dn (A0 (B0 ?_)))));rcases Y0 h with ⟨hp,h⟩ | ⟨hp,h⟩
 ·refine E0 18 true (decide_eq_true hp) (G0 (J0 (A0 (B0 (M0 1 (B0 (WS.rg ?_)))))));obtain ⟨p8,hx,h⟩:=bind_some h;refine T0 19 27 3 (.tmp 15) (.tmp 17) hx ?_;obtain ⟨x9,hx,h⟩:=bind_some h;refine O0 20 3 (.tmp 19) (X0 hx A1) (u0 1 [kI 9 x9] (RS.dn (A0 (WS.rg (u0 2 [kI 22 x9,kT 21 v7_6] ?_)))));obtain ⟨⟨x10,H11⟩,hx,h⟩:=bind_some h;try dsimp only at h
  refine RS.cl (some 23) (v:=(vS x10)) 76 _ (z2b hx) ?_;obtain ⟨s12,hx,h⟩:=bind_some h;refine RS.o (H':=H11) (some 24) (vS s12) (Abs.run_strcat (t:=9) (u:=9) (x:=.const (vS (⟨#[32]⟩:ByteArray))) (y:=.tmp 23) (a:=(⟨#[32]⟩:ByteArray)) (b:=x10) (by kernel_rfl) (by kernel_rfl) (by kernel_rfl) hx) ?_;obtain ⟨s13,hx,h⟩:=bind_some h;refine RS.o (H':=H11) (some 25) (vS s13) (Abs.run_strcat (t:=9) (u:=9) (x:=.tmp 21) (y:=.tmp 24) (a:=v7_6) (b:=s12) (by kernel_rfl) (by kernel_rfl) (by kernel_rfl) hx) (u0 1 [kT 7 s13] (RS.dn ?_));refine fun a w hs=>bkN ((A0 ?_ a w hs));refine WS.rg (u0 2 [kI 17 (IntKind.i64.wrap (v17_7+1)),kI 26 (IntKind.i64.wrap (v17_7+1))] (RS.dn ?_));cases h;exact fun a w hs=>lsN rfl (hs.sb 0)
 ·refine E0 18 false (decide_eq_false hp) (I0 (WS.ex 0 ?_));cases h;exact fun a w hs=>sqE (lsB rfl (hs.sb 0))
theorem z3g {L:LC} {m:Nat} {H:AH} {a0:Bool} {a1:Int} {a2:Sl3} {r:(ByteArray×AH)} (h:W6 L m H a0 a1 a2=some r) :
  CallS Tryd.prog (NE.plain 1000) m 63 #[(vB a0),(vI .i64 a1),(Sl3.v a2)] H (z27 r) (z2x H r):=by
 refine CallS.mk (args:=[(vB a0),(vI .i64 a1),(Sl3.v a2)]) Tryd.func63 (B:=B63) (by kernel_rfl) (fun E _=>?_);unfold W6 at h;refine B0 (WS.rg (u0 1 [kT 6 (⟨#[]⟩:ByteArray)] (RS.dn (A0 (B0 (WS.rg (u0 1 [kT 7 (⟨#[115]⟩:ByteArray)] (RS.dn (A0 ?_)))))))));obtain ⟨v7_1,hx,h⟩:=bind_some h;refine B0 ?_;refine WS.join ([kT 7 v7_1,kI 1 a1,kS 2 a2]) ([]) H ?_ (fun a w hs=>A0 ?_ a w hs)
 ·clear h; rename _=>h;refine B0 (WS.rg (u0 1 [kB 10 a0] (RS.dn (A0 ?_))));rcases Y0 h with ⟨hp,h⟩ | ⟨hp,h⟩
  ·refine E0 10 true hp (G0 (WS.rg (u0 1 [kT 7 (⟨#[118]⟩:ByteArray)] (RS.dn ?_))));cases h;exact fun a w hs=>(jsN (hs.sb 0))
  ·refine E0 10 false (b_not hp) (I0 (J0 ?_));cases h;exact fun a w hs=>(jsN (hs.sb 0))
 ·clear hx;refine B0 (WS.rg (u0 2 [kI 12 a1,kT 11 v7_1] ?_));obtain ⟨⟨x2,H3⟩,hx,h⟩:=bind_some h;try dsimp only at h
  refine RS.cl (some 13) (v:=(vS x2)) 76 _ (z2b hx) ?_;obtain ⟨s4,hx,h⟩:=bind_some h;refine RS.o (H':=H3) (some 14) (vS s4) (Abs.run_strcat (t:=9) (u:=9) (x:=.tmp 11) (y:=.tmp 13) (a:=v7_1) (b:=x2) (by kernel_rfl) (by kernel_rfl) (by kernel_rfl) hx) (u0 1 [kT 7 s4] (RS.dn (A0 (B0 (B0 (WS.rg (u0 3 [kI 17 0,kI 16 (a2.n:Int),kS 15 a2] (RS.dn (A0 ?_)))))))));refine M0 0 ?_;obtain ⟨o,hl,h⟩:=bind_some h;rcases o with ⟨H14,v7_15,v17_16⟩ | r
  ·try dsimp only at h
   refine S0 (z11 (L:=L) (E:=E) (m:=m) (H:=H)) (L.ok hl) 0 ?_;clear hl;refine fun a w hs=>bkE ((A0 ?_ a w hs));refine B0 (WS.rg (u0 2 [kT 6 v7_15,kT 27 v7_15] (RS.dn (A0 (K0 ?_)))));cases h;exact fun a w hs=>rtR (rS hs)
  ·try dsimp only at h
   refine R0 (z11 (L:=L) (E:=E) (m:=m) (H:=H)) (L.ok hl) 0 ?_;cases h;exact fun a w hq=>bkR (sqR (rtR hq))
def O6:(ByteArray×AH)→Value
 | (r0,_)=>(vS r0)
def m7 (_:AH):(ByteArray×AH)→AH:=fun r=>r.2
noncomputable def B71:Code:=(Tryd.f71.body).getD .skip
noncomputable def B2 (_L:LC) (m:Nat) (q1:Addr) (_x4_0:Int) (x4_1:Sl3) (_x4_2:Bool):(AH×Sl3×Int)→Option (Lp (AH×Sl3×Int) (ByteArray×AH)):=fun (H5,v6_6,v19_7) =>
 if v19_7<(x4_1.n:Int) then
  (idxA 1 x4_1 v19_7).bind fun p8 => (rd (deI .i64) H5 p8).bind fun x9 => (rd deSl H5 (Addr.add q1 4)).bind fun x10 => (idxA 1 x10 x9).bind fun p11 => (rd (deI .i64) H5 p11).bind fun x12 => (newR 3 1 #[(vI .i64 x12)] H5).bind fun (s13,H14) => (appS m 3 1 8 H14 v6_6 s13).bind fun (s15,H16) => some (.next (H16,s15,(IntKind.i64.wrap (v19_7+1))))
 else
  some (.brk (H5,v6_6,v19_7))
def M9 (_L:LC) (_m:Nat) (q1:Addr) (x4_0:Int) (x4_1:Sl3) (x4_2:Bool):(AH×Sl3×Int)→KN×Lcs:=fun (_,v6_6,v19_7)=>([kS 6 v6_6,kI 19 v19_7,kP 0 q1,kL 5 0 0,kS 17 x4_1,kI 18 (x4_1.n:Int)],[some (86,[(vI .i64 x4_0),(Sl3.v x4_1),(vB x4_2)])])
noncomputable def M1 (L:LC) (m:Nat) (H:AH) (a0:Option Addr) (a1:Int):Option (ByteArray×AH) :=
 a0.bind fun q1 => (rd deSl H (Addr.add q1 0)).bind fun x2 => (idxA 3 x2 a1).bind fun p3 => (rd (deI .i64) H (Addr.add p3 0)).bind fun x4_0 => (rd deSl H (Addr.add p3 1)).bind fun x4_1 => (rd deB H (Addr.add p3 2)).bind fun x4_2 => (L.run (B2 L m q1 x4_0 x4_1 x4_2) (H,Sl3.nil,0)).bind fun o=>match o with
 | .inl (H17,v6_18,_) =>
  (W6 L m H17 x4_2 x4_0 v6_18).bind fun (x20,H21) => some (x20,H21)
 | .inr r=>some r
theorem C6 {E H L m q1 x4_0 x4_1 x4_2} :LoopF Tryd.prog (NE.plain 1000) m E Tryd.f71 ((cfst (csnd (cfst (csnd (csnd (csnd B71))))))) (M9 L m q1 x4_0 x4_1 x4_2) (fun s=>s.1) 0 O6 (m7 H) (B2 L m q1 x4_0 x4_1 x4_2):=by
 rintro ⟨H5,v6_6,v19_7⟩ o h
 unfold B2 at h;try dsimp only at h
 refine B0 (WS.rg (u0 1 [kB 20 (decide (v19_7<(x4_1.n:Int)))] (RS.dn (A0 (B0 ?_)))));rcases Y0 h with ⟨hp,h⟩ | ⟨hp,h⟩
 ·refine E0 20 true (decide_eq_true hp) (G0 (J0 (A0 (B0 (M0 1 (B0 (WS.rg ?_)))))));obtain ⟨p8,hx,h⟩:=bind_some h;refine T0 21 27 3 (.tmp 17) (.tmp 19) hx ?_;obtain ⟨x9,hx,h⟩:=bind_some h;refine O0 22 3 (.tmp 21) (X0 hx A1) (u0 1 [kI 8 x9] (RS.dn (A0 (WS.rg (u0 4 [(26,.val (vP (some (Addr.add q1 4)))),kP 25 q1,kP 24 q1,kS 23 v6_6] ?_)))));obtain ⟨x10,hx,h⟩:=bind_some h;refine O0 27 27 (.tmp 26) (X0 hx C1) (u0 1 [kI 28 x9] ?_);obtain ⟨p11,hx,h⟩:=bind_some h;refine T0 29 27 3 (.tmp 27) (.tmp 28) hx ?_;obtain ⟨x12,hx,h⟩:=bind_some h;refine O0 30 3 (.tmp 29) (X0 hx A1) ?_;obtain ⟨⟨s13,H14⟩,hx,h⟩:=bind_some h;try dsimp only at h
  refine RS.o (H':=H14) (some 31) (Sl3.v s13) (Abs.run_newR (by kernel_rfl) (by kernel_rfl) hx) ?_;obtain ⟨⟨s15,H16⟩,hx,h⟩:=bind_some h;try dsimp only at h
  refine RS.o (H':=H16) (some 32) (Sl3.v s15) (Abs.run_app (x:=.tmp 23) (y:=.tmp 31) (ts:=#[27,27]) (s:=v6_6) (z:=s13) (by kernel_rfl) (by kernel_rfl) (by kernel_rfl) (by kernel_rfl) hx) (u0 1 [kS 6 s15] (RS.dn ?_));refine fun a w hs=>bkN ((A0 ?_ a w hs));refine WS.rg (u0 2 [kI 19 (IntKind.i64.wrap (v19_7+1)),kI 33 (IntKind.i64.wrap (v19_7+1))] (RS.dn ?_));cases h;exact fun a w hs=>lsN rfl (hs.sb 1)
 ·refine E0 20 false (decide_eq_false hp) (I0 (WS.ex 0 ?_));cases h;exact fun a w hs=>sqE (lsB rfl (hs.sb 1))
theorem D4 {L:LC} {m:Nat} {H:AH} {a0:Option Addr} {a1:Int} {r:(ByteArray×AH)} (h:M1 L m H a0 a1=some r) :
  CallS Tryd.prog (NE.plain 1000) m 71 #[(vP a0),(vI .i64 a1)] H (O6 r) (m7 H r):=by
 refine CallS.mk (args:=[(vP a0),(vI .i64 a1)]) Tryd.func71 (B:=B71) (by kernel_rfl) (fun E _=>?_);unfold M1 at h;refine B0 (WS.rg (u0 1 [kT 4 (⟨#[]⟩:ByteArray)] (RS.dn (A0 (B0 (WS.rg (u0 1 [(9,.val (vP a0))] ?_)))))));obtain ⟨q1,hx,hq1⟩:=bind_some h;subst hx;have h:=hq1;refine u0 2 [(11,.val (vP (some (Addr.add q1 0)))),kP 10 q1] ?_;obtain ⟨x2,hx,h⟩:=bind_some h;refine O0 12 57 (.tmp 11) (X0 hx C1) (u0 1 [kI 13 a1] ?_);obtain ⟨p3,hx,h⟩:=bind_some h;refine T0 14 57 86 (.tmp 12) (.tmp 13) hx ?_;obtain ⟨x4_0,hx0,h⟩:=bind_some h;obtain ⟨x4_1,hx1,h⟩:=bind_some h;obtain ⟨x4_2,hx2,h⟩:=bind_some h;refine RS.la 15 86 (.tmp 14) 3 (I1 (X0 hx0 A1) (I1 (X0 hx1 C1) (I1 (X0 hx2 Z5) V6))) (W0 2 [kL 5 0 0] ([some (86,[(vI .i64 x4_0),(Sl3.v x4_1),(vB x4_2)])]) (RS.dn (A0 (B0 (WS.rg (u0 1 [kS 6 Sl3.nil] (RS.dn (A0 (B0 ?_)))))))));refine B0 (WS.rg (u0 4 [kI 19 0,kI 18 (x4_1.n:Int),kS 17 x4_1,kL 16 0 1] (RS.dn (A0 (M0 0 ?_)))));obtain ⟨o,hl,h⟩:=bind_some h;rcases o with ⟨H17,v6_18,v19_19⟩ | r
 ·try dsimp only at h
  refine S0 (C6 (L:=L) (E:=E) (m:=m) (H:=H)) (L.ok hl) 1 ?_;clear hl;refine fun a w hs=>bkE ((A0 ?_ a w hs));refine B0 (WS.rg (u0 5 [kS 38 v6_18,kI 37 x4_0,kL 36 0 0,kB 35 x4_2,kL 34 0 2] ?_));obtain ⟨⟨x20,H21⟩,hx,h⟩:=bind_some h;try dsimp only at h
  refine RS.cl (some 39) (v:=(vS x20)) 63 _ (z3g hx) (u0 1 [kT 4 x20] (RS.dn (A0 (K0 ?_))));cases h;exact fun a w hs=>rtR (rS hs)
 ·try dsimp only at h
  refine R0 (C6 (L:=L) (E:=E) (m:=m) (H:=H)) (L.ok hl) 1 ?_;cases h;exact fun a w hq=>bkR (sqR (rtR hq))
def A5:(Sl3×AH)→Value
 | (r0,_)=>(Sl3.v r0)
def J5 (_:AH):(Sl3×AH)→AH:=fun r=>r.2
noncomputable def B73:Code:=(Tryd.f73.body).getD .skip
noncomputable def C2 (L:LC) (m:Nat) (_a2:Int) (q1:Addr) (_x7:Option Addr) (_q8:Addr) (x9:Sl3):(AH×Int)→Option (Lp (AH×Int) (Sl3×AH)):=fun (H10,v41_11) =>
 if v41_11<(x9.n:Int) then
  Option.bind (α:=AH) (
   (idxA 1 x9 v41_11).bind fun p13 => (rd (deI .i64) H10 p13).bind fun x14 => (rd deM H10 (Addr.add q1 7)).bind fun x15 => (M1 L (Nat.max m H10.next) H10 (some q1) x14).bind fun (x16,H17) => (lkM Tryd.prog 58 (deI .i64) H17 x15 (vS x16)).bind fun (x18,b19) => Option.bind (α:=Bool) (
    if b19=true then
     some (decide (x18=x14))
    else
     some false) fun v61_20 =>
   if v61_20=true then
    (rd deM H17 (Addr.add q1 7)).bind fun x21 => (M1 L (Nat.max m H17.next) H17 (some q1) x14).bind fun (x22,H23) => Option.bind (gOp Tryd.prog m (opsOf (cfst (csnd (csnd (csnd (cfst (cfst (csnd (csnd (cfst (cfst (csnd (cfst (csnd (csnd B73))))))))))))))) 7 [(65,.val (Value.map x21)),(68,.val (vS x22))] deV H23) fun (_,H25) => some H25
   else
    some H17) fun H12 =>
  some (.next (H12,(IntKind.i64.wrap (v41_11+1))))
 else
  some (.brk (H10,v41_11))
def z1x (_L:LC) (_m:Nat) (a2:Int) (q1:Addr) (x7:Option Addr) (q8:Addr) (x9:Sl3):(AH×Int)→KN×Lcs:=fun (_,v41_11)=>([kI 41 v41_11,kP 0 q1,kI 2 a2,kP 7 q8,(8,.val (vP x7)),kS 39 x9,kI 40 (x9.n:Int)],[])
noncomputable def X2 (_L:LC) (m:Nat) (a2:Int) (q1:Addr) (_x7:Option Addr) (_q8:Addr) (x28:Sl3):(AH×Int)→Option (Lp (AH×Int) (Sl3×AH)):=fun (H29,v75_30) =>
 if v75_30<(x28.n:Int) then
  (idxA 1 x28 v75_30).bind fun p31 => (rd (deI .i64) H29 p31).bind fun x32 => (rd deSl H29 (Addr.add q1 4)).bind fun x33 => (idxA 1 x33 x32).bind fun p34 => (H29.setCell m p34 (vI .i64 a2)).bind fun H35 => some (.next (H35,(IntKind.i64.wrap (v75_30+1))))
 else
  some (.brk (H29,v75_30))
def z1w (_L:LC) (_m:Nat) (a2:Int) (q1:Addr) (x7:Option Addr) (q8:Addr) (x28:Sl3):(AH×Int)→KN×Lcs:=fun (_,v75_30)=>([kI 75 v75_30,kP 0 q1,kI 2 a2,kP 7 q8,(8,.val (vP x7)),kS 73 x28,kI 74 (x28.n:Int)],[])
noncomputable def E2 (L:LC) (m:Nat) (q1:Addr) (_x7:Option Addr) (_q8:Addr) (x38:Sl3):(AH×Sl3×Int)→Option (Lp (AH×Sl3×Int) (Sl3×AH)):=fun (H39,v15_40,v93_41) =>
 if v93_41<(x38.n:Int) then
  Option.bind (α:=(AH×Sl3)) (
   (idxA 1 x38 v93_41).bind fun p44 => (rd (deI .i64) H39 p44).bind fun x45 => (M1 L m H39 (some q1) x45).bind fun (x46,H47) => (rd deM H47 (Addr.add q1 7)).bind fun x48 => (lkM Tryd.prog 58 (deI .i64) H47 x48 (vS x46)).bind fun (x49,b50) => if b50=true then
    if x49=x45 then
     some (H47,v15_40)
    else
     (newR 122 1 #[(vI .i64 x45),(vI .i64 x49),(vI .i64 0),(vI .i64 0),(vI .i64 x45),(vI .i64 x49),(vB true)] H47).bind fun (s51,H52) => (appS m 122 7 56 H52 v15_40 s51).bind fun (s53,H54) => some (H54,s53)
   else
    (rd deM H47 (Addr.add q1 7)).bind fun x55 => (upM Tryd.prog m 58 H47 x55 (vS x46) (vI .i64 x45)).bind fun H56 => some (H56,v15_40)) fun (H42,v15_43) =>
  some (.next (H42,v15_43,(IntKind.i64.wrap (v93_41+1))))
 else
  some (.brk (H39,v15_40,v93_41))
def z1u (_L:LC) (_m:Nat) (q1:Addr) (x7:Option Addr) (q8:Addr) (x38:Sl3):(AH×Sl3×Int)→KN×Lcs:=fun (_,v15_40,v93_41)=>([kS 15 v15_40,kI 93 v93_41,kP 0 q1,kP 7 q8,(8,.val (vP x7)),kS 91 x38,kI 92 (x38.n:Int)],[])
noncomputable def M4 (L:LC) (m:Nat) (H:AH) (a0:Option Addr) (a1 a2:Int):Option (Sl3×AH) :=
 a0.bind fun q1 => (rd deSl H (Addr.add q1 5)).bind fun x2 => (idxA 1 x2 a1).bind fun p3 => (rd deP H p3).bind fun x4 => (rd deSl H (Addr.add q1 5)).bind fun x5 => (idxA 1 x5 a2).bind fun p6 => (rd deP H p6).bind fun x7 => x4.bind fun q8 => (rd deSl H (Addr.add (Addr.add q8 0) 0)).bind fun x9 => (L.run (C2 L m a2 q1 x7 q8 x9) (H,0)).bind fun o=>match o with
 | .inl (H26,_) =>
  (rd deSl H26 (Addr.add q8 1)).bind fun x28 => (L.run (X2 L m a2 q1 x7 q8 x28) (H26,0)).bind fun o=>match o with
  | .inl (H36,_) =>
   (rd deSl H36 (Addr.add (Addr.add q8 0) 0)).bind fun x38 => (L.run (E2 L m q1 x7 q8 x38) (H36,Sl3.nil,0)).bind fun o=>match o with
   | .inl (H57,v15_58,_) =>
    (rd deSl H57 (Addr.add (Addr.add q8 0) 0)).bind fun x60 => x7.bind fun q61 => (F4 L m H57 (some (Addr.add q61 0)) x60).bind fun H62 => (rd deSl H62 (Addr.add q61 1)).bind fun x63 => (rd deSl H62 (Addr.add q8 1)).bind fun x64 => (appS m 3 1 8 H62 x63 x64).bind fun (s65,H66) => (H66.setCell m (Addr.add q61 1) (Sl3.v s65)).bind fun H67 => (rd deSl H67 (Addr.add q61 2)).bind fun x68 => (rd deSl H67 (Addr.add q8 2)).bind fun x69 => (appS m 3 1 8 H67 x68 x69).bind fun (s70,H71) => (H71.setCell m (Addr.add q61 2) (Sl3.v s70)).bind fun H72 => (rd (deI .i64) H72 (Addr.add q61 3)).bind fun x73 => (rd (deI .i64) H72 (Addr.add q8 3)).bind fun x74 => Option.bind (gOp1 Tryd.prog (opsOf (cfst (csnd (csnd (csnd (csnd (csnd (csnd (csnd (csnd (csnd B73))))))))))) 9 [(166,.val (vI .i64 x73)),(170,.val (vI .i64 x74))] (deI .i64) H72) fun x75 => (H72.setCell m (Addr.add q61 3) (vI .i64 x75)).bind fun H76 => some (v15_58,H76)
   | .inr r=>some r
  | .inr r=>some r
 | .inr r=>some r
theorem X7 {E H L m a2 q1 x7 q8 x9} :LoopF Tryd.prog (NE.plain 1000) m E Tryd.f73 ((cfst (csnd (cfst (csnd (csnd B73)))))) (z1x L m a2 q1 x7 q8 x9) (fun s=>s.1) 0 A5 (J5 H) (C2 L m a2 q1 x7 q8 x9):=by
 rintro ⟨H10,v41_11⟩ o h
 unfold C2 at h;try dsimp only at h
 refine B0 (WS.rg (u0 1 [kB 42 (decide (v41_11<(x9.n:Int)))] (RS.dn (A0 (B0 ?_)))));rcases Y0 h with ⟨hp,h⟩ | ⟨hp,h⟩
 ·refine E0 42 true (decide_eq_true hp) (G0 (J0 (A0 ?_)));obtain ⟨H12,hx,h⟩:=bind_some h;refine B0 ?_;refine WS.join ([kP 0 q1,kI 2 a2,kP 7 q8,(8,.val (vP x7)),kS 39 x9,kI 40 (x9.n:Int),kI 41 v41_11]) ([]) H12 ?_ (fun a w hs=>A0 ?_ a w hs)
  ·clear h; rename _=>h;refine M0 1 (B0 (WS.rg ?_));obtain ⟨p13,hx,h⟩:=bind_some h;refine T0 43 27 3 (.tmp 39) (.tmp 41) hx ?_;obtain ⟨x14,hx,h⟩:=bind_some h;refine O0 44 3 (.tmp 43) (X0 hx A1) (u0 1 [kI 10 x14] (RS.dn (A0 (B0 ?_))));refine Q0 [0,1,2,3] [0,1,3,7,0,0,48,127,255,511,511,1023,4095] 13 (fun hcl=>?_);refine C0 0 (some 46) (vP (some q1)) (C0 1 (some 47) (vP (some q1)) (C0 2 (some 48) (vP (some (Addr.add q1 7))) ?_));obtain ⟨x15,hx,h⟩:=bind_some h;refine F0 3 (some 49) (Value.map x15) (Abs.det_load (t:=58) (x:=.tmp 48) (a:=(Addr.add q1 7)) (by kernel_rfl) (by kernel_rfl) (by kernel_rfl) (by kernel_rfl) (X0 hx G7)) (DA.tP 4 (some 50) (vP (some q1)) (DA.tP 5 (some 51) (vI .i64 x14) ?_));obtain ⟨⟨x16,H17⟩,hx,h⟩:=bind_some h;try dsimp only at h
   refine DA.on 6 (DA.aCj 6 (some 52) false (v:=(vS x16)) 71 #[(vP (some q1)),(vI .i64 x14)] (D4 hx) ?_);obtain ⟨⟨x18,b19⟩,hx,h⟩:=bind_some h;try dsimp only at h
   refine DA.on 7 (V0 (H':=H17) 7 (some 53) (Value.tuple #[(vI .i64 x18),(vB b19)]) (Abs.run_look (t:=58) (x:=.tmp 49) (y:=.tmp 52) (mm:=x15) (k:=(vS x16)) (by kernel_rfl) (by kernel_rfl) (by kernel_rfl) (by kernel_rfl) (lkM_eq hx A1)) (DA.tP 8 (some 45) (Value.tuple #[(vI .i64 x18),(vB b19)]) (DA.tP 9 (some 54) (vI .i64 x18) (DA.tP 10 (some 55) (vB b19) (DA.tP 11 (some 11) (vI .i64 x18) (DA.tP 12 (some 12) (vB b19) (DA.dn (A0 ?_))))))));obtain ⟨v61_20,hx,h⟩:=bind_some h;refine B0 ?_;refine WS.join ([kB 61 v61_20,kP 0 q1,kI 2 a2,kP 7 q8,(8,.val (vP x7)),kI 10 x14,kS 39 x9,kI 40 (x9.n:Int),kI 41 v41_11]) ([]) H17 ?_ (fun a w hs=>A0 ?_ a w hs)
   ·clear h; rename _=>h;refine WS.rg (u0 2 [kB 57 b19,kB 56 b19] ?_);rcases Y0 h with ⟨hp,h⟩ | ⟨hp,h⟩
    ·refine U0 57 true hp (u0 4 [kB 61 (decide (x18=x14)),kB 60 (decide (x18=x14)),kI 59 x14,kI 58 x18] (RS.dn ?_));cases h;exact fun a w hs=>(jsN (hs.sb 0))
    ·refine U0 57 false (b_not hp) (u0 4 [kB 61 false,kU 60,kU 59,kU 58] (RS.dn ?_));cases h;exact fun a w hs=>(jsN (hs.sb 0))
   ·clear hx;rcases Y0 h with ⟨hp,h⟩ | ⟨hp,h⟩
    ·refine E0 61 true hp (G0 ?_);refine Q0 [0,1,2,3] [0,1,3,7,0,0,48,127] 8 (fun hcl=>?_);refine C0 0 (some 62) (vP (some q1)) (C0 1 (some 63) (vP (some q1)) (C0 2 (some 64) (vP (some (Addr.add q1 7))) ?_));obtain ⟨x21,hx,h⟩:=bind_some h;refine F0 3 (some 65) (Value.map x21) (Abs.det_load (t:=58) (x:=.tmp 64) (a:=(Addr.add q1 7)) (by kernel_rfl) (by kernel_rfl) (by kernel_rfl) (by kernel_rfl) (X0 hx G7)) (DA.tP 4 (some 66) (vP (some q1)) (DA.tP 5 (some 67) (vI .i64 x14) ?_));obtain ⟨⟨x22,H23⟩,hx,h⟩:=bind_some h;try dsimp only at h
     refine DA.on 6 (DA.aCj 6 (some 68) false (v:=(vS x22)) 71 #[(vP (some q1)),(vI .i64 x14)] (D4 hx) ?_);obtain ⟨⟨x24,H25⟩,hx,h⟩:=bind_some h;try dsimp only at h
     refine DA.on 7 (V0 (H':=H25) 7 none x24 (z8r hx zj7 (by kernel_rfl)) (DA.dn ?_));cases h;exact fun a w hs=>bkN ((jsN (hs.sb 0)))
    ·refine E0 61 false (b_not hp) (I0 (J0 ?_));cases h;exact fun a w hs=>bkN ((jsN (hs.sb 0)))
  ·clear hx;refine WS.rg (u0 2 [kI 41 (IntKind.i64.wrap (v41_11+1)),kI 69 (IntKind.i64.wrap (v41_11+1))] (RS.dn ?_));cases h;exact fun a w hs=>lsN rfl (hs.sb 0)
 ·refine E0 42 false (decide_eq_false hp) (I0 (WS.ex 0 ?_));cases h;exact fun a w hs=>sqE (lsB rfl (hs.sb 0))
theorem T7 {E H L m a2 q1 x7 q8 x28} :LoopF Tryd.prog (NE.plain 1000) m E Tryd.f73 ((cfst (csnd (cfst (csnd (csnd (csnd B73))))))) (z1w L m a2 q1 x7 q8 x28) (fun s=>s.1) 2 A5 (J5 H) (X2 L m a2 q1 x7 q8 x28):=by
 rintro ⟨H29,v75_30⟩ o h
 unfold X2 at h;try dsimp only at h
 refine B0 (WS.rg (u0 1 [kB 76 (decide (v75_30<(x28.n:Int)))] (RS.dn (A0 (B0 ?_)))));rcases Y0 h with ⟨hp,h⟩ | ⟨hp,h⟩
 ·refine E0 76 true (decide_eq_true hp) (G0 (J0 (A0 (B0 (M0 3 (B0 (WS.rg ?_)))))));obtain ⟨p31,hx,h⟩:=bind_some h;refine T0 77 27 3 (.tmp 73) (.tmp 75) hx ?_;obtain ⟨x32,hx,h⟩:=bind_some h;refine O0 78 3 (.tmp 77) (X0 hx A1) (u0 1 [kI 14 x32] (RS.dn (A0 (WS.rg (u0 3 [(81,.val (vP (some (Addr.add q1 4)))),kP 80 q1,kP 79 q1] ?_)))));obtain ⟨x33,hx,h⟩:=bind_some h;refine O0 82 27 (.tmp 81) (X0 hx C1) (u0 2 [kI 84 a2,kI 83 x32] ?_);obtain ⟨p34,hx,h⟩:=bind_some h;refine T0 85 27 3 (.tmp 82) (.tmp 83) hx ?_;obtain ⟨H35,hx,h⟩:=bind_some h;refine RS.o (H':=H35) none undef (Abs.run_store1 (t:=3) (x:=.tmp 85) (y:=.tmp 84) (a:=p34) (v:=(vI .i64 a2)) (by kernel_rfl) (by kernel_rfl) (by kernel_rfl) (by kernel_rfl) (by kernel_rfl) hx) (RS.dn ?_);refine fun a w hs=>bkN ((A0 ?_ a w hs));refine WS.rg (u0 2 [kI 75 (IntKind.i64.wrap (v75_30+1)),kI 86 (IntKind.i64.wrap (v75_30+1))] (RS.dn ?_));cases h;exact fun a w hs=>lsN rfl (hs.sb 0)
 ·refine E0 76 false (decide_eq_false hp) (I0 (WS.ex 2 ?_));cases h;exact fun a w hs=>sqE (lsB rfl (hs.sb 0))
theorem S7 {E H L m q1 x7 q8 x38} :LoopF Tryd.prog (NE.plain 1000) m E Tryd.f73 ((cfst (csnd (cfst (csnd (csnd (csnd (csnd (csnd B73))))))))) (z1u L m q1 x7 q8 x38) (fun s=>s.1) 4 A5 (J5 H) (E2 L m q1 x7 q8 x38):=by
 rintro ⟨H39,v15_40,v93_41⟩ o h
 unfold E2 at h;try dsimp only at h
 refine B0 (WS.rg (u0 1 [kB 94 (decide (v93_41<(x38.n:Int)))] (RS.dn (A0 (B0 ?_)))));rcases Y0 h with ⟨hp,h⟩ | ⟨hp,h⟩
 ·refine E0 94 true (decide_eq_true hp) (G0 (J0 (A0 ?_)));obtain ⟨⟨H42,v15_43⟩,hx,h⟩:=bind_some h;try dsimp only at h
  refine B0 ?_;refine WS.join ([kS 15 v15_43,kP 0 q1,kP 7 q8,(8,.val (vP x7)),kS 91 x38,kI 92 (x38.n:Int),kI 93 v93_41]) ([]) H42 ?_ (fun a w hs=>A0 ?_ a w hs)
  ·clear h; rename _=>h;refine M0 5 (B0 (WS.rg ?_));obtain ⟨p44,hx,h⟩:=bind_some h;refine T0 95 27 3 (.tmp 91) (.tmp 93) hx ?_;obtain ⟨x45,hx,h⟩:=bind_some h;refine O0 96 3 (.tmp 95) (X0 hx A1) (u0 1 [kI 17 x45] (RS.dn (A0 (B0 (WS.rg (u0 2 [kI 98 x45,kP 97 q1] ?_))))));obtain ⟨⟨x46,H47⟩,hx,h⟩:=bind_some h;try dsimp only at h
   refine RS.cl (some 99) (v:=(vS x46)) 71 _ (D4 hx) (u0 1 [kT 18 x46] (RS.dn (A0 (B0 (WS.rg (u0 3 [(103,.val (vP (some (Addr.add q1 7)))),kP 102 q1,kP 101 q1] ?_))))));obtain ⟨x48,hx,h⟩:=bind_some h;refine O0 104 58 (.tmp 103) (X0 hx G7) (u0 1 [kT 105 x46] ?_);obtain ⟨⟨x49,b50⟩,hx,h⟩:=bind_some h;try dsimp only at h
   refine RS.o (H':=H47) (some 106) (Value.tuple #[(vI .i64 x49),(vB b50)]) (Abs.run_look (t:=58) (x:=.tmp 104) (y:=.tmp 105) (mm:=x48) (k:=(vS x46)) (by kernel_rfl) (by kernel_rfl) (by kernel_rfl) (by kernel_rfl) (lkM_eq hx A1)) (u0 5 [kB 20 b50,kI 19 x49,kB 108 b50,kI 107 x49,(100,.val (Value.tuple #[(vI .i64 x49),(vB b50)]))] (RS.dn (A0 (B0 (WS.rg (u0 1 [kB 109 b50] (RS.dn (A0 ?_))))))));rcases Y0 h with ⟨hp,h⟩ | ⟨hp,h⟩
   ·refine E0 109 true hp (G0 (B0 (WS.rg (u0 3 [kB 112 (!decide (x49=x45)),kI 111 x45,kI 110 x49] (RS.dn (A0 ?_))))));rcases Y0 h with ⟨hp,h⟩ | ⟨hp,h⟩
    ·refine E0 112 false (i6 hp) (I0 (J0 ?_));cases h;exact fun a w hs=>bkN ((jsN (hs.sb 0)))
    ·refine E0 112 true (E5 hp) (G0 (WS.rg (u0 7 [kA 119 #[(vI .i64 x45),(vI .i64 x49),(vI .i64 0),(vI .i64 0),(vI .i64 x45),(vI .i64 x49),(vB true)],kA 118 #[(vI .i64 0),(vI .i64 0),(vI .i64 x45),(vI .i64 x49),(vB true)],kI 117 x49,kI 116 x45,kI 115 x49,kI 114 x45,kS 113 v15_40] ?_)));obtain ⟨⟨s51,H52⟩,hx,h⟩:=bind_some h;try dsimp only at h
     refine RS.o (H':=H52) (some 120) (Sl3.v s51) (Abs.run_newR (by kernel_rfl) (by kernel_rfl) hx) ?_;obtain ⟨⟨s53,H54⟩,hx,h⟩:=bind_some h;try dsimp only at h
     refine RS.o (H':=H54) (some 121) (Sl3.v s53) (Abs.run_app (x:=.tmp 113) (y:=.tmp 120) (ts:=#[123,123]) (s:=v15_40) (z:=s51) (by kernel_rfl) (by kernel_rfl) (by kernel_rfl) (by kernel_rfl) hx) (u0 1 [kS 15 s53] (RS.dn ?_));cases h;exact fun a w hs=>bkN ((jsN (hs.sb 0)))
   ·refine E0 109 false (b_not hp) (I0 (WS.rg (u0 3 [(124,.val (vP (some (Addr.add q1 7)))),kP 123 q1,kP 122 q1] ?_)));obtain ⟨x55,hx,h⟩:=bind_some h;refine O0 125 58 (.tmp 124) (X0 hx G7) (u0 2 [kI 127 x45,kT 126 x46] ?_);obtain ⟨H56,hx,h⟩:=bind_some h;refine RS.o (H':=H56) none undef (Abs.run_upM (t:=58) (x:=.tmp 125) (y:=.tmp 126) (z:=.tmp 127) (mm:=x55) (k:=(vS x46)) (v:=(vI .i64 x45)) (by kernel_rfl) (by kernel_rfl) (by kernel_rfl) (by kernel_rfl) (by kernel_rfl) hx) (RS.dn ?_);cases h;exact fun a w hs=>bkN ((jsN (hs.sb 0)))
  ·clear hx;refine WS.rg (u0 2 [kI 93 (IntKind.i64.wrap (v93_41+1)),kI 128 (IntKind.i64.wrap (v93_41+1))] (RS.dn ?_));cases h;exact fun a w hs=>lsN rfl (hs.sb 0)
 ·refine E0 94 false (decide_eq_false hp) (I0 (WS.ex 4 ?_));cases h;exact fun a w hs=>sqE (lsB rfl (hs.sb 0))
theorem z4h {L:LC} {m:Nat} {H:AH} {a0:Option Addr} {a1 a2:Int} {r:(Sl3×AH)} (h:M4 L m H a0 a1 a2=some r) :
  CallS Tryd.prog (NE.plain 1000) m 73 #[(vP a0),(vI .i64 a1),(vI .i64 a2)] H (A5 r) (J5 H r):=by
 refine CallS.mk (args:=[(vP a0),(vI .i64 a1),(vI .i64 a2)]) Tryd.func73 (B:=B73) (by kernel_rfl) (fun E _=>?_);unfold M4 at h;refine B0 (WS.rg (u0 1 [kS 6 Sl3.nil] (RS.dn (A0 (B0 ?_)))));refine Q0 [0,1,2,3,4,5,6,7,8,9,10,11,12,13] [0,1,3,7,0,31,63,0,128,384,896,0,3968,8064,127,32767] 16 (fun hcl=>?_);refine C0 0 (some 21) (vP a0) ?_;obtain ⟨q1,hx,hq1⟩:=bind_some h;subst hx;have h:=hq1;refine C0 1 (some 22) (vP (some q1)) (C0 2 (some 23) (vP (some (Addr.add q1 5))) ?_);obtain ⟨x2,hx,h⟩:=bind_some h;refine F0 3 (some 24) (Sl3.v x2) (Abs.det_load (t:=60) (x:=.tmp 23) (a:=(Addr.add q1 5)) (by kernel_rfl) (by kernel_rfl) (by kernel_rfl) (by kernel_rfl) (X0 hx C1)) (C0 4 (some 25) (vI .i64 a1) ?_);obtain ⟨p3,hx,h⟩:=bind_some h;refine F0 5 (some 26) (vP (some p3)) (Abs.det_idx (s:=x2) (k:=.i64) (t:=60) (e:=79) (x:=.tmp 24) (y:=.tmp 25) (by kernel_rfl) (by kernel_rfl) (by kernel_rfl) (by kernel_rfl) (by kernel_rfl) hx) ?_;obtain ⟨x4,hx,h⟩:=bind_some h;refine F0 6 (some 27) (vP x4) (Abs.det_load (t:=79) (x:=.tmp 26) (a:=p3) (by kernel_rfl) (by kernel_rfl) (by kernel_rfl) (by kernel_rfl) (X0 hx L8)) (C0 7 (some 28) (vP (some q1)) (C0 8 (some 29) (vP (some q1)) (C0 9 (some 30) (vP (some (Addr.add q1 5))) ?_)));obtain ⟨x5,hx,h⟩:=bind_some h;refine F0 10 (some 31) (Sl3.v x5) (Abs.det_load (t:=60) (x:=.tmp 30) (a:=(Addr.add q1 5)) (by kernel_rfl) (by kernel_rfl) (by kernel_rfl) (by kernel_rfl) (X0 hx C1)) (C0 11 (some 32) (vI .i64 a2) ?_);obtain ⟨p6,hx,h⟩:=bind_some h;refine F0 12 (some 33) (vP (some p6)) (Abs.det_idx (s:=x5) (k:=.i64) (t:=60) (e:=79) (x:=.tmp 31) (y:=.tmp 32) (by kernel_rfl) (by kernel_rfl) (by kernel_rfl) (by kernel_rfl) (by kernel_rfl) hx) ?_;obtain ⟨x7,hx,h⟩:=bind_some h;refine F0 13 (some 34) (vP x7) (Abs.det_load (t:=79) (x:=.tmp 33) (a:=p6) (by kernel_rfl) (by kernel_rfl) (by kernel_rfl) (by kernel_rfl) (X0 hx L8)) (DA.tP 14 (some 7) (vP x4) (DA.tP 15 (some 8) (vP x7) (DA.dn (A0 (B0 (B0 (WS.rg (u0 1 [(35,.val (vP x4))] ?_))))))));obtain ⟨q8,hx,hq8⟩:=bind_some h;subst hx;have h:=hq8;refine u0 3 [(38,.val (vP (some (Addr.add (Addr.add q8 0) 0)))),(37,.val (vP (some (Addr.add q8 0)))),kP 36 q8] ?_;obtain ⟨x9,hx,h⟩:=bind_some h;refine O0 39 27 (.tmp 38) (X0 hx C1) (u0 2 [kI 41 0,kI 40 (x9.n:Int)] (RS.dn (A0 (M0 0 ?_))));obtain ⟨o,hl,h⟩:=bind_some h;rcases o with ⟨H26,v41_27⟩ | r
 ·try dsimp only at h
  refine S0 (X7 (L:=L) (E:=E) (m:=m) (H:=H)) (L.ok hl) 0 ?_;clear hl;refine fun a w hs=>bkE ((A0 ?_ a w hs));refine B0 (B0 (WS.rg (u0 3 [(72,.val (vP (some (Addr.add q8 1)))),kP 71 q8,kP 70 q8] ?_)));obtain ⟨x28,hx,h⟩:=bind_some h;refine O0 73 27 (.tmp 72) (X0 hx C1) (u0 2 [kI 75 0,kI 74 (x28.n:Int)] (RS.dn (A0 (M0 2 ?_))));obtain ⟨o,hl,h⟩:=bind_some h;rcases o with ⟨H36,v75_37⟩ | r
  ·try dsimp only at h
   refine S0 (T7 (L:=L) (E:=E) (m:=m) (H:=H)) (L.ok hl) 0 ?_;clear hl;refine fun a w hs=>bkE ((A0 ?_ a w hs));refine B0 (WS.rg (u0 1 [kS 15 Sl3.nil] (RS.dn (A0 (B0 (B0 (WS.rg (u0 4 [(90,.val (vP (some (Addr.add (Addr.add q8 0) 0)))),(89,.val (vP (some (Addr.add q8 0)))),kP 88 q8,kP 87 q8] ?_))))))));obtain ⟨x38,hx,h⟩:=bind_some h;refine O0 91 27 (.tmp 90) (X0 hx C1) (u0 2 [kI 93 0,kI 92 (x38.n:Int)] (RS.dn (A0 (M0 4 ?_))));obtain ⟨o,hl,h⟩:=bind_some h;rcases o with ⟨H57,v15_58,v93_59⟩ | r
   ·try dsimp only at h
    refine S0 (S7 (L:=L) (E:=E) (m:=m) (H:=H)) (L.ok hl) 0 ?_;clear hl;refine fun a w hs=>bkE ((A0 ?_ a w hs));refine B0 ?_;refine Q0 [3,4,5,6,7] [0,1,3,0,8,24,56,120,255] 9 (fun hcl=>?_);refine C0 3 (some 132) (vP (some q8)) (C0 4 (some 133) (vP (some q8)) (C0 5 (some 134) (vP (some (Addr.add q8 0))) (C0 6 (some 135) (vP (some (Addr.add (Addr.add q8 0) 0))) ?_)));obtain ⟨x60,hx,h⟩:=bind_some h;refine F0 7 (some 136) (Sl3.v x60) (Abs.det_load (t:=27) (x:=.tmp 135) (a:=(Addr.add (Addr.add q8 0) 0)) (by kernel_rfl) (by kernel_rfl) (by kernel_rfl) (by kernel_rfl) (X0 hx C1)) (DA.tP 0 (some 129) (vP x7) ?_);obtain ⟨q61,hx,hq61⟩:=bind_some h;subst hx;have h:=hq61;refine DA.on 1 (DA.aHj (H':=H57) 1 (some 130) true (vP (some q61)) (by kernel_rfl) (DA.on 2 (DA.aHj (H':=H57) 2 (some 131) false (vP (some (Addr.add q61 0))) (by kernel_rfl) ?_)));obtain ⟨H62,hx,h⟩:=bind_some h;refine DA.on 8 (DA.aC 8 (some 137) (v:=(Value.tuple #[])) 70 #[(vP (some (Addr.add q61 0))),(Sl3.v x60)] (za hx) (DA.dn (A0 (B0 ?_))));refine Q0 [1,2,3,4,5,6,7,8] [0,0,2,6,14,0,32,96,224,510,1023,2047,4095] 13 (fun hcl=>?_);refine C0 1 (some 139) (vP (some q61)) (C0 2 (some 140) (vP (some q61)) (C0 3 (some 141) (vP (some (Addr.add q61 1))) ?_));obtain ⟨x63,hx,h⟩:=bind_some h;refine F0 4 (some 142) (Sl3.v x63) (Abs.det_load (t:=27) (x:=.tmp 141) (a:=(Addr.add q61 1)) (by kernel_rfl) (by kernel_rfl) (by kernel_rfl) (by kernel_rfl) (X0 hx C1)) (C0 5 (some 143) (vP (some q8)) (C0 6 (some 144) (vP (some q8)) (C0 7 (some 145) (vP (some (Addr.add q8 1))) ?_)));obtain ⟨x64,hx,h⟩:=bind_some h;refine F0 8 (some 146) (Sl3.v x64) (Abs.det_load (t:=27) (x:=.tmp 145) (a:=(Addr.add q8 1)) (by kernel_rfl) (by kernel_rfl) (by kernel_rfl) (by kernel_rfl) (X0 hx C1)) (DA.tP 0 (some 138) (vP (some q61)) ?_);obtain ⟨⟨s65,H66⟩,hx,h⟩:=bind_some h;try dsimp only at h
    refine DA.on 9 (V0 (H':=H66) 9 (some 147) (Sl3.v s65) (Abs.run_app (x:=.tmp 142) (y:=.tmp 146) (ts:=#[27,27]) (s:=x63) (z:=x64) (by kernel_rfl) (by kernel_rfl) (by kernel_rfl) (by kernel_rfl) hx) (DA.tP 10 (some 148) (vP (some q61)) (DA.tP 11 (some 149) (vP (some (Addr.add q61 1))) ?_)));obtain ⟨H67,hx,h⟩:=bind_some h;refine DA.on 12 (V0 (H':=H67) 12 none undef (Abs.run_store1 (t:=27) (x:=.tmp 149) (y:=.tmp 147) (a:=(Addr.add q61 1)) (v:=(Sl3.v s65)) (by kernel_rfl) (by kernel_rfl) (by kernel_rfl) (by kernel_rfl) (by kernel_rfl) hx) (DA.dn (A0 (B0 ?_))));refine Q0 [1,2,3,4,5,6,7,8] [0,0,2,6,14,0,32,96,224,510,1023,2047,4095] 13 (fun hcl=>?_);refine C0 1 (some 151) (vP (some q61)) (C0 2 (some 152) (vP (some q61)) (C0 3 (some 153) (vP (some (Addr.add q61 2))) ?_));obtain ⟨x68,hx,h⟩:=bind_some h;refine F0 4 (some 154) (Sl3.v x68) (Abs.det_load (t:=27) (x:=.tmp 153) (a:=(Addr.add q61 2)) (by kernel_rfl) (by kernel_rfl) (by kernel_rfl) (by kernel_rfl) (X0 hx C1)) (C0 5 (some 155) (vP (some q8)) (C0 6 (some 156) (vP (some q8)) (C0 7 (some 157) (vP (some (Addr.add q8 2))) ?_)));obtain ⟨x69,hx,h⟩:=bind_some h;refine F0 8 (some 158) (Sl3.v x69) (Abs.det_load (t:=27) (x:=.tmp 157) (a:=(Addr.add q8 2)) (by kernel_rfl) (by kernel_rfl) (by kernel_rfl) (by kernel_rfl) (X0 hx C1)) (DA.tP 0 (some 150) (vP (some q61)) ?_);obtain ⟨⟨s70,H71⟩,hx,h⟩:=bind_some h;try dsimp only at h
    refine DA.on 9 (V0 (H':=H71) 9 (some 159) (Sl3.v s70) (Abs.run_app (x:=.tmp 154) (y:=.tmp 158) (ts:=#[27,27]) (s:=x68) (z:=x69) (by kernel_rfl) (by kernel_rfl) (by kernel_rfl) (by kernel_rfl) hx) (DA.tP 10 (some 160) (vP (some q61)) (DA.tP 11 (some 161) (vP (some (Addr.add q61 2))) ?_)));obtain ⟨H72,hx,h⟩:=bind_some h;refine DA.on 12 (V0 (H':=H72) 12 none undef (Abs.run_store1 (t:=27) (x:=.tmp 161) (y:=.tmp 159) (a:=(Addr.add q61 2)) (v:=(Sl3.v s70)) (by kernel_rfl) (by kernel_rfl) (by kernel_rfl) (by kernel_rfl) (by kernel_rfl) hx) (DA.dn (A0 (B0 ?_))));refine Q0 [1,2,3,4,5,6,7,8] [0,0,2,6,14,0,32,96,224,510,1023,2047,4095] 13 (fun hcl=>?_);refine C0 1 (some 163) (vP (some q61)) (C0 2 (some 164) (vP (some q61)) (C0 3 (some 165) (vP (some (Addr.add q61 3))) ?_));obtain ⟨x73,hx,h⟩:=bind_some h;refine F0 4 (some 166) (vI .i64 x73) (Abs.det_load (t:=3) (x:=.tmp 165) (a:=(Addr.add q61 3)) (by kernel_rfl) (by kernel_rfl) (by kernel_rfl) (by kernel_rfl) (X0 hx A1)) (C0 5 (some 167) (vP (some q8)) (C0 6 (some 168) (vP (some q8)) (C0 7 (some 169) (vP (some (Addr.add q8 3))) ?_)));obtain ⟨x74,hx,h⟩:=bind_some h;refine F0 8 (some 170) (vI .i64 x74) (Abs.det_load (t:=3) (x:=.tmp 169) (a:=(Addr.add q8 3)) (by kernel_rfl) (by kernel_rfl) (by kernel_rfl) (by kernel_rfl) (X0 hx A1)) (DA.tP 0 (some 162) (vP (some q61)) ?_);obtain ⟨x75,hx,h⟩:=bind_some h;refine DA.on 9 (V0 (H':=H72) 9 (some 171) (vI .i64 x75) (z7p hx A1 (by kernel_rfl) (by kernel_rfl)) (DA.tP 10 (some 172) (vP (some q61)) (DA.tP 11 (some 173) (vP (some (Addr.add q61 3))) ?_)));obtain ⟨H76,hx,h⟩:=bind_some h;refine DA.on 12 (V0 (H':=H76) 12 none undef (Abs.run_store1 (t:=3) (x:=.tmp 173) (y:=.tmp 171) (a:=(Addr.add q61 3)) (v:=(vI .i64 x75)) (by kernel_rfl) (by kernel_rfl) (by kernel_rfl) (by kernel_rfl) (by kernel_rfl) hx) (DA.dn (A0 (B0 (WS.rg (u0 2 [kS 6 v15_58,kS 174 v15_58] (RS.dn (A0 (K0 ?_)))))))));cases h;exact fun a w hs=>rtR (rS hs)
   ·try dsimp only at h
    refine R0 (S7 (L:=L) (E:=E) (m:=m) (H:=H)) (L.ok hl) 0 ?_;cases h;exact fun a w hq=>bkR (sqR (rtR hq))
  ·try dsimp only at h
   refine R0 (T7 (L:=L) (E:=E) (m:=m) (H:=H)) (L.ok hl) 0 ?_;cases h;exact fun a w hq=>bkR (sqR (rtR hq))
 ·try dsimp only at h
  refine R0 (X7 (L:=L) (E:=E) (m:=m) (H:=H)) (L.ok hl) 0 ?_;cases h;exact fun a w hq=>bkR (sqR (rtR hq))
def l8:AH→Value
 | _=>(Value.tuple #[])
def O8 (_:AH):AH→AH:=fun r=>r
noncomputable def B58:Code:=(Tryd.f58.body).getD .skip
noncomputable def S1 (L:LC) (m:Nat) (a0:Option Addr) (_a3_0 _a3_1:Int) (_a3_2 _a3_3:Int) (_a3_4:Bool):(AH×Sl3)→Option (Lp (AH×Sl3) AH):=fun (H3,v8_4) =>
 if (v8_4.n:Int) > 0 then
  (idxA 7 v8_4 0).bind fun p5 => (rd (deI .i64) H3 (Addr.add p5 0)).bind fun x6_0 => (rd (deI .i64) H3 (Addr.add p5 1)).bind fun x6_1 => (rd (deI .i64) H3 (Addr.add p5 2)).bind fun x6_2 => (rd (deI .i64) H3 (Addr.add p5 3)).bind fun x6_3 => (rd (deI .i64) H3 (Addr.add p5 4)).bind fun x6_4 => (rd (deI .i64) H3 (Addr.add p5 5)).bind fun x6_5 => (rd deB H3 (Addr.add p5 6)).bind fun x6_6 => (slc 7 H3 v8_4 (some 1) none none).bind fun s7 => a0.bind fun q8 => (rd deSl H3 (Addr.add q8 4)).bind fun x9 => (idxA 1 x9 x6_0).bind fun p10 => (rd (deI .i64) H3 p10).bind fun x11 => (rd deSl H3 (Addr.add q8 4)).bind fun x12 => (idxA 1 x12 x6_1).bind fun p13 => (rd (deI .i64) H3 p13).bind fun x14 => if x11=x14 then
   some (.next (H3,s7))
  else
   Option.bind (α:=(Int×Int×Int×Int×Int×Int×Int×Int×Bool)) (
    (rd deSl H3 (Addr.add q8 5)).bind fun x24 => (idxA 1 x24 x11).bind fun p25 => (rd deP H3 p25).bind fun x26 => x26.bind fun q27 => (rd deSl H3 (Addr.add q27 1)).bind fun x28 => (rd deSl H3 (Addr.add q8 5)).bind fun x29 => (idxA 1 x29 x14).bind fun p30 => (rd deP H3 p30).bind fun x31 => x31.bind fun q32 => (rd deSl H3 (Addr.add q32 1)).bind fun x33 => if (x28.n:Int) > (x33.n:Int) then
     some (x14,x11,x6_1,x6_0,x6_2,x6_3,x6_4,x6_5,x6_6)
    else
     some (x11,x14,x6_0,x6_1,x6_2,x6_3,x6_4,x6_5,x6_6)) fun (v10_15,v11_16,w1_17,w1_18,_,w1_20,w1_21,w1_22,w1_23) =>
   (Z3 L m H3 (some q8) w1_17).bind fun H34 => (rd deSl H34 (Addr.add q8 6)).bind fun x35 => (idxA 5 x35 w1_17).bind fun p36 => (wrCells m p36 0 [(vI .i64 w1_18),(vI .i64 w1_20),(vI .i64 w1_21),(vI .i64 w1_22),(vB w1_23)] H34).bind fun H37 => (M4 L m H37 (some q8) v10_15 v11_16).bind fun (x38,H39) => (appS m 122 7 56 H39 s7 x38).bind fun (s40,H41) => some (.next (H41,s40))
 else
  some (.brk (H3,v8_4))
def z1m (_L:LC) (_m:Nat) (a0:Option Addr) (a3_0 a3_1:Int) (a3_2 a3_3:Int) (a3_4:Bool):(AH×Sl3)→KN×Lcs:=fun (_,v8_4)=>([kS 8 v8_4,(0,.val (vP a0))],[some (109,[(vI .i64 a3_0),(vI .i64 a3_1),(vI .i64 a3_2),(vI .i64 a3_3),(vB a3_4)])])
noncomputable def G2 (L:LC) (m:Nat) (H:AH) (a0:Option Addr) (a1 a2:Int) (a3_0 a3_1:Int) (a3_2 a3_3:Int) (a3_4:Bool):Option AH :=
 (newR 122 1 #[(vI .i64 a1),(vI .i64 a2),(vI .i64 a3_0),(vI .i64 a3_1),(vI .i64 a3_2),(vI .i64 a3_3),(vB a3_4)] H).bind fun (s1,H2) => (L.run (S1 L m a0 a3_0 a3_1 a3_2 a3_3 a3_4) (H2,s1)).bind fun o=>match o with
 | .inl (H42,_) =>
  some H42
 | .inr r=>some r
theorem C7 {E H L m a0 a3_0 a3_1 a3_2 a3_3 a3_4} :LoopF Tryd.prog (NE.plain 1000) m E Tryd.f58 ((cfst (csnd (csnd B58)))) (z1m L m a0 a3_0 a3_1 a3_2 a3_3 a3_4) (fun s=>s.1) 0 l8 (O8 H) (S1 L m a0 a3_0 a3_1 a3_2 a3_3 a3_4):=by
 rintro ⟨H3,v8_4⟩ o h
 unfold S1 at h;try dsimp only at h
 refine B0 (B0 (WS.rg (u0 3 [kB 19 (decide ((v8_4.n:Int) > 0)),kI 18 (v8_4.n:Int),kS 17 v8_4] (RS.dn (A0 ?_)))));rcases Y0 h with ⟨hp,h⟩ | ⟨hp,h⟩
 ·refine E0 19 true (decide_eq_true hp) (G0 (J0 (A0 (M0 1 (B0 (WS.rg (u0 1 [kS 20 v8_4] ?_)))))));obtain ⟨p5,hx,h⟩:=bind_some h;refine T0 21 123 122 (.tmp 20) (.const (vI .i64 0)) hx ?_;obtain ⟨x6_0,hx0,h⟩:=bind_some h;obtain ⟨x6_1,hx1,h⟩:=bind_some h;obtain ⟨x6_2,hx2,h⟩:=bind_some h;obtain ⟨x6_3,hx3,h⟩:=bind_some h;obtain ⟨x6_4,hx4,h⟩:=bind_some h;obtain ⟨x6_5,hx5,h⟩:=bind_some h;obtain ⟨x6_6,hx6,h⟩:=bind_some h;refine RS.la 22 122 (.tmp 21) 7 (I1 (X0 hx0 A1) (I1 (X0 hx1 A1) (I1 (X0 hx2 A1) (I1 (X0 hx3 A1) (I1 (X0 hx4 A1) (I1 (X0 hx5 A1) (I1 (X0 hx6 Z5) V6))))))) (W0 2 [kL 9 1 0] ([some (109,[(vI .i64 a3_0),(vI .i64 a3_1),(vI .i64 a3_2),(vI .i64 a3_3),(vB a3_4)]),some (122,[(vI .i64 x6_0),(vI .i64 x6_1),(vI .i64 x6_2),(vI .i64 x6_3),(vI .i64 x6_4),(vI .i64 x6_5),(vB x6_6)])]) (RS.dn (A0 (B0 (WS.rg (u0 1 [kS 23 v8_4] ?_))))));obtain ⟨s7,hx,h⟩:=bind_some h;refine RS.o (H':=H3) (some 24) (Sl3.v s7) (Abs.run_slice (t:=123) (e:=122) (x:=.tmp 23) (lo:=(some (.const (vI .i64 1)))) (hi:=none) (mx:=none) (s:=v8_4) (k1:=.i64) (k2:=.i64) (k3:=.i64) (by kernel_rfl) (by kernel_rfl) (by kernel_rfl) (by kernel_rfl) (by kernel_rfl) (by kernel_rfl) (by kernel_rfl) hx) (u0 1 [kS 8 s7] (RS.dn (A0 (B0 ?_))));refine Q0 [0,1,2,3,4,5,6,7,8,9,10,11,12,13,14,15] [0,1,3,7,0,16,63,127,0,256,768,1792,0,4096,16128,32512,255,131071] 18 (fun hcl=>?_);refine C0 0 (some 25) (vP a0) ?_;obtain ⟨q8,hx,hq8⟩:=bind_some h;subst hx;have h:=hq8;refine C0 1 (some 26) (vP (some q8)) (C0 2 (some 27) (vP (some (Addr.add q8 4))) ?_);obtain ⟨x9,hx,h⟩:=bind_some h;refine F0 3 (some 28) (Sl3.v x9) (Abs.det_load (t:=27) (x:=.tmp 27) (a:=(Addr.add q8 4)) (by kernel_rfl) (by kernel_rfl) (by kernel_rfl) (by kernel_rfl) (X0 hx C1)) (DA.tL 4 (some 29) (.loc 1 0) (DA.tL 5 (some 30) (.val (vI .i64 x6_0)) ?_));obtain ⟨p10,hx,h⟩:=bind_some h;refine F0 6 (some 31) (vP (some p10)) (Abs.det_idx (s:=x9) (k:=.i64) (t:=27) (e:=3) (x:=.tmp 28) (y:=.tmp 30) (by kernel_rfl) (by kernel_rfl) (by kernel_rfl) (by kernel_rfl) (by kernel_rfl) hx) ?_;obtain ⟨x11,hx,h⟩:=bind_some h;refine F0 7 (some 32) (vI .i64 x11) (Abs.det_load (t:=3) (x:=.tmp 31) (a:=p10) (by kernel_rfl) (by kernel_rfl) (by kernel_rfl) (by kernel_rfl) (X0 hx A1)) (C0 8 (some 33) (vP (some q8)) (C0 9 (some 34) (vP (some q8)) (C0 10 (some 35) (vP (some (Addr.add q8 4))) ?_)));obtain ⟨x12,hx,h⟩:=bind_some h;refine F0 11 (some 36) (Sl3.v x12) (Abs.det_load (t:=27) (x:=.tmp 35) (a:=(Addr.add q8 4)) (by kernel_rfl) (by kernel_rfl) (by kernel_rfl) (by kernel_rfl) (X0 hx C1)) (DA.tL 12 (some 37) (.loc 1 1) (DA.tL 13 (some 38) (.val (vI .i64 x6_1)) ?_));obtain ⟨p13,hx,h⟩:=bind_some h;refine F0 14 (some 39) (vP (some p13)) (Abs.det_idx (s:=x12) (k:=.i64) (t:=27) (e:=3) (x:=.tmp 36) (y:=.tmp 38) (by kernel_rfl) (by kernel_rfl) (by kernel_rfl) (by kernel_rfl) (by kernel_rfl) hx) ?_;obtain ⟨x14,hx,h⟩:=bind_some h;refine F0 15 (some 40) (vI .i64 x14) (Abs.det_load (t:=3) (x:=.tmp 39) (a:=p13) (by kernel_rfl) (by kernel_rfl) (by kernel_rfl) (by kernel_rfl) (X0 hx A1)) (DA.tP 16 (some 10) (vI .i64 x11) (DA.tP 17 (some 11) (vI .i64 x14) (DA.dn (A0 (B0 (B0 (WS.rg (u0 3 [kB 43 (decide (x11=x14)),kI 42 x14,kI 41 x11] (RS.dn ?_)))))))));refine A0 ?_;rcases Y0 h with ⟨hp,h⟩ | ⟨hp,h⟩
  ·refine E0 43 true (decide_eq_true hp) (G0 (WS.ex 1 ?_));cases h;exact fun a w hs=>sqE (bkE (lsN rfl (hs.sb 1)))
  ·refine E0 43 false (decide_eq_false hp) (I0 (J0 (A0 ?_)));obtain ⟨⟨v10_15,v11_16,w1_17,w1_18,w1_19,w1_20,w1_21,w1_22,w1_23⟩,hx,h⟩:=bind_some h;try dsimp only at h
   refine B0 ?_;refine WS.join ([kI 10 v10_15,kI 11 v11_16,kP 0 q8,kS 8 s7,kL 9 1 0]) ([some (109,[(vI .i64 a3_0),(vI .i64 a3_1),(vI .i64 a3_2),(vI .i64 a3_3),(vB a3_4)]),some (122,[(vI .i64 w1_17),(vI .i64 w1_18),(vI .i64 w1_19),(vI .i64 w1_20),(vI .i64 w1_21),(vI .i64 w1_22),(vB w1_23)])]) H3 ?_ (fun a w hs=>A0 ?_ a w hs)
   ·clear h; rename _=>h;refine B0 ?_;refine Q0 [0,1,2,3,4,5,6,7,8,9,11,12,13,14,15,16,17,18,19,20] [0,1,3,7,0,31,63,127,255,511,1023,0,2048,6144,14336,0,63488,129024,260096,522240,1046528,2095104,4194303] 23 (fun hcl=>?_);refine C0 0 (some 44) (vP (some q8)) (C0 1 (some 45) (vP (some q8)) (C0 2 (some 46) (vP (some (Addr.add q8 5))) ?_));obtain ⟨x24,hx,h⟩:=bind_some h;refine F0 3 (some 47) (Sl3.v x24) (Abs.det_load (t:=60) (x:=.tmp 46) (a:=(Addr.add q8 5)) (by kernel_rfl) (by kernel_rfl) (by kernel_rfl) (by kernel_rfl) (X0 hx C1)) (C0 4 (some 48) (vI .i64 x11) ?_);obtain ⟨p25,hx,h⟩:=bind_some h;refine F0 5 (some 49) (vP (some p25)) (Abs.det_idx (s:=x24) (k:=.i64) (t:=60) (e:=79) (x:=.tmp 47) (y:=.tmp 48) (by kernel_rfl) (by kernel_rfl) (by kernel_rfl) (by kernel_rfl) (by kernel_rfl) hx) ?_;obtain ⟨x26,hx,h⟩:=bind_some h;refine F0 6 (some 50) (vP x26) (Abs.det_load (t:=79) (x:=.tmp 49) (a:=p25) (by kernel_rfl) (by kernel_rfl) (by kernel_rfl) (by kernel_rfl) (X0 hx L8)) ?_;obtain ⟨q27,hx,hq27⟩:=bind_some h;subst hx;have h:=hq27;refine C0 7 (some 51) (vP (some q27)) (C0 8 (some 52) (vP (some (Addr.add q27 1))) ?_);obtain ⟨x28,hx,h⟩:=bind_some h;refine F0 9 (some 53) (Sl3.v x28) (Abs.det_load (t:=27) (x:=.tmp 52) (a:=(Addr.add q27 1)) (by kernel_rfl) (by kernel_rfl) (by kernel_rfl) (by kernel_rfl) (X0 hx C1)) (C0 11 (some 55) (vP (some q8)) (C0 12 (some 56) (vP (some q8)) (C0 13 (some 57) (vP (some (Addr.add q8 5))) ?_)));obtain ⟨x29,hx,h⟩:=bind_some h;refine F0 14 (some 58) (Sl3.v x29) (Abs.det_load (t:=60) (x:=.tmp 57) (a:=(Addr.add q8 5)) (by kernel_rfl) (by kernel_rfl) (by kernel_rfl) (by kernel_rfl) (X0 hx C1)) (C0 15 (some 59) (vI .i64 x14) ?_);obtain ⟨p30,hx,h⟩:=bind_some h;refine F0 16 (some 60) (vP (some p30)) (Abs.det_idx (s:=x29) (k:=.i64) (t:=60) (e:=79) (x:=.tmp 58) (y:=.tmp 59) (by kernel_rfl) (by kernel_rfl) (by kernel_rfl) (by kernel_rfl) (by kernel_rfl) hx) ?_;obtain ⟨x31,hx,h⟩:=bind_some h;refine F0 17 (some 61) (vP x31) (Abs.det_load (t:=79) (x:=.tmp 60) (a:=p30) (by kernel_rfl) (by kernel_rfl) (by kernel_rfl) (by kernel_rfl) (X0 hx L8)) ?_;obtain ⟨q32,hx,hq32⟩:=bind_some h;subst hx;have h:=hq32;refine C0 18 (some 62) (vP (some q32)) (C0 19 (some 63) (vP (some (Addr.add q32 1))) ?_);obtain ⟨x33,hx,h⟩:=bind_some h;refine F0 20 (some 64) (Sl3.v x33) (Abs.det_load (t:=27) (x:=.tmp 63) (a:=(Addr.add q32 1)) (by kernel_rfl) (by kernel_rfl) (by kernel_rfl) (by kernel_rfl) (X0 hx C1)) (DA.restart [0,1,2,3,4,5,6,7,8,9,10,11,12,13,14,15,16,17,18,19,20,21] (by kernel_rfl) (C0 10 (some 54) (vI .i64 (x28.n:Int)) (C0 21 (some 65) (vI .i64 (x33.n:Int)) (DA.tP 22 (some 66) (vB (decide ((x28.n:Int) > (x33.n:Int)))) (DA.dn (A0 ?_))))));rcases Y0 h with ⟨hp,h⟩ | ⟨hp,h⟩
    ·refine E0 66 true (decide_eq_true hp) (G0 (B0 (WS.rg (u0 4 [kI 11 x11,kI 10 x14,kI 68 x11,kI 67 x14] (RS.dn (A0 (WS.rg (W0 8 [kL 74 1 1,kL 73 1 0,kI 72 x6_0,kL 71 1 0,kI 70 x6_1,kL 69 1 1] ([some (109,[(vI .i64 a3_0),(vI .i64 a3_1),(vI .i64 a3_2),(vI .i64 a3_3),(vB a3_4)]),some (122,[(vI .i64 x6_1),(vI .i64 x6_0),(vI .i64 x6_2),(vI .i64 x6_3),(vI .i64 x6_4),(vI .i64 x6_5),(vB x6_6)])]) (RS.dn ?_)))))))));cases h;exact fun a w hs=>(jsN (hs.sb 2))
    ·refine E0 66 false (decide_eq_false hp) (I0 (J0 ?_));cases h;exact fun a w hs=>(jsN (hs.sb 2))
   ·clear hx;refine B0 (WS.rg (u0 3 [kI 77 w1_17,kL 76 1 0,kP 75 q8] ?_));obtain ⟨H34,hx,h⟩:=bind_some h;refine RS.cl (some 78) (v:=(Value.tuple #[])) 72 _ (z2m hx) (RS.dn (A0 (B0 (WS.rg (W0 5 [kL 82 1 2,kL 81 1 2,kI 80 w1_18,kL 79 1 1] ([some (109,[(vI .i64 a3_0),(vI .i64 a3_1),(vI .i64 a3_2),(vI .i64 a3_3),(vB a3_4)]),some (122,[(vI .i64 w1_17),(vI .i64 w1_18),(vI .i64 w1_18),(vI .i64 w1_20),(vI .i64 w1_21),(vI .i64 w1_22),(vB w1_23)])]) (RS.dn (A0 (B0 ?_))))))));refine Q0 [0,1,2,3,4,5,6,7] [0,1,3,7,0,16,0,64,255,511] 10 (fun hcl=>?_);refine C0 0 (some 83) (vP (some q8)) (C0 1 (some 84) (vP (some q8)) (C0 2 (some 85) (vP (some (Addr.add q8 6))) ?_));obtain ⟨x35,hx,h⟩:=bind_some h;refine F0 3 (some 86) (Sl3.v x35) (Abs.det_load (t:=61) (x:=.tmp 85) (a:=(Addr.add q8 6)) (by kernel_rfl) (by kernel_rfl) (by kernel_rfl) (by kernel_rfl) (X0 hx C1)) (DA.tL 4 (some 87) (.loc 1 0) (DA.tL 5 (some 88) (.val (vI .i64 w1_17)) (DA.tL 6 (some 89) (.loc 1 2) (DA.tL 7 (some 90) (.val (vA #[(vI .i64 w1_18),(vI .i64 w1_20),(vI .i64 w1_21),(vI .i64 w1_22),(vB w1_23)])) ?_))));obtain ⟨p36,hx,h⟩:=bind_some h;refine DA.tPx 8 (some 91) (vP (some p36)) (Abs.det_idx (s:=x35) (k:=.i64) (t:=61) (e:=109) (x:=.tmp 86) (y:=.tmp 88) (by kernel_rfl) (by kernel_rfl) (by kernel_rfl) (by kernel_rfl) (by kernel_rfl) hx) ?_;obtain ⟨H37,hx,h⟩:=bind_some h;refine DA.on 9 (V0 (H':=H37) 9 none undef (Abs.run_storeA (t:=109) (x:=.tmp 91) (y:=.tmp 90) (a:=p36) (v:=(vA #[(vI .i64 w1_18),(vI .i64 w1_20),(vI .i64 w1_21),(vI .i64 w1_22),(vB w1_23)])) (by kernel_rfl) (by kernel_rfl) (by kernel_rfl) (by kernel_rfl) (by kernel_rfl) hx) (DA.dn (A0 (WS.rg (u0 4 [kI 95 v11_16,kI 94 v10_15,kP 93 q8,kS 92 s7] ?_)))));obtain ⟨⟨x38,H39⟩,hx,h⟩:=bind_some h;try dsimp only at h
    refine RS.cl (some 96) (v:=(Sl3.v x38)) 73 _ (z4h hx) ?_;obtain ⟨⟨s40,H41⟩,hx,h⟩:=bind_some h;try dsimp only at h
    refine RS.o (H':=H41) (some 97) (Sl3.v s40) (Abs.run_app (x:=.tmp 92) (y:=.tmp 96) (ts:=#[123,123]) (s:=s7) (z:=x38) (by kernel_rfl) (by kernel_rfl) (by kernel_rfl) (by kernel_rfl) hx) (u0 1 [kS 8 s40] (RS.dn ?_));cases h;exact fun a w hs=>bkN (lsN rfl (hs.sb 1))
 ·refine E0 19 false (decide_eq_false hp) (I0 (WS.ex 0 ?_));cases h;exact fun a w hs=>sqE (lsB rfl (hs.sb 1))
theorem K8 {L:LC} {m:Nat} {H:AH} {a0:Option Addr} {a1 a2:Int} {a3_0 a3_1:Int} {a3_2 a3_3:Int} {a3_4:Bool} {r:AH} (h:G2 L m H a0 a1 a2 a3_0 a3_1 a3_2 a3_3 a3_4=some r) :
  CallS Tryd.prog (NE.plain 1000) m 58 #[(vP a0),(vI .i64 a1),(vI .i64 a2),(vA #[(vI .i64 a3_0),(vI .i64 a3_1),(vI .i64 a3_2),(vI .i64 a3_3),(vB a3_4)])] H (l8 r) (O8 H r):=by
 refine CallS.mk (args:=[(vP a0),(vI .i64 a1),(vI .i64 a2),(vA #[(vI .i64 a3_0),(vI .i64 a3_1),(vI .i64 a3_2),(vI .i64 a3_3),(vB a3_4)])]) Tryd.func58 (B:=B58) (by kernel_rfl) (fun E _=>?_);unfold G2 at h;refine B0 (WS.rg (W0 1 [kL 7 0 0] ([some (109,[(vI .i64 a3_0),(vI .i64 a3_1),(vI .i64 a3_2),(vI .i64 a3_3),(vB a3_4)])]) (RS.dn (A0 (B0 (WS.rg (u0 4 [kA 15 #[(vI .i64 a1),(vI .i64 a2),(vI .i64 a3_0),(vI .i64 a3_1),(vI .i64 a3_2),(vI .i64 a3_3),(vB a3_4)],kA 14 #[(vI .i64 a3_0),(vI .i64 a3_1),(vI .i64 a3_2),(vI .i64 a3_3),(vB a3_4)],kI 13 a2,kI 12 a1] ?_)))))));obtain ⟨⟨s1,H2⟩,hx,h⟩:=bind_some h;try dsimp only at h
 refine RS.o (H':=H2) (some 16) (Sl3.v s1) (Abs.run_newR (by kernel_rfl) (by kernel_rfl) hx) (u0 1 [kS 8 s1] (RS.dn (A0 (M0 0 ?_))));obtain ⟨o,hl,h⟩:=bind_some h;rcases o with ⟨H42,v8_43⟩ | r
 ·try dsimp only at h
  refine S0 (C7 (L:=L) (E:=E) (m:=m) (H:=H)) (L.ok hl) 1 ?_;clear hl;cases h;exact fun a w hs=>bkE (rtN (rS hs))
 ·try dsimp only at h
  refine R0 (C7 (L:=L) (E:=E) (m:=m) (H:=H)) (L.ok hl) 1 ?_;cases h;exact fun a w hq=>bkR (rtR hq)
def C8:AH→Value
 | _=>(Value.tuple #[])
def U8 (_:AH):AH→AH:=fun r=>r
noncomputable def B57:Code:=(Tryd.f57.body).getD .skip
noncomputable def U2 (L:LC) (m:Nat) (a1:Int) (q13:Addr) (x35:Sl3):(AH×Int)→Option (Lp (AH×Int) AH):=fun (H36,v71_37) =>
 if v71_37<(x35.n:Int) then
  (idxA 1 x35 v71_37).bind fun p38 => (rd (deI .i64) H36 p38).bind fun x39 => (rd deSl H36 (Addr.add q13 5)).bind fun x40 => (rd deSl H36 (Addr.add q13 4)).bind fun x41 => (idxA 1 x41 x39).bind fun p42 => (rd (deI .i64) H36 p42).bind fun x43 => (idxA 1 x40 x43).bind fun p44 => (rd deP H36 p44).bind fun x45 => x45.bind fun q46 => (newR 3 1 #[(vI .i64 a1)] H36).bind fun (s47,H48) => (F4 L m H48 (some (Addr.add q46 0)) s47).bind fun H49 => some (.next (H49,(IntKind.i64.wrap (v71_37+1))))
 else
  some (.brk (H36,v71_37))
def z1g (_L:LC) (_m:Nat) (a1:Int) (q13:Addr) (x35:Sl3):(AH×Int)→KN×Lcs:=fun (_,v71_37)=>([kI 71 v71_37,kP 0 q13,kI 1 a1,kS 69 x35,kI 70 (x35.n:Int)],[])
noncomputable def M3 (L:LC) (m:Nat) (H:AH) (a0:Option Addr) (a1:Int):Option AH :=
 (newR 3 1 #[(vI .i64 a1)] H).bind fun (s1,H2) => (newB 78 [(Sl3.v Sl3.nil),(Sl3.v s1),(Sl3.v Sl3.nil),(vI .i64 a1)] H2).bind fun (p3,H4) => Option.bind (α:=AH) (
  a0.bind fun q6 => (rd deSl H4 (Addr.add q6 0)).bind fun x7 => (idxA 3 x7 a1).bind fun p8 => (rd deB H4 (Addr.add p8 2)).bind fun x9 => if x9=true then
   (newR 3 1 #[(vI .i64 a1)] H4).bind fun (s10,H11) => (H11.setCell m (Addr.add p3 2) (Sl3.v s10)).bind fun H12 => some H12
  else
   some H4) fun H5 =>
 a0.bind fun q13 => (rd deSl H5 (Addr.add q13 4)).bind fun x14 => (rd deSl H5 (Addr.add q13 5)).bind fun x15 => (newR 3 1 #[(vI .i64 (x15.n:Int))] H5).bind fun (s16,H17) => (appS m 3 1 8 H17 x14 s16).bind fun (s18,H19) => (H19.setCell m (Addr.add q13 4) (Sl3.v s18)).bind fun H20 => (rd deSl H20 (Addr.add q13 5)).bind fun x21 => (newR 79 1 #[(vP (some p3))] H20).bind fun (s22,H23) => (appS m 79 1 8 H23 x21 s22).bind fun (s24,H25) => (H25.setCell m (Addr.add q13 5) (Sl3.v s24)).bind fun H26 => (rd deSl H26 (Addr.add q13 6)).bind fun x27 => (newR 109 1 #[(vI .i64 (-1)),(vI .i64 0),(vI .i64 0),(vI .i64 0),(vB false)] H26).bind fun (s28,H29) => (appS m 109 5 40 H29 x27 s28).bind fun (s30,H31) => (H31.setCell m (Addr.add q13 6) (Sl3.v s30)).bind fun H32 => (rd deSl H32 (Addr.add q13 0)).bind fun x33 => (idxA 3 x33 a1).bind fun p34 => (rd deSl H32 (Addr.add p34 1)).bind fun x35 => (L.run (U2 L m a1 q13 x35) (H32,0)).bind fun o=>match o with
 | .inl (H50,_) =>
  (M1 L m H50 (some q13) a1).bind fun (x52,H53) => (rd deM H53 (Addr.add q13 7)).bind fun x54 => (lkM Tryd.prog 58 (deI .i64) H53 x54 (vS x52)).bind fun (x55,b56) => if b56=true then
   (G2 L m H53 (some q13) a1 x55 0 0 a1 x55 true).bind fun H57 => some H57
  else
   (rd deM H53 (Addr.add q13 7)).bind fun x58 => (upM Tryd.prog m 58 H53 x58 (vS x52) (vI .i64 a1)).bind fun H59 => some H59
 | .inr r=>some r
theorem v7 {E H L m a1 q13 x35} :LoopF Tryd.prog (NE.plain 1000) m E Tryd.f57 ((cfst (csnd (cfst (csnd (csnd (csnd (csnd (csnd B57))))))))) (z1g L m a1 q13 x35) (fun s=>s.1) 0 C8 (U8 H) (U2 L m a1 q13 x35):=by
 rintro ⟨H36,v71_37⟩ o h
 unfold U2 at h;try dsimp only at h
 refine B0 (WS.rg (u0 1 [kB 72 (decide (v71_37<(x35.n:Int)))] (RS.dn (A0 (B0 ?_)))));rcases Y0 h with ⟨hp,h⟩ | ⟨hp,h⟩
 ·refine E0 72 true (decide_eq_true hp) (G0 (J0 (A0 (B0 (M0 1 (B0 (WS.rg ?_)))))));obtain ⟨p38,hx,h⟩:=bind_some h;refine T0 73 27 3 (.tmp 69) (.tmp 71) hx ?_;obtain ⟨x39,hx,h⟩:=bind_some h;refine O0 74 3 (.tmp 73) (X0 hx A1) (u0 1 [kI 6 x39] (RS.dn (A0 ?_)));refine Q0 [0,1,2,3,4,5,6,7,8,9,10,11,12] [0,1,3,7,0,16,48,112,0,496,1008,2047,4095,8191,16383,0,32768,131071] 18 (fun hcl=>?_);refine C0 0 (some 75) (vP (some q13)) (C0 1 (some 76) (vP (some q13)) (C0 2 (some 77) (vP (some (Addr.add q13 5))) ?_));obtain ⟨x40,hx,h⟩:=bind_some h;refine F0 3 (some 78) (Sl3.v x40) (Abs.det_load (t:=60) (x:=.tmp 77) (a:=(Addr.add q13 5)) (by kernel_rfl) (by kernel_rfl) (by kernel_rfl) (by kernel_rfl) (X0 hx C1)) (C0 4 (some 79) (vP (some q13)) (C0 5 (some 80) (vP (some q13)) (C0 6 (some 81) (vP (some (Addr.add q13 4))) ?_)));obtain ⟨x41,hx,h⟩:=bind_some h;refine F0 7 (some 82) (Sl3.v x41) (Abs.det_load (t:=27) (x:=.tmp 81) (a:=(Addr.add q13 4)) (by kernel_rfl) (by kernel_rfl) (by kernel_rfl) (by kernel_rfl) (X0 hx C1)) (C0 8 (some 83) (vI .i64 x39) ?_);obtain ⟨p42,hx,h⟩:=bind_some h;refine F0 9 (some 84) (vP (some p42)) (Abs.det_idx (s:=x41) (k:=.i64) (t:=27) (e:=3) (x:=.tmp 82) (y:=.tmp 83) (by kernel_rfl) (by kernel_rfl) (by kernel_rfl) (by kernel_rfl) (by kernel_rfl) hx) ?_;obtain ⟨x43,hx,h⟩:=bind_some h;refine F0 10 (some 85) (vI .i64 x43) (Abs.det_load (t:=3) (x:=.tmp 84) (a:=p42) (by kernel_rfl) (by kernel_rfl) (by kernel_rfl) (by kernel_rfl) (X0 hx A1)) ?_;obtain ⟨p44,hx,h⟩:=bind_some h;refine F0 11 (some 86) (vP (some p44)) (Abs.det_idx (s:=x40) (k:=.i64) (t:=60) (e:=79) (x:=.tmp 78) (y:=.tmp 85) (by kernel_rfl) (by kernel_rfl) (by kernel_rfl) (by kernel_rfl) (by kernel_rfl) hx) ?_;obtain ⟨x45,hx,h⟩:=bind_some h;refine F0 12 (some 87) (vP x45) (Abs.det_load (t:=79) (x:=.tmp 86) (a:=p44) (by kernel_rfl) (by kernel_rfl) (by kernel_rfl) (by kernel_rfl) (X0 hx L8)) ?_;obtain ⟨q46,hx,hq46⟩:=bind_some h;subst hx;have h:=hq46;refine DA.tP 13 (some 88) (vP (some q46)) (DA.tP 14 (some 89) (vP (some (Addr.add q46 0))) (DA.tP 15 (some 90) (vI .i64 a1) ?_));obtain ⟨⟨s47,H48⟩,hx,h⟩:=bind_some h;try dsimp only at h
  refine DA.on 16 (DA.aHj (H':=H48) 16 (some 91) false (Sl3.v s47) (Abs.run_newR (by kernel_rfl) (by kernel_rfl) hx) ?_);obtain ⟨H49,hx,h⟩:=bind_some h;refine DA.on 17 (DA.aC 17 (some 92) (v:=(Value.tuple #[])) 70 #[(vP (some (Addr.add q46 0))),(Sl3.v s47)] (za hx) (DA.dn ?_));refine fun a w hs=>bkN ((A0 ?_ a w hs));refine WS.rg (u0 2 [kI 71 (IntKind.i64.wrap (v71_37+1)),kI 93 (IntKind.i64.wrap (v71_37+1))] (RS.dn ?_));cases h;exact fun a w hs=>lsN rfl (hs.sb 0)
 ·refine E0 72 false (decide_eq_false hp) (I0 (WS.ex 0 ?_));cases h;exact fun a w hs=>sqE (lsB rfl (hs.sb 0))
theorem z2s {L:LC} {m:Nat} {H:AH} {a0:Option Addr} {a1:Int} {r:AH} (h:M3 L m H a0 a1=some r) :
  CallS Tryd.prog (NE.plain 1000) m 57 #[(vP a0),(vI .i64 a1)] H (C8 r) (U8 H r):=by
 refine CallS.mk (args:=[(vP a0),(vI .i64 a1)]) Tryd.func57 (B:=B57) (by kernel_rfl) (fun E _=>?_);unfold M3 at h;refine B0 (WS.rg (u0 1 [kI 10 a1] ?_));obtain ⟨⟨s1,H2⟩,hx,h⟩:=bind_some h;try dsimp only at h
 refine RS.o (H':=H2) (some 11) (Sl3.v s1) (Abs.run_newR (by kernel_rfl) (by kernel_rfl) hx) (u0 2 [kA 13 #[(Sl3.v Sl3.nil),(Sl3.v s1),(Sl3.v Sl3.nil),(vI .i64 a1)],kI 12 a1] ?_);obtain ⟨⟨p3,H4⟩,hx,h⟩:=bind_some h;try dsimp only at h
 refine RS.o (H':=H4) (some 14) (vP (some p3)) (Abs.run_newB (by kernel_rfl) hx) (u0 1 [kP 4 p3] (RS.dn (A0 ?_)));obtain ⟨H5,hx,h⟩:=bind_some h;refine B0 ?_;refine WS.join ([(0,.val (vP a0)),kI 1 a1,kP 4 p3]) ([]) H5 ?_ (fun a w hs=>A0 ?_ a w hs)
 ·clear h; rename _=>h;refine B0 (WS.rg (u0 1 [(15,.val (vP a0))] ?_));obtain ⟨q6,hx,hq6⟩:=bind_some h;subst hx;have h:=hq6;refine u0 2 [(17,.val (vP (some (Addr.add q6 0)))),kP 16 q6] ?_;obtain ⟨x7,hx,h⟩:=bind_some h;refine O0 18 57 (.tmp 17) (X0 hx C1) (u0 1 [kI 19 a1] ?_);obtain ⟨p8,hx,h⟩:=bind_some h;refine T0 20 57 86 (.tmp 18) (.tmp 19) hx (u0 1 [(21,.val (vP (some (Addr.add p8 2))))] ?_);obtain ⟨x9,hx,h⟩:=bind_some h;refine O0 22 4 (.tmp 21) (X0 hx Z5) (RS.dn (A0 ?_));rcases Y0 h with ⟨hp,h⟩ | ⟨hp,h⟩
  ·refine E0 22 true hp (G0 (WS.rg (u0 2 [kI 24 a1,kP 23 p3] ?_)));obtain ⟨⟨s10,H11⟩,hx,h⟩:=bind_some h;try dsimp only at h
   refine RS.o (H':=H11) (some 25) (Sl3.v s10) (Abs.run_newR (by kernel_rfl) (by kernel_rfl) hx) (u0 2 [(27,.val (vP (some (Addr.add p3 2)))),kP 26 p3] ?_);obtain ⟨H12,hx,h⟩:=bind_some h;refine RS.o (H':=H12) none undef (Abs.run_store1 (t:=27) (x:=.tmp 27) (y:=.tmp 25) (a:=(Addr.add p3 2)) (v:=(Sl3.v s10)) (by kernel_rfl) (by kernel_rfl) (by kernel_rfl) (by kernel_rfl) (by kernel_rfl) hx) (RS.dn ?_);cases h;exact fun a w hs=>(jsN (hs.sb 0))
  ·refine E0 22 false (b_not hp) (I0 (J0 ?_));cases h;exact fun a w hs=>(jsN (hs.sb 0))
 ·clear hx;refine B0 ?_;refine Q0 [1,2,3,4,5,6,7,8] [0,0,2,6,14,0,32,96,224,480,992,2046,4095,8191,16383] 15 (fun hcl=>?_);refine C0 1 (some 29) (vP a0) ?_;obtain ⟨q13,hx,hq13⟩:=bind_some h;subst hx;have h:=hq13;refine C0 2 (some 30) (vP (some q13)) (C0 3 (some 31) (vP (some (Addr.add q13 4))) ?_);obtain ⟨x14,hx,h⟩:=bind_some h;refine F0 4 (some 32) (Sl3.v x14) (Abs.det_load (t:=27) (x:=.tmp 31) (a:=(Addr.add q13 4)) (by kernel_rfl) (by kernel_rfl) (by kernel_rfl) (by kernel_rfl) (X0 hx C1)) (C0 5 (some 33) (vP (some q13)) (C0 6 (some 34) (vP (some q13)) (C0 7 (some 35) (vP (some (Addr.add q13 5))) ?_)));obtain ⟨x15,hx,h⟩:=bind_some h;refine F0 8 (some 36) (Sl3.v x15) (Abs.det_load (t:=60) (x:=.tmp 35) (a:=(Addr.add q13 5)) (by kernel_rfl) (by kernel_rfl) (by kernel_rfl) (by kernel_rfl) (X0 hx C1)) (DA.tP 0 (some 28) (vP (some q13)) (DA.on 9 (DA.aHj (H':=H5) 9 (some 37) true (vI .i64 (x15.n:Int)) (by kernel_rfl) ?_)));obtain ⟨⟨s16,H17⟩,hx,h⟩:=bind_some h;try dsimp only at h
  refine DA.on 10 (DA.aHj (H':=H17) 10 (some 38) false (Sl3.v s16) (Abs.run_newR (by kernel_rfl) (by kernel_rfl) hx) ?_);obtain ⟨⟨s18,H19⟩,hx,h⟩:=bind_some h;try dsimp only at h
  refine DA.on 11 (V0 (H':=H19) 11 (some 39) (Sl3.v s18) (Abs.run_app (x:=.tmp 32) (y:=.tmp 38) (ts:=#[27,27]) (s:=x14) (z:=s16) (by kernel_rfl) (by kernel_rfl) (by kernel_rfl) (by kernel_rfl) hx) (DA.tP 12 (some 40) (vP (some q13)) (DA.tP 13 (some 41) (vP (some (Addr.add q13 4))) ?_)));obtain ⟨H20,hx,h⟩:=bind_some h;refine DA.on 14 (V0 (H':=H20) 14 none undef (Abs.run_store1 (t:=27) (x:=.tmp 41) (y:=.tmp 39) (a:=(Addr.add q13 4)) (v:=(Sl3.v s18)) (by kernel_rfl) (by kernel_rfl) (by kernel_rfl) (by kernel_rfl) (by kernel_rfl) hx) (DA.dn (A0 (B0 (WS.rg (u0 4 [(45,.val (vP (some (Addr.add q13 5)))),kP 44 q13,kP 43 q13,kP 42 q13] ?_))))));obtain ⟨x21,hx,h⟩:=bind_some h;refine O0 46 60 (.tmp 45) (X0 hx C1) (u0 1 [kP 47 p3] ?_);obtain ⟨⟨s22,H23⟩,hx,h⟩:=bind_some h;try dsimp only at h
  refine RS.o (H':=H23) (some 48) (Sl3.v s22) (Abs.run_newR (by kernel_rfl) (by kernel_rfl) hx) ?_;obtain ⟨⟨s24,H25⟩,hx,h⟩:=bind_some h;try dsimp only at h
  refine RS.o (H':=H25) (some 49) (Sl3.v s24) (Abs.run_app (x:=.tmp 46) (y:=.tmp 48) (ts:=#[60,60]) (s:=x21) (z:=s22) (by kernel_rfl) (by kernel_rfl) (by kernel_rfl) (by kernel_rfl) hx) (u0 2 [(51,.val (vP (some (Addr.add q13 5)))),kP 50 q13] ?_);obtain ⟨H26,hx,h⟩:=bind_some h;refine RS.o (H':=H26) none undef (Abs.run_store1 (t:=60) (x:=.tmp 51) (y:=.tmp 49) (a:=(Addr.add q13 5)) (v:=(Sl3.v s24)) (by kernel_rfl) (by kernel_rfl) (by kernel_rfl) (by kernel_rfl) (by kernel_rfl) hx) (RS.dn (A0 (B0 (WS.rg (u0 4 [(55,.val (vP (some (Addr.add q13 6)))),kP 54 q13,kP 53 q13,kP 52 q13] ?_)))));obtain ⟨x27,hx,h⟩:=bind_some h;refine O0 56 61 (.tmp 55) (X0 hx C1) (u0 1 [kA 57 #[(vI .i64 (-1)),(vI .i64 0),(vI .i64 0),(vI .i64 0),(vB false)]] ?_);obtain ⟨⟨s28,H29⟩,hx,h⟩:=bind_some h;try dsimp only at h
  refine RS.o (H':=H29) (some 58) (Sl3.v s28) (Abs.run_newR (by kernel_rfl) (by kernel_rfl) hx) ?_;obtain ⟨⟨s30,H31⟩,hx,h⟩:=bind_some h;try dsimp only at h
  refine RS.o (H':=H31) (some 59) (Sl3.v s30) (Abs.run_app (x:=.tmp 56) (y:=.tmp 58) (ts:=#[61,61]) (s:=x27) (z:=s28) (by kernel_rfl) (by kernel_rfl) (by kernel_rfl) (by kernel_rfl) hx) (u0 2 [(61,.val (vP (some (Addr.add q13 6)))),kP 60 q13] ?_);obtain ⟨H32,hx,h⟩:=bind_some h;refine RS.o (H':=H32) none undef (Abs.run_store1 (t:=61) (x:=.tmp 61) (y:=.tmp 59) (a:=(Addr.add q13 6)) (v:=(Sl3.v s30)) (by kernel_rfl) (by kernel_rfl) (by kernel_rfl) (by kernel_rfl) (by kernel_rfl) hx) (RS.dn (A0 (B0 (B0 (WS.rg (u0 3 [(64,.val (vP (some (Addr.add q13 0)))),kP 63 q13,kP 62 q13] ?_))))));obtain ⟨x33,hx,h⟩:=bind_some h;refine O0 65 57 (.tmp 64) (X0 hx C1) (u0 1 [kI 66 a1] ?_);obtain ⟨p34,hx,h⟩:=bind_some h;refine T0 67 57 86 (.tmp 65) (.tmp 66) hx (u0 1 [(68,.val (vP (some (Addr.add p34 1))))] ?_);obtain ⟨x35,hx,h⟩:=bind_some h;refine O0 69 27 (.tmp 68) (X0 hx C1) (u0 2 [kI 71 0,kI 70 (x35.n:Int)] (RS.dn (A0 (M0 0 ?_))));obtain ⟨o,hl,h⟩:=bind_some h;rcases o with ⟨H50,v71_51⟩ | r
  ·try dsimp only at h
   refine S0 (v7 (L:=L) (E:=E) (m:=m) (H:=H)) (L.ok hl) 0 ?_;clear hl;refine fun a w hs=>bkE ((A0 ?_ a w hs));refine B0 (WS.rg (u0 2 [kI 95 a1,kP 94 q13] ?_));obtain ⟨⟨x52,H53⟩,hx,h⟩:=bind_some h;try dsimp only at h
   refine RS.cl (some 96) (v:=(vS x52)) 71 _ (D4 hx) (u0 1 [kT 7 x52] (RS.dn (A0 (B0 (B0 (WS.rg (u0 3 [(100,.val (vP (some (Addr.add q13 7)))),kP 99 q13,kP 98 q13] ?_)))))));obtain ⟨x54,hx,h⟩:=bind_some h;refine O0 101 58 (.tmp 100) (X0 hx G7) (u0 1 [kT 102 x52] ?_);obtain ⟨⟨x55,b56⟩,hx,h⟩:=bind_some h;try dsimp only at h
   refine RS.o (H':=H53) (some 103) (Value.tuple #[(vI .i64 x55),(vB b56)]) (Abs.run_look (t:=58) (x:=.tmp 101) (y:=.tmp 102) (mm:=x54) (k:=(vS x52)) (by kernel_rfl) (by kernel_rfl) (by kernel_rfl) (by kernel_rfl) (lkM_eq hx A1)) (u0 5 [kB 9 b56,kI 8 x55,kB 105 b56,kI 104 x55,(97,.val (Value.tuple #[(vI .i64 x55),(vB b56)]))] (RS.dn (A0 (B0 (WS.rg (u0 1 [kB 106 b56] (RS.dn (A0 ?_))))))));rcases Y0 h with ⟨hp,h⟩ | ⟨hp,h⟩
   ·refine E0 106 true hp (G0 (B0 (WS.rg (u0 6 [kA 112 #[(vI .i64 0),(vI .i64 0),(vI .i64 a1),(vI .i64 x55),(vB true)],kI 111 x55,kI 110 a1,kI 109 x55,kI 108 a1,kP 107 q13] ?_))));obtain ⟨H57,hx,h⟩:=bind_some h;refine RS.cl (some 113) (v:=(Value.tuple #[])) 58 _ (K8 hx) (RS.dn (A0 (K0 ?_)));cases h;exact fun a w hs=>sqR (rtR (rS hs))
   ·refine E0 106 false (b_not hp) (I0 (J0 (A0 (WS.rg (u0 3 [(116,.val (vP (some (Addr.add q13 7)))),kP 115 q13,kP 114 q13] ?_)))));obtain ⟨x58,hx,h⟩:=bind_some h;refine O0 117 58 (.tmp 116) (X0 hx G7) (u0 2 [kI 119 a1,kT 118 x52] ?_);obtain ⟨H59,hx,h⟩:=bind_some h;refine RS.o (H':=H59) none undef (Abs.run_upM (t:=58) (x:=.tmp 117) (y:=.tmp 118) (z:=.tmp 119) (mm:=x58) (k:=(vS x52)) (v:=(vI .i64 a1)) (by kernel_rfl) (by kernel_rfl) (by kernel_rfl) (by kernel_rfl) (by kernel_rfl) hx) (RS.dn ?_);cases h;exact fun a w hs=>rtN (rS hs)
  ·try dsimp only at h
   refine R0 (v7 (L:=L) (E:=E) (m:=m) (H:=H)) (L.ok hl) 0 ?_;cases h;exact fun a w hq=>bkR (sqR (rtR hq))
def z4a:(Int×Int×AH)→Value
 | (r0,r1,_)=>(Value.tuple #[(vI .i64 r0),(vI .i64 r1)])
def z56 (_:AH):(Int×Int×AH)→AH:=fun r=>r.2.2
noncomputable def B39:Code:=(Tryd.f39.body).getD .skip
noncomputable def Q2 (L:LC) (m:Nat) (H:AH) (a0:Option Addr) (a1_0:Int) (a1_1:Sl3) (a1_2:Bool):Option (Int×Int×AH) :=
 (W6 L m H a1_2 a1_0 a1_1).bind fun (x1,H2) => a0.bind fun q3 => (rd deM H2 (Addr.add q3 1)).bind fun x4 => (lkM Tryd.prog 58 (deI .i64) H2 x4 (vS x1)).bind fun (x5,b6) => if b6=true then
  some (x5,0,H2)
 else
  (rd deSl H2 (Addr.add q3 0)).bind fun x7 => if (x7.n:Int)≥1048576 then
   some (0,3,H2)
  else
   (rd deSl H2 (Addr.add q3 0)).bind fun x8 => (rd deM H2 (Addr.add q3 1)).bind fun x9 => (upM Tryd.prog m 58 H2 x9 (vS x1) (vI .i64 (x8.n:Int))).bind fun H10 => (rd deSl H10 (Addr.add q3 0)).bind fun x11 => (newR 86 1 #[(vI .i64 a1_0),(Sl3.v a1_1),(vB a1_2)] H10).bind fun (s12,H13) => (appS m 86 3 40 H13 x11 s12).bind fun (s14,H15) => (H15.setCell m (Addr.add q3 0) (Sl3.v s14)).bind fun H16 => (M3 L m H16 (some q3) (x8.n:Int)).bind fun H17 => some ((x8.n:Int),0,H17)
theorem I9 {L:LC} {m:Nat} {H:AH} {a0:Option Addr} {a1_0:Int} {a1_1:Sl3} {a1_2:Bool} {r:(Int×Int×AH)} (h:Q2 L m H a0 a1_0 a1_1 a1_2=some r) :
  CallS Tryd.prog (NE.plain 1000) m 39 #[(vP a0),(vA #[(vI .i64 a1_0),(Sl3.v a1_1),(vB a1_2)])] H (z4a r) (z56 H r):=by
 refine CallS.mk (args:=[(vP a0),(vA #[(vI .i64 a1_0),(Sl3.v a1_1),(vB a1_2)])]) Tryd.func39 (B:=B39) (by kernel_rfl) (fun E _=>?_);unfold Q2 at h;refine B0 (WS.rg (W0 3 [kI 5 0,kI 4 0,kL 3 0 0] ([some (86,[(vI .i64 a1_0),(Sl3.v a1_1),(vB a1_2)])]) (RS.dn (A0 (B0 (WS.rg (u0 6 [kS 15 a1_1,kL 14 0 1,kI 13 a1_0,kL 12 0 0,kB 11 a1_2,kL 10 0 2] ?_)))))));obtain ⟨⟨x1,H2⟩,hx,h⟩:=bind_some h;try dsimp only at h
 refine RS.cl (some 16) (v:=(vS x1)) 63 _ (z3g hx) (u0 1 [kT 6 x1] (RS.dn (A0 (B0 (B0 (WS.rg (u0 1 [(18,.val (vP a0))] ?_)))))));obtain ⟨q3,hx,hq3⟩:=bind_some h;subst hx;have h:=hq3;refine u0 2 [(20,.val (vP (some (Addr.add q3 1)))),kP 19 q3] ?_;obtain ⟨x4,hx,h⟩:=bind_some h;refine O0 21 58 (.tmp 20) (X0 hx G7) (u0 1 [kT 22 x1] ?_);obtain ⟨⟨x5,b6⟩,hx,h⟩:=bind_some h;try dsimp only at h
 refine RS.o (H':=H2) (some 23) (Value.tuple #[(vI .i64 x5),(vB b6)]) (Abs.run_look (t:=58) (x:=.tmp 21) (y:=.tmp 22) (mm:=x4) (k:=(vS x1)) (by kernel_rfl) (by kernel_rfl) (by kernel_rfl) (by kernel_rfl) (lkM_eq hx A1)) (u0 5 [kB 8 b6,kI 7 x5,kB 25 b6,kI 24 x5,(17,.val (Value.tuple #[(vI .i64 x5),(vB b6)]))] (RS.dn (A0 (B0 (WS.rg (u0 1 [kB 26 b6] (RS.dn (A0 ?_))))))));rcases Y0 h with ⟨hp,h⟩ | ⟨hp,h⟩
 ·refine E0 26 true hp (G0 (B0 (WS.rg (u0 3 [kI 5 0,kI 4 x5,kI 27 x5] (RS.dn (A0 (K0 ?_)))))));cases h;exact fun a w hs=>sqR (rtR (rS hs))
 ·refine E0 26 false (b_not hp) (I0 (J0 (A0 (B0 (B0 (WS.rg (u0 3 [(30,.val (vP (some (Addr.add q3 0)))),kP 29 q3,kP 28 q3] ?_)))))));obtain ⟨x7,hx,h⟩:=bind_some h;refine O0 31 57 (.tmp 30) (X0 hx C1) (u0 2 [kB 33 (decide ((x7.n:Int)≥1048576)),kI 32 (x7.n:Int)] (RS.dn (A0 ?_)));rcases Y0 h with ⟨hp,h⟩ | ⟨hp,h⟩
  ·refine E0 33 true (decide_eq_true hp) (G0 (B0 (WS.rg (u0 2 [kI 5 3,kI 4 0] (RS.dn (A0 (K0 ?_)))))));cases h;exact fun a w hs=>sqR (rtR (rS hs))
  ·refine E0 33 false (decide_eq_false hp) (I0 (J0 (A0 (B0 (WS.rg (u0 3 [(36,.val (vP (some (Addr.add q3 0)))),kP 35 q3,kP 34 q3] ?_))))));obtain ⟨x8,hx,h⟩:=bind_some h;refine O0 37 57 (.tmp 36) (X0 hx C1) (u0 2 [kI 9 (x8.n:Int),kI 38 (x8.n:Int)] (RS.dn (A0 (B0 (WS.rg (u0 3 [(41,.val (vP (some (Addr.add q3 1)))),kP 40 q3,kP 39 q3] ?_))))));obtain ⟨x9,hx,h⟩:=bind_some h;refine O0 42 58 (.tmp 41) (X0 hx G7) (u0 2 [kI 44 (x8.n:Int),kT 43 x1] ?_);obtain ⟨H10,hx,h⟩:=bind_some h;refine RS.o (H':=H10) none undef (Abs.run_upM (t:=58) (x:=.tmp 42) (y:=.tmp 43) (z:=.tmp 44) (mm:=x9) (k:=(vS x1)) (v:=(vI .i64 (x8.n:Int))) (by kernel_rfl) (by kernel_rfl) (by kernel_rfl) (by kernel_rfl) (by kernel_rfl) hx) (RS.dn (A0 (B0 ?_)));refine Q0 [1,2,3,4,5] [0,0,2,6,14,0,32,126,255,511,1023] 11 (fun hcl=>?_);refine C0 1 (some 46) (vP (some q3)) (C0 2 (some 47) (vP (some q3)) (C0 3 (some 48) (vP (some (Addr.add q3 0))) ?_));obtain ⟨x11,hx,h⟩:=bind_some h;refine F0 4 (some 49) (Sl3.v x11) (Abs.det_load (t:=57) (x:=.tmp 48) (a:=(Addr.add q3 0)) (by kernel_rfl) (by kernel_rfl) (by kernel_rfl) (by kernel_rfl) (X0 hx C1)) (DA.tL 5 (some 50) (.val (vA #[(vI .i64 a1_0),(Sl3.v a1_1),(vB a1_2)])) (DA.tP 0 (some 45) (vP (some q3)) ?_));obtain ⟨⟨s12,H13⟩,hx,h⟩:=bind_some h;try dsimp only at h
   refine DA.on 6 (DA.aHj (H':=H13) 6 (some 51) false (Sl3.v s12) (Abs.run_newR (by kernel_rfl) (by kernel_rfl) hx) ?_);obtain ⟨⟨s14,H15⟩,hx,h⟩:=bind_some h;try dsimp only at h
   refine DA.on 7 (V0 (H':=H15) 7 (some 52) (Sl3.v s14) (Abs.run_app (x:=.tmp 49) (y:=.tmp 51) (ts:=#[57,57]) (s:=x11) (z:=s12) (by kernel_rfl) (by kernel_rfl) (by kernel_rfl) (by kernel_rfl) hx) (DA.tP 8 (some 53) (vP (some q3)) (DA.tP 9 (some 54) (vP (some (Addr.add q3 0))) ?_)));obtain ⟨H16,hx,h⟩:=bind_some h;refine DA.on 10 (V0 (H':=H16) 10 none undef (Abs.run_store1 (t:=57) (x:=.tmp 54) (y:=.tmp 52) (a:=(Addr.add q3 0)) (v:=(Sl3.v s14)) (by kernel_rfl) (by kernel_rfl) (by kernel_rfl) (by kernel_rfl) (by kernel_rfl) hx) (DA.dn (A0 (B0 (WS.rg (u0 2 [kI 56 (x8.n:Int),kP 55 q3] ?_))))));obtain ⟨H17,hx,h⟩:=bind_some h;refine RS.cl (some 57) (v:=(Value.tuple #[])) 57 _ (z2s hx) (RS.dn (A0 (B0 (WS.rg (u0 3 [kI 5 0,kI 4 (x8.n:Int),kI 58 (x8.n:Int)] (RS.dn (A0 (K0 ?_))))))));cases h;exact fun a w hs=>rtR (rS hs)
def z2q:(Int×Int×AH)→Value
 | (r0,r1,_)=>(Value.tuple #[(vI .i64 r0),(vI .i64 r1)])
def z38 (_:AH):(Int×Int×AH)→AH:=fun r=>r.2.2
noncomputable def B17:Code:=(Tryd.f17.body).getD .skip
noncomputable def o5 (L:LC) (m:Nat) (H:AH) (a0:Option Addr) (a1:Int):Option (Int×Int×AH) :=
 (F3 L H a0).bind fun x1 => if x1=true then
  (Q2 L m H a0 a1 Sl3.nil true).bind fun (x2,x3,H4) => some (x2,x3,H4)
 else
  some (0,4,H)
theorem z3i {L:LC} {m:Nat} {H:AH} {a0:Option Addr} {a1:Int} {r:(Int×Int×AH)} (h:o5 L m H a0 a1=some r) :
  CallS Tryd.prog (NE.plain 1000) m 17 #[(vP a0),(vI .i64 a1)] H (z2q r) (z38 H r):=by
 refine CallS.mk (args:=[(vP a0),(vI .i64 a1)]) Tryd.func17 (B:=B17) (by kernel_rfl) (fun E _=>?_);unfold o5 at h;refine B0 (WS.rg (u0 2 [kI 5 0,kI 4 0] (RS.dn (A0 (B0 (B0 (WS.rg (u0 1 [(6,.val (vP a0))] ?_))))))));obtain ⟨x1,hx,h⟩:=bind_some h;refine RS.cl (some 7) (v:=(vB x1)) 38 _ (N5 hx) (u0 1 [kB 8 (!x1)] (RS.dn (A0 ?_)));rcases Y0 h with ⟨hp,h⟩ | ⟨hp,h⟩
 ·refine E0 8 false (nb_not hp) (I0 (J0 (A0 (B0 (WS.rg (u0 3 [kA 11 #[(vI .i64 a1),(Sl3.v Sl3.nil),(vB true)],kI 10 a1,(9,.val (vP a0))] ?_))))));obtain ⟨⟨x2,x3,H4⟩,hx,h⟩:=bind_some h;try dsimp only at h
  refine RS.cl (some 12) (v:=(Value.tuple #[(vI .i64 x2),(vI .i64 x3)])) 39 _ (I9 hx) (u0 4 [kI 5 x3,kI 4 x2,kI 14 x3,kI 13 x2] (RS.dn (A0 (K0 ?_))));cases h;exact fun a w hs=>rtR (rS hs)
 ·refine E0 8 true (N3 hp) (G0 (B0 (WS.rg (u0 2 [kI 5 4,kI 4 0] (RS.dn (A0 (K0 ?_)))))));cases h;exact fun a w hs=>sqR (rtR (rS hs))
def z2r:Bool→Value
 | r0=>(vB r0)
def z2u (H:AH):Bool→AH:=fun _=>H
noncomputable def B41:Code:=(Tryd.f41.body).getD .skip
noncomputable def Z4 (L:LC) (H:AH) (a0:Int) (a1:Option Addr):Option Bool :=
 a1.bind fun q1 => (rd deP H q1).bind fun x2 => (E3 L H x2 a0).bind fun x3 => some (!x3)
theorem z3h {L:LC} {m:Nat} {H:AH} {a0:Int} {a1:Option Addr} {r:Bool} (h:Z4 L H a0 a1=some r) :
  CallS Tryd.prog (NE.plain 1000) m 41 #[(vI .i64 a0),(vP a1)] H (z2r r) (z2u H r):=by
 refine CallS.mk (args:=[(vI .i64 a0),(vP a1)]) Tryd.func41 (B:=B41) (by kernel_rfl) (fun E _=>?_);unfold Z4 at h;refine B0 (WS.rg (u0 1 [kB 3 false] (RS.dn (A0 (B0 (WS.rg ?_))))));obtain ⟨q1,hx,hq1⟩:=bind_some h;subst hx;have h:=hq1;obtain ⟨x2,hx,h⟩:=bind_some h;refine O0 4 23 (.tmp 1) (X0 hx L8) (u0 1 [kI 5 a0] ?_);obtain ⟨x3,hx,h⟩:=bind_some h;refine RS.cl (some 6) (v:=(vB x3)) 31 _ (P4 hx) (u0 2 [kB 3 (!x3),kB 7 (!x3)] (RS.dn (A0 (K0 ?_))));cases h;exact fun a w hs=>rtR (rS hs)
def B7:Int→Value
 | r0=>(vI .i64 r0)
def V7 (H:AH):Int→AH:=fun _=>H
noncomputable def B64:Code:=(Tryd.f64.body).getD .skip
noncomputable def Y1 (L:LC) (H:AH) (a0:Sl3) (a1_0:Option Addr):Int→Option (Lp Int Int):=fun v8_1 =>
 if v8_1<(a0.n:Int) then
  (idxA 1 a0 v8_1).bind fun p2 => (rd (deI .i64) H p2).bind fun x3 => (Z4 L H x3 a1_0).bind fun x4 => if x4=true then
   some (.ret v8_1)
  else
   some (.next (IntKind.i64.wrap (v8_1+1)))
 else
  some (.brk v8_1)
def zj (_L:LC) (_H:AH) (a0:Sl3) (a1_0:Option Addr):Int→KN×Lcs:=fun v8_1=>([kI 8 v8_1,kS 0 a0,(1,.val (Value.func (.func 41) #[] #[(vP a1_0)])),kI 7 (a0.n:Int)],[])
noncomputable def L5 (L:LC) (H:AH) (a0:Sl3) (a1_0:Option Addr):Option Int :=
 (L.run (Y1 L H a0 a1_0) 0).bind fun o=>match o with
 | .inl _ =>
  some (-1)
 | .inr r=>some r
theorem Q6 {E m L H a0 a1_0} :LoopF Tryd.prog (NE.plain 1000) m E Tryd.f64 ((cfst (csnd (cfst (csnd B64))))) (zj L H a0 a1_0) (fun _=>H) 0 B7 (V7 H) (Y1 L H a0 a1_0):=by
 rintro v8_1 o h
 unfold Y1 at h;try dsimp only at h
 refine B0 (WS.rg (u0 1 [kB 9 (decide (v8_1<(a0.n:Int)))] (RS.dn (A0 (B0 ?_)))));rcases Y0 h with ⟨hp,h⟩ | ⟨hp,h⟩
 ·refine E0 9 true (decide_eq_true hp) (G0 (J0 (A0 (B0 (M0 1 (B0 (WS.rg (u0 2 [kI 5 v8_1,kI 10 v8_1] (RS.dn ?_)))))))));refine A0 (B0 (WS.rg (u0 3 [kI 13 v8_1,kS 12 a0,(11,.val (Value.func (.func 41) #[] #[(vP a1_0)]))] ?_)));obtain ⟨p2,hx,h⟩:=bind_some h;refine T0 14 27 3 (.tmp 12) (.tmp 13) hx ?_;obtain ⟨x3,hx,h⟩:=bind_some h;refine O0 15 3 (.tmp 14) (X0 hx A1) ?_;obtain ⟨x4,hx,h⟩:=bind_some h;refine RS.cl (some 16) (v:=(vB x4)) 41 _ (z3h hx) (RS.dn (A0 ?_));rcases Y0 h with ⟨hp,h⟩ | ⟨hp,h⟩
  ·refine E0 16 true hp (G0 (B0 (WS.rg (u0 2 [kI 4 v8_1,kI 17 v8_1] (RS.dn (A0 (K0 ?_)))))));cases h;exact fun a w hs=>bkR (sqR (lsR rfl (rS hs)))
  ·refine E0 16 false (b_not hp) (I0 (J0 ?_));refine fun a w hs=>bkN ((A0 ?_ a w hs));refine WS.rg (u0 2 [kI 8 (IntKind.i64.wrap (v8_1+1)),kI 18 (IntKind.i64.wrap (v8_1+1))] (RS.dn ?_));cases h;exact fun a w hs=>lsN rfl (hs.sb 0)
 ·refine E0 9 false (decide_eq_false hp) (I0 (WS.ex 0 ?_));cases h;exact fun a w hs=>sqE (lsB rfl (hs.sb 0))
theorem z1v {L:LC} {m:Nat} {H:AH} {a0:Sl3} {a1_0:Option Addr} {r:Int} (h:L5 L H a0 a1_0=some r) :
  CallS Tryd.prog (NE.plain 1000) m 64 #[(Sl3.v a0),(Value.func (.func 41) #[] #[(vP a1_0)])] H (B7 r) (V7 H r):=by
 refine CallS.mk (args:=[(Sl3.v a0),(Value.func (.func 41) #[] #[(vP a1_0)])]) Tryd.func64 (B:=B64) (by kernel_rfl) (fun E _=>?_);unfold L5 at h;refine B0 (WS.rg (u0 1 [kI 4 0] (RS.dn (A0 (B0 (B0 (WS.rg (u0 3 [kI 8 0,kI 7 (a0.n:Int),kS 6 a0] (RS.dn ?_)))))))));refine A0 (M0 0 ?_);obtain ⟨o,hl,h⟩:=bind_some h;rcases o with v8_5 | r
 ·try dsimp only at h
  refine S0 (Q6 (L:=L) (E:=E) (m:=m) (H:=H)) (L.ok hl) 0 ?_;clear hl;refine fun a w hs=>bkE ((A0 ?_ a w hs));refine B0 (WS.rg (u0 1 [kI 4 (-1)] (RS.dn (A0 (K0 ?_)))));cases h;exact fun a w hs=>rtR (rS hs)
 ·try dsimp only at h
  refine R0 (Q6 (L:=L) (E:=E) (m:=m) (H:=H)) (L.ok hl) 0 ?_;cases h;exact fun a w hq=>bkR (sqR (rtR hq))
def W9:Bool→Value
 | r0=>(vB r0)
def zi (H:AH):Bool→AH:=fun _=>H
noncomputable def B40:Code:=(Tryd.f40.body).getD .skip
noncomputable def P3 (L:LC) (H:AH) (a0:Sl3) (a1_0:Option Addr):Option Bool :=
 (L5 L H a0 a1_0).bind fun x1 => some (decide (x1≥0))
theorem zg {L:LC} {m:Nat} {H:AH} {a0:Sl3} {a1_0:Option Addr} {r:Bool} (h:P3 L H a0 a1_0=some r) :
  CallS Tryd.prog (NE.plain 1000) m 40 #[(Sl3.v a0),(Value.func (.func 41) #[] #[(vP a1_0)])] H (W9 r) (zi H r):=by
 refine CallS.mk (args:=[(Sl3.v a0),(Value.func (.func 41) #[] #[(vP a1_0)])]) Tryd.func40 (B:=B40) (by kernel_rfl) (fun E _=>?_);unfold P3 at h;refine B0 (WS.rg (u0 1 [kB 4 false] (RS.dn (A0 (B0 (WS.rg (u0 2 [(6,.val (Value.func (.func 41) #[] #[(vP a1_0)])),kS 5 a0] ?_)))))));obtain ⟨x1,hx,h⟩:=bind_some h;refine RS.cl (some 7) (v:=(vI .i64 x1)) 64 _ (z1v hx) (u0 2 [kB 4 (decide (x1≥0)),kB 8 (decide (x1≥0))] (RS.dn (A0 (K0 ?_))));cases h;exact fun a w hs=>rtR (rS hs)
def z7a:(Sl3×AH)→Value
 | (r0,_)=>(Sl3.v r0)
def z7v (_:AH):(Sl3×AH)→AH:=fun r=>r.2
noncomputable def B42:Code:=(Tryd.f42.body).getD .skip
noncomputable def D6 (_L:LC) (m:Nat) (H:AH) (a0:Sl3):Option (Sl3×AH) :=
 if (isNilS a0)=true then
  some (Sl3.nil,H)
 else
  (newR 3 0 #[] H).bind fun (s1,H2) => (appS m 3 1 8 H2 s1 a0).bind fun (s3,H4) => some (s3,H4)
theorem z8h {L:LC} {m:Nat} {H:AH} {a0:Sl3} {r:(Sl3×AH)} (h:D6 L m H a0=some r) :
  CallS Tryd.prog (NE.plain 1000) m 42 #[(Sl3.v a0)] H (z7a r) (z7v H r):=by
 refine CallS.mk (args:=[(Sl3.v a0)]) Tryd.func42 (B:=B42) (by kernel_rfl) (fun E _=>?_);unfold D6 at h;refine B0 (WS.rg (u0 1 [kS 2 Sl3.nil] (RS.dn (A0 (B0 (B0 (WS.rg (u0 1 [kS 3 a0] (RS.o (H':=H) (some 4) (vB (isNilS a0)) (zcl (t:=27) (e:=3) (u:=27) (x:=.tmp 3) (y:=.const (Sl3.v Sl3.nil)) (s:=a0) (by kernel_rfl) (by kernel_rfl) (by kernel_rfl) (by kernel_rfl)) ?_)))))))));refine RS.dn (A0 ?_);rcases Y0 h with ⟨hp,h⟩ | ⟨hp,h⟩
 ·refine E0 4 true hp (G0 (B0 (WS.rg (u0 1 [kS 2 Sl3.nil] (RS.dn (A0 (K0 ?_)))))));cases h;exact fun a w hs=>sqR (rtR (rS hs))
 ·refine E0 4 false (b_not hp) (I0 (J0 (A0 (B0 (WS.rg ?_)))));obtain ⟨⟨s1,H2⟩,hx,h⟩:=bind_some h;try dsimp only at h
  refine RS.o (H':=H2) (some 5) (Sl3.v s1) (Abs.run_newR (by kernel_rfl) (by kernel_rfl) hx) (u0 1 [kS 6 a0] ?_);obtain ⟨⟨s3,H4⟩,hx,h⟩:=bind_some h;try dsimp only at h
  refine RS.o (H':=H4) (some 7) (Sl3.v s3) (Abs.run_app (x:=.tmp 5) (y:=.tmp 6) (ts:=#[27,27]) (s:=s1) (z:=a0) (by kernel_rfl) (by kernel_rfl) (by kernel_rfl) (by kernel_rfl) hx) (u0 1 [kS 2 s3] (RS.dn (A0 (K0 ?_))));cases h;exact fun a w hs=>rtR (rS hs)
def z3x:(Int×Int×AH)→Value
 | (r0,r1,_)=>(Value.tuple #[(vI .i64 r0),(vI .i64 r1)])
def z52 (_:AH):(Int×Int×AH)→AH:=fun r=>r.2.2
noncomputable def B18:Code:=(Tryd.f18.body).getD .skip
noncomputable def W4 (L:LC) (m:Nat) (H:AH) (a0:Option Addr) (a1:Int) (a2:Sl3):Option (Int×Int×AH) :=
 (newB 23 [(vP a0)] H).bind fun (p1,H2) => (rd deP H2 p1).bind fun x3 => (F3 L H2 x3).bind fun x4 => if x4=true then
  if (a2.n:Int) > 64 then
   some (0,51,H2)
  else
   (P3 L H2 a2 (some p1)).bind fun x5 => if x5=true then
    some (0,150,H2)
   else
    (rd deP H2 p1).bind fun x6 => (D6 L (Nat.max m H2.next) H2 a2).bind fun (x7,H8) => (Q2 L m H8 x6 a1 x7 false).bind fun (x9,x10,H11) => some (x9,x10,H11)
 else
  some (0,4,H2)
theorem z5a {L:LC} {m:Nat} {H:AH} {a0:Option Addr} {a1:Int} {a2:Sl3} {r:(Int×Int×AH)} (h:W4 L m H a0 a1 a2=some r) :
  CallS Tryd.prog (NE.plain 1000) m 18 #[(vP a0),(vI .i64 a1),(Sl3.v a2)] H (z3x r) (z52 H r):=by
 refine CallS.mk (args:=[(vP a0),(vI .i64 a1),(Sl3.v a2)]) Tryd.func18 (B:=B18) (by kernel_rfl) (fun E _=>?_);unfold W4 at h;refine B0 (WS.rg ?_);obtain ⟨⟨p1,H2⟩,hx,h⟩:=bind_some h;try dsimp only at h
 refine RS.o (H':=H2) (some 3) (vP (some p1)) (Abs.run_newB (by kernel_rfl) hx) (u0 2 [kI 7 0,kI 6 0] (RS.dn (A0 (B0 (B0 (WS.rg ?_))))));obtain ⟨x3,hx,h⟩:=bind_some h;refine O0 8 23 (.tmp 3) (X0 hx L8) ?_;obtain ⟨x4,hx,h⟩:=bind_some h;refine RS.cl (some 9) (v:=(vB x4)) 38 _ (N5 hx) (u0 1 [kB 10 (!x4)] (RS.dn (A0 ?_)));rcases Y0 h with ⟨hp,h⟩ | ⟨hp,h⟩
 ·refine E0 10 false (nb_not hp) (I0 (J0 (A0 (B0 (B0 (WS.rg (u0 3 [kB 13 (decide ((a2.n:Int) > 64)),kI 12 (a2.n:Int),kS 11 a2] (RS.dn (A0 ?_)))))))));rcases Y0 h with ⟨hp,h⟩ | ⟨hp,h⟩
  ·refine E0 13 true (decide_eq_true hp) (G0 (B0 (WS.rg (u0 2 [kI 7 51,kI 6 0] (RS.dn (A0 (K0 ?_)))))));cases h;exact fun a w hs=>sqR (rtR (rS hs))
  ·refine E0 13 false (decide_eq_false hp) (I0 (J0 (A0 (B0 (B0 (WS.rg (u0 2 [(15,.val (Value.func (.func 41) #[] #[(vP (some p1))])),kS 14 a2] ?_)))))));obtain ⟨x5,hx,h⟩:=bind_some h;refine RS.cl (some 16) (v:=(vB x5)) 40 _ (zg hx) (RS.dn (A0 ?_));rcases Y0 h with ⟨hp,h⟩ | ⟨hp,h⟩
   ·refine E0 16 true hp (G0 (B0 (WS.rg (u0 2 [kI 7 150,kI 6 0] (RS.dn (A0 (K0 ?_)))))));cases h;exact fun a w hs=>sqR (rtR (rS hs))
   ·refine E0 16 false (b_not hp) (I0 (J0 (A0 (B0 ?_))));refine Q0 [0] [0,0,0,4,14,31,63,63,255,511] 10 (fun hcl=>?_);obtain ⟨x6,hx,h⟩:=bind_some h;refine F0 0 (some 17) (vP x6) (Abs.det_load (t:=23) (x:=.tmp 3) (a:=p1) (by kernel_rfl) (by kernel_rfl) (by kernel_rfl) (by kernel_rfl) (X0 hx L8)) (DA.tP 1 (some 18) (vI .i64 a1) (DA.tP 2 (some 19) (Sl3.v a2) ?_));obtain ⟨⟨x7,H8⟩,hx,h⟩:=bind_some h;try dsimp only at h
    refine DA.on 3 (DA.aCj 3 (some 20) true (v:=(Sl3.v x7)) 42 #[(Sl3.v a2)] (z8h hx) (DA.on 4 (DA.aHj (H':=H8) 4 (some 21) false (vA #[(vI .i64 a1),(Sl3.v x7),(vB false)]) (by kernel_rfl) ?_)));obtain ⟨⟨x9,x10,H11⟩,hx,h⟩:=bind_some h;try dsimp only at h
    refine DA.on 5 (DA.aC 5 (some 22) (v:=(Value.tuple #[(vI .i64 x9),(vI .i64 x10)])) 39 #[(vP x6),(vA #[(vI .i64 a1),(Sl3.v x7),(vB false)])] (I9 hx) (DA.tP 6 (some 23) (vI .i64 x9) (DA.tP 7 (some 24) (vI .i64 x10) (DA.tP 8 (some 6) (vI .i64 x9) (DA.tP 9 (some 7) (vI .i64 x10) (DA.dn (A0 (K0 ?_))))))));cases h;exact fun a w hs=>rtR (rS hs)
 ·refine E0 10 true (N3 hp) (G0 (B0 (WS.rg (u0 2 [kI 7 4,kI 6 0] (RS.dn (A0 (K0 ?_)))))));cases h;exact fun a w hs=>sqR (rtR (rS hs))
def z3y:(Int×AH)→Value
 | (r0,_)=>(vI .i64 r0)
def z5c (_:AH):(Int×AH)→AH:=fun r=>r.2
noncomputable def B43:Code:=(Tryd.f43.body).getD .skip
noncomputable def I3 (L:LC) (m:Nat) (H:AH) (a0:Option Addr) (a1_0 a1_1 a1_2:Int) (a1_3:Bool):Option (Int×AH) :=
 (F3 L H a0).bind fun x1 => if x1=true then
  Option.bind (α:=Bool) (
   (E3 L H a0 a1_0).bind fun x3 => if x3=true then
    (E3 L H a0 a1_1).bind fun x4 => some (!x4)
   else
    some true) fun v19_2 =>
  if v19_2=true then
   some (150,H)
  else
   a0.bind fun q5 => (rd deSl H (Addr.add q5 2)).bind fun x6 => (newR 91 1 #[(vI .i64 a1_0),(vI .i64 a1_1),(vI .i64 a1_2),(vB a1_3)] H).bind fun (s7,H8) => (appS m 91 4 32 H8 x6 s7).bind fun (s9,H10) => (H10.setCell m (Addr.add q5 2) (Sl3.v s9)).bind fun H11 => Option.bind (α:=AH) (
    if a1_3=true then
     some H11
    else
     (G2 L m H11 (some q5) a1_0 a1_1 0 a1_2 0 0 false).bind fun H13 => some H13) fun H12 =>
   some (0,H12)
 else
  some (4,H)
theorem E9 {L:LC} {m:Nat} {H:AH} {a0:Option Addr} {a1_0 a1_1 a1_2:Int} {a1_3:Bool} {r:(Int×AH)} (h:I3 L m H a0 a1_0 a1_1 a1_2 a1_3=some r) :
  CallS Tryd.prog (NE.plain 1000) m 43 #[(vP a0),(vA #[(vI .i64 a1_0),(vI .i64 a1_1),(vI .i64 a1_2),(vB a1_3)])] H (z3y r) (z5c H r):=by
 refine CallS.mk (args:=[(vP a0),(vA #[(vI .i64 a1_0),(vI .i64 a1_1),(vI .i64 a1_2),(vB a1_3)])]) Tryd.func43 (B:=B43) (by kernel_rfl) (fun E _=>?_);unfold I3 at h;refine B0 (WS.rg (W0 2 [kI 4 0,kL 3 0 0] ([some (91,[(vI .i64 a1_0),(vI .i64 a1_1),(vI .i64 a1_2),(vB a1_3)])]) (RS.dn (A0 (B0 (B0 (WS.rg (u0 1 [(5,.val (vP a0))] ?_))))))));obtain ⟨x1,hx,h⟩:=bind_some h;refine RS.cl (some 6) (v:=(vB x1)) 38 _ (N5 hx) (u0 1 [kB 7 (!x1)] (RS.dn (A0 ?_)));rcases Y0 h with ⟨hp,h⟩ | ⟨hp,h⟩
 ·refine E0 7 false (nb_not hp) (I0 (J0 (A0 (B0 ?_))));obtain ⟨v19_2,hx,h⟩:=bind_some h;refine B0 ?_;refine WS.join ([kB 19 v19_2,(0,.val (vP a0)),kL 3 0 0]) ([some (91,[(vI .i64 a1_0),(vI .i64 a1_1),(vI .i64 a1_2),(vB a1_3)])]) H ?_ (fun a w hs=>A0 ?_ a w hs)
  ·clear h; rename _=>h;refine WS.rg (u0 3 [kI 10 a1_0,kL 9 0 0,(8,.val (vP a0))] ?_);obtain ⟨x3,hx,h⟩:=bind_some h;refine RS.cl (some 11) (v:=(vB x3)) 31 _ (P4 hx) (u0 2 [kB 13 (!x3),kB 12 (!x3)] ?_);rcases Y0 h with ⟨hp,h⟩ | ⟨hp,h⟩
   ·refine U0 13 false (nb_not hp) (u0 3 [kI 16 a1_1,kL 15 0 1,(14,.val (vP a0))] ?_);obtain ⟨x4,hx,h⟩:=bind_some h;refine RS.cl (some 17) (v:=(vB x4)) 31 _ (P4 hx) (u0 2 [kB 19 (!x4),kB 18 (!x4)] (RS.dn ?_));cases h;exact fun a w hs=>(jsN (hs.sb 1))
   ·refine U0 13 true (N3 hp) (u0 6 [kB 19 true,kU 18,kU 17,kU 16,kU 15,kU 14] (RS.dn ?_));cases h;exact fun a w hs=>(jsN (hs.sb 1))
  ·clear hx;rcases Y0 h with ⟨hp,h⟩ | ⟨hp,h⟩
   ·refine E0 19 true hp (G0 (B0 (WS.rg (u0 1 [kI 4 150] (RS.dn (A0 (K0 ?_)))))));cases h;exact fun a w hs=>sqR (rtR (rS hs))
   ·refine E0 19 false (b_not hp) (I0 (J0 (A0 (B0 ?_))));refine Q0 [1,2,3,4,5] [0,0,2,6,14,0,32,126,255,511,1023] 11 (fun hcl=>?_);refine C0 1 (some 21) (vP a0) ?_;obtain ⟨q5,hx,hq5⟩:=bind_some h;subst hx;have h:=hq5;refine C0 2 (some 22) (vP (some q5)) (C0 3 (some 23) (vP (some (Addr.add q5 2))) ?_);obtain ⟨x6,hx,h⟩:=bind_some h;refine F0 4 (some 24) (Sl3.v x6) (Abs.det_load (t:=59) (x:=.tmp 23) (a:=(Addr.add q5 2)) (by kernel_rfl) (by kernel_rfl) (by kernel_rfl) (by kernel_rfl) (X0 hx C1)) (DA.tL 5 (some 25) (.val (vA #[(vI .i64 a1_0),(vI .i64 a1_1),(vI .i64 a1_2),(vB a1_3)])) (DA.tP 0 (some 20) (vP (some q5)) ?_));obtain ⟨⟨s7,H8⟩,hx,h⟩:=bind_some h;try dsimp only at h
    refine DA.on 6 (DA.aHj (H':=H8) 6 (some 26) false (Sl3.v s7) (Abs.run_newR (by kernel_rfl) (by kernel_rfl) hx) ?_);obtain ⟨⟨s9,H10⟩,hx,h⟩:=bind_some h;try dsimp only at h
    refine DA.on 7 (V0 (H':=H10) 7 (some 27) (Sl3.v s9) (Abs.run_app (x:=.tmp 24) (y:=.tmp 26) (ts:=#[59,59]) (s:=x6) (z:=s7) (by kernel_rfl) (by kernel_rfl) (by kernel_rfl) (by kernel_rfl) hx) (DA.tP 8 (some 28) (vP (some q5)) (DA.tP 9 (some 29) (vP (some (Addr.add q5 2))) ?_)));obtain ⟨H11,hx,h⟩:=bind_some h;refine DA.on 10 (V0 (H':=H11) 10 none undef (Abs.run_store1 (t:=59) (x:=.tmp 29) (y:=.tmp 27) (a:=(Addr.add q5 2)) (v:=(Sl3.v s9)) (by kernel_rfl) (by kernel_rfl) (by kernel_rfl) (by kernel_rfl) (by kernel_rfl) hx) (DA.dn (A0 ?_)));obtain ⟨H12,hx,h⟩:=bind_some h;refine B0 ?_;refine WS.join ([]) ([some (91,[(vI .i64 a1_0),(vI .i64 a1_1),(vI .i64 a1_2),(vB a1_3)])]) H12 ?_ (fun a w hs=>A0 ?_ a w hs)
    ·clear h; rename _=>h;refine B0 (WS.rg (u0 3 [kB 32 (!a1_3),kB 31 a1_3,kL 30 0 3] (RS.dn (A0 ?_))));rcases Y0 h with ⟨hp,h⟩ | ⟨hp,h⟩
     ·refine E0 32 false (nb_not hp) (I0 (J0 ?_));cases h;exact fun a w hs=>(jsN (hs.sb 1))
     ·refine E0 32 true (N3 hp) (G0 (WS.rg (u0 8 [kA 40 #[(vI .i64 0),(vI .i64 a1_2),(vI .i64 0),(vI .i64 0),(vB false)],kI 39 a1_2,kL 38 0 2,kI 37 a1_1,kL 36 0 1,kI 35 a1_0,kL 34 0 0,kP 33 q5] ?_)));obtain ⟨H13,hx,h⟩:=bind_some h;refine RS.cl (some 41) (v:=(Value.tuple #[])) 58 _ (K8 hx) (RS.dn ?_);cases h;exact fun a w hs=>(jsN (hs.sb 1))
    ·clear hx;refine B0 (WS.rg (u0 1 [kI 4 0] (RS.dn (A0 (K0 ?_)))));cases h;exact fun a w hs=>rtR (rS hs)
 ·refine E0 7 true (N3 hp) (G0 (B0 (WS.rg (u0 1 [kI 4 4] (RS.dn (A0 (K0 ?_)))))));cases h;exact fun a w hs=>sqR (rtR (rS hs))
def z2p:(Int×AH)→Value
 | (r0,_)=>(vI .i64 r0)
def z30 (_:AH):(Int×AH)→AH:=fun r=>r.2
noncomputable def B19:Code:=(Tryd.f19.body).getD .skip
noncomputable def u6 (L:LC) (m:Nat) (H:AH) (a0:Option Addr) (a1 a2 a3:Int):Option (Int×AH) :=
 (I3 L m H a0 a1 a2 a3 true).bind fun (x1,H2) => some (x1,H2)
theorem z3d {L:LC} {m:Nat} {H:AH} {a0:Option Addr} {a1 a2 a3:Int} {r:(Int×AH)} (h:u6 L m H a0 a1 a2 a3=some r) :
  CallS Tryd.prog (NE.plain 1000) m 19 #[(vP a0),(vI .i64 a1),(vI .i64 a2),(vI .i64 a3)] H (z2p r) (z30 H r):=by
 refine CallS.mk (args:=[(vP a0),(vI .i64 a1),(vI .i64 a2),(vI .i64 a3)]) Tryd.func19 (B:=B19) (by kernel_rfl) (fun E _=>?_);unfold u6 at h;refine B0 (WS.rg (u0 1 [kI 8 0] (RS.dn (A0 (B0 (WS.rg (u0 5 [kA 13 #[(vI .i64 a1),(vI .i64 a2),(vI .i64 a3),(vB true)],kI 12 a3,kI 11 a2,kI 10 a1,(9,.val (vP a0))] ?_)))))));obtain ⟨⟨x1,H2⟩,hx,h⟩:=bind_some h;try dsimp only at h
 refine RS.cl (some 14) (v:=(vI .i64 x1)) 43 _ (E9 hx) (u0 1 [kI 8 x1] (RS.dn (A0 (K0 ?_))));cases h;exact fun a w hs=>rtR (rS hs)
def z2i:(Int×AH)→Value
 | (r0,_)=>(vI .i64 r0)
def z2y (_:AH):(Int×AH)→AH:=fun r=>r.2
noncomputable def B20:Code:=(Tryd.f20.body).getD .skip
noncomputable def o6 (L:LC) (m:Nat) (H:AH) (a0:Option Addr) (a1 a2 a3:Int):Option (Int×AH) :=
 (I3 L m H a0 a1 a2 a3 false).bind fun (x1,H2) => some (x1,H2)
theorem z3f {L:LC} {m:Nat} {H:AH} {a0:Option Addr} {a1 a2 a3:Int} {r:(Int×AH)} (h:o6 L m H a0 a1 a2 a3=some r) :
  CallS Tryd.prog (NE.plain 1000) m 20 #[(vP a0),(vI .i64 a1),(vI .i64 a2),(vI .i64 a3)] H (z2i r) (z2y H r):=by
 refine CallS.mk (args:=[(vP a0),(vI .i64 a1),(vI .i64 a2),(vI .i64 a3)]) Tryd.func20 (B:=B20) (by kernel_rfl) (fun E _=>?_);unfold o6 at h;refine B0 (WS.rg (u0 1 [kI 8 0] (RS.dn (A0 (B0 (WS.rg (u0 5 [kA 13 #[(vI .i64 a1),(vI .i64 a2),(vI .i64 a3),(vB false)],kI 12 a3,kI 11 a2,kI 10 a1,(9,.val (vP a0))] ?_)))))));obtain ⟨⟨x1,H2⟩,hx,h⟩:=bind_some h;try dsimp only at h
 refine RS.cl (some 14) (v:=(vI .i64 x1)) 43 _ (E9 hx) (u0 1 [kI 8 x1] (RS.dn (A0 (K0 ?_))));cases h;exact fun a w hs=>rtR (rS hs)
def z43:Bool→Value
 | r0=>(vB r0)
def z55 (H:AH):Bool→AH:=fun _=>H
noncomputable def B65:Code:=(Tryd.f65.body).getD .skip
noncomputable def D3 (_L:LC) (H:AH) (a0:Option Addr) (a1:Int):Option Bool :=
 if a1≥0 then
  a0.bind fun q1 => (rd deSl H (Addr.add q1 0)).bind fun x2 => some (decide (a1<(x2.n:Int)))
 else
  some false
theorem Z6 {L:LC} {m:Nat} {H:AH} {a0:Option Addr} {a1:Int} {r:Bool} (h:D3 L H a0 a1=some r) :
  CallS Tryd.prog (NE.plain 1000) m 65 #[(vP a0),(vI .i64 a1)] H (z43 r) (z55 H r):=by
 refine CallS.mk (args:=[(vP a0),(vI .i64 a1)]) Tryd.func65 (B:=B65) (by kernel_rfl) (fun E _=>?_);unfold D3 at h;refine B0 (WS.rg (u0 1 [kB 4 false] (RS.dn (A0 (B0 (WS.rg (u0 3 [kB 7 (decide (a1≥0)),kB 6 (decide (a1≥0)),kI 5 a1] ?_)))))));rcases Y0 h with ⟨hp,h⟩ | ⟨hp,h⟩
 ·refine U0 7 true (decide_eq_true hp) (u0 2 [(9,.val (vP a0)),kI 8 a1] ?_);obtain ⟨q1,hx,hq1⟩:=bind_some h;subst hx;have h:=hq1;refine u0 2 [(11,.val (vP (some (Addr.add q1 0)))),kP 10 q1] ?_;obtain ⟨x2,hx,h⟩:=bind_some h;refine O0 12 29 (.tmp 11) (X0 hx C1) (u0 4 [kB 4 (decide (a1<(x2.n:Int))),kB 15 (decide (a1<(x2.n:Int))),kB 14 (decide (a1<(x2.n:Int))),kI 13 (x2.n:Int)] (RS.dn (A0 (K0 ?_))));cases h;exact fun a w hs=>rtR (rS hs)
 ·refine U0 7 false (decide_eq_false hp) (u0 9 [kB 4 false,kB 15 false,kU 14,kU 13,kU 12,kU 11,kU 10,kU 9,kU 8] (RS.dn (A0 (K0 ?_))));cases h;exact fun a w hs=>rtR (rS hs)
def z2v:Bool→Value
 | r0=>(vB r0)
def z4r (H:AH):Bool→AH:=fun _=>H
noncomputable def B77:Code:=(Tryd.f77.body).getD .skip
noncomputable def o4 (_L:LC) (H:AH) (_a0_0:Int) (_a0_1:Bool) (a0_2:Sl3) (_a1_0:Int) (_a1_1:Bool) (a1_2:Sl3):Int→Option (Lp Int Bool):=fun v5_2 =>
 if v5_2<(a0_2.n:Int) then
  (idxA 1 a0_2 v5_2).bind fun p3 => (rd (deI .i64) H p3).bind fun x4 => (idxA 1 a1_2 v5_2).bind fun p5 => (rd (deI .i64) H p5).bind fun x6 => if x4=x6 then
   some (.next (IntKind.i64.wrap (v5_2+1)))
  else
   some (.ret false)
 else
  some (.brk v5_2)
def z7r (_L:LC) (_H:AH) (a0_0:Int) (a0_1:Bool) (a0_2:Sl3) (a1_0:Int) (a1_1:Bool) (a1_2:Sl3):Int→KN×Lcs:=fun v5_2=>([kI 5 v5_2,kL 2 0 0,kL 3 1 0],[some (42,[(vI .i64 a0_0),(vB a0_1),(Sl3.v a0_2)]),some (42,[(vI .i64 a1_0),(vB a1_1),(Sl3.v a1_2)])])
noncomputable def g9 (L:LC) (H:AH) (a0_0:Int) (a0_1:Bool) (a0_2:Sl3) (a1_0:Int) (a1_1:Bool) (a1_2:Sl3):Option Bool :=
 Option.bind (α:=Bool) (
  if a0_0=a1_0 then
   if (a0_1 == a1_1)=true then
    some (!decide ((a0_2.n:Int)=(a1_2.n:Int)))
   else
    some true
  else
   some true) fun v26_1 =>
 if v26_1=true then
  some false
 else
  (L.run (o4 L H a0_0 a0_1 a0_2 a1_0 a1_1 a1_2) 0).bind fun o=>match o with
  | .inl _ =>
   some true
  | .inr r=>some r
theorem z1s {E m L H a0_0 a0_1 a0_2 a1_0 a1_1 a1_2} :LoopF Tryd.prog (NE.plain 1000) m E Tryd.f77 ((cfst (csnd (cfst (csnd (csnd B77)))))) (z7r L H a0_0 a0_1 a0_2 a1_0 a1_1 a1_2) (fun _=>H) 0 z2v (z4r H) (o4 L H a0_0 a0_1 a0_2 a1_0 a1_1 a1_2):=by
 rintro v5_2 o h
 unfold o4 at h;try dsimp only at h
 refine B0 (B0 (WS.rg (u0 5 [kB 31 (decide (v5_2<(a0_2.n:Int))),kI 30 (a0_2.n:Int),kS 29 a0_2,kL 28 0 2,kI 27 v5_2] (RS.dn (A0 ?_)))));rcases Y0 h with ⟨hp,h⟩ | ⟨hp,h⟩
 ·refine E0 31 true (decide_eq_true hp) (G0 (J0 (A0 (B0 (M0 1 (B0 ?_))))));refine Q0 [0,1,2,3,4,5,6,7,8,9] [0,1,0,7,15,0,32,0,224,480,1023] 11 (fun hcl=>?_);refine DA.tL 0 (some 34) (.loc 0 2) (DA.tL 1 (some 35) (.val (Sl3.v a0_2)) (C0 2 (some 36) (vI .i64 v5_2) ?_));obtain ⟨p3,hx,h⟩:=bind_some h;refine F0 3 (some 37) (vP (some p3)) (Abs.det_idx (s:=a0_2) (k:=.i64) (t:=27) (e:=3) (x:=.tmp 35) (y:=.tmp 36) (by kernel_rfl) (by kernel_rfl) (by kernel_rfl) (by kernel_rfl) (by kernel_rfl) hx) ?_;obtain ⟨x4,hx,h⟩:=bind_some h;refine F0 4 (some 38) (vI .i64 x4) (Abs.det_load (t:=3) (x:=.tmp 37) (a:=p3) (by kernel_rfl) (by kernel_rfl) (by kernel_rfl) (by kernel_rfl) (X0 hx A1)) (DA.tL 5 (some 39) (.loc 1 2) (DA.tL 6 (some 40) (.val (Sl3.v a1_2)) (C0 7 (some 41) (vI .i64 v5_2) ?_)));obtain ⟨p5,hx,h⟩:=bind_some h;refine F0 8 (some 42) (vP (some p5)) (Abs.det_idx (s:=a1_2) (k:=.i64) (t:=27) (e:=3) (x:=.tmp 40) (y:=.tmp 41) (by kernel_rfl) (by kernel_rfl) (by kernel_rfl) (by kernel_rfl) (by kernel_rfl) hx) ?_;obtain ⟨x6,hx,h⟩:=bind_some h;refine F0 9 (some 43) (vI .i64 x6) (Abs.det_load (t:=3) (x:=.tmp 42) (a:=p5) (by kernel_rfl) (by kernel_rfl) (by kernel_rfl) (by kernel_rfl) (X0 hx A1)) (DA.tP 10 (some 44) (vB (!decide (x4=x6))) (DA.dn (A0 ?_)));rcases Y0 h with ⟨hp,h⟩ | ⟨hp,h⟩
  ·refine E0 44 false (i6 hp) (I0 (J0 ?_));refine fun a w hs=>bkN ((A0 ?_ a w hs));refine WS.rg (u0 3 [kI 5 (IntKind.i64.wrap (v5_2+1)),kI 33 (IntKind.i64.wrap (v5_2+1)),kI 32 v5_2] (RS.dn ?_));cases h;exact fun a w hs=>lsN rfl (hs.sb 2)
  ·refine E0 44 true (E5 hp) (G0 (B0 (WS.rg (u0 1 [kB 4 false] (RS.dn (A0 (K0 ?_)))))));cases h;exact fun a w hs=>bkR (sqR (lsR rfl (rS hs)))
 ·refine E0 31 false (decide_eq_false hp) (I0 (WS.ex 0 ?_));cases h;exact fun a w hs=>sqE (lsB rfl (hs.sb 2))
theorem za5 {L:LC} {m:Nat} {H:AH} {a0_0:Int} {a0_1:Bool} {a0_2:Sl3} {a1_0:Int} {a1_1:Bool} {a1_2:Sl3} {r:Bool} (h:g9 L H a0_0 a0_1 a0_2 a1_0 a1_1 a1_2=some r) :
  CallS Tryd.prog (NE.plain 1000) m 77 #[(vA #[(vI .i64 a0_0),(vB a0_1),(Sl3.v a0_2)]),(vA #[(vI .i64 a1_0),(vB a1_1),(Sl3.v a1_2)])] H (z2v r) (z4r H r):=by
 refine CallS.mk (args:=[(vA #[(vI .i64 a0_0),(vB a0_1),(Sl3.v a0_2)]),(vA #[(vI .i64 a1_0),(vB a1_1),(Sl3.v a1_2)])]) Tryd.func77 (B:=B77) (by kernel_rfl) (fun E _=>?_);unfold g9 at h;refine B0 (WS.rg (W0 3 [kB 4 false,kL 3 1 0,kL 2 0 0] ([some (42,[(vI .i64 a0_0),(vB a0_1),(Sl3.v a0_2)]),some (42,[(vI .i64 a1_0),(vB a1_1),(Sl3.v a1_2)])]) (RS.dn (A0 (B0 ?_)))));obtain ⟨v26_1,hx,h⟩:=bind_some h;refine B0 ?_;refine WS.join ([kB 26 v26_1,kL 2 0 0,kL 3 1 0]) ([some (42,[(vI .i64 a0_0),(vB a0_1),(Sl3.v a0_2)]),some (42,[(vI .i64 a1_0),(vB a1_1),(Sl3.v a1_2)])]) H ?_ (fun a w hs=>A0 ?_ a w hs)
 ·clear h; rename _=>h;refine WS.rg (u0 6 [kB 11 (!decide (a0_0=a1_0)),kB 10 (!decide (a0_0=a1_0)),kI 9 a1_0,kL 8 1 0,kI 7 a0_0,kL 6 0 0] ?_);rcases Y0 h with ⟨hp,h⟩ | ⟨hp,h⟩
  ·refine U0 11 false (i6 hp) (u0 7 [kB 18 (!(a0_1 == a1_1)),kB 17 (!(a0_1 == a1_1)),kB 16 (!(a0_1 == a1_1)),kB 15 a1_1,kL 14 1 1,kB 13 a0_1,kL 12 0 1] ?_);rcases Y0 h with ⟨hp,h⟩ | ⟨hp,h⟩
   ·refine U0 18 false (nb_not hp) (u0 8 [kB 26 (!decide ((a0_2.n:Int)=(a1_2.n:Int))),kB 25 (!decide ((a0_2.n:Int)=(a1_2.n:Int))),kI 24 (a1_2.n:Int),kS 23 a1_2,kL 22 1 2,kI 21 (a0_2.n:Int),kS 20 a0_2,kL 19 0 2] (RS.dn ?_));cases h;exact fun a w hs=>(jsN (hs.sb 2))
   ·refine U0 18 true (N3 hp) (u0 8 [kB 26 true,kU 25,kU 24,kU 23,kU 22,kU 21,kU 20,kU 19] (RS.dn ?_));cases h;exact fun a w hs=>(jsN (hs.sb 2))
  ·refine U0 11 true (E5 hp) (u0 15 [kB 26 true,kU 25,kU 24,kU 23,kU 22,kU 21,kU 20,kU 19,kB 18 true,kB 17 true,kU 16,kU 15,kU 14,kU 13,kU 12] (RS.dn ?_));cases h;exact fun a w hs=>(jsN (hs.sb 2))
 ·clear hx;rcases Y0 h with ⟨hp,h⟩ | ⟨hp,h⟩
  ·refine E0 26 true hp (G0 (B0 (WS.rg (u0 1 [kB 4 false] (RS.dn (A0 (K0 ?_)))))));cases h;exact fun a w hs=>sqR (rtR (rS hs))
  ·refine E0 26 false (b_not hp) (I0 (J0 (A0 (B0 (B0 (WS.rg (u0 1 [kI 5 0] (RS.dn (A0 ?_)))))))));refine M0 0 ?_;obtain ⟨o,hl,h⟩:=bind_some h;rcases o with v5_7 | r
   ·try dsimp only at h
    refine S0 (z1s (L:=L) (E:=E) (m:=m) (H:=H)) (L.ok hl) 2 ?_;clear hl;refine fun a w hs=>bkE ((A0 ?_ a w hs));refine B0 (WS.rg (u0 1 [kB 4 true] (RS.dn (A0 (K0 ?_)))));cases h;exact fun a w hs=>rtR (rS hs)
   ·try dsimp only at h
    refine R0 (z1s (L:=L) (E:=E) (m:=m) (H:=H)) (L.ok hl) 2 ?_;cases h;exact fun a w hq=>bkR (sqR (rtR hq))
def F9:(Int×Int×AH)→Value
 | (r0,r1,_)=>(Value.tuple #[(vI .i64 r0),(vI .i64 r1)])
def Z9 (_:AH):(Int×Int×AH)→AH:=fun r=>r.2.2
noncomputable def B66:Code:=(Tryd.f66.body).getD .skip
noncomputable def Z2 (L:LC) (H:AH) (a0:Option Addr) (a1_0:Int) (a1_1:Bool) (a1_2:Sl3):Int→Option (Lp Int (Int×Int×AH)):=fun v6_1 =>
 a0.bind fun q2 => (rd deSl H (Addr.add q2 0)).bind fun x3 => if v6_1<(x3.n:Int) then
  (rd deSl H (Addr.add q2 0)).bind fun x4 => (idxA 3 x4 v6_1).bind fun p5 => (rd (deI .i64) H (Addr.add p5 0)).bind fun x6_0 => (rd deB H (Addr.add p5 1)).bind fun x6_1 => (rd deSl H (Addr.add p5 2)).bind fun x6_2 => (g9 L H x6_0 x6_1 x6_2 a1_0 a1_1 a1_2).bind fun x7 => if x7=true then
   some (.ret (v6_1,0,H))
  else
   some (.next (IntKind.i64.wrap (v6_1+1)))
 else
  some (.brk v6_1)
def z3n (_L:LC) (_H:AH) (a0:Option Addr) (a1_0:Int) (a1_1:Bool) (a1_2:Sl3):Int→KN×Lcs:=fun v6_1=>([kI 6 v6_1,(0,.val (vP a0)),kL 3 0 0],[some (42,[(vI .i64 a1_0),(vB a1_1),(Sl3.v a1_2)])])
noncomputable def X3 (L:LC) (m:Nat) (H:AH) (a0:Option Addr) (a1_0:Int) (a1_1:Bool) (a1_2:Sl3):Option (Int×Int×AH) :=
 (L.run (Z2 L H a0 a1_0 a1_1 a1_2) 0).bind fun o=>match o with
 | .inl _ =>
  a0.bind fun q9 => (rd deSl H (Addr.add q9 0)).bind fun x10 => if (x10.n:Int)≥1048576 then
   some (0,3,H)
  else
   (rd deSl H (Addr.add q9 0)).bind fun x11 => (newR 42 1 #[(vI .i64 a1_0),(vB a1_1),(Sl3.v a1_2)] H).bind fun (s12,H13) => (appS m 42 3 40 H13 x11 s12).bind fun (s14,H15) => (H15.setCell m (Addr.add q9 0) (Sl3.v s14)).bind fun H16 => (rd deSl H16 (Addr.add q9 0)).bind fun x17 => some ((IntKind.i64.wrap ((x17.n:Int) - 1)),0,H16)
 | .inr r=>some r
theorem M8 {E m L H a0 a1_0 a1_1 a1_2} :LoopF Tryd.prog (NE.plain 1000) m E Tryd.f66 ((cfst (csnd (cfst (csnd B66))))) (z3n L H a0 a1_0 a1_1 a1_2) (fun _=>H) 0 F9 (Z9 H) (Z2 L H a0 a1_0 a1_1 a1_2):=by
 rintro v6_1 o h
 unfold Z2 at h;try dsimp only at h
 refine B0 (B0 (WS.rg (u0 2 [(8,.val (vP a0)),kI 7 v6_1] ?_)));obtain ⟨q2,hx,hq2⟩:=bind_some h;subst hx;have h:=hq2;refine u0 2 [(10,.val (vP (some (Addr.add q2 0)))),kP 9 q2] ?_;obtain ⟨x3,hx,h⟩:=bind_some h;refine O0 11 29 (.tmp 10) (X0 hx C1) (u0 2 [kB 13 (decide (v6_1<(x3.n:Int))),kI 12 (x3.n:Int)] (RS.dn (A0 ?_)));rcases Y0 h with ⟨hp,h⟩ | ⟨hp,h⟩
 ·refine E0 13 true (decide_eq_true hp) (G0 (J0 (A0 (B0 (M0 1 (B0 ?_))))));refine Q0 [0,1,2,3,4,5,6,7] [0,1,3,7,0,31,63,0,255] 9 (fun hcl=>?_);refine C0 0 (some 16) (vP (some q2)) (C0 1 (some 17) (vP (some q2)) (C0 2 (some 18) (vP (some (Addr.add q2 0))) ?_));obtain ⟨x4,hx,h⟩:=bind_some h;refine F0 3 (some 19) (Sl3.v x4) (Abs.det_load (t:=29) (x:=.tmp 18) (a:=(Addr.add q2 0)) (by kernel_rfl) (by kernel_rfl) (by kernel_rfl) (by kernel_rfl) (X0 hx C1)) (C0 4 (some 20) (vI .i64 v6_1) ?_);obtain ⟨p5,hx,h⟩:=bind_some h;refine F0 5 (some 21) (vP (some p5)) (Abs.det_idx (s:=x4) (k:=.i64) (t:=29) (e:=42) (x:=.tmp 19) (y:=.tmp 20) (by kernel_rfl) (by kernel_rfl) (by kernel_rfl) (by kernel_rfl) (by kernel_rfl) hx) ?_;obtain ⟨x6_0,hx0,h⟩:=bind_some h;obtain ⟨x6_1,hx1,h⟩:=bind_some h;obtain ⟨x6_2,hx2,h⟩:=bind_some h;refine F0 6 (some 22) (vA #[(vI .i64 x6_0),(vB x6_1),(Sl3.v x6_2)]) (Abs.det_loadA (t:=42) (x:=.tmp 21) (a:=p5) (k:=3) (by kernel_rfl) (by kernel_rfl) (by kernel_rfl) (by kernel_rfl) (I1 (X0 hx0 A1) (I1 (X0 hx1 Z5) (I1 (X0 hx2 C1) V6)))) (DA.tL 7 (some 23) (.val (vA #[(vI .i64 a1_0),(vB a1_1),(Sl3.v a1_2)])) ?_);obtain ⟨x7,hx,h⟩:=bind_some h;refine DA.on 8 (DA.aC 8 (some 24) (v:=(vB x7)) 77 #[(vA #[(vI .i64 x6_0),(vB x6_1),(Sl3.v x6_2)]),(vA #[(vI .i64 a1_0),(vB a1_1),(Sl3.v a1_2)])] (za5 hx) (DA.dn (A0 ?_)));rcases Y0 h with ⟨hp,h⟩ | ⟨hp,h⟩
  ·refine E0 24 true hp (G0 (B0 (WS.rg (u0 3 [kI 5 0,kI 4 v6_1,kI 25 v6_1] (RS.dn (A0 (K0 ?_)))))));cases h;exact fun a w hs=>bkR (sqR (lsR rfl (rS hs)))
  ·refine E0 24 false (b_not hp) (I0 (J0 ?_));refine fun a w hs=>bkN ((A0 ?_ a w hs));refine WS.rg (u0 3 [kI 6 (IntKind.i64.wrap (v6_1+1)),kI 15 (IntKind.i64.wrap (v6_1+1)),kI 14 v6_1] (RS.dn ?_));cases h;exact fun a w hs=>lsN rfl (hs.sb 1)
 ·refine E0 13 false (decide_eq_false hp) (I0 (WS.ex 0 ?_));cases h;exact fun a w hs=>sqE (lsB rfl (hs.sb 1))
theorem T9 {L:LC} {m:Nat} {H:AH} {a0:Option Addr} {a1_0:Int} {a1_1:Bool} {a1_2:Sl3} {r:(Int×Int×AH)} (h:X3 L m H a0 a1_0 a1_1 a1_2=some r) :
  CallS Tryd.prog (NE.plain 1000) m 66 #[(vP a0),(vA #[(vI .i64 a1_0),(vB a1_1),(Sl3.v a1_2)])] H (F9 r) (Z9 H r):=by
 refine CallS.mk (args:=[(vP a0),(vA #[(vI .i64 a1_0),(vB a1_1),(Sl3.v a1_2)])]) Tryd.func66 (B:=B66) (by kernel_rfl) (fun E _=>?_);unfold X3 at h;refine B0 (WS.rg (W0 3 [kI 5 0,kI 4 0,kL 3 0 0] ([some (42,[(vI .i64 a1_0),(vB a1_1),(Sl3.v a1_2)])]) (RS.dn (A0 (B0 (B0 (WS.rg (u0 1 [kI 6 0] (RS.dn ?_)))))))));refine A0 (M0 0 ?_);obtain ⟨o,hl,h⟩:=bind_some h;rcases o with v6_8 | r
 ·try dsimp only at h
  refine S0 (M8 (L:=L) (E:=E) (m:=m) (H:=H)) (L.ok hl) 1 ?_;clear hl;refine fun a w hs=>bkE ((A0 ?_ a w hs));refine B0 (B0 (WS.rg (u0 1 [(26,.val (vP a0))] ?_)));obtain ⟨q9,hx,hq9⟩:=bind_some h;subst hx;have h:=hq9;refine u0 2 [(28,.val (vP (some (Addr.add q9 0)))),kP 27 q9] ?_;obtain ⟨x10,hx,h⟩:=bind_some h;refine O0 29 29 (.tmp 28) (X0 hx C1) (u0 2 [kB 31 (decide ((x10.n:Int)≥1048576)),kI 30 (x10.n:Int)] (RS.dn (A0 ?_)));rcases Y0 h with ⟨hp,h⟩ | ⟨hp,h⟩
  ·refine E0 31 true (decide_eq_true hp) (G0 (B0 (WS.rg (u0 2 [kI 5 3,kI 4 0] (RS.dn (A0 (K0 ?_)))))));cases h;exact fun a w hs=>sqR (rtR (rS hs))
  ·refine E0 31 false (decide_eq_false hp) (I0 (J0 (A0 (B0 ?_))));refine Q0 [1,2,3,4,5] [0,0,2,6,14,0,32,126,255,511,1023] 11 (fun hcl=>?_);refine C0 1 (some 33) (vP (some q9)) (C0 2 (some 34) (vP (some q9)) (C0 3 (some 35) (vP (some (Addr.add q9 0))) ?_));obtain ⟨x11,hx,h⟩:=bind_some h;refine F0 4 (some 36) (Sl3.v x11) (Abs.det_load (t:=29) (x:=.tmp 35) (a:=(Addr.add q9 0)) (by kernel_rfl) (by kernel_rfl) (by kernel_rfl) (by kernel_rfl) (X0 hx C1)) (DA.tL 5 (some 37) (.val (vA #[(vI .i64 a1_0),(vB a1_1),(Sl3.v a1_2)])) (DA.tP 0 (some 32) (vP (some q9)) ?_));obtain ⟨⟨s12,H13⟩,hx,h⟩:=bind_some h;try dsimp only at h
   refine DA.on 6 (DA.aHj (H':=H13) 6 (some 38) false (Sl3.v s12) (Abs.run_newR (by kernel_rfl) (by kernel_rfl) hx) ?_);obtain ⟨⟨s14,H15⟩,hx,h⟩:=bind_some h;try dsimp only at h
   refine DA.on 7 (V0 (H':=H15) 7 (some 39) (Sl3.v s14) (Abs.run_app (x:=.tmp 36) (y:=.tmp 38) (ts:=#[29,29]) (s:=x11) (z:=s12) (by kernel_rfl) (by kernel_rfl) (by kernel_rfl) (by kernel_rfl) hx) (DA.tP 8 (some 40) (vP (some q9)) (DA.tP 9 (some 41) (vP (some (Addr.add q9 0))) ?_)));obtain ⟨H16,hx,h⟩:=bind_some h;refine DA.on 10 (V0 (H':=H16) 10 none undef (Abs.run_store1 (t:=29) (x:=.tmp 41) (y:=.tmp 39) (a:=(Addr.add q9 0)) (v:=(Sl3.v s14)) (by kernel_rfl) (by kernel_rfl) (by kernel_rfl) (by kernel_rfl) (by kernel_rfl) hx) (DA.dn (A0 (B0 (WS.rg (u0 3 [(44,.val (vP (some (Addr.add q9 0)))),kP 43 q9,kP 42 q9] ?_))))));obtain ⟨x17,hx,h⟩:=bind_some h;refine O0 45 29 (.tmp 44) (X0 hx C1) (u0 4 [kI 5 0,kI 4 (IntKind.i64.wrap ((x17.n:Int) - 1)),kI 47 (IntKind.i64.wrap ((x17.n:Int) - 1)),kI 46 (x17.n:Int)] (RS.dn (A0 (K0 ?_))));cases h;exact fun a w hs=>rtR (rS hs)
 ·try dsimp only at h
  refine R0 (M8 (L:=L) (E:=E) (m:=m) (H:=H)) (L.ok hl) 1 ?_;cases h;exact fun a w hq=>bkR (sqR (rtR hq))
def D9:(Int×Int×AH)→Value
 | (r0,r1,_)=>(Value.tuple #[(vI .i64 r0),(vI .i64 r1)])
def V9 (_:AH):(Int×Int×AH)→AH:=fun r=>r.2.2
noncomputable def B45:Code:=(Tryd.f45.body).getD .skip
noncomputable def Y2 (L:LC) (H:AH) (a0:Option Addr) (_a1:Int) (a2:Sl3):Int→Option (Lp Int (Int×Int×AH)):=fun v8_1 =>
 if v8_1<(a2.n:Int) then
  (idxA 1 a2 v8_1).bind fun p2 => (rd (deI .i64) H p2).bind fun x3 => (D3 L H a0 x3).bind fun x4 => if x4=true then
   some (.next (IntKind.i64.wrap (v8_1+1)))
  else
   some (.ret (0,150,H))
 else
  some (.brk v8_1)
def z34 (_L:LC) (_H:AH) (a0:Option Addr) (a1:Int) (a2:Sl3):Int→KN×Lcs:=fun v8_1=>([kI 8 v8_1,(0,.val (vP a0)),kI 1 a1,kS 2 a2],[])
noncomputable def v6 (L:LC) (m:Nat) (H:AH) (a0:Option Addr) (a1:Int) (a2:Sl3):Option (Int×Int×AH) :=
 if (a2.n:Int) > 64 then
  some (0,51,H)
 else
  (L.run (Y2 L H a0 a1 a2) 0).bind fun o=>match o with
  | .inl _ =>
   (appS m 3 1 8 H Sl3.nil a2).bind fun (s6,H7) => (X3 L m H7 a0 a1 false s6).bind fun (x8,x9,H10) => some (x8,x9,H10)
  | .inr r=>some r
theorem J8 {E m L H a0 a1 a2} :LoopF Tryd.prog (NE.plain 1000) m E Tryd.f45 ((cfst (csnd (cfst (csnd (csnd B45)))))) (z34 L H a0 a1 a2) (fun _=>H) 0 D9 (V9 H) (Y2 L H a0 a1 a2):=by
 rintro v8_1 o h
 unfold Y2 at h;try dsimp only at h
 refine B0 (B0 (WS.rg (u0 4 [kB 16 (decide (v8_1<(a2.n:Int))),kI 15 (a2.n:Int),kS 14 a2,kI 13 v8_1] (RS.dn (A0 ?_)))));rcases Y0 h with ⟨hp,h⟩ | ⟨hp,h⟩
 ·refine E0 16 true (decide_eq_true hp) (G0 (J0 (A0 (B0 (M0 1 (B0 (WS.rg (u0 3 [kI 21 v8_1,kS 20 a2,(19,.val (vP a0))] ?_))))))));obtain ⟨p2,hx,h⟩:=bind_some h;refine T0 22 27 3 (.tmp 20) (.tmp 21) hx ?_;obtain ⟨x3,hx,h⟩:=bind_some h;refine O0 23 3 (.tmp 22) (X0 hx A1) ?_;obtain ⟨x4,hx,h⟩:=bind_some h;refine RS.cl (some 24) (v:=(vB x4)) 65 _ (Z6 hx) (u0 1 [kB 25 (!x4)] (RS.dn (A0 ?_)));rcases Y0 h with ⟨hp,h⟩ | ⟨hp,h⟩
  ·refine E0 25 false (nb_not hp) (I0 (J0 ?_));refine fun a w hs=>bkN ((A0 ?_ a w hs));refine WS.rg (u0 3 [kI 8 (IntKind.i64.wrap (v8_1+1)),kI 18 (IntKind.i64.wrap (v8_1+1)),kI 17 v8_1] (RS.dn ?_));cases h;exact fun a w hs=>lsN rfl (hs.sb 0)
  ·refine E0 25 true (N3 hp) (G0 (B0 (WS.rg (u0 2 [kI 7 150,kI 6 0] (RS.dn (A0 (K0 ?_)))))));cases h;exact fun a w hs=>bkR (sqR (lsR rfl (rS hs)))
 ·refine E0 16 false (decide_eq_false hp) (I0 (WS.ex 0 ?_));cases h;exact fun a w hs=>sqE (lsB rfl (hs.sb 0))
theorem z60 {L:LC} {m:Nat} {H:AH} {a0:Option Addr} {a1:Int} {a2:Sl3} {r:(Int×Int×AH)} (h:v6 L m H a0 a1 a2=some r) :
  CallS Tryd.prog (NE.plain 1000) m 45 #[(vP a0),(vI .i64 a1),(Sl3.v a2)] H (D9 r) (V9 H r):=by
 refine CallS.mk (args:=[(vP a0),(vI .i64 a1),(Sl3.v a2)]) Tryd.func45 (B:=B45) (by kernel_rfl) (fun E _=>?_);unfold v6 at h;refine B0 (WS.rg (u0 2 [kI 7 0,kI 6 0] (RS.dn (A0 (B0 (B0 (WS.rg (u0 3 [kB 12 (decide ((a2.n:Int) > 64)),kI 11 (a2.n:Int),kS 10 a2] (RS.dn ?_)))))))));refine A0 ?_;rcases Y0 h with ⟨hp,h⟩ | ⟨hp,h⟩
 ·refine E0 12 true (decide_eq_true hp) (G0 (B0 (WS.rg (u0 2 [kI 7 51,kI 6 0] (RS.dn (A0 (K0 ?_)))))));cases h;exact fun a w hs=>sqR (rtR (rS hs))
 ·refine E0 12 false (decide_eq_false hp) (I0 (J0 (A0 (B0 (B0 (WS.rg (u0 1 [kI 8 0] (RS.dn (A0 ?_)))))))));refine M0 0 ?_;obtain ⟨o,hl,h⟩:=bind_some h;rcases o with v8_5 | r
  ·try dsimp only at h
   refine S0 (J8 (L:=L) (E:=E) (m:=m) (H:=H)) (L.ok hl) 0 ?_;clear hl;refine fun a w hs=>bkE ((A0 ?_ a w hs));refine B0 (WS.rg (u0 1 [kS 9 Sl3.nil] (RS.dn (A0 (B0 (WS.rg (u0 2 [kS 27 a2,kS 26 Sl3.nil] ?_)))))));obtain ⟨⟨s6,H7⟩,hx,h⟩:=bind_some h;try dsimp only at h
   refine RS.o (H':=H7) (some 28) (Sl3.v s6) (Abs.run_app (x:=.tmp 26) (y:=.tmp 27) (ts:=#[27,27]) (s:=Sl3.nil) (z:=a2) (by kernel_rfl) (by kernel_rfl) (by kernel_rfl) (by kernel_rfl) hx) (u0 1 [kS 9 s6] (RS.dn (A0 (B0 (WS.rg (u0 4 [kA 32 #[(vI .i64 a1),(vB false),(Sl3.v s6)],kS 31 s6,kI 30 a1,(29,.val (vP a0))] ?_))))));obtain ⟨⟨x8,x9,H10⟩,hx,h⟩:=bind_some h;try dsimp only at h
   refine RS.cl (some 33) (v:=(Value.tuple #[(vI .i64 x8),(vI .i64 x9)])) 66 _ (T9 hx) (u0 4 [kI 7 x9,kI 6 x8,kI 35 x9,kI 34 x8] (RS.dn (A0 (K0 ?_))));cases h;exact fun a w hs=>rtR (rS hs)
  ·try dsimp only at h
   refine R0 (J8 (L:=L) (E:=E) (m:=m) (H:=H)) (L.ok hl) 0 ?_;cases h;exact fun a w hq=>bkR (sqR (rtR hq))
def z3k:(Int×Int×AH)→Value
 | (r0,r1,_)=>(Value.tuple #[(vI .i64 r0),(vI .i64 r1)])
def z4e (_:AH):(Int×Int×AH)→AH:=fun r=>r.2.2
noncomputable def B46:Code:=(Tryd.f46.body).getD .skip
noncomputable def G5 (L:LC) (m:Nat) (H:AH) (a0:Option Addr) (a1:Int):Option (Int×Int×AH) :=
 (X3 L m H a0 a1 true Sl3.nil).bind fun (x1,x2,H3) => some (x1,x2,H3)
theorem z4l {L:LC} {m:Nat} {H:AH} {a0:Option Addr} {a1:Int} {r:(Int×Int×AH)} (h:G5 L m H a0 a1=some r) :
  CallS Tryd.prog (NE.plain 1000) m 46 #[(vP a0),(vI .i64 a1)] H (z3k r) (z4e H r):=by
 refine CallS.mk (args:=[(vP a0),(vI .i64 a1)]) Tryd.func46 (B:=B46) (by kernel_rfl) (fun E _=>?_);unfold G5 at h;refine B0 (WS.rg (u0 2 [kI 5 0,kI 4 0] (RS.dn (A0 (B0 (WS.rg (u0 3 [kA 8 #[(vI .i64 a1),(vB true),(Sl3.v Sl3.nil)],kI 7 a1,(6,.val (vP a0))] ?_)))))));obtain ⟨⟨x1,x2,H3⟩,hx,h⟩:=bind_some h;try dsimp only at h
 refine RS.cl (some 9) (v:=(Value.tuple #[(vI .i64 x1),(vI .i64 x2)])) 66 _ (T9 hx) (u0 4 [kI 5 x2,kI 4 x1,kI 11 x2,kI 10 x1] (RS.dn (A0 (K0 ?_))));cases h;exact fun a w hs=>rtR (rS hs)
def z4z:(Int×AH)→Value
 | (r0,_)=>(vI .i64 r0)
def z5m (_:AH):(Int×AH)→AH:=fun r=>r.2
noncomputable def B47:Code:=(Tryd.f47.body).getD .skip
noncomputable def u5 (L:LC) (m:Nat) (H:AH) (a0:Option Addr) (a1_0 a1_1 a1_2:Int) (a1_3:Bool):Option (Int×AH) :=
 Option.bind (α:=Bool) (
  (D3 L H a0 a1_0).bind fun x2 => if x2=true then
   (D3 L H a0 a1_1).bind fun x3 => some (!x3)
  else
   some true) fun v16_1 =>
 if v16_1=true then
  some (150,H)
 else
  a0.bind fun q4 => (rd deSl H (Addr.add q4 1)).bind fun x5 => (newR 49 1 #[(vI .i64 a1_0),(vI .i64 a1_1),(vI .i64 a1_2),(vB a1_3)] H).bind fun (s6,H7) => (appS m 49 4 32 H7 x5 s6).bind fun (s8,H9) => (H9.setCell m (Addr.add q4 1) (Sl3.v s8)).bind fun H10 => some (0,H10)
theorem U9 {L:LC} {m:Nat} {H:AH} {a0:Option Addr} {a1_0 a1_1 a1_2:Int} {a1_3:Bool} {r:(Int×AH)} (h:u5 L m H a0 a1_0 a1_1 a1_2 a1_3=some r) :
  CallS Tryd.prog (NE.plain 1000) m 47 #[(vP a0),(vA #[(vI .i64 a1_0),(vI .i64 a1_1),(vI .i64 a1_2),(vB a1_3)])] H (z4z r) (z5m H r):=by
 refine CallS.mk (args:=[(vP a0),(vA #[(vI .i64 a1_0),(vI .i64 a1_1),(vI .i64 a1_2),(vB a1_3)])]) Tryd.func47 (B:=B47) (by kernel_rfl) (fun E _=>?_);unfold u5 at h;refine B0 (WS.rg (W0 2 [kI 4 0,kL 3 0 0] ([some (49,[(vI .i64 a1_0),(vI .i64 a1_1),(vI .i64 a1_2),(vB a1_3)])]) (RS.dn (A0 (B0 ?_)))));obtain ⟨v16_1,hx,h⟩:=bind_some h;refine B0 ?_;refine WS.join ([kB 16 v16_1,(0,.val (vP a0)),kL 3 0 0]) ([some (49,[(vI .i64 a1_0),(vI .i64 a1_1),(vI .i64 a1_2),(vB a1_3)])]) H ?_ (fun a w hs=>A0 ?_ a w hs)
 ·clear h; rename _=>h;refine WS.rg (u0 3 [kI 7 a1_0,kL 6 0 0,(5,.val (vP a0))] ?_);obtain ⟨x2,hx,h⟩:=bind_some h;refine RS.cl (some 8) (v:=(vB x2)) 65 _ (Z6 hx) (u0 2 [kB 10 (!x2),kB 9 (!x2)] ?_);rcases Y0 h with ⟨hp,h⟩ | ⟨hp,h⟩
  ·refine U0 10 false (nb_not hp) (u0 3 [kI 13 a1_1,kL 12 0 1,(11,.val (vP a0))] ?_);obtain ⟨x3,hx,h⟩:=bind_some h;refine RS.cl (some 14) (v:=(vB x3)) 65 _ (Z6 hx) (u0 2 [kB 16 (!x3),kB 15 (!x3)] (RS.dn ?_));cases h;exact fun a w hs=>(jsN (hs.sb 1))
  ·refine U0 10 true (N3 hp) (u0 6 [kB 16 true,kU 15,kU 14,kU 13,kU 12,kU 11] (RS.dn ?_));cases h;exact fun a w hs=>(jsN (hs.sb 1))
 ·clear hx;rcases Y0 h with ⟨hp,h⟩ | ⟨hp,h⟩
  ·refine E0 16 true hp (G0 (B0 (WS.rg (u0 1 [kI 4 150] (RS.dn (A0 (K0 ?_)))))));cases h;exact fun a w hs=>sqR (rtR (rS hs))
  ·refine E0 16 false (b_not hp) (I0 (J0 (A0 (B0 ?_))));refine Q0 [1,2,3,4,5] [0,0,2,6,14,0,32,126,255,511,1023] 11 (fun hcl=>?_);refine C0 1 (some 18) (vP a0) ?_;obtain ⟨q4,hx,hq4⟩:=bind_some h;subst hx;have h:=hq4;refine C0 2 (some 19) (vP (some q4)) (C0 3 (some 20) (vP (some (Addr.add q4 1))) ?_);obtain ⟨x5,hx,h⟩:=bind_some h;refine F0 4 (some 21) (Sl3.v x5) (Abs.det_load (t:=30) (x:=.tmp 20) (a:=(Addr.add q4 1)) (by kernel_rfl) (by kernel_rfl) (by kernel_rfl) (by kernel_rfl) (X0 hx C1)) (DA.tL 5 (some 22) (.val (vA #[(vI .i64 a1_0),(vI .i64 a1_1),(vI .i64 a1_2),(vB a1_3)])) (DA.tP 0 (some 17) (vP (some q4)) ?_));obtain ⟨⟨s6,H7⟩,hx,h⟩:=bind_some h;try dsimp only at h
   refine DA.on 6 (DA.aHj (H':=H7) 6 (some 23) false (Sl3.v s6) (Abs.run_newR (by kernel_rfl) (by kernel_rfl) hx) ?_);obtain ⟨⟨s8,H9⟩,hx,h⟩:=bind_some h;try dsimp only at h
   refine DA.on 7 (V0 (H':=H9) 7 (some 24) (Sl3.v s8) (Abs.run_app (x:=.tmp 21) (y:=.tmp 23) (ts:=#[30,30]) (s:=x5) (z:=s6) (by kernel_rfl) (by kernel_rfl) (by kernel_rfl) (by kernel_rfl) hx) (DA.tP 8 (some 25) (vP (some q4)) (DA.tP 9 (some 26) (vP (some (Addr.add q4 1))) ?_)));obtain ⟨H10,hx,h⟩:=bind_some h;refine DA.on 10 (V0 (H':=H10) 10 none undef (Abs.run_store1 (t:=30) (x:=.tmp 26) (y:=.tmp 24) (a:=(Addr.add q4 1)) (v:=(Sl3.v s8)) (by kernel_rfl) (by kernel_rfl) (by kernel_rfl) (by kernel_rfl) (by kernel_rfl) hx) (DA.dn (A0 (B0 (WS.rg (u0 1 [kI 4 0] (RS.dn (A0 (K0 ?_)))))))));cases h;exact fun a w hs=>rtR (rS hs)
def z90:(Bool×AH)→Value
 | (r0,_)=>(vB r0)
def za6 (_:AH):(Bool×AH)→AH:=fun r=>r.2
noncomputable def B24:Code:=(Tryd.f24.body).getD .skip
noncomputable def K7 (L:LC) (m:Nat) (H:AH) (a0 a1:Option Addr) (a2_0 a2_1:Int) (a2_2:Sl3) (a2_3 a2_4 a2_5:Int):Option (Bool×AH) :=
 if a2_0=1 then
  (W4 L m H a0 a2_1 a2_2).bind fun (x1,x2,H3) => (v6 L m H3 a1 a2_1 a2_2).bind fun (x4,x5,H6) => if x1=x4 then
   some ((decide (x2=x5)),H6)
  else
   some (false,H6)
 else
  if a2_0=2 then
   (o5 L m H a0 a2_1).bind fun (x7,x8,H9) => (G5 L m H9 a1 a2_1).bind fun (x10,x11,H12) => if x7=x10 then
    some ((decide (x8=x11)),H12)
   else
    some (false,H12)
  else
   if a2_0=3 then
    (o6 L m H a0 a2_3 a2_4 a2_5).bind fun (x13,H14) => (u5 L m H14 a1 a2_3 a2_4 a2_5 false).bind fun (x15,H16) => some ((decide (x13=x15)),H16)
   else
    if a2_0=4 then
     (u6 L m H a0 a2_3 a2_4 a2_5).bind fun (x17,H18) => (u5 L m H18 a1 a2_3 a2_4 a2_5 true).bind fun (x19,H20) => some ((decide (x17=x19)),H20)
    else
     none
theorem zah {L:LC} {m:Nat} {H:AH} {a0 a1:Option Addr} {a2_0 a2_1:Int} {a2_2:Sl3} {a2_3 a2_4 a2_5:Int} {r:(Bool×AH)} (h:K7 L m H a0 a1 a2_0 a2_1 a2_2 a2_3 a2_4 a2_5=some r) :
  CallS Tryd.prog (NE.plain 1000) m 24 #[(vP a0),(vP a1),(vA #[(vI .i64 a2_0),(vI .i64 a2_1),(Sl3.v a2_2),(vI .i64 a2_3),(vI .i64 a2_4),(vI .i64 a2_5)])] H (z90 r) (za6 H r):=by
 refine CallS.mk (args:=[(vP a0),(vP a1),(vA #[(vI .i64 a2_0),(vI .i64 a2_1),(Sl3.v a2_2),(vI .i64 a2_3),(vI .i64 a2_4),(vI .i64 a2_5)])]) Tryd.func24 (B:=B24) (by kernel_rfl) (fun E _=>?_);unfold K7 at h;refine B0 (WS.rg (W0 2 [kB 6 false,kL 5 0 0] ([some (55,[(vI .i64 a2_0),(vI .i64 a2_1),(Sl3.v a2_2),(vI .i64 a2_3),(vI .i64 a2_4),(vI .i64 a2_5)])]) (RS.dn (A0 (B0 (B0 (WS.rg (u0 2 [kI 25 a2_0,kL 24 0 0] (RS.dn ?_)))))))));refine A0 (M0 0 (B0 (WS.rg (u0 2 [kB 26 (decide (a2_0=1)),kB 27 (decide (a2_0=1))] (RS.dn (A0 ?_))))));rcases Y0 h with ⟨hp,h⟩ | ⟨hp,h⟩
 ·refine E0 26 true (decide_eq_true hp) (G0 (B0 (WS.rg (u0 5 [kS 33 a2_2,kL 32 0 2,kI 31 a2_1,kL 30 0 1,(29,.val (vP a0))] ?_))));obtain ⟨⟨x1,x2,H3⟩,hx,h⟩:=bind_some h;try dsimp only at h
  refine RS.cl (some 34) (v:=(Value.tuple #[(vI .i64 x1),(vI .i64 x2)])) 18 _ (z5a hx) (u0 5 [kI 8 x2,kI 7 x1,kI 36 x2,kI 35 x1,(28,.val (Value.tuple #[(vI .i64 x1),(vI .i64 x2)]))] (RS.dn (A0 (B0 (WS.rg (u0 5 [kS 42 a2_2,kL 41 0 2,kI 40 a2_1,kL 39 0 1,(38,.val (vP a1))] ?_))))));obtain ⟨⟨x4,x5,H6⟩,hx,h⟩:=bind_some h;try dsimp only at h
  refine RS.cl (some 43) (v:=(Value.tuple #[(vI .i64 x4),(vI .i64 x5)])) 45 _ (z60 hx) (u0 5 [kI 10 x5,kI 9 x4,kI 45 x5,kI 44 x4,(37,.val (Value.tuple #[(vI .i64 x4),(vI .i64 x5)]))] (RS.dn (A0 (B0 (WS.rg (u0 4 [kB 49 (decide (x1=x4)),kB 48 (decide (x1=x4)),kI 47 x4,kI 46 x1] ?_))))));rcases Y0 h with ⟨hp,h⟩ | ⟨hp,h⟩
  ·refine U0 49 true (decide_eq_true hp) (u0 5 [kB 6 (decide (x2=x5)),kB 53 (decide (x2=x5)),kB 52 (decide (x2=x5)),kI 51 x5,kI 50 x2] (RS.dn (A0 (K0 ?_))));cases h;exact fun a w hs=>bkR (sqR (rtR (rS hs)))
  ·refine U0 49 false (decide_eq_false hp) (u0 5 [kB 6 false,kB 53 false,kU 52,kU 51,kU 50] (RS.dn (A0 (K0 ?_))));cases h;exact fun a w hs=>bkR (sqR (rtR (rS hs)))
 ·refine E0 26 false (decide_eq_false hp) (I0 (B0 (WS.rg (u0 2 [kB 54 (decide (a2_0=2)),kB 55 (decide (a2_0=2))] (RS.dn (A0 ?_))))));rcases Y0 h with ⟨hp,h⟩ | ⟨hp,h⟩
  ·refine E0 54 true (decide_eq_true hp) (G0 (B0 (WS.rg (u0 3 [kI 59 a2_1,kL 58 0 1,(57,.val (vP a0))] ?_))));obtain ⟨⟨x7,x8,H9⟩,hx,h⟩:=bind_some h;try dsimp only at h
   refine RS.cl (some 60) (v:=(Value.tuple #[(vI .i64 x7),(vI .i64 x8)])) 17 _ (z3i hx) (u0 5 [kI 12 x8,kI 11 x7,kI 62 x8,kI 61 x7,(56,.val (Value.tuple #[(vI .i64 x7),(vI .i64 x8)]))] (RS.dn (A0 (B0 (WS.rg (u0 3 [kI 66 a2_1,kL 65 0 1,(64,.val (vP a1))] ?_))))));obtain ⟨⟨x10,x11,H12⟩,hx,h⟩:=bind_some h;try dsimp only at h
   refine RS.cl (some 67) (v:=(Value.tuple #[(vI .i64 x10),(vI .i64 x11)])) 46 _ (z4l hx) (u0 5 [kI 14 x11,kI 13 x10,kI 69 x11,kI 68 x10,(63,.val (Value.tuple #[(vI .i64 x10),(vI .i64 x11)]))] (RS.dn (A0 (B0 (WS.rg (u0 4 [kB 73 (decide (x7=x10)),kB 72 (decide (x7=x10)),kI 71 x10,kI 70 x7] ?_))))));rcases Y0 h with ⟨hp,h⟩ | ⟨hp,h⟩
   ·refine U0 73 true (decide_eq_true hp) (u0 5 [kB 6 (decide (x8=x11)),kB 77 (decide (x8=x11)),kB 76 (decide (x8=x11)),kI 75 x11,kI 74 x8] (RS.dn (A0 (K0 ?_))));cases h;exact fun a w hs=>bkR (sqR (rtR (rS hs)))
   ·refine U0 73 false (decide_eq_false hp) (u0 5 [kB 6 false,kB 77 false,kU 76,kU 75,kU 74] (RS.dn (A0 (K0 ?_))));cases h;exact fun a w hs=>bkR (sqR (rtR (rS hs)))
  ·refine E0 54 false (decide_eq_false hp) (I0 (B0 (WS.rg (u0 2 [kB 78 (decide (a2_0=3)),kB 79 (decide (a2_0=3))] (RS.dn (A0 ?_))))));rcases Y0 h with ⟨hp,h⟩ | ⟨hp,h⟩
   ·refine E0 78 true (decide_eq_true hp) (G0 (B0 ?_));refine WS.drl [0,0,2,0,8,0,32,127,0,0,512,0,2048,0,8192,32256,65535,131071,262143] 19 (fun hcl=>?_);refine DB.tL 1 (some 81) (.loc 0 3) (DB.tL 2 (some 82) (.val (vI .i64 a2_3)) (DB.tL 3 (some 83) (.loc 0 4) (DB.tL 4 (some 84) (.val (vI .i64 a2_4)) (DB.tL 5 (some 85) (.loc 0 5) (DB.tL 6 (some 86) (.val (vI .i64 a2_5)) (DB.tL 9 (some 89) (.loc 0 3) (DB.tL 10 (some 90) (.val (vI .i64 a2_3)) (DB.tL 11 (some 91) (.loc 0 4) (DB.tL 12 (some 92) (.val (vI .i64 a2_4)) ?_)))))))));refine DB.tL 13 (some 93) (.loc 0 5) (DB.tL 14 (some 94) (.val (vI .i64 a2_5)) (DB.tP 0 (some 80) (vP a0) (DB.tP 8 (some 88) (vP a1) ?_)));refine ?_;refine DB.tP 15 (some 95) (vA #[(vI .i64 a2_3),(vI .i64 a2_4),(vI .i64 a2_5),(vB false)]) ?_;obtain ⟨⟨x13,H14⟩,hx,h⟩:=bind_some h;try dsimp only at h
    refine DB.on 7 (DB.aC 7 (some 87) (v:=(vI .i64 x13)) 20 #[(vP a0),(vI .i64 a2_3),(vI .i64 a2_4),(vI .i64 a2_5)] (z3f hx) ?_);obtain ⟨⟨x15,H16⟩,hx,h⟩:=bind_some h;try dsimp only at h
    refine DB.on 16 (DB.aC 16 (some 96) (v:=(vI .i64 x15)) 47 #[(vP a1),(vA #[(vI .i64 a2_3),(vI .i64 a2_4),(vI .i64 a2_5),(vB false)])] (U9 hx) (DB.tP 17 (some 97) (vB (decide (x13=x15))) (DB.tP 18 (some 6) (vB (decide (x13=x15))) (DB.dn (A0 (K0 ?_))))));cases h;exact fun a w hs=>bkR (sqR (rtR (rS hs)))
   ·refine E0 78 false (decide_eq_false hp) (I0 (B0 (WS.rg (u0 2 [kB 98 (decide (a2_0=4)),kB 99 (decide (a2_0=4))] (RS.dn (A0 ?_))))));rcases Y0 h with ⟨hp,h⟩ | ⟨hp,h⟩
    ·refine E0 98 true (decide_eq_true hp) (G0 (B0 ?_));refine WS.drl [0,0,2,0,8,0,32,127,0,0,512,0,2048,0,8192,32256,65535,131071,262143] 19 (fun hcl=>?_);refine DB.tL 1 (some 101) (.loc 0 3) (DB.tL 2 (some 102) (.val (vI .i64 a2_3)) (DB.tL 3 (some 103) (.loc 0 4) (DB.tL 4 (some 104) (.val (vI .i64 a2_4)) (DB.tL 5 (some 105) (.loc 0 5) (DB.tL 6 (some 106) (.val (vI .i64 a2_5)) (DB.tL 9 (some 109) (.loc 0 3) (DB.tL 10 (some 110) (.val (vI .i64 a2_3)) (DB.tL 11 (some 111) (.loc 0 4) (DB.tL 12 (some 112) (.val (vI .i64 a2_4)) ?_)))))))));refine DB.tL 13 (some 113) (.loc 0 5) (DB.tL 14 (some 114) (.val (vI .i64 a2_5)) (DB.tP 0 (some 100) (vP a0) (DB.tP 8 (some 108) (vP a1) ?_)));refine ?_;refine DB.tP 15 (some 115) (vA #[(vI .i64 a2_3),(vI .i64 a2_4),(vI .i64 a2_5),(vB true)]) ?_;obtain ⟨⟨x17,H18⟩,hx,h⟩:=bind_some h;try dsimp only at h
     refine DB.on 7 (DB.aC 7 (some 107) (v:=(vI .i64 x17)) 19 #[(vP a0),(vI .i64 a2_3),(vI .i64 a2_4),(vI .i64 a2_5)] (z3d hx) ?_);obtain ⟨⟨x19,H20⟩,hx,h⟩:=bind_some h;try dsimp only at h
     refine DB.on 16 (DB.aC 16 (some 116) (v:=(vI .i64 x19)) 47 #[(vP a1),(vA #[(vI .i64 a2_3),(vI .i64 a2_4),(vI .i64 a2_5),(vB true)])] (U9 hx) (DB.tP 17 (some 117) (vB (decide (x17=x19))) (DB.tP 18 (some 6) (vB (decide (x17=x19))) (DB.dn (A0 (K0 ?_))))));cases h;exact fun a w hs=>bkR (sqR (rtR (rS hs)))
    ·refine E0 98 false (decide_eq_false hp) (I0 ?_);cases h
def z21:((Option Addr)×(Option Addr)×Bool×AH)→Value
 | (r0,r1,r2,_)=>(Value.tuple #[(vP r0),(vP r1),(vB r2)])
def z3b (_:AH):((Option Addr)×(Option Addr)×Bool×AH)→AH:=fun r=>r.2.2.2
noncomputable def B9:Code:=(Tryd.f9.body).getD .skip
noncomputable def S4 (L:LC) (m:Nat) (a0:Sl3) (p3 q5:Addr):(AH×Int)→Option (Lp (AH×Int) ((Option Addr)×(Option Addr)×Bool×AH)):=fun (H6,v7_7) =>
 if v7_7<(a0.n:Int) then
  Option.bind (α:=(AH×Bool)) (
   (idxA 6 a0 v7_7).bind fun p10 => (rd (deI .i64) H6 (Addr.add p10 0)).bind fun x11 => if x11≥1 then
    (idxA 6 a0 v7_7).bind fun p12 => (rd (deI .i64) H6 (Addr.add p12 0)).bind fun x13 => if x13≤4 then
     (idxA 6 a0 v7_7).bind fun p14 => (rd (deI .i64) H6 (Addr.add p14 0)).bind fun x15_0 => (rd (deI .i64) H6 (Addr.add p14 1)).bind fun x15_1 => (rd deSl H6 (Addr.add p14 2)).bind fun x15_2 => (rd (deI .i64) H6 (Addr.add p14 3)).bind fun x15_3 => (rd (deI .i64) H6 (Addr.add p14 4)).bind fun x15_4 => (rd (deI .i64) H6 (Addr.add p14 5)).bind fun x15_5 => (K7 L m H6 (some q5) (some p3) x15_0 x15_1 x15_2 x15_3 x15_4 x15_5).bind fun (x16,H17) => some (H17,(!x16))
    else
     some (H6,false)
   else
    some (H6,false)) fun (H8,v42_9) =>
  if v42_9=true then
   some (.ret (none,none,false,H8))
  else
   some (.next (H8,(IntKind.i64.wrap (v7_7+1))))
 else
  some (.brk (H6,v7_7))
def z6f (_L:LC) (_m:Nat) (a0:Sl3) (p3 q5:Addr):(AH×Int)→KN×Lcs:=fun (_,v7_7)=>([kI 7 v7_7,kS 0 a0,kP 5 q5,kP 6 p3],[])
noncomputable def t8 (L:LC) (m:Nat) (H:AH) (a0:Sl3):Option ((Option Addr)×(Option Addr)×Bool×AH) :=
 (z1a L m H).bind fun (x1,H2) => (newB 32 [(Sl3.v Sl3.nil),(Sl3.v Sl3.nil),(Sl3.v Sl3.nil)] H2).bind fun (p3,H4) => match x1 with
 | none =>
  some (none,none,false,H4)
 | some q5 =>
  (L.run (S4 L m a0 p3 q5) (H4,0)).bind fun o=>match o with
  | .inl (H18,_) =>
   some ((some q5),(some p3),true,H18)
  | .inr r=>some r
theorem z14 {E H L m a0 p3 q5} :LoopF Tryd.prog (NE.plain 1000) m E Tryd.f9 ((cfst (csnd (cfst (csnd (csnd (csnd (csnd B9)))))))) (z6f L m a0 p3 q5) (fun s=>s.1) 0 z21 (z3b H) (S4 L m a0 p3 q5):=by
 rintro ⟨H6,v7_7⟩ o h
 unfold S4 at h;try dsimp only at h
 refine B0 (B0 (WS.rg (u0 4 [kB 16 (decide (v7_7<(a0.n:Int))),kI 15 (a0.n:Int),kS 14 a0,kI 13 v7_7] (RS.dn (A0 ?_)))));rcases Y0 h with ⟨hp,h⟩ | ⟨hp,h⟩
 ·refine E0 16 true (decide_eq_true hp) (G0 (J0 (A0 (B0 (M0 1 ?_)))));obtain ⟨⟨H8,v42_9⟩,hx,h⟩:=bind_some h;try dsimp only at h
  refine B0 ?_;refine WS.join ([kB 42 v42_9,kS 0 a0,kP 5 q5,kP 6 p3,kI 7 v7_7]) ([]) H8 ?_ (fun a w hs=>A0 ?_ a w hs)
  ·clear h; rename _=>h;refine WS.rg (u0 2 [kI 20 v7_7,kS 19 a0] ?_);obtain ⟨p10,hx,h⟩:=bind_some h;refine T0 21 22 55 (.tmp 19) (.tmp 20) hx (u0 1 [(22,.val (vP (some (Addr.add p10 0))))] ?_);obtain ⟨x11,hx,h⟩:=bind_some h;refine O0 23 3 (.tmp 22) (X0 hx A1) (u0 2 [kB 25 (decide (x11≥1)),kB 24 (decide (x11≥1))] ?_);rcases Y0 h with ⟨hp,h⟩ | ⟨hp,h⟩
   ·refine U0 25 true (decide_eq_true hp) (u0 2 [kI 27 v7_7,kS 26 a0] ?_);obtain ⟨p12,hx,h⟩:=bind_some h;refine T0 28 22 55 (.tmp 26) (.tmp 27) hx (u0 1 [(29,.val (vP (some (Addr.add p12 0))))] ?_);obtain ⟨x13,hx,h⟩:=bind_some h;refine O0 30 3 (.tmp 29) (X0 hx A1) (u0 3 [kB 33 (decide (x13≤4)),kB 32 (decide (x13≤4)),kB 31 (decide (x13≤4))] ?_);rcases Y0 h with ⟨hp,h⟩ | ⟨hp,h⟩
    ·refine U0 33 true (decide_eq_true hp) (u0 4 [kI 37 v7_7,kS 36 a0,kP 35 p3,kP 34 q5] ?_);obtain ⟨p14,hx,h⟩:=bind_some h;refine T0 38 22 55 (.tmp 36) (.tmp 37) hx ?_;obtain ⟨x15_0,hx0,h⟩:=bind_some h;obtain ⟨x15_1,hx1,h⟩:=bind_some h;obtain ⟨x15_2,hx2,h⟩:=bind_some h;obtain ⟨x15_3,hx3,h⟩:=bind_some h;obtain ⟨x15_4,hx4,h⟩:=bind_some h;obtain ⟨x15_5,hx5,h⟩:=bind_some h;refine RS.la 39 55 (.tmp 38) 6 (I1 (X0 hx0 A1) (I1 (X0 hx1 A1) (I1 (X0 hx2 C1) (I1 (X0 hx3 A1) (I1 (X0 hx4 A1) (I1 (X0 hx5 A1) V6)))))) ?_;obtain ⟨⟨x16,H17⟩,hx,h⟩:=bind_some h;try dsimp only at h
     refine RS.cl (some 40) (v:=(vB x16)) 24 _ (zah hx) (u0 2 [kB 42 (!x16),kB 41 (!x16)] (RS.dn ?_));cases h;exact fun a w hs=>(jsN (hs.sb 0))
    ·refine U0 33 false (decide_eq_false hp) (u0 9 [kB 42 false,kU 41,kU 40,kU 39,kU 38,kU 37,kU 36,kU 35,kU 34] (RS.dn ?_));cases h;exact fun a w hs=>(jsN (hs.sb 0))
   ·refine U0 25 false (decide_eq_false hp) (u0 17 [kB 42 false,kU 41,kU 40,kU 39,kU 38,kU 37,kU 36,kU 35,kU 34,kB 33 false,kB 32 false,kU 31,kU 30,kU 29,kU 28,kU 27,kU 26] (RS.dn ?_));cases h;exact fun a w hs=>(jsN (hs.sb 0))
  ·clear hx;rcases Y0 h with ⟨hp,h⟩ | ⟨hp,h⟩
   ·refine E0 42 true hp (G0 (B0 (WS.rg (u0 3 [kB 4 false,(3,.val (vP none)),(2,.val (vP none))] (RS.dn (A0 (K0 ?_)))))));cases h;exact fun a w hs=>bkR (sqR (lsR rfl (rS hs)))
   ·refine E0 42 false (b_not hp) (I0 (J0 ?_));refine fun a w hs=>bkN ((A0 ?_ a w hs));refine WS.rg (u0 3 [kI 7 (IntKind.i64.wrap (v7_7+1)),kI 18 (IntKind.i64.wrap (v7_7+1)),kI 17 v7_7] (RS.dn ?_));cases h;exact fun a w hs=>lsN rfl (hs.sb 0)
 ·refine E0 16 false (decide_eq_false hp) (I0 (WS.ex 0 ?_));cases h;exact fun a w hs=>sqE (lsB rfl (hs.sb 0))
theorem z9b {L:LC} {m:Nat} {H:AH} {a0:Sl3} {r:((Option Addr)×(Option Addr)×Bool×AH)} (h:t8 L m H a0=some r) :
  CallS Tryd.prog (NE.plain 1000) m 9 #[(Sl3.v a0)] H (z21 r) (z3b H r):=by
 refine CallS.mk (args:=[(Sl3.v a0)]) Tryd.func9 (B:=B9) (by kernel_rfl) (fun E _=>?_);unfold t8 at h;refine B0 (WS.rg (u0 3 [kB 4 false,(3,.val (vP none)),(2,.val (vP none))] (RS.dn (A0 (B0 (WS.rg ?_))))));obtain ⟨⟨x1,H2⟩,hx,h⟩:=bind_some h;try dsimp only at h
 refine RS.cl (some 8) (v:=(vP x1)) 16 _ (zag hx) (u0 1 [(5,.val (vP x1))] (RS.dn (A0 (B0 (WS.rg (u0 1 [kA 9 #[(Sl3.v Sl3.nil),(Sl3.v Sl3.nil),(Sl3.v Sl3.nil)]] ?_))))));obtain ⟨⟨p3,H4⟩,hx,h⟩:=bind_some h;try dsimp only at h
 refine RS.o (H':=H4) (some 10) (vP (some p3)) (Abs.run_newB (by kernel_rfl) hx) (u0 1 [kP 6 p3] (RS.dn (A0 (B0 (B0 (WS.rg (u0 1 [(11,.val (vP x1))] ?_)))))));rcases x1 with _ | q5
 ·try dsimp only at h
  refine u0 1 [kB 12 true] (RS.dn (A0 (G0 (B0 (WS.rg (u0 3 [kB 4 false,(3,.val (vP none)),(2,.val (vP none))] (RS.dn (A0 (K0 ?_)))))))));cases h;exact fun a w hs=>sqR (rtR (rS hs))
 ·try dsimp only at h
  refine u0 1 [kB 12 false] (RS.dn (A0 (I0 (J0 (A0 (B0 (B0 (WS.rg (u0 1 [kI 7 0] ?_)))))))));refine RS.dn (A0 (M0 0 ?_));obtain ⟨o,hl,h⟩:=bind_some h;rcases o with ⟨H18,v7_19⟩ | r
  ·try dsimp only at h
   refine S0 (z14 (L:=L) (E:=E) (m:=m) (H:=H)) (L.ok hl) 0 ?_;clear hl;refine fun a w hs=>bkE ((A0 ?_ a w hs));refine B0 (WS.rg (u0 5 [kB 4 true,kP 3 p3,kP 2 q5,kP 44 p3,kP 43 q5] (RS.dn (A0 (K0 ?_)))));cases h;exact fun a w hs=>rtR (rS hs)
  ·try dsimp only at h
   refine R0 (z14 (L:=L) (E:=E) (m:=m) (H:=H)) (L.ok hl) 0 ?_;cases h;exact fun a w hq=>bkR (sqR (rtR hq))
end Go.Proofs.YtgkhbmoidenjaaaDoor
